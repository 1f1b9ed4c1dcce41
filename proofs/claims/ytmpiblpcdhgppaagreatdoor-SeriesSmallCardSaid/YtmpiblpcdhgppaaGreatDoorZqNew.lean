/- What makes a new object. -/
import Derived.Test.YtmpiblpcdhgppaaGreatDoorZqOps4
import Derived.Laws.Build
namespace Go.Abs
variable {P : Program} {φ : Emb} {H : AHeap} {w : World}

theorem flatten_get {l : List Value} {z : Nat} (hl : l.length = z) (hz : 0 < z) : ∀ (n j : Nat), j < n * z → (List.replicate n l).flatten[j]? = l[j % z]?
  | 0, j, h => by omega
  | n + 1, j, h => by
    rw [List.replicate_succ, List.flatten_cons]
    by_cases hj : j < z
    · rw [List.getElem?_append_left (by omega), Nat.mod_eq_of_lt hj]
    · rw [List.getElem?_append_right (by omega), hl, flatten_get hl hz n (j - z) (by rw [Nat.add_mul] at h; omega)]
      congr 1
      exact (Nat.mod_eq_sub_mod (by omega)).symm
theorem flatten_length {l : List Value} {z : Nat} (hl : l.length = z) (n : Nat) : (List.replicate n l).flatten.length = n * z := by
  simp [List.length_flatten, hl]
theorem made_list {zc : Array Value} {z : Nat} (hs : zc.size = z) (hz : 0 < z) (n : Nat) : (madeCells zc (n * z)).toList = (List.replicate n zc.toList).flatten := by
  apply List.ext_getElem?
  intro j
  by_cases hj : j < n * z
  · rw [flatten_get (by simpa using hs) hz n j hj]
    have : j % z < zc.size := by rw [hs]; exact Nat.mod_lt _ hz
    rw [Array.getElem?_toList, Array.getElem?_toList]
    have hm : (madeCells zc (n * z))[j]? = some (zc[j % zc.size]!) := by
      simp [madeCells, hj]
    rw [hm, hs, Array.getElem?_eq_getElem this, getElem!_pos zc (j % z) this]
  · rw [List.getElem?_eq_none (by simp [size_madeCells]; omega), List.getElem?_eq_none (by rw [flatten_length (by simpa using hs)]; omega)]
theorem VRL.flatten {φ : Emb} {l : List Value} (h : VRL φ l l) : ∀ n, VRL φ (List.replicate n l).flatten (List.replicate n l).flatten
  | 0 => .nil
  | n + 1 => by rw [List.replicate_succ, List.flatten_cons]; exact h.append (VRL.flatten h n)
theorem plainV_cells {v : Value} (h : plainV v = true) : VRL φ v.cells.toList v.cells.toList := (VR.plain h).cells

/-- Parts that read alike. -/
def PRL (φ : Emb) : List (Nat × Value) → List (Nat × Value) → Prop
  | [], [] => True
  | a :: l, b :: m => a.1 = b.1 ∧ VR φ a.2 b.2 ∧ PRL φ l m
  | _, _ => False
theorem PRL.map {φ : Emb} {ρ ρ' : Operand → Value} : ∀ (l : List (Nat × Operand)), (∀ x ∈ l.map (·.2), VR φ (ρ x) (ρ' x)) → PRL φ (l.map fun (i, x) => (i, ρ x)) (l.map fun (i, x) => (i, ρ' x))
  | [], _ => trivial
  | (i, x) :: l, h => ⟨rfl, h x (by simp), PRL.map l fun y hy => h y (by simp at hy ⊢; exact .inr hy)⟩
theorem VRL.setIf {φ : Emb} : ∀ {l l' : List Value} (j : Nat) {v v' : Value}, VRL φ l l' → VR φ v v' → VRL φ (l.set j v) (l'.set j v')
  | _, _, _, _, _, .nil, _ => .nil
  | _, _, 0, _, _, .cons _ k, hv => .cons hv k
  | _, _, j + 1, _, _, .cons h k, hv => .cons h (k.setIf j hv)
theorem fold_put {φ : Emb} : ∀ (vs vs' : List Value) (off k : Nat) {cs cs' : Array Value}, VRL φ vs vs' → VRL φ cs.toList cs'.toList →
    VRL φ ((vs.zipIdx k).foldl (fun cs (c, j) => cs.setIfInBounds (off + j) c) cs).toList ((vs'.zipIdx k).foldl (fun cs (c, j) => cs.setIfInBounds (off + j) c) cs').toList
  | [], [], _, _, _, _, _, h => by simpa using h
  | v :: vs, v' :: vs', off, k, cs, cs', .cons h1 h2, h => by
    simp only [List.zipIdx_cons, List.foldl_cons]
    refine fold_put vs vs' off (k + 1) h2 ?_
    simp only [Array.toList_setIfInBounds]
    exact h.setIf _ h1
theorem run_fillA {φ : Emb} {place : Nat → Option (Nat × Nat)} : ∀ {ps ps' : List (Nat × Value)} {cs cs' out : Array Value}, Instr.fill place cs ps = some out → PRL φ ps ps' → VRL φ cs.toList cs'.toList →
    ∃ out', Instr.fill place cs' ps' = some out' ∧ VRL φ out.toList out'.toList
  | [], [], cs, cs', out, h, _, hc => by simp [Instr.fill] at h; subst h; exact ⟨cs', rfl, hc⟩
  | (i, v) :: ps, (i', v') :: ps', cs, cs', out, h, hp, hc => by
    obtain ⟨e, hv, hps⟩ := hp
    simp only at e hv
    subst e
    unfold Instr.fill at h ⊢
    cases hpl : place i with
    | none => simp [hpl] at h
    | some os =>
      obtain ⟨off, size⟩ := os
      simp only [hpl] at h ⊢
      have e1 : v'.cells.size = v.cells.size := by have := hv.cells.length; simp at this; omega
      have e2 : cs'.size = cs.size := by have := hc.length; simp at this; omega
      rw [e1, e2]
      split at h
      · cases h
      · rename_i hif
        rw [if_neg hif]
        refine run_fillA h hps ?_
        have := fold_put v.cells.toList v'.cells.toList off 0 hv.cells hc
        rw [← Array.foldl_toList, ← Array.foldl_toList, Array.toList_zipIdx, Array.toList_zipIdx]; exact this
  | [], _ :: _, _, _, _, _, hp, _ => hp.elim
  | _ :: _, [], _, _, _, _, hp, _ => hp.elim

theorem fold_size : ∀ (vs : List (Value × Nat)) (off : Nat) (cs : Array Value), (vs.foldl (fun cs (c, j) => cs.setIfInBounds (off + j) c) cs).size = cs.size
  | [], _, _ => rfl
  | _ :: vs, off, cs => by simp only [List.foldl_cons]; rw [fold_size vs off]; simp
theorem fill_size {place : Nat → Option (Nat × Nat)} : ∀ {ps : List (Nat × Value)} {cs out : Array Value}, Instr.fill place cs ps = some out → out.size = cs.size
  | [], cs, out, h => by simp [Instr.fill] at h; subst h; rfl
  | (i, v) :: ps, cs, out, h => by
    unfold Instr.fill at h
    cases hpl : place i with
    | none => simp [hpl] at h
    | some os =>
      simp only [hpl] at h
      split at h
      · cases h
      · rw [fill_size h, ← Array.foldl_toList]; exact fold_size _ _ _
theorem newA_rw {ρ : Operand → Value} {op : Op} {ob : AObj} {f : Nat → Value} (h : newA P ρ op = some (ob, f)) : ob.rw = true := by
  unfold newA at h
  split at h
  · rw [Option.bind_eq_some_iff] at h
    obtain ⟨z, _, h⟩ := h
    split at h <;> cases h
    rfl
  · cases h; rfl
  · split at h
    · split at h
      · split at h
        · rw [Option.map_eq_some_iff] at h
          obtain ⟨cs, _, h⟩ := h
          cases h; rfl
        · cases h
      · cases h
    · cases h
  · cases h; rfl
  · split at h
    · split at h
      · split at h
        · split at h <;> cases h
          rfl
        · cases h
      · cases h
    · cases h
  · cases h
/-- A new object, wherever its number is. -/
theorem run_newA {ρ ρ' : Operand → Value} {o : Oper} {ob : AObj} {f : Nat → Value} (h : newA P ρ o.op = some (ob, f)) (hρ : ∀ x ∈ o.op.operands, VR φ (ρ x) (ρ' x)) :
    ob.rw = true ∧ ∃ ob' v' p, p.b = w.heap.size ∧ (execOp ρ' o).run P w = .ok (.value v') (w.alloc ob') ∧ ∀ ψ i, φ.le ψ → ψ i = some p → ob.rel ψ p (w.alloc ob') ∧ VR ψ (f i) v' := by
  have cellsObj : ∀ (cs : List Value) (cs' : Array Value) (e : TypeId), VRL φ cs cs'.toList → ∀ ψ : Emb, φ.le ψ → (AObj.cells cs false).rel ψ ⟨w.heap.size, 0, cs.length⟩ (w.alloc (.cells cs' e)) := by
    intro cs cs' e hc ψ hl
    refine ⟨cs', e, (0, 0), heap_alloc_new w _, ?_, Nat.le_refl _, fun j v hj => ?_, fun _ => rfl⟩
    · have := hc.length; simp at this ⊢; omega
    · obtain ⟨v', h1, h2⟩ := hc.get j v hj
      exact ⟨v', by simpa using h1, h2.mono hl⟩
  refine ⟨newA_rw h, ?_⟩
  unfold newA at h
  split at h
  · rename_i e ho
    rw [Option.bind_eq_some_iff] at h
    obtain ⟨z, hz, h⟩ := h
    split at h
    · rename_i hpl
      cases h
      refine ⟨.cells z.cells e, .pointer (some ⟨w.heap.size, 0, none⟩), ⟨w.heap.size, 0, z.cells.toList.length⟩, rfl, ?_, fun ψ i hl hi => ⟨cellsObj _ _ e (plainV_cells hpl) ψ hl, ?_⟩⟩
      · simp [execOp, ho, Instr.alloc, run_zeroValue hz, newVar, newRow]
      · exact VR.ptr (p := ⟨w.heap.size, 0, z.cells.toList.length⟩) hi
    · cases h
  · rename_i e x ho
    cases h
    have hx := hρ x (by rw [ho]; simp [Op.operands])
    refine ⟨.cells (ρ' x).cells e, .pointer (some ⟨w.heap.size, 0, none⟩), ⟨w.heap.size, 0, (ρ x).cells.toList.length⟩, rfl, ?_, fun ψ i hl hi => ⟨cellsObj _ _ e hx.cells ψ hl, ?_⟩⟩
    · simp [execOp, ho, Instr.box, newVar, newRow]
    · exact VR.ptr (p := ⟨w.heap.size, 0, (ρ x).cells.toList.length⟩) hi
  · rename_i t len parts ho
    split at h
    · rename_i e ht
      split at h
      · rename_i z zv hz hzv
        split at h
        · rename_i hc
          obtain ⟨h1, h2, h3, h4⟩ := hc
          rw [Option.map_eq_some_iff] at h
          obtain ⟨cs, hcs, h⟩ := h
          cases h
          have hp : PRL φ (parts.toList.map fun (i, x) => (i, ρ x)) (parts.toList.map fun (i, x) => (i, ρ' x)) := PRL.map _ fun x hx => hρ x (by
            rw [ho]; simp only [Op.operands]; simpa using hx)
          have hm := made_list (zc := zv.cells) h3 h4 len
          obtain ⟨cs', hf, hv⟩ := run_fillA (cs' := madeCells zv.cells (len * z)) hcs hp (by rw [hm]; exact VRL.flatten (plainV_cells h2) len)
          refine ⟨.cells cs' e, .slice (some ⟨w.heap.size, 0, none⟩) len len, ⟨w.heap.size, 0, cs.toList.length⟩, rfl, ?_, fun ψ i hl hi => ⟨cellsObj _ _ e hv ψ hl, ?_⟩⟩
          · have hn : ¬ (16777216 < len * z) := by omega
            by_cases h0 : len * z = 0
            · have hm0 : madeCells zv.cells (len * z) = #[] := by rw [h0]; simp [madeCells]
              rw [hm0] at hf
              have hf' : ∀ d : Value, Instr.fill (fun i => some (i * z, z)) (Array.map (fun _ => d) (Array.range 0)) (parts.toList.map fun x => (x.1, ρ' x.2)) = some cs' := fun d => by
                have e0 : Array.map (fun _ : Nat => d) (Array.range 0) = #[] := by simp
                rw [e0]; exact hf
              simp [execOp, ho, Instr.buildSlice, run_underlying ht, run_sizeOf hz, h0, hf', newRow]
            · have hf' : Instr.fill (fun i => some (i * z, z)) ((Array.range (len * z)).map fun x => zv.cells[x % zv.cells.size]!) (parts.toList.map fun x => (x.1, ρ' x.2)) = some cs' := hf
              simp [execOp, ho, Instr.buildSlice, run_underlying ht, run_sizeOf hz, run_zeroValue hzv, hn, h0, hf', newRow]
          · have hlen : cs.toList.length = len * z := by
              have := fill_size hcs
              simp only [Array.length_toList, this, List.size_toArray]
              exact flatten_length (by simpa using h3) len
            refine VR.slice (p := ⟨w.heap.size, 0, cs.toList.length⟩) hi (Nat.le_refl _) (.inr ⟨rfl, ?_⟩)
            simp only [Nat.zero_add]; omega
        · cases h
      · cases h
    · cases h
  · cases h
    rename_i t ho
    refine ⟨.map #[] 0, .map (some w.heap.size), ⟨w.heap.size, 0, 0⟩, rfl, ?_, fun ψ i hl hi => ⟨⟨#[], 0, heap_alloc_new w _, ⟨[], List.Perm.refl _, trivial⟩⟩, VR.map (p := ⟨w.heap.size, 0, 0⟩) hi⟩⟩
    simp [execOp, ho, Instr.makeMap]
  · rename_i t l c ho
    split at h
    · rename_i e n n' ht hl0 hc0
      split at h
      · rename_i i hi0
        split at h
        · rename_i zv hz
          split at h
          · rename_i hc
            obtain ⟨rfl, h0, h1, h2, h3, h4, h5⟩ := hc
            cases h
            have hl1 := hρ l (by rw [ho]; simp [Op.operands])
            have hc1 := hρ c (by rw [ho]; simp [Op.operands])
            rw [hl0] at hl1; rw [hc0] at hc1
            have hl2 : ρ' l = .int .i64 n := by generalize ρ' l = q at hl1 ⊢; cases hl1; rfl
            have hc2 : ρ' c = .int .i64 n := by generalize ρ' c = q at hc1 ⊢; cases hc1; rfl
            have hm := made_list (zc := zv.cells) h4 h5 n.toNat
            have hr := run_make (P := P) w t e i zv ht hi0 hz .i64 .i64 n n h0 (Int.le_refl _) (by rw [Int.mul_comm]; omega) (by omega)
            refine ⟨.cells (madeCells zv.cells (n.toNat * i.size)) e, .slice (some ⟨w.heap.size, 0, none⟩) n.toNat n.toNat, ⟨w.heap.size, 0, (List.replicate n.toNat zv.cells.toList).flatten.length⟩, rfl, ?_,
              fun ψ j hl hj => ⟨cellsObj _ _ e (by rw [hm]; exact VRL.flatten (plainV_cells h3) _) ψ hl, ?_⟩⟩
            · simp [execOp, ho, hl2, hc2, hr]
            · refine VR.slice (p := ⟨w.heap.size, 0, _⟩) hj (Nat.le_refl _) (.inr ⟨rfl, ?_⟩)
              show 0 + n.toNat * i.size ≤ (List.replicate n.toNat zv.cells.toList).flatten.length
              rw [flatten_length (by simpa using h4)]; omega
          · cases h
        · cases h
      · cases h
    · cases h
  · cases h
end Go.Abs
