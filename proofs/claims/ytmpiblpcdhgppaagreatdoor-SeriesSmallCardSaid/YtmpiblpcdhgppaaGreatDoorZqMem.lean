/- What the machine reads and writes where an abstract row lies. -/
import Derived.Test.YtmpiblpcdhgppaaGreatDoorZqEval
import Derived.Laws.Cells
import Derived.Laws.Slices
import Derived.Laws.Append
import Derived.Laws.AppendOwn
import Derived.Laws.MakeOwn
import Derived.ArgAppend
import Derived.Laws.IdiomCopy
namespace Go.Abs
variable {P : Program} {φ : Emb} {H : AHeap} {w : World}

theorem Rel.row (h : Rel φ H w) {i : Nat} {vs : List Value} {ro : Bool} (hi : H.get i = some (.cells vs ro)) :
    ∃ p c e fr, φ i = some p ∧ w.heap[p.b]? = some (.cells c e fr) ∧ p.s + p.r ≤ c.size ∧ vs.length ≤ p.r ∧ (∀ j v, vs[j]? = some v → ∃ v', c[p.s + j]? = some v' ∧ VR φ v v') ∧ (ro = false → fr = (0, 0)) := by
  obtain ⟨p, hp, c, e, fr, h1, h2, h3, h4, h5⟩ := h.obj i _ hi
  exact ⟨p, c, e, fr, hp, h1, h2, h3, h4, h5⟩
theorem cell_at {g j : Nat} {cs : Array Value} {t : TypeId} {fr : Nat × Nat} (hg : w.heap[g]? = some (.cells cs t fr)) : w.cell? ⟨g, j, none⟩ = cs[j]? := cell_of_row w g j cs t fr hg
theorem Rel.cell (h : Rel φ H w) {i : Nat} {p : Pl} {vs : List Value} {ro : Bool} (hi : H.get i = some (.cells vs ro)) (hp : φ i = some p) {j : Nat} {v : Value} (hj : vs[j]? = some v) :
    ∃ v', w.cell? ⟨p.b, p.s + j, none⟩ = some v' ∧ VR φ v v' := by
  obtain ⟨p', c, e, fr, hp', h1, _, _, h4, _⟩ := h.row hi
  rw [hp] at hp'; cases hp'
  obtain ⟨v', hc, hv⟩ := h4 j v hj
  exact ⟨v', (cell_at h1).trans hc, hv⟩
theorem Rel.cells (h : Rel φ H w) {i : Nat} {p : Pl} {vs : List Value} {ro : Bool} (hi : H.get i = some (.cells vs ro)) (hp : φ i = some p) {o n : Nat} (hn : o + n ≤ vs.length) :
    ∃ cs : List Value, cs.length = n ∧ VRL φ ((vs.drop o).take n) cs ∧ ∀ j v, cs[j]? = some v → w.cell? ⟨p.b, p.s + o + j, none⟩ = some v := by
  obtain ⟨p', c, e, fr, hp', h1, h2, h3, h4, _⟩ := h.row hi
  rw [hp] at hp'; cases hp'
  refine ⟨(c.toList.drop (p.s + o)).take n, ?_, ?_, ?_⟩
  · simp only [List.length_take, List.length_drop, Array.length_toList]; omega
  · refine VRL.of_get ?_ fun j v hj => ?_
    · simp only [List.length_take, List.length_drop, Array.length_toList]; omega
    · rw [List.getElem?_take] at hj
      split at hj
      · rename_i hjn
        rw [List.getElem?_drop] at hj
        obtain ⟨v', hc, hv⟩ := h4 _ v hj
        refine ⟨v', ?_, hv⟩
        rw [List.getElem?_take, if_pos hjn, List.getElem?_drop, Array.getElem?_toList, ← hc]
        congr 1; omega
      · cases hj
  · intro j v hj
    rw [List.getElem?_take] at hj
    split at hj
    · rw [List.getElem?_drop, Array.getElem?_toList] at hj
      rw [cell_at h1]; exact hj
    · cases hj

theorem add_pl (b o n : Nat) : (⟨b, o, none⟩ : Addr).add n = ⟨b, o + n, none⟩ := by unfold Addr.add; split <;> simp_all
theorem info_szT {t : TypeId} {n : Nat} (h : szT P t = some n) : ∃ i, P.info? t = some i ∧ i.size = n := by
  unfold szT at h; rw [Option.map_eq_some_iff] at h; exact h
theorem under_aggT {t : TypeId} {b : Bool} (h : aggT P t = some b) : ∃ d, P.underlying t = some d ∧ (match d with | .struct _ => true | .array _ _ => true | _ => false) = b := by
  unfold aggT at h; rw [Option.map_eq_some_iff] at h; exact h
theorem run_sizeOf {t : TypeId} {n : Nat} (h : szT P t = some n) : (sizeOf t).run P w = .ok n w := by
  obtain ⟨i, hi, rfl⟩ := info_szT h
  simp [sizeOf, typeInfo, hi]
theorem run_isAgg {t : TypeId} {b : Bool} (h : aggT P t = some b) : (isAgg t).run P w = .ok b w := by
  obtain ⟨d, hd, rfl⟩ := under_aggT h
  unfold isAgg
  rw [Sem.run_bind, run_underlying hd]
  cases d <;> rfl
theorem run_zeroValue {t : TypeId} {v : Value} (h : zeroT P t = some v) : (zeroValue t).run P w = .ok v w := by
  unfold zeroT at h; rw [Option.bind_eq_some_iff] at h
  obtain ⟨i, hi, hz⟩ := h
  simp [zeroValue, typeInfo, hi, hz]
theorem run_partA {t : TypeId} {cs cs' : Array Value} {off : Nat} {v : Value} (h : partA P t cs off = some v) (hc : VRL φ cs.toList cs'.toList) :
    ∃ v', (part t cs' off).run P w = .ok v' w ∧ VR φ v v' := by
  unfold partA at h
  cases ha : aggT P t with
  | none => simp [ha] at h
  | some b =>
    cases b with
    | true =>
      simp only [ha, Option.map_eq_some_iff] at h
      obtain ⟨n, hn, rfl⟩ := h
      refine ⟨.agg (cs'.extract off (off + n)), ?_, .agg ?_⟩
      · simp [part, run_isAgg ha, run_sizeOf hn]
      · simp only [Array.toList_extract, List.extract_eq_take_drop]
        exact (hc.drop off).take _
    | false =>
      simp only [ha] at h
      obtain ⟨v', hv', hr⟩ := hc.get off v (by simpa using h)
      refine ⟨v', ?_, hr⟩
      have : cs'[off]? = some v' := by simpa using hv'
      simp [part, run_isAgg ha, this]

theorem run_loadA {t : TypeId} {a a' v : Value} (h : loadA P t a H = some v) (hR : Rel φ H w) (ha : VR φ a a') :
    ∃ v', (Instr.loadAt t a').run P w = .ok v' w ∧ VR φ v v' := by
  unfold loadA at h
  split at h
  · rename_i i o
    cases ha with
    | ptr hp =>
      rename_i p
      split at h
      · rename_i vs ro hi
        cases hg : aggT P t with
        | none => simp [hg] at h
        | some b =>
          cases b with
          | true =>
            simp only [hg, Option.bind_eq_some_iff] at h
            obtain ⟨n, hn, h⟩ := h
            split at h
            · rename_i hle
              cases h
              obtain ⟨cs, hl, hv, hc⟩ := hR.cells hi hp hle
              refine ⟨.agg cs.toArray, ?_, .agg (by simpa using hv)⟩
              have hlc := run_loadCells_list (P := P) w ⟨p.b, p.s + o, none⟩ cs (by intro j v hj; rw [add_pl]; exact hc j v hj)
              rw [hl] at hlc
              simp [Instr.loadAt, Instr.sureAddr, loadVar, run_isAgg hg, run_sizeOf hn, hlc]
            · cases h
          | false =>
            simp only [hg] at h
            obtain ⟨v', hc, hv⟩ := hR.cell hi hp h
            exact ⟨v', by simp [Instr.loadAt, Instr.sureAddr, loadVar, run_isAgg hg, hc], hv⟩
      · cases h
  · cases h

theorem toList_splice (vs l : List Value) (o : Nat) (h : o + l.length ≤ vs.length) : (splice vs o l).length = vs.length := by
  simp only [splice, List.length_append, List.length_take, List.length_drop]; omega
theorem get_splice (vs l : List Value) (o : Nat) (h : o + l.length ≤ vs.length) (j : Nat) :
    (splice vs o l)[j]? = if o ≤ j ∧ j < o + l.length then l[j - o]? else vs[j]? := by
  unfold splice
  by_cases h1 : j < o
  · rw [if_neg (by omega), List.getElem?_append_left (by rw [List.length_take]; omega), List.getElem?_take, if_pos h1]
  · by_cases h2 : j < o + l.length
    · rw [if_pos ⟨by omega, h2⟩, List.getElem?_append_right (by rw [List.length_take]; omega), List.getElem?_append_left (by rw [List.length_take]; omega)]
      congr 1; rw [List.length_take]; omega
    · rw [if_neg (by omega), List.getElem?_append_right (by rw [List.length_take]; omega), List.getElem?_append_right (by rw [List.length_take]; omega), List.getElem?_drop]
      congr 1; rw [List.length_take]; omega

theorem setCell_heap (w : World) (b o : Nat) (v : Value) {c : Array Value} {e : TypeId} {fr : Nat × Nat} (hb : w.heap[b]? = some (.cells c e fr)) :
    (w.setCell ⟨b, o, none⟩ v).heap[b]? = some (.cells (c.setIfInBounds o v) e fr) := by
  have hlt : b < w.heap.size := (Array.getElem?_eq_some_iff.1 hb).1
  have hv : w.heap[b] = .cells c e fr := (Array.getElem?_eq_some_iff.1 hb).2
  simp [World.setCell, Array.getElem_modify, hlt, hv]
theorem setCells_heap (b : Nat) : ∀ (l : List Value) (o : Nat) (w : World) {c : Array Value} {e : TypeId} {fr : Nat × Nat}, w.heap[b]? = some (.cells c e fr) →
    ∃ c', (w.setCells b o l).heap[b]? = some (.cells c' e fr) ∧ c'.size = c.size ∧ ∀ k, k < c.size → c'[k]? = if o ≤ k ∧ k < o + l.length then l[k - o]? else c[k]?
  | [], o, w, c, e, fr, h => ⟨c, h, rfl, fun k _ => by rw [if_neg (by simp)]⟩
  | v :: l, o, w, c, e, fr, h => by
    obtain ⟨c', h1, h2, h3⟩ := setCells_heap b l (o + 1) (w.setCell ⟨b, o, none⟩ v) (setCell_heap w b o v h)
    refine ⟨c', h1, by rw [h2]; simp, fun k hk => ?_⟩
    rw [h3 k (by simpa using hk)]
    by_cases e1 : k = o
    · subst e1
      rw [if_neg (by omega), if_pos ⟨by omega, by simp⟩]
      simp [hk]
    · by_cases e2 : o + 1 ≤ k ∧ k < o + 1 + l.length
      · rw [if_pos e2, if_pos ⟨by omega, by simp; omega⟩]
        have : k - o = (k - (o + 1)) + 1 := by omega
        rw [this]; rfl
      · rw [if_neg e2, if_neg (by simp; omega)]
        rw [Array.getElem?_setIfInBounds_ne (by omega)]
theorem setCells_other (b : Nat) : ∀ (l : List Value) (o : Nat) (w : World) (k : Nat), k ≠ b → (w.setCells b o l).heap[k]? = w.heap[k]?
  | [], _, _, _, _ => rfl
  | v :: l, o, w, k, h => by
    rw [World.setCells, setCells_other b l (o + 1) _ k h]
    exact heap_setCell_other w ⟨b, o, none⟩ k v h
theorem setCells_size (b : Nat) : ∀ (l : List Value) (o : Nat) (w : World), (w.setCells b o l).heap.size = w.heap.size
  | [], _, _ => rfl
  | v :: l, o, w => by rw [World.setCells, setCells_size b l (o + 1)]; simp
theorem setCells_rest (b : Nat) : ∀ (l : List Value) (o : Nat) (w : World), (w.setCells b o l).os = w.os ∧ (w.setCells b o l).tape = w.tape ∧ (w.setCells b o l).output = w.output
  | [], _, _ => ⟨rfl, rfl, rfl⟩
  | v :: l, o, w => by rw [World.setCells]; exact setCells_rest b l (o + 1) _

/-- Cells written in a row's block. -/
theorem Rel.write (hR : Rel φ H w) {i : Nat} {p : Pl} {vs : List Value} (hi : H.get i = some (.cells vs false)) (hp : φ i = some p) {o : Nat} {l l' : List Value} (hn : o + l.length ≤ vs.length) (hl : VRL φ l l') :
    Rel φ (H.put i (.cells (splice vs o l) false)) (w.setCells p.b (p.s + o) l') ∧ Step φ H w φ (H.put i (.cells (splice vs o l) false)) (w.setCells p.b (p.s + o) l') := by
  obtain ⟨p', c, e, fr, hp', h1, h2, h3, h4, h5⟩ := hR.row hi
  rw [hp] at hp'; cases hp'
  have hll := hl.length
  obtain ⟨c', k1, k2, k3⟩ := setCells_heap p.b l' (p.s + o) w h1
  refine hR.upd hi rfl hp _ rfl (setCells_rest ..).1 (setCells_rest ..).2.1 (setCells_rest ..).2.2 (setCells_size ..) (fun k hk => setCells_other _ _ _ _ _ hk) ?_
  refine ⟨c', e, fr, k1, by omega, by rw [toList_splice _ _ _ hn]; exact h3, fun j v hj => ?_, h5⟩
  have hjl : j < vs.length := by
    have := (List.getElem?_eq_some_iff.1 hj).1
    rwa [toList_splice _ _ _ hn] at this
  rw [get_splice _ _ _ hn] at hj
  rw [k3 _ (by omega)]
  split at hj
  · rename_i hjo
    rw [if_pos ⟨by omega, by omega⟩]
    obtain ⟨v', a, b⟩ := hl.get _ v hj
    exact ⟨v', by rw [← a]; congr 1; omega, b⟩
  · rename_i hjo
    rw [if_neg (by omega)]
    exact h4 j v hj
theorem Rel.there (hR : Rel φ H w) {i : Nat} {p : Pl} {vs : List Value} (hi : H.get i = some (.cells vs false)) (hp : φ i = some p) {j : Nat} (hj : j < p.r) :
    (w.cell? ⟨p.b, p.s + j, none⟩).isSome = true ∧ w.frozen? ⟨p.b, p.s + j, none⟩ = false := by
  obtain ⟨p', c, e, fr, hp', h1, h2, h3, h4, h5⟩ := hR.row hi
  rw [hp] at hp'; cases hp'
  have := h5 rfl; subst this
  refine ⟨?_, frozen_of_row w p.b _ c e h1⟩
  rw [cell_at h1, Array.getElem?_eq_getElem (show p.s + j < c.size by omega)]; rfl

theorem run_storeA {t : TypeId} {a a' x x' : Value} {H' : AHeap} (h : storeA P t a x H = some H') (hR : Rel φ H w) (ha : VR φ a a') (hx : VR φ x x') :
    ∃ w', (Instr.storeAt t a' x').run P w = .ok () w' ∧ Rel φ H' w' ∧ Step φ H w φ H' w' := by
  unfold storeA at h
  split at h
  · rename_i i o
    cases ha with
    | ptr hp =>
      rename_i p
      split at h
      · rename_i vs hi
        split at h
        · rename_i n hn
          split at h
          · rename_i hc
            cases h
            obtain ⟨h1, h2, h3⟩ := hc
            have hv := hx.cells
            have hlen : x.cells.toList.length = n := by simpa using h1
            have hlen' : x'.cells.size = n := by have := hv.length; simp at this; omega
            obtain ⟨hA, hB⟩ := hR.write hi hp (o := o) (by omega) hv
            refine ⟨_, ?_, hA, hB⟩
            obtain ⟨_, _, _, _, hp', _, _, hr, _, _⟩ := hR.row hi
            rw [hp] at hp'; cases hp'
            have hst := run_storeCells_cells (P := P) p.b (p.s + o) x'.cells.toList 0 w
              (fun j hj => by have := (hR.there hi hp (j := o + j) (by simp at hj; omega)).1; simpa [Nat.add_assoc] using this)
              (fun j hj => by have := (hR.there hi hp (j := o + j) (by simp at hj; omega)).2; simpa [Nat.add_assoc] using this)
              (fun v hv' => by
                obtain ⟨j, hj⟩ := List.mem_iff_getElem?.1 hv'
                have hjl := (List.getElem?_eq_some_iff.1 hj).1
                have : j < x.cells.toList.length := by rw [hv.length]; exact hjl
                obtain ⟨u, hu, hr⟩ := hv.get j _ (List.getElem?_eq_getElem this)
                rw [hj] at hu; cases hu
                rw [hr.oneCell]
                exact List.all_eq_true.1 h3 _ (List.getElem_mem this))
            simp only [Nat.add_zero] at hst
            simp [Instr.storeAt, Instr.sureAddr, storeVar, run_sizeOf hn, hlen', hst]
          · cases h
        · cases h
      · cases h
  · cases h
end Go.Abs
