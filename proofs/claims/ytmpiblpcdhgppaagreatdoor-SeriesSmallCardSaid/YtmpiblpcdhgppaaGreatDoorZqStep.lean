/- One operation of the evaluator is one of the machine. -/
import Derived.Test.YtmpiblpcdhgppaaGreatDoorZqEff
namespace Go.Abs
variable {P : Program} {φ : Emb} {H : AHeap} {w : World}

theorem VRL.mapOps {φ : Emb} {ρ ρ' : Operand → Value} : ∀ (l : List Operand), (∀ x ∈ l, VR φ (ρ x) (ρ' x)) → VRL φ (l.map ρ) (l.map ρ')
  | [], _ => .nil
  | x :: l, h => .cons (h x (by simp)) (VRL.mapOps l fun y hy => h y (by simp [hy]))
theorem vro_map {φ : Emb} {ρ ρ' : Operand → Value} {x : Option Operand} (h : ∀ y, x = some y → VR φ (ρ y) (ρ' y)) : VRO φ (x.map ρ) (x.map ρ') := by
  cases x with
  | none => trivial
  | some y => exact h y rfl
theorem run_builtA {t : TypeId} {ps ps' : List (Nat × Value)} {cs : Array Value} {z : Value} (h : P.built t ps = some cs) (hz : zeroT P t = some z) (hpl : plainV z = true) (hp : PRL φ ps ps') :
    ∃ cs', P.built t ps' = some cs' ∧ VRL φ cs.toList cs'.toList := by
  unfold Program.built at h ⊢
  unfold zeroT at hz
  rw [Option.bind_eq_some_iff] at hz
  obtain ⟨it, hit, hz⟩ := hz
  rw [hit] at h ⊢
  cases hu : P.underlying t with
  | none => simp [hu] at h
  | some d =>
    cases d <;> simp only [hu, reduceCtorEq] at h ⊢
    · rename_i n e
      rw [hz] at h ⊢
      cases he : P.info? e with
      | none => simp [he] at h
      | some ie => simp only [he] at h ⊢; exact run_fillA h hp (plainV_cells hpl)
    · rename_i fs
      rw [hz] at h ⊢
      cases hm : fs.toList.mapM (fun f => (P.info? f.type).map fun i => (f.offset, i.size)) with
      | none => simp [hm] at h
      | some places => simp only [hm] at h ⊢; exact run_fillA h hp (plainV_cells hpl)
theorem run_valCallA {ρ ρ' : Operand → Value} {c : Call} {ty : TypeId} {v : Value} (h : valCallA P ρ H c = some v) (hR : Rel φ H w) (hρ : ∀ x ∈ c.args, VR φ (ρ x) (ρ' x)) :
    ∃ v', (do let d ← resolve ρ' c ty; invoke d.target d.args : Sem Next).run P w = .ok (.value v') w ∧ VR φ v v' := by
  unfold valCallA at h
  have hargs := VRL.mapOps c.args.toList (fun x hx => hρ x (by simpa using hx))
  split at h
  · rename_i hc
    split at h
    · rename_i x t ha ht
      have hx := hρ x (by rw [← Array.mem_toList_iff, ha]; simp)
      obtain ⟨v', hr, hv⟩ := run_lenA (ty := ty) h hR hx
      refine ⟨v', ?_, hv⟩
      have e1 : c.argTypes = #[t] := by rw [← Array.toList_inj, ht]
      have e2 : c.args = #[x] := by rw [← Array.toList_inj, ha]
      simp [resolve, hc, invoke, builtin, e1, e2, hr]
    · cases h
  · rename_i hc
    split at h
    · rename_i x t ha ht
      have hx := hρ x (by rw [← Array.mem_toList_iff, ha]; simp)
      obtain ⟨v', hr, hv⟩ := run_capA (P := P) (w := w) (ty := ty) h hx
      refine ⟨v', ?_, hv⟩
      have e1 : c.argTypes = #[t] := by rw [← Array.toList_inj, ht]
      have e2 : c.args = #[x] := by rw [← Array.toList_inj, ha]
      simp [resolve, hc, invoke, builtin, e1, e2, hr]
    · cases h
  · rename_i hc
    obtain ⟨v', hr, hv⟩ := run_maxA (P := P) (w := w) (ts := c.argTypes) (ty := ty) h hargs
    refine ⟨v', ?_, hv⟩
    have e2 : (c.args.toList.map ρ').toArray = c.args.map ρ' := by rw [← Array.toList_inj]; simp
    rw [e2] at hr
    simp at hr
    simp [resolve, hc, invoke, builtin, hr]
  · rename_i hc
    obtain ⟨v', hr, hv⟩ := run_maxA (P := P) (w := w) (ts := c.argTypes) (ty := ty) h hargs
    refine ⟨v', ?_, hv⟩
    have e2 : (c.args.toList.map ρ').toArray = c.args.map ρ' := by rw [← Array.toList_inj]; simp
    rw [e2] at hr
    simp at hr
    simp [resolve, hc, invoke, builtin, hr]
  · cases h
theorem run_valA {ρ ρ' : Operand → Value} {o : Oper} {v : Value} (h : valA P ρ H o.op = some v) (hR : Rel φ H w) (hρ : ∀ x ∈ o.op.operands, VR φ (ρ x) (ρ' x)) :
    ∃ v', (execOp ρ' o).run P w = .ok (.value v') w ∧ VR φ v v' := by
  unfold valA at h
  split at h
  · rename_i x ho; cases h
    exact ⟨ρ' x, by simp [execOp, ho], hρ x (by rw [ho]; simp [Op.operands])⟩
  · rename_i x ho; cases h
    exact ⟨ρ' x, by simp [execOp, ho], hρ x (by rw [ho]; simp [Op.operands])⟩
  · rename_i c a b ho
    have hc := hρ c (by rw [ho]; simp [Op.operands])
    have ha := hρ a (by rw [ho]; simp [Op.operands])
    have hb := hρ b (by rw [ho]; simp [Op.operands])
    split at h
    · rename_i t hct
      cases h
      rw [hct] at hc
      have : ρ' c = .bool t := by generalize ρ' c = q at hc ⊢; cases hc; rfl
      refine ⟨if t then ρ' a else ρ' b, by simp [execOp, ho, this, asBool], ?_⟩
      cases t <;> simp [ha, hb]
    · cases h
  · rename_i t parts ho
    rw [Option.bind_eq_some_iff] at h
    obtain ⟨cs, hcs, h⟩ := h
    rw [Option.bind_eq_some_iff] at h
    obtain ⟨z, hz, h⟩ := h
    split at h
    · rename_i hif
      cases h
      · have hp : PRL φ (parts.toList.map fun (i, x) => (i, ρ x)) (parts.toList.map fun (i, x) => (i, ρ' x)) := PRL.map _ fun x hx => hρ x (by rw [ho]; simp only [Op.operands]; simpa using hx)
        obtain ⟨cs', h1, h2⟩ := run_builtA hcs hz hif hp
        have e : (parts.map fun (i, x) => (i, ρ' x)).toList = parts.toList.map fun (i, x) => (i, ρ' x) := by simp
        rw [← e] at h1
        have := run_build (P := P) w t (parts.map fun (i, x) => (i, ρ' x)) cs' h1
        exact ⟨.agg cs', by simp only [execOp, ho]; simp [this], .agg h2⟩
    · cases h
  · rename_i t a ho
    obtain ⟨v', hr, hv⟩ := run_loadA h hR (hρ a (by rw [ho]; simp [Op.operands]))
    exact ⟨v', by simp [execOp, ho, hr], hv⟩
  · rename_i x ho
    have hx := hρ x (by rw [ho]; simp [Op.operands])
    split at h
    · rename_i a hxa
      cases h
      rw [hxa] at hx
      generalize hq : ρ' x = q at hx
      cases hx with
      | ptr hp => exact ⟨_, by simp [execOp, ho, hq], .ptr hp⟩
    · rename_i f a b hxa
      cases h
      rw [hxa] at hx
      generalize hq : ρ' x = q at hx
      cases hx with
      | func _ h1 h2 => exact ⟨_, by simp [execOp, ho, hq], .func _ h1 h2⟩
    · rename_i l a b hxa
      cases h
      rw [hxa] at hx
      generalize hq : ρ' x = q at hx
      cases hx with
      | yield h1 => exact ⟨_, by simp [execOp, ho, hq], .yield h1⟩
    · cases h
  · rename_i op t x y ty ho
    obtain ⟨v', hr, hv⟩ := run_binA (ox := x) (oy := y) h hR (hρ x (by rw [ho]; simp [Op.operands])) (hρ y (by rw [ho]; simp [Op.operands]))
    refine ⟨v', ?_, hv⟩
    simp only [execOp, ho]
    rw [Sem.run_bind, hr]; rfl
  · rename_i op t x ho
    obtain ⟨v', hr, hv⟩ := run_unA (P := P) (w := w) h (hρ x (by rw [ho]; simp [Op.operands]))
    exact ⟨v', by simp [execOp, ho, hr], hv⟩
  · rename_i s d x ho
    obtain ⟨v', hr, hv⟩ := run_convA (w := w) h (hρ x (by rw [ho]; simp [Op.operands]))
    exact ⟨v', by simp [execOp, ho, hr], hv⟩
  · rename_i f first cap ho
    cases h
    refine ⟨.func (.func f) (first.map ρ') (cap.map ρ'), by simp [execOp, ho, Instr.makeFunc], .func f ?_ ?_⟩
    · simp only [Array.toList_map]; exact VRL.mapOps _ fun x hx => hρ x (by rw [ho]; simp only [Op.operands, Array.mem_append]; exact .inl (by simpa using hx))
    · simp only [Array.toList_map]; exact VRL.mapOps _ fun x hx => hρ x (by rw [ho]; simp only [Op.operands, Array.mem_append]; exact .inr (by simpa using hx))
  · rename_i t x lo hi ho
    obtain ⟨v', hr, hv⟩ := run_sliceA (lo' := lo.map ρ') (hi' := hi.map ρ') h hR (hρ x (by rw [ho]; simp [Op.operands]))
      (vro_map fun y hy => hρ y (by rw [ho]; simp [Op.operands, hy])) (vro_map fun y hy => hρ y (by rw [ho]; simp [Op.operands, hy]))
    exact ⟨v', by simp [execOp, ho, hr], hv⟩
  · rename_i t x f ho
    obtain ⟨v', hr, hv⟩ := run_fieldAddrA (w := w) h (hρ x (by rw [ho]; simp [Op.operands]))
    exact ⟨v', by simp [execOp, ho, hr], hv⟩
  · rename_i t x f ho
    obtain ⟨v', hr, hv⟩ := run_fieldA (w := w) h (hρ x (by rw [ho]; simp [Op.operands]))
    exact ⟨v', by simp [execOp, ho, hr], hv⟩
  · rename_i t x i ho
    obtain ⟨v', hr, hv⟩ := run_indexAddrA (w := w) h (hρ x (by rw [ho]; simp [Op.operands])) (hρ i (by rw [ho]; simp [Op.operands]))
    exact ⟨v', by simp [execOp, ho, hr], hv⟩
  · rename_i t x i ho
    obtain ⟨v', hr, hv⟩ := run_indexA (w := w) h (hρ x (by rw [ho]; simp [Op.operands])) (hρ i (by rw [ho]; simp [Op.operands]))
    exact ⟨v', by simp [execOp, ho, hr], hv⟩
  · rename_i t x i ok ho
    obtain ⟨v', hr, hv⟩ := run_lookupA h hR (hρ x (by rw [ho]; simp [Op.operands])) (hρ i (by rw [ho]; simp [Op.operands]))
    exact ⟨v', by simp [execOp, ho, hr], hv⟩
  · rename_i x i ho
    obtain ⟨v', hr, hv⟩ := run_extractA (P := P) (w := w) h (hρ x (by rw [ho]; simp [Op.operands]))
    exact ⟨v', by simp [execOp, ho, hr], hv⟩
  · rename_i c ho
    obtain ⟨v', hr, hv⟩ := run_valCallA (ty := o.type) h hR (fun x hx => hρ x (by rw [ho]; simp only [Op.operands, Call.operands, Array.mem_append]; exact .inr hx))
    exact ⟨v', by simp only [execOp, ho]; exact hr, hv⟩
  · cases h
/-- What the machine hands back at an operation that writes. -/
def handed (nx : Next) (v : Value) : Prop := nx = .value v ∨ (nx = .skip ∧ v = undef)
theorem run_effCallA {ρ ρ' : Operand → Value} {c : Call} {ty : TypeId} {v : Value} {H' : AHeap} (h : effCallA P ρ H c = some (v, H')) (hR : Rel φ H w) (hρ : ∀ x ∈ c.args, VR φ (ρ x) (ρ' x)) :
    ∃ v' w' φ', (do let d ← resolve ρ' c ty; invoke d.target d.args : Sem Next).run P w = .ok (.value v') w' ∧ VR φ' v v' ∧ Rel φ' H' w' ∧ Step φ H w φ' H' w' := by
  unfold effCallA at h
  split at h
  · rename_i hc
    split at h
    · rename_i s x t u ha ht
      have e1 : c.argTypes = #[t, u] := by rw [← Array.toList_inj, ht]
      have e2 : c.args = #[s, x] := by rw [← Array.toList_inj, ha]
      split at h
      · obtain ⟨v', w', φ', hr, h1, h2, h3⟩ := run_appendA (ty := ty) h hR (hρ s (by rw [e2]; simp)) (hρ x (by rw [e2]; simp))
        exact ⟨v', w', φ', by simp [resolve, hc, invoke, builtin, e1, e2, hr], h1, h2, h3⟩
      · obtain ⟨v', w', φ', hr, h1, h2, h3⟩ := run_appendZA (ty := ty) h hR (hρ s (by rw [e2]; simp)) (hρ x (by rw [e2]; simp))
        exact ⟨v', w', φ', by simp [resolve, hc, invoke, builtin, e1, e2, hr], h1, h2, h3⟩
    · cases h
  · rename_i hc
    split at h
    · rename_i s x t u ha ht
      have e1 : c.argTypes = #[t, u] := by rw [← Array.toList_inj, ht]
      have e2 : c.args = #[s, x] := by rw [← Array.toList_inj, ha]
      obtain ⟨v', w', hr, h1, h2, h3⟩ := run_copyA (ty := ty) h hR (hρ s (by rw [e2]; simp)) (hρ x (by rw [e2]; simp))
      exact ⟨v', w', φ, by simp [resolve, hc, invoke, builtin, e1, e2, hr], h1, h2, h3⟩
    · cases h
  · rename_i hc
    split at h
    · rename_i x t ha ht
      have e1 : c.argTypes = #[t] := by rw [← Array.toList_inj, ht]
      have e2 : c.args = #[x] := by rw [← Array.toList_inj, ha]
      rw [Option.map_eq_some_iff] at h
      obtain ⟨H2, h, h'⟩ := h
      cases h'
      obtain ⟨w', hr, h2, h3⟩ := run_clearA (ty := ty) h hR (hρ x (by rw [e2]; simp))
      exact ⟨_, w', φ, by simp [resolve, hc, invoke, builtin, e1, e2, hr], .tuple .nil, h2, h3⟩
    · cases h
  · cases h
theorem run_effA {ρ ρ' : Operand → Value} {o : Oper} {v : Value} {H' : AHeap} (h : effA P ρ H o.op = some (v, H')) (hR : Rel φ H w) (hρ : ∀ x ∈ o.op.operands, VR φ (ρ x) (ρ' x)) :
    ∃ nx v' w' φ', (execOp ρ' o).run P w = .ok nx w' ∧ handed nx v' ∧ VR φ' v v' ∧ Rel φ' H' w' ∧ Step φ H w φ' H' w' := by
  unfold effA at h
  split at h
  · rename_i t a x ho
    rw [Option.map_eq_some_iff] at h
    obtain ⟨H2, h, h'⟩ := h
    cases h'
    obtain ⟨w', hr, h2, h3⟩ := run_storeA h hR (hρ a (by rw [ho]; simp [Op.operands])) (hρ x (by rw [ho]; simp [Op.operands]))
    exact ⟨.skip, undef, w', φ, by simp [execOp, ho, hr], .inr ⟨rfl, rfl⟩, .tuple .nil, h2, h3⟩
  · rename_i t m k x ho
    rw [Option.map_eq_some_iff] at h
    obtain ⟨H2, h, h'⟩ := h
    cases h'
    obtain ⟨w', hr, h2, h3⟩ := run_mapSetA h hR (hρ m (by rw [ho]; simp [Op.operands])) (hρ k (by rw [ho]; simp [Op.operands])) (hρ x (by rw [ho]; simp [Op.operands]))
    exact ⟨.skip, undef, w', φ, by simp [execOp, ho, hr], .inr ⟨rfl, rfl⟩, .tuple .nil, h2, h3⟩
  · rename_i t m k x ho
    rw [Option.map_eq_some_iff] at h
    obtain ⟨H2, h, h'⟩ := h
    cases h'
    obtain ⟨w', hr, h2, h3⟩ := run_mapSetA h hR (hρ m (by rw [ho]; simp [Op.operands])) (hρ k (by rw [ho]; simp [Op.operands])) (hρ x (by rw [ho]; simp [Op.operands]))
    exact ⟨.skip, undef, w', φ, by simp [execOp, ho, hr], .inr ⟨rfl, rfl⟩, .tuple .nil, h2, h3⟩
  · rename_i c ho
    obtain ⟨v', w', φ', hr, h1, h2, h3⟩ := run_effCallA (ty := o.type) h hR (fun x hx => hρ x (by rw [ho]; simp only [Op.operands, Call.operands, Array.mem_append]; exact .inr hx))
    exact ⟨.value v', v', w', φ', by simp only [execOp, ho]; exact hr, .inl rfl, h1, h2, h3⟩
  · cases h
/-- A callee and its arguments, as the machine has them. -/
def CR (φ : Emb) : Callee' → Callee' → Prop
  | .fn f a, .fn f' a' => f = f' ∧ VRL φ a a'
  | .round l a, .round l' a' => (∃ p, φ l = some p ∧ p.b = l') ∧ VRL φ a a'
  | _, _ => False
def calleeSem : Callee' → Sem Next
  | .fn f a => callFunc f a.toArray
  | .round l a => Instr.yield l a.toArray
theorem run_calleeA {ρ ρ' : Operand → Value} {c : Call} {ty : TypeId} {k : Callee'} (h : calleeA ρ c = some k) (hρ : ∀ x ∈ c.operands, VR φ (ρ x) (ρ' x)) :
    ∃ k', CR φ k k' ∧ (do let d ← resolve ρ' c ty; invoke d.target d.args : Sem Next).run P w = (calleeSem k').run P w := by
  unfold calleeA at h
  split at h
  · rename_i f hc
    have hf := hρ f (by unfold Call.operands; rw [hc]; simp)
    have hargs := VRL.mapOps (ρ := ρ) (ρ' := ρ') c.args.toList (fun x hx => hρ x (by unfold Call.operands; rw [Array.mem_append]; exact .inr (by simpa using hx)))
    split at h
    · rename_i g x y hfv
      cases h
      rw [hfv] at hf
      generalize hq : ρ' f = q at hf
      cases hf with
      | func _ h1 h2 =>
        rename_i x' y'
        refine ⟨.fn g (x'.toList ++ (c.args.toList.map ρ' ++ y'.toList)), ⟨rfl, h1.append (hargs.append h2)⟩, ?_⟩
        have e : (x' ++ c.args.map ρ') ++ y' = (x'.toList ++ (c.args.toList.map ρ' ++ y'.toList)).toArray := by rw [← Array.toList_inj]; simp
        simp [resolve, hc, hq, Deferred.ofValue, invoke, calleeSem, e]
    · rename_i l x y hfv
      split at h
      case isFalse => cases h
      cases h
      rw [hfv] at hf
      generalize hq : ρ' f = q at hf
      obtain ⟨p, h1, e0⟩ : ∃ p, φ l = some p ∧ q = .func (.yield p.b) #[] #[] := by
        cases hf with
        | yield h1 => exact ⟨_, h1, rfl⟩
      subst e0
      refine ⟨.round p.b (c.args.toList.map ρ'), ⟨⟨p, h1, rfl⟩, hargs⟩, ?_⟩
      have e : c.args.map ρ' = (c.args.toList.map ρ').toArray := by rw [← Array.toList_inj]; simp
      simp [resolve, hc, hq, Deferred.ofValue, invoke, calleeSem, e]
    · cases h
  · cases h
end Go.Abs
