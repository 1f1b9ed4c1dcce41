/- Closed calls, told once: how one is shown, and how many are used. -/
import Derived.Test.YtmpiblpcdhgppaaGreatDoorZqShot2
namespace Go.Abs
variable {P : Program}

def sameVL : List Value → List Value → Bool
  | [], [] => true
  | a :: l, b :: m => sameV a b && sameVL l m
  | _, _ => false
def sameE : List (Value × Value) → List (Value × Value) → Bool
  | [], [] => true
  | a :: l, b :: m => sameV a.1 b.1 && sameV a.2 b.2 && sameE l m
  | _, _ => false
/-- By sight the same object. -/
def sameO : AObj → AObj → Bool
  | .cells a r, .cells b s => r == s && sameVL a b
  | .map a r, .map b s => r == s && sameE a b
  | _, _ => false
theorem sameVL_eq : ∀ {a b : List Value}, sameVL a b = true → a = b
  | [], [], _ => rfl
  | x :: a, y :: b, h => by
    simp only [sameVL, Bool.and_eq_true] at h
    rw [sameV_eq h.1, sameVL_eq h.2]
  | [], _ :: _, h => by cases h
  | _ :: _, [], h => by cases h
theorem sameE_eq : ∀ {a b : List (Value × Value)}, sameE a b = true → a = b
  | [], [], _ => rfl
  | (x, x') :: a, (y, y') :: b, h => by
    simp only [sameE, Bool.and_eq_true] at h
    rw [sameV_eq h.1.1, sameV_eq h.1.2, sameE_eq h.2]
  | [], _ :: _, h => by cases h
  | _ :: _, [], h => by cases h
theorem sameO_eq {a b : AObj} (h : sameO a b = true) : a = b := by
  unfold sameO at h
  split at h
  · simp only [Bool.and_eq_true, beq_iff_eq] at h
    rw [h.1, sameVL_eq h.2]
  · simp only [Bool.and_eq_true, beq_iff_eq] at h
    rw [h.1, sameE_eq h.2]
  · cases h

/-! ### Many closed calls -/
def useAll (NG : Nat) (f : Nat) (args : List Value) (H : AHeap) : List Shot → Option (Value × AHeap)
  | [] => none
  | s :: l => cond (Nat.beq s.f f) (match s.use NG args H with | some x => some x | none => useAll NG f args H l) (useAll NG f args H l)
def specA (NG : Nat) (ext : CallF) (l : List Shot) : CallF := fun k H => match k with
  | .fn f args => match useAll NG f args H l with
    | some x => some x
    | none => ext (.fn f args) H
  | .round l args => ext (.round l args) H
/-- A closed call that is shown. -/
def ShotGood (P : Program) (NG : Nat) (s : Shot) : Prop := s.ok NG = true ∧ ShotOk P NG s
def AllGood (P : Program) (NG : Nat) : List Shot → Prop
  | [] => True
  | s :: l => ShotGood P NG s ∧ AllGood P NG l
theorem useAll_sound {NG f : Nat} {args : List Value} {H : AHeap} {v : Value} {H' : AHeap} : ∀ {l : List Shot}, AllGood P NG l → useAll NG f args H l = some (v, H') → ∀ φ w args', Globs NG φ → Rel φ H w → VRL φ args args' →
    CallsTo P 0 (.fn f args') w fun v' w' => ∃ φ', VR φ' v v' ∧ Rel φ' H' w' ∧ Step φ H w φ' H' w'
  | [], _, h => by cases h
  | s :: l, hg, h => by
    intro φ w args' hgl hR ha
    rw [useAll] at h
    by_cases e : s.f = f
    · subst e
      rw [Nat.beq_refl] at h
      simp only [cond_true] at h
      split at h
      · rename_i x hx
        cases h
        exact shot_use hg.1.1 hg.1.2 hx hgl hR ha
      · exact useAll_sound hg.2 h φ w args' hgl hR ha
    · rw [Tr.beq_ff e] at h
      exact useAll_sound hg.2 h φ w args' hgl hR ha
theorem specA_sound {NG : Nat} {ext : CallF} {l : List Shot} (hext : SoundCall P NG 0 ext) (hg : AllGood P NG l) : SoundCall P NG 0 (specA NG ext l) := by
  intro k H v H' h φ w k' hgl hR hk
  unfold specA at h
  split at h
  · rename_i f args
    split at h
    · rename_i x hx
      cases h
      cases k' with
      | fn f' args' =>
        obtain ⟨rfl, ha⟩ := hk
        exact useAll_sound hg hx φ w args' hgl hR ha
      | round l' args' => exact hk.elim
    · exact hext _ H v H' h φ w k' hgl hR hk
  · exact hext _ H v H' h φ w k' hgl hR hk

/-- The closed call, run. -/
def Shot.check (E : Env) (n : Nat) (s : Shot) : Bool :=
  s.ok E.NG && match callA E n (.fn s.f s.args) (ofL s.l0 s.n0) with
    | some (v, H1) => sameV v s.v && Nat.beq H1.next s.n1 && s.L1.all fun x => match H1.get x.1 with | some o => sameO o x.2 | none => false
    | none => false
theorem shot_of {E : Env} (hE : GoodEnv E) {n : Nat} {s : Shot} (h : s.check E n = true) : ShotGood E.P E.NG s := by
  unfold Shot.check at h
  rw [Bool.and_eq_true] at h
  refine ⟨h.1, ?_⟩
  have h := h.2
  split at h
  · rename_i v H1 hc
    simp only [Bool.and_eq_true, List.all_eq_true] at h
    obtain ⟨⟨h1, h2⟩, h3⟩ := h
    have e1 := sameV_eq h1
    have e2 := Nat.eq_of_beq_eq_true h2
    intro φ w args' hg hR ha
    refine ((eval_sound hE n).2 _ _ _ _ hc φ w (.fn s.f args') hg hR ⟨rfl, ha⟩).mono fun v' w' ⟨φ', q1, q2, q3⟩ => ⟨φ', by rw [← e1]; exact q1, ?_⟩
    have hsub : ∀ i o, (ofL s.L1 s.n1).get i = some o → H1.get i = some o := fun i o e => by
      rw [ofL_get] at e
      have := h3 _ (lookO_mem e)
      simp only at this
      split at this
      · rename_i o' ho'; rw [ho', sameO_eq this]
      · cases this
    have hnext : H1.next ≤ (ofL s.L1 s.n1).next := by rw [e2]; exact Nat.le_refl _
    exact ⟨q2.sub hsub hnext, q3.sub hsub hnext⟩
  · cases h
/-- What is the same for all closed calls of a program. -/
structure Base (P : Program) (NG good : Nat) (ext : CallF) : Prop where
  fns : ∀ f, Nat.testBit good f = true → fnFine P NG f = true
  mixed : P.follows .mixedOrders = true
  ext : SoundCall P NG 0 ext
theorem shown {NG good : Nat} {ext : CallF} (hB : Base P NG good ext) {l : List Shot} (hl : AllGood P NG l) {n : Nat} {s : Shot} (h : s.check ⟨P, NG, good, specA NG ext l⟩ n = true) : ShotGood P NG s :=
  shot_of (E := ⟨P, NG, good, specA NG ext l⟩) ⟨hB.fns, draw_sound hB.mixed, specA_sound hB.ext hl⟩ h
end Go.Abs
