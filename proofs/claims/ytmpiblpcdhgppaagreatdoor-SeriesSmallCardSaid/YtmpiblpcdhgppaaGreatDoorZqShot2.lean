/- Closed calls, told once and used wherever the same data stand: the theorem. -/
import Derived.Test.YtmpiblpcdhgppaaGreatDoorZqShot
namespace Go.Abs
variable {P : Program}

/-! ### Which number stands for which -/
def pairs1 : Value → Value → List (Nat × Nat) → List (Nat × Nat)
  | .pointer (some ⟨i, _, _⟩), .pointer (some ⟨j, _, _⟩), l => (i, j) :: l
  | .slice (some ⟨i, _, _⟩) _ _, .slice (some ⟨j, _, _⟩) _ _, l => (i, j) :: l
  | .map (some i), .map (some j), l => (i, j) :: l
  | _, _, l => l
def pairsL : List Value → List Value → List (Nat × Nat) → List (Nat × Nat)
  | a :: m, b :: n, l => pairs1 a b (pairsL m n l)
  | _, _, l => l
def pairsM : Value → Value → List (Nat × Nat) → List (Nat × Nat)
  | .agg a, .agg b, l => pairsL a.toList b.toList l
  | .func _ a b, .func _ c d, l => pairsL a.toList c.toList (pairsL b.toList d.toList l)
  | a, b, l => pairs1 a b l
def pairsML : List Value → List Value → List (Nat × Nat) → List (Nat × Nat)
  | a :: m, b :: n, l => pairsM a b (pairsML m n l)
  | _, _, l => l
def pairsV : Value → Value → List (Nat × Nat) → List (Nat × Nat)
  | .tuple a, .tuple b, l => pairsML a.toList b.toList l
  | a, b, l => pairsM a b l
def pairsVL : List Value → List Value → List (Nat × Nat) → List (Nat × Nat)
  | a :: m, b :: n, l => pairsV a b (pairsVL m n l)
  | _, _, l => l
def pairsE : List (Value × Value) → List (Value × Value) → List (Nat × Nat) → List (Nat × Nat)
  | a :: m, b :: n, l => pairsV a.1 b.1 (pairsV a.2 b.2 (pairsE m n l))
  | _, _, l => l
def pairsO : AObj → AObj → List (Nat × Nat) → List (Nat × Nat)
  | .cells a _, .cells b _, l => pairsVL a b l
  | .map a _, .map b _, l => pairsE a b l
  | _, _, l => l
def chaseA (NG : Nat) (l0 : List (Nat × AObj)) (H : AHeap) (n : Nat) : List (Nat × Nat) → List (Nat × Nat) → List (Nat × Nat) :=
  Nat.rec (motive := fun _ => List (Nat × Nat) → List (Nat × Nat) → List (Nat × Nat)) (fun _ ρ => ρ)
    (fun _ go todo ρ => match todo with
      | [] => ρ
      | x :: todo => cond (Nat.blt x.1 NG) (go todo ρ) (match lookN ρ x.1 with
        | some _ => go todo ρ
        | none => match lookO l0 x.1, H.get x.2 with
          | some o, some o' => go (pairsO o o' todo) (x :: ρ)
          | _, _ => go todo ρ)) n
def startA (NG : Nat) (l0 : List (Nat × AObj)) (H : AHeap) : List (Nat × AObj) → List (Nat × Nat) → List (Nat × Nat)
  | [], l => l
  | x :: m, l => cond (Nat.blt x.1 NG) (match H.get x.1 with | some o => pairsO x.2 o (startA NG l0 H m l) | none => l) (startA NG l0 H m l)

/-! ### A closed call -/
/-- A call of a function on data: its arguments and the objects that it looks at; its result, the objects that are new or changed, and those that are gone. -/
structure Shot where
  f : Nat
  args : List Value
  l0 : List (Nat × AObj)
  n0 : Nat
  v : Value
  l1 : List (Nat × AObj)
  gone : List Nat
  n1 : Nat
def hasN (l : List Nat) (i : Nat) : Bool := match l with | [] => false | j :: l => cond (Nat.beq j i) true (hasN l i)
def Shot.stays (s : Shot) (x : Nat × AObj) : Bool := !(hasN s.gone x.1) && (lookO s.l1 x.1).isNone
def Shot.L1 (s : Shot) : List (Nat × AObj) := s.l1 ++ s.l0.filter s.stays
def putsA : List (Nat × AObj) → AHeap → AHeap
  | [], H => H
  | x :: l, H => (putsA l H).put x.1 x.2
def dropsA : List (Option Nat) → AHeap → AHeap
  | [], H => H
  | x :: l, H => match x with | some i => (dropsA l H).drop i | none => dropsA l H
def ofL (l : List (Nat × AObj)) (n : Nat) : AHeap := { putsA l ⟨.nil, 0⟩ with next := n }
def rhoA (NG : Nat) (ρ : List (Nat × Nat)) (i : Nat) : Option Nat := cond (Nat.blt i NG) (some i) (lookN ρ i)
def toA (NG n0 next : Nat) (ρ : List (Nat × Nat)) (i : Nat) : Option Nat := cond (Nat.blt i NG) (some i) (cond (Nat.blt i n0) (lookN ρ i) (some (next + (i - n0))))
def apartN : List (Nat × Nat) → Bool
  | [] => true
  | x :: l => l.all (fun y => !(Nat.beq x.2 y.2)) && apartN l
def Shot.fits (NG : Nat) (s : Shot) (ρ : List (Nat × Nat)) (args : List Value) (H : AHeap) : Bool :=
  ρ.all (fun x => Nat.blt x.1 s.n0 && Nat.ble NG x.2 && Nat.blt x.2 H.next) && apartN ρ && agreeVL (rhoA NG ρ) s.args args &&
  s.l0.all fun x => match rhoA NG ρ x.1 with
    | some j => match H.get j with
      | some o => agreeO (rhoA NG ρ) x.2 o
      | none => false
    | none => false
def Shot.use (NG : Nat) (s : Shot) (args : List Value) (H : AHeap) : Option (Value × AHeap) :=
  let ρ := chaseA NG s.l0 H 1000 (startA NG s.l0 H s.l0 (pairsVL s.args args [])) []
  cond (s.fits NG ρ args H)
    ((renV (toA NG s.n0 H.next ρ) s.v).bind fun v => (renLO (toA NG s.n0 H.next ρ) s.l1).map fun l =>
      (v, { putsA l (dropsA (s.gone.map (rhoA NG ρ)) H) with next := H.next + (s.n1 - s.n0) }))
    none
def Shot.ok (NG : Nat) (s : Shot) : Bool := Nat.ble NG s.n0 && Nat.ble s.n0 s.n1 && s.l1.all fun x => x.2.rw
/-- What a closed call does, wherever. -/
def ShotOk (P : Program) (NG : Nat) (s : Shot) : Prop := ∀ φ w args', Globs NG φ → Rel φ (ofL s.l0 s.n0) w → VRL φ s.args args' →
  CallsTo P 0 (.fn s.f args') w fun v' w' => ∃ φ', VR φ' s.v v' ∧ Rel φ' (ofL s.L1 s.n1) w' ∧ Step φ (ofL s.l0 s.n0) w φ' (ofL s.L1 s.n1) w'

theorem CallsTo.mono {n : Nat} {k : Callee'} {w : World} {R R' : Value → World → Prop} (h : CallsTo P n k w R) (hr : ∀ v w', R v w' → R' v w') : CallsTo P n k w R' := by
  rcases h with ⟨v, w', h1, h2⟩ | ⟨f, args, h1, h2⟩ | ⟨l, f, ts, asg, body, h1, h2⟩
  · exact .inl ⟨v, w', h1, hr _ _ h2⟩
  · exact .inr (.inl ⟨f, args, h1, h2.mono fun e w' he => by cases e <;> first | exact hr _ _ he | exact he⟩)
  · exact .inr (.inr ⟨l, f, ts, asg, body, h1, h2.mono fun e w' he => by cases e <;> first | exact hr _ _ he | exact he⟩)

theorem putsA_get : ∀ (l : List (Nat × AObj)) (H : AHeap) (j : Nat), (putsA l H).get j = match lookO l j with | some o => some o | none => H.get j
  | [], _, _ => rfl
  | x :: l, H, j => by
    rw [putsA, AHeap.get_put, lookO]
    by_cases e : x.1 = j
    · subst e; rw [if_pos rfl, Nat.beq_refl]; rfl
    · rw [if_neg e, Tr.beq_ff e]; exact putsA_get l H j
theorem dropsA_get : ∀ (l : List (Option Nat)) (H : AHeap) (j : Nat), (dropsA l H).get j = if some j ∈ l then none else H.get j
  | [], _, _ => by simp [dropsA]
  | none :: l, H, j => by rw [dropsA]; simp [dropsA_get l H j]
  | some i :: l, H, j => by
    rw [dropsA, AHeap.get_drop, dropsA_get l H j]
    by_cases e : i = j
    · subst e; simp
    · have : ¬ j = i := fun h => e h.symm
      simp [e, this]
theorem ofL_get (l : List (Nat × AObj)) (n j : Nat) : (ofL l n).get j = lookO l j := by
  show (putsA l ⟨.nil, 0⟩).get j = _
  rw [putsA_get]
  cases lookO l j with
  | none => exact Tr.get_nil j
  | some o => rfl
theorem lookO_mem : ∀ {l : List (Nat × AObj)} {i : Nat} {o : AObj}, lookO l i = some o → (i, o) ∈ l
  | x :: l, i, o, h => by
    rw [lookO] at h
    by_cases e : x.1 = i
    · subst e; rw [Nat.beq_refl] at h; simp only [cond_true, Option.some.injEq] at h; subst h; simp
    · rw [Tr.beq_ff e] at h; simp [lookO_mem h]
theorem lookO_append (l m : List (Nat × AObj)) (i : Nat) : lookO (l ++ m) i = match lookO l i with | some o => some o | none => lookO m i := by
  induction l with
  | nil => rfl
  | cons x l ih =>
    rw [List.cons_append, lookO, lookO]
    cases Nat.beq x.1 i with
    | true => rfl
    | false => exact ih
theorem lookO_filter {q : Nat × AObj → Bool} {i : Nat} (hq : ∀ o, q (i, o) = true) : ∀ (l : List (Nat × AObj)), lookO (l.filter q) i = lookO l i
  | [] => rfl
  | x :: l => by
    rw [List.filter_cons]
    by_cases e : x.1 = i
    · have : q x = true := by have := hq x.2; rw [← e] at this; exact this
      rw [if_pos this, lookO, lookO, lookO_filter hq l]
    · have hl : lookO (x :: l) i = lookO l i := by rw [lookO, Tr.beq_ff e]; rfl
      split
      · rw [lookO, Tr.beq_ff e, hl]; exact lookO_filter hq l
      · rw [hl]; exact lookO_filter hq l
theorem lookN_mem : ∀ {l : List (Nat × Nat)} {i j : Nat}, lookN l i = some j → (i, j) ∈ l
  | x :: l, i, o, h => by
    rw [lookN] at h
    by_cases e : x.1 = i
    · subst e; rw [Nat.beq_refl] at h; simp only [cond_true, Option.some.injEq] at h; subst h; simp
    · rw [Tr.beq_ff e] at h; simp [lookN_mem h]
theorem apartN_inj : ∀ {l : List (Nat × Nat)}, apartN l = true → ∀ {i k j : Nat}, (i, j) ∈ l → (k, j) ∈ l → i = k
  | x :: l, h, i, k, j, hi, hk => by
    simp only [apartN, Bool.and_eq_true, List.all_eq_true] at h
    rcases List.mem_cons.1 hi with e | hi <;> rcases List.mem_cons.1 hk with e' | hk
    · rw [← e] at e'; exact (congrArg Prod.fst e').symm
    · have := h.1 _ hk; rw [← e] at this; simp at this
    · have := h.1 _ hi; rw [← e'] at this; simp at this
    · exact apartN_inj h.2 hi hk
theorem renLO_look {r : Nat → Option Nat} : ∀ {l m : List (Nat × AObj)}, (∀ i k j, r i = some j → r k = some j → (∃ o, (i, o) ∈ l) → (∃ o, (k, o) ∈ l) → i = k) → renLO r l = some m →
    (∀ j o1, lookO m j = some o1 → ∃ i o, lookO l i = some o ∧ r i = some j ∧ renO r o = some o1) ∧ (∀ i j o, lookO l i = some o → r i = some j → ∃ o1, lookO m j = some o1) ∧
    (∀ i o, lookO l i = some o → ∃ j, r i = some j)
  | [], m, _, h => by
    simp only [renLO, Option.some.injEq] at h; subst h
    exact ⟨fun j o1 h => (by cases h), fun i j o h => (by cases h), fun i o h => (by cases h)⟩
  | x :: l, m, hinj, h => by
    simp only [renLO, Option.bind_eq_some_iff, Option.map_eq_some_iff] at h
    obtain ⟨jx, hjx, ox, hox, m', hm', rfl⟩ := h
    obtain ⟨h1, h2, h3⟩ := renLO_look (fun i k j hi hk ⟨o, ho⟩ ⟨o', ho'⟩ => hinj i k j hi hk ⟨o, by simp [ho]⟩ ⟨o', by simp [ho']⟩) hm'
    refine ⟨fun j o1 hj => ?_, fun i j o hi hr => ?_, fun i o hi => ?_⟩
    · rw [lookO] at hj
      by_cases e : jx = j
      · subst e
        rw [Nat.beq_refl] at hj
        simp only [cond_true, Option.some.injEq] at hj; subst hj
        exact ⟨x.1, x.2, by rw [lookO, Nat.beq_refl]; rfl, hjx, hox⟩
      · rw [Tr.beq_ff e] at hj
        obtain ⟨i, o, q1, q2, q3⟩ := h1 j o1 hj
        refine ⟨i, o, ?_, q2, q3⟩
        rw [lookO, Tr.beq_ff (fun e' => e (by rw [e', q2] at hjx; exact (Option.some.inj hjx).symm))]
        exact q1
    · rw [lookO]
      by_cases e : jx = j
      · subst e; rw [Nat.beq_refl]; exact ⟨_, rfl⟩
      · rw [Tr.beq_ff e]
        rw [lookO, Tr.beq_ff (fun e' => e (by rw [e', hr] at hjx; exact (Option.some.inj hjx).symm))] at hi
        exact h2 i j o hi hr
    · rw [lookO] at hi
      by_cases e : x.1 = i
      · subst e; exact ⟨jx, hjx⟩
      · rw [Tr.beq_ff e] at hi; exact h3 i o hi
theorem hasN_mem : ∀ {l : List Nat} {i : Nat}, hasN l i = true ↔ i ∈ l
  | [], i => by simp [hasN]
  | x :: l, i => by
    rw [hasN]
    by_cases e : x = i
    · subst e; simp
    · have : ¬ i = x := fun h => e h.symm
      rw [Tr.beq_ff e]; simp [hasN_mem, this]

theorem shot_use {NG : Nat} {s : Shot} (hok : s.ok NG = true) (hs : ShotOk P NG s) {args : List Value} {H H' : AHeap} {v : Value} (h : s.use NG args H = some (v, H')) {φ : Emb} {w : World} {args' : List Value}
    (hg : Globs NG φ) (hR : Rel φ H w) (ha : VRL φ args args') : CallsTo P 0 (.fn s.f args') w fun v' w' => ∃ φ', VR φ' v v' ∧ Rel φ' H' w' ∧ Step φ H w φ' H' w' := by
  unfold Shot.use at h
  simp only at h
  generalize chaseA NG s.l0 H 1000 (startA NG s.l0 H s.l0 (pairsVL s.args args [])) [] = ρ at h
  cases hf : s.fits NG ρ args H with
  | false => rw [hf] at h; cases h
  | true =>
  rw [hf] at h
  simp only [cond_true, Option.bind_eq_some_iff, Option.map_eq_some_iff, Prod.mk.injEq] at h
  obtain ⟨v1, hv1, lr, hlr, rfl, hH'⟩ := h
  simp only [Shot.ok, Bool.and_eq_true, List.all_eq_true] at hok
  obtain ⟨⟨hn0, hn1⟩, hrw1⟩ := hok
  have hn0 := Nat.le_of_ble_eq_true hn0
  have hn1 := Nat.le_of_ble_eq_true hn1
  simp only [Shot.fits, Bool.and_eq_true, List.all_eq_true] at hf
  obtain ⟨⟨⟨hρ, hap⟩, hargs⟩, hl0⟩ := hf
  have hρ' : ∀ i j, lookN ρ i = some j → i < s.n0 ∧ NG ≤ j ∧ j < H.next := fun i j e => by
    obtain ⟨⟨q1, q2⟩, q3⟩ := hρ _ (lookN_mem e)
    exact ⟨Nat.le_of_ble_eq_true q1, Nat.le_of_ble_eq_true q2, Nat.le_of_ble_eq_true q3⟩
  have hgn : ∀ g, g < NG → g < H.next := fun g hgl => by
    obtain ⟨r, e⟩ := hg g hgl
    rcases Nat.lt_or_ge g H.next with q | q
    · exact q
    · rw [hR.fresh g q] at e; cases e
  -- the maps
  have rho_lt : ∀ i, i < NG → rhoA NG ρ i = some i := fun i hi => by unfold rhoA; rw [show Nat.blt i NG = true from Nat.ble_eq_true_of_le hi]; rfl
  have rho_ge : ∀ i, NG ≤ i → rhoA NG ρ i = lookN ρ i := fun i hi => by
    unfold rhoA
    cases e : Nat.blt i NG with
    | true => have := Nat.le_of_ble_eq_true e; omega
    | false => rfl
  have rho_dom : ∀ i j, rhoA NG ρ i = some j → i < s.n0 ∧ j < H.next := fun i j e => by
    rcases Nat.lt_or_ge i NG with q | q
    · rw [rho_lt i q] at e; cases e; exact ⟨by omega, hgn i q⟩
    · rw [rho_ge i q] at e; have := hρ' i j e; exact ⟨this.1, this.2.2⟩
  have rho_inj : ∀ i k j, rhoA NG ρ i = some j → rhoA NG ρ k = some j → i = k := fun i k j e f => by
    rcases Nat.lt_or_ge i NG with q | q <;> rcases Nat.lt_or_ge k NG with q' | q'
    · rw [rho_lt i q] at e; rw [rho_lt k q'] at f; cases e; cases f; rfl
    · rw [rho_lt i q] at e; rw [rho_ge k q'] at f; cases e; have := hρ' k i f; omega
    · rw [rho_ge i q] at e; rw [rho_lt k q'] at f; cases f; have := hρ' i k e; omega
    · rw [rho_ge i q] at e; rw [rho_ge k q'] at f; exact apartN_inj hap (lookN_mem e) (lookN_mem f)
  have to_lt : ∀ i, i < s.n0 → toA NG s.n0 H.next ρ i = rhoA NG ρ i := fun i hi => by
    unfold toA rhoA
    rw [show Nat.blt i s.n0 = true from Nat.ble_eq_true_of_le hi]; rfl
  have to_ge : ∀ i, s.n0 ≤ i → toA NG s.n0 H.next ρ i = some (H.next + (i - s.n0)) := fun i hi => by
    unfold toA
    have e1 : Nat.blt i NG = false := by
      cases e : Nat.blt i NG with
      | true => have := Nat.le_of_ble_eq_true e; omega
      | false => rfl
    have e2 : Nat.blt i s.n0 = false := by
      cases e : Nat.blt i s.n0 with
      | true => have := Nat.le_of_ble_eq_true e; omega
      | false => rfl
    rw [e1, e2]; rfl
  have to_inj : ∀ i k j, toA NG s.n0 H.next ρ i = some j → toA NG s.n0 H.next ρ k = some j → i = k := fun i k j e f => by
    rcases Nat.lt_or_ge i s.n0 with q | q <;> rcases Nat.lt_or_ge k s.n0 with q' | q'
    · rw [to_lt i q] at e; rw [to_lt k q'] at f; exact rho_inj i k j e f
    · rw [to_lt i q] at e; rw [to_ge k q'] at f; have := (rho_dom i j e).2; cases f; omega
    · rw [to_ge i q] at e; rw [to_lt k q'] at f; have := (rho_dom k j f).2; cases e; omega
    · rw [to_ge i q] at e; rw [to_ge k q'] at f; cases e; simp only [Option.some.injEq] at f; omega
  have to_rho : ∀ i j, rhoA NG ρ i = some j → toA NG s.n0 H.next ρ i = some j := fun i j e => by rw [to_lt i (rho_dom i j e).1]; exact e
  -- the call
  let φ0 : Emb := fun i => (rhoA NG ρ i).bind φ
  have h0 : ∀ i j p, rhoA NG ρ i = some j → φ j = some p → φ0 i = some p := fun i j p e f => by show (rhoA NG ρ i).bind φ = _; rw [e]; exact f
  have h0' : ∀ i j p, rhoA NG ρ i = some j → φ0 i = some p → φ j = some p := fun i j p e f => by
    have : (rhoA NG ρ i).bind φ = some p := f
    rw [e] at this; exact this
  have hobj0 : ∀ i o, lookO s.l0 i = some o → ∃ j o', rhoA NG ρ i = some j ∧ H.get j = some o' ∧ agreeO (rhoA NG ρ) o o' = true := fun i o e => by
    have := hl0 _ (lookO_mem e)
    simp only at this
    split at this
    · rename_i j hj
      split at this
      · rename_i o' ho'; exact ⟨j, o', hj, ho', this⟩
      · cases this
    · cases this
  have hR0 : Rel φ0 (ofL s.l0 s.n0) w := by
    refine ⟨fun i o e => ?_, fun i k o u p q e f hne hrw hp hq => ?_, fun i hi => ?_, fun i p e => ?_⟩
    · rw [ofL_get] at e
      obtain ⟨j, o', q1, q2, q3⟩ := hobj0 i o e
      obtain ⟨p, hp, hr⟩ := hR.obj j o' q2
      exact ⟨p, h0 i j p q1 hp, agreeO_fwd h0 q3 hr⟩
    · rw [ofL_get] at e f
      obtain ⟨j, o', q1, q2, q3⟩ := hobj0 i o e
      obtain ⟨m, u', r1, r2, r3⟩ := hobj0 k u f
      exact hR.apart j m o' u' p q q2 r2 (fun e' => hne (rho_inj i k m (by rw [← e']; exact q1) r1)) (by rw [← agreeO_rw q3]; exact hrw) (h0' i j p q1 hp) (h0' k m q r1 hq)
    · show (rhoA NG ρ i).bind φ = none
      cases e : rhoA NG ρ i with
      | none => rfl
      | some j => have := (rho_dom i j e).1; have hi' : s.n0 ≤ i := hi; omega
    · have : (rhoA NG ρ i).bind φ = some p := e
      rw [Option.bind_eq_some_iff] at this
      obtain ⟨j, -, hj⟩ := this
      exact hR.lt j p hj
  have hg0 : Globs NG φ0 := fun g hgl => by
    obtain ⟨r, e⟩ := hg g hgl
    exact ⟨r, h0 g g _ (rho_lt g hgl) e⟩
  refine (hs φ0 w args' hg0 hR0 (agreeVL_fwd h0 hargs ha)).mono fun v' w' ⟨φ1, hv', hR1, hS⟩ => ?_
  have hnext0 : (ofL s.l0 s.n0).next = s.n0 := rfl
  have hnext1 : (ofL s.L1 s.n1).next = s.n1 := rfl
  have hnext' : H'.next = H.next + (s.n1 - s.n0) := by rw [← hH']
  let φ' : Emb := fun j => if j < H.next then φ j else if j < H.next + (s.n1 - s.n0) then φ1 (s.n0 + (j - H.next)) else none
  have p_lt : ∀ j, j < H.next → φ' j = φ j := fun j hj => by show (if _ then _ else _) = _; rw [if_pos hj]
  have hle : φ.le φ' := fun j p e => by
    rcases Nat.lt_or_ge j H.next with q | q
    · rw [p_lt j q]; exact e
    · rw [hR.fresh j q] at e; cases e
  have fixed : ∀ i, i < s.n0 → φ1 i = φ0 i := fun i hi => hS.fix i hi
  have F : ∀ i j p, toA NG s.n0 H.next ρ i = some j → φ1 i = some p → φ' j = some p := fun i j p e f => by
    rcases Nat.lt_or_ge i s.n0 with q | q
    · rw [to_lt i q] at e
      rw [fixed i q] at f
      rw [p_lt j (rho_dom i j e).2]
      exact h0' i j p e f
    · rw [to_ge i q] at e
      cases e
      have hi1 : i < s.n1 := by
        rcases Nat.lt_or_ge i s.n1 with q' | q'
        · exact q'
        · rw [hR1.fresh i q'] at f; cases f
      show (if _ then _ else _) = _
      rw [if_neg (by omega), if_pos (by omega)]
      rw [show s.n0 + (H.next + (i - s.n0) - H.next) = i by omega]; exact f
  have F' : ∀ i j p q, toA NG s.n0 H.next ρ i = some j → φ1 i = some p → φ' j = some q → q = p := fun i j p q e f g => by rw [F i j p e f] at g; exact (Option.some.inj g).symm
  -- what the new heap is made of
  obtain ⟨k1, k2, k3⟩ := renLO_look (fun i k j e f _ _ => to_inj i k j e f) hlr
  have rw1 : ∀ i o, lookO s.l1 i = some o → o.rw = true := fun i o e => hrw1 _ (lookO_mem e)
  have get' : ∀ j, H'.get j = match lookO lr j with | some o => some o | none => if some j ∈ s.gone.map (rhoA NG ρ) then none else H.get j := fun j => by
    rw [← hH']
    show (putsA lr (dropsA (s.gone.map (rhoA NG ρ)) H)).get j = _
    rw [putsA_get, dropsA_get]
  have L1_of : ∀ i o, lookO s.l1 i = some o → lookO s.L1 i = some o := fun i o e => by rw [Shot.L1, lookO_append, e]
  have src : ∀ j u, H'.get j = some u →
      (∃ i o, lookO s.L1 i = some o ∧ toA NG s.n0 H.next ρ i = some j ∧ agreeO (toA NG s.n0 H.next ρ) o u = true ∧ (u.rw = false → H.get j = some u ∧ i < s.n0)) ∨
      (H.get j = some u ∧ ∀ i o, lookO s.l0 i = some o → rhoA NG ρ i ≠ some j) := fun j u e => by
    rw [get' j] at e
    cases hlk : lookO lr j with
    | some o1 =>
      rw [hlk] at e
      cases e
      obtain ⟨i, o, q1, q2, q3⟩ := k1 j _ hlk
      have hag := renO_agree q3
      refine .inl ⟨i, o, L1_of i o q1, q2, hag, fun hf => ?_⟩
      rw [← agreeO_rw hag, rw1 i o q1] at hf; cases hf
    | none =>
      rw [hlk] at e
      simp only at e
      split at e
      · cases e
      · rename_i hng
        by_cases hex : ∃ i o, lookO s.l0 i = some o ∧ rhoA NG ρ i = some j
        · obtain ⟨i, o, q1, q2⟩ := hex
          obtain ⟨j', o', r1, r2, r3⟩ := hobj0 i o q1
          rw [q2] at r1; cases r1
          rw [e] at r2; cases r2
          left
          refine ⟨i, o, ?_, to_rho i j q2, ?_, fun _ => ⟨e, (rho_dom i j q2).1⟩⟩
          · have hn1' : lookO s.l1 i = none := by
              cases hh : lookO s.l1 i with
              | none => rfl
              | some o2 =>
                obtain ⟨o3, h3⟩ := k2 i j o2 hh (to_rho i j q2)
                rw [h3] at hlk; cases hlk
            rw [Shot.L1, lookO_append, hn1']
            simp only
            rw [lookO_filter (fun o => ?_)]
            · exact q1
            · unfold Shot.stays
              rw [hn1']
              have : hasN s.gone i = false := by
                cases hh : hasN s.gone i with
                | false => rfl
                | true => exact absurd (List.mem_map.2 ⟨i, hasN_mem.1 hh, q2⟩) hng
              simp [this]
          · exact agreeO_mono to_rho r3
        · right
          exact ⟨e, fun i o q1 q2 => hex ⟨i, o, q1, q2⟩⟩
  have footIn : ∀ k, Foot φ0 (ofL s.l0 s.n0) k → ∃ i o j o' q, lookO s.l0 i = some o ∧ rhoA NG ρ i = some j ∧ H.get j = some o' ∧ o'.rw = true ∧ φ j = some q ∧ q.b = k := fun k ⟨i, o, q, e, r, f, g⟩ => by
    rw [ofL_get] at e
    obtain ⟨j, o', q1, q2, q3⟩ := hobj0 i o e
    exact ⟨i, o, j, o', q, e, q1, q2, by rw [← agreeO_rw q3]; exact r, h0' i j q q1 f, g⟩
  -- nothing new lies in an old object's way
  have key : ∀ i o j p, lookO s.L1 i = some o → o.rw = true → toA NG s.n0 H.next ρ i = some j → φ1 i = some p → ∀ k u q, H.get k = some u → (∀ i o, lookO s.l0 i = some o → rhoA NG ρ i ≠ some k) → φ k = some q → p.b ≠ q.b := by
    intro i o j p e hrw _ hp k u q hk hout hq hb
    rcases hS.foot p.b ⟨i, o, p, by rw [ofL_get]; exact e, hrw, hp, rfl⟩ with hfo | hbig
    · obtain ⟨i2, o2, j2, o2', q2, e1, e2, e3, e4, e5, e6⟩ := footIn _ hfo
      have hne : j2 ≠ k := fun e' => hout i2 o2 e1 (by rw [← e']; exact e2)
      exact hR.apart j2 k o2' u q2 q e3 hk hne e4 e5 hq (by rw [e6, hb])
    · have := hR.lt k q hq; omega
  refine ⟨φ', agreeV_back (fun i j p e f => F i j p e f) (renV_agree hv1) hv', ⟨fun j u e => ?_, fun j k u x p q e f hne hrw hp hq => ?_, fun j hj => ?_, fun j p e => ?_⟩,
    ⟨hle, hS.os, hS.tape, hS.output, hS.size, fun k hk hfo => hS.keep k hk fun hf0 => ?_, fun k hk => ?_, fun i hi => p_lt i hi, by rw [hnext']; omega, fun j vs hro e => ?_⟩⟩
  · rcases src j u e with ⟨i, o, q1, q2, q3, -⟩ | ⟨q1, q2⟩
    · obtain ⟨p, hp, hr⟩ := hR1.obj i o (by rw [ofL_get]; exact q1)
      exact ⟨p, F i j p q2 hp, agreeO_back (fun i j p e f => F i j p e f) q3 hr⟩
    · obtain ⟨p, hp, hr⟩ := hR.obj j u q1
      refine ⟨p, hle _ _ hp, AObj.rel_mono hle (hS.keep _ (hR.lt _ _ hp) fun hf0 => ?_) hr⟩
      obtain ⟨i2, o2, j2, o2', qq, e1, e2, e3, e4, e5, e6⟩ := footIn _ hf0
      have hne : j2 ≠ j := fun e' => q2 i2 o2 e1 (by rw [← e']; exact e2)
      exact hR.apart j2 j o2' u qq p e3 q1 hne e4 e5 hp e6
  · rcases src j u e with ⟨i, o, q1, q2, q3, -⟩ | ⟨q1, q2⟩ <;> rcases src k x f with ⟨i', o', r1, r2, r3, r4⟩ | ⟨r1, r2⟩
    · obtain ⟨p1, hp1, -⟩ := hR1.obj i o (by rw [ofL_get]; exact q1)
      obtain ⟨p2, hp2, -⟩ := hR1.obj i' o' (by rw [ofL_get]; exact r1)
      have ep := F' i j p1 p q2 hp1 hp
      have eq := F' i' k p2 q r2 hp2 hq
      subst ep eq
      exact hR1.apart i i' o o' _ _ (by rw [ofL_get]; exact q1) (by rw [ofL_get]; exact r1) (fun e' => hne (by rw [e', r2] at q2; exact (Option.some.inj q2).symm)) (by rw [agreeO_rw q3]; exact hrw) hp1 hp2
    · obtain ⟨p1, hp1, -⟩ := hR1.obj i o (by rw [ofL_get]; exact q1)
      have ep := F' i j p1 p q2 hp1 hp
      subst ep
      obtain ⟨q', hq', -⟩ := hR.obj k x r1
      have := hle _ _ hq'
      rw [hq] at this; cases this
      exact key i o j _ q1 (by rw [agreeO_rw q3]; exact hrw) q2 hp1 k x _ r1 r2 hq'
    · obtain ⟨p', hp', -⟩ := hR.obj j u q1
      have := hle _ _ hp'
      rw [hp] at this; cases this
      obtain ⟨p2, hp2, -⟩ := hR1.obj i' o' (by rw [ofL_get]; exact r1)
      have eq := F' i' k p2 q r2 hp2 hq
      subst eq
      cases hxr : x.rw with
      | true => exact fun hb => key i' o' k _ r1 (by rw [agreeO_rw r3]; exact hxr) r2 hp2 j u _ q1 q2 hp' hb.symm
      | false =>
        obtain ⟨g1, g2⟩ := r4 hxr
        have hk' : k < H.next := by
          obtain ⟨qq, hqq, -⟩ := hR.obj k x g1
          rcases Nat.lt_or_ge k H.next with z | z
          · exact z
          · rw [hR.fresh k z] at hqq; cases hqq
        exact hR.apart j k u x _ _ q1 g1 hne hrw hp' (by rw [← p_lt k hk']; exact hq)
    · obtain ⟨p', hp', -⟩ := hR.obj j u q1
      obtain ⟨q', hq', -⟩ := hR.obj k x r1
      have := hle _ _ hp'
      rw [hp] at this; cases this
      have := hle _ _ hq'
      rw [hq] at this; cases this
      exact hR.apart j k u x _ _ q1 r1 hne hrw hp' hq'
  · rw [hnext'] at hj
    show (if _ then _ else _) = _
    rw [if_neg (by omega), if_neg (by omega)]
  · have e' : (if j < H.next then φ j else if j < H.next + (s.n1 - s.n0) then φ1 (s.n0 + (j - H.next)) else none) = some p := e
    split at e'
    · exact Nat.lt_of_lt_of_le (hR.lt _ _ e') hS.size
    · split at e'
      · exact hR1.lt _ _ e'
      · cases e'
  · obtain ⟨i2, o2, j2, o2', qq, e1, e2, e3, e4, e5, e6⟩ := footIn _ hf0
    exact hfo ⟨j2, o2', qq, e3, e4, e5, e6⟩
  · obtain ⟨j, u, p, e, hrw, hp, hb⟩ := hk
    rcases src j u e with ⟨i, o, q1, q2, q3, -⟩ | ⟨q1, q2⟩
    · obtain ⟨p1, hp1, -⟩ := hR1.obj i o (by rw [ofL_get]; exact q1)
      have ep := F' i j p1 p q2 hp1 hp
      subst ep
      rcases hS.foot _ ⟨i, o, _, by rw [ofL_get]; exact q1, by rw [agreeO_rw q3]; exact hrw, hp1, rfl⟩ with hf0 | hbig
      · obtain ⟨i2, o2, j2, o2', qq, e1, e2, e3, e4, e5, e6⟩ := footIn _ hf0
        exact .inl ⟨j2, o2', qq, e3, e4, e5, by rw [e6]; exact hb⟩
      · exact .inr (by omega)
    · obtain ⟨p', hp', -⟩ := hR.obj j u q1
      have := hle _ _ hp'
      rw [hp] at this; cases this
      exact .inl ⟨j, u, _, q1, hrw, hp', hb⟩
  · rcases src j _ e with ⟨i, o, q1, q2, q3, q4⟩ | ⟨q1, q2⟩
    · exact (q4 hro).1
    · exact q1
end Go.Abs
