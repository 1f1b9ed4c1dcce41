/- Regions without an order: a run in the text's order, told by its steps. -/
import Derived.Test.YtmpiblpcdhgppaaGreatDoorZqDraw
namespace Go.Abs
variable {P : Program}

structure St where
  S : AAct
  H : AHeap
  pend : List (Nat × AObj)
/-- One operation of a run in the text's order. -/
def One (P : Program) (cl : CallF) (ops : Array Oper) (ms : List Nat) (base : Nat) (o : Oper) (i : Nat) (s : St) (r : Rec) (s' : St) : Prop :=
  r.T = s.S.T ∧ r.H = s.H ∧ s.S.put o.dst r.v = some s'.S ∧
  ((wantedA ops s.S.T o = true ∧ kindOf o.op = .val ∧ valA P (ev s.S.T) s.H o.op = some r.v ∧ r.ob = none ∧ s'.H = s.H ∧ s'.pend = s.pend) ∨
   (wantedA ops s.S.T o = true ∧ kindOf o.op = .new ∧ ∃ ob f, newA P (ev s.S.T) o.op = some (ob, f) ∧ r.v = f (base + i) ∧ r.ob = some ob ∧ s'.H = s.H ∧ s'.pend = (i, ob) :: s.pend) ∨
   (wantedA ops s.S.T o = true ∧ kindOf o.op = .eff ∧ effA P (ev s.S.T) (placeA ms base i s.pend s.H) o.op = some (r.v, s'.H) ∧ r.ob = none ∧ s'.pend = restA ms i s.pend) ∨
   (wantedA ops s.S.T o = true ∧ kindOf o.op = .call ∧ (∃ c k, o.op = .call c ∧ calleeA (ev s.S.T) c = some k ∧ cl k (placeA ms base i s.pend s.H) = some (r.v, s'.H)) ∧ r.ob = none ∧ s'.pend = restA ms i s.pend) ∨
   (wantedA ops s.S.T o = false ∧ heavyO o = true ∧ r.v = undef ∧ r.ob = none ∧ s'.H = placeA ms base i s.pend s.H ∧ s'.pend = restA ms i s.pend) ∨
   (wantedA ops s.S.T o = false ∧ heavyO o = false ∧ r.v = undef ∧ r.ob = none ∧ s'.H = s.H ∧ s'.pend = s.pend))
theorem goA_spec {cl : CallF} {ops : Array Oper} {ms : List Nat} {base : Nat} : ∀ (os : List Oper) (i : Nat) (S : AAct) (H : AHeap) (pend : List (Nat × AObj)) (recs : List Rec) (S' : AAct) (Hf : AHeap) (pend' : List (Nat × AObj)),
    goA P cl ops ms base os i S H pend = some (recs, S', Hf, pend') →
    ∃ st : Nat → St, st i = ⟨S, H, pend⟩ ∧ st (i + os.length) = ⟨S', Hf, pend'⟩ ∧ recs.length = os.length ∧
      ∀ j o, os[j]? = some o → ∃ r, recs[j]? = some r ∧ One P cl ops ms base o (i + j) (st (i + j)) r (st (i + j + 1)) := by
  intro os
  induction os with
  | nil =>
    intro i S H pend recs S' Hf pend' h
    simp only [goA, Option.some.injEq, Prod.mk.injEq] at h
    obtain ⟨rfl, rfl, rfl, rfl⟩ := h
    exact ⟨fun _ => ⟨S, H, pend⟩, rfl, rfl, rfl, fun j o h => by simp at h⟩
  | cons o os ih =>
    intro i S H pend recs S' Hf pend' h
    have fin : ∀ (S1 : AAct) (H1 : AHeap) (pend1 : List (Nat × AObj)) (r : Rec) (recs1 : List Rec), goA P cl ops ms base os (i + 1) S1 H1 pend1 = some (recs1, S', Hf, pend') → recs = r :: recs1 →
        One P cl ops ms base o i ⟨S, H, pend⟩ r ⟨S1, H1, pend1⟩ → ∃ st : Nat → St, st i = ⟨S, H, pend⟩ ∧ st (i + (o :: os).length) = ⟨S', Hf, pend'⟩ ∧ recs.length = (o :: os).length ∧
      ∀ j o', (o :: os)[j]? = some o' → ∃ r, recs[j]? = some r ∧ One P cl ops ms base o' (i + j) (st (i + j)) r (st (i + j + 1)) := by
      intro S1 H1 pend1 r recs1 h1 hr h2
      obtain ⟨st, e1, e2, e3, e4⟩ := ih (i + 1) S1 H1 pend1 recs1 S' Hf pend' h1
      subst hr
      have hgt : ∀ m, i < m → (fun m => if m = i then (⟨S, H, pend⟩ : St) else st m) m = st m := fun m hm => if_neg (by omega)
      refine ⟨fun m => if m = i then ⟨S, H, pend⟩ else st m, if_pos rfl, ?_, by simp [e3], fun j o' hj => ?_⟩
      · rw [hgt _ (by simp)]
        rw [← e2]; congr 1; simp; omega
      · cases j with
        | zero =>
          simp only [List.getElem?_cons_zero, Option.some.injEq] at hj
          subst hj
          refine ⟨r, rfl, ?_⟩
          rw [hgt (i + 0 + 1) (by omega)]
          simp only [Nat.add_zero, if_pos]
          rw [e1]; exact h2
        | succ j =>
          simp only [List.getElem?_cons_succ] at hj
          obtain ⟨r', hr', hone⟩ := e4 j o' hj
          refine ⟨r', by simpa using hr', ?_⟩
          rw [hgt (i + (j + 1)) (by omega), hgt (i + (j + 1) + 1) (by omega)]
          rw [show i + (j + 1) = i + 1 + j by omega]; exact hone
    unfold goA at h
    split at h
    · rename_i hw
      split at h
      · rename_i hk
        simp only [Option.bind_eq_some_iff, Option.map_eq_some_iff] at h
        obtain ⟨v, hv, S1, hS, ⟨recs1, rest⟩, h1, h2⟩ := h
        simp only [Prod.mk.injEq] at h2
        obtain ⟨h2, rfl⟩ := h2
        exact fin S1 H pend _ recs1 h1 h2.symm ⟨rfl, rfl, hS, .inl ⟨hw, hk, hv, rfl, rfl, rfl⟩⟩
      · rename_i hk
        simp only [Option.bind_eq_some_iff, Option.map_eq_some_iff] at h
        obtain ⟨⟨ob, f⟩, hv, S1, hS, ⟨recs1, rest⟩, h1, h2⟩ := h
        simp only [Prod.mk.injEq] at h2
        obtain ⟨h2, rfl⟩ := h2
        exact fin S1 H _ _ recs1 h1 h2.symm ⟨rfl, rfl, hS, .inr (.inl ⟨hw, hk, ob, f, hv, rfl, rfl, rfl, rfl⟩)⟩
      · rename_i hk
        simp only [Option.bind_eq_some_iff, Option.map_eq_some_iff] at h
        obtain ⟨⟨v, H1⟩, hv, S1, hS, ⟨recs1, rest⟩, h1, h2⟩ := h
        simp only [Prod.mk.injEq] at h2
        obtain ⟨h2, rfl⟩ := h2
        exact fin S1 H1 _ _ recs1 h1 h2.symm ⟨rfl, rfl, hS, .inr (.inr (.inl ⟨hw, hk, hv, rfl, rfl⟩))⟩
      · rename_i hk
        split at h
        · rename_i c hc
          simp only [Option.bind_eq_some_iff, Option.map_eq_some_iff] at h
          obtain ⟨k, hck, ⟨v, H1⟩, hv, S1, hS, ⟨recs1, rest⟩, h1, h2⟩ := h
          simp only [Prod.mk.injEq] at h2
          obtain ⟨h2, rfl⟩ := h2
          exact fin S1 H1 _ _ recs1 h1 h2.symm ⟨rfl, rfl, hS, .inr (.inr (.inr (.inl ⟨hw, hk, ⟨c, k, hc, hck, hv⟩, rfl, rfl⟩)))⟩
        · cases h
    · rename_i hw
      have hw : wantedA ops S.T o = false := by simpa using hw
      split at h
      · rename_i hh
        simp only [Option.bind_eq_some_iff, Option.map_eq_some_iff] at h
        obtain ⟨S1, hS, ⟨recs1, rest⟩, h1, h2⟩ := h
        simp only [Prod.mk.injEq] at h2
        obtain ⟨h2, rfl⟩ := h2
        exact fin S1 _ _ _ recs1 h1 h2.symm ⟨rfl, rfl, hS, .inr (.inr (.inr (.inr (.inl ⟨hw, hh, rfl, rfl, rfl, rfl⟩))))⟩
      · rename_i hh
        simp only [Option.bind_eq_some_iff, Option.map_eq_some_iff] at h
        obtain ⟨S1, hS, ⟨recs1, rest⟩, h1, h2⟩ := h
        simp only [Prod.mk.injEq] at h2
        obtain ⟨h2, rfl⟩ := h2
        exact fin S1 _ _ _ recs1 h1 h2.symm ⟨rfl, rfl, hS, .inr (.inr (.inr (.inr (.inr ⟨hw, by simpa using hh, rfl, rfl, rfl, rfl⟩))))⟩

/-- A run in the text's order, whole. -/
structure Run (P : Program) (cl : CallF) (ops : Array Oper) (ms : List Nat) (base : Nat) (S : AAct) (H : AHeap) (recs : List Rec) (st : Nat → St) : Prop where
  masks : masksA ops.toList [] = some ms
  zero : st 0 = ⟨S, H, []⟩
  len : recs.length = ops.size
  one : ∀ (i : Nat) (o : Oper), ops[i]? = some o → ∃ r, recs[i]? = some r ∧ One P cl ops ms base o i (st i) r (st (i + 1))
  uniq : ∀ (i k : Nat) (o p : Oper) (d : Tmp), ops[i]? = some o → ops[k]? = some p → o.dst = some d → p.dst = some d → i = k
  look : ∀ (i k : Nat) (o p : Oper) (d : Tmp), ops[i]? = some o → ops[k]? = some p → d ∈ o.looksAt ops → p.dst = some d → (k < i ∧ ancA ms k i = true) ∨ (i < k ∧ ancA ms i k = true)
  chain : ∀ (i k : Nat) (o p : Oper), ops[i]? = some o → ops[k]? = some p → heavyO o = true → heavyO p = true → i < k → ancA ms i k = true
section
variable {cl : CallF} {ops : Array Oper} {ms : List Nat} {base : Nat} {S : AAct} {H : AHeap} {recs : List Rec} {st : Nat → St}
theorem pair_facts {i k : Nat} (h : drawOk ops = true) (hm : masksA ops.toList [] = some ms) {o p : Oper} (hi : ops[i]? = some o) (hk : ops[k]? = some p) : pairOk ops ms i k = true := by
  unfold drawOk at h
  rw [hm] at h
  simp only [List.all_eq_true, List.mem_range] at h
  exact h i (Array.getElem?_eq_some_iff.1 hi).1 k (Array.getElem?_eq_some_iff.1 hk).1
theorem run_of {Hf : AHeap} {S' : AAct} {pend : List (Nat × AObj)} (hok : drawOk ops = true) (hm : masksA ops.toList [] = some ms) (h : goA P cl ops ms base ops.toList 0 S H [] = some (recs, S', Hf, pend)) :
    ∃ st, Run P cl ops ms base S H recs st ∧ st ops.size = ⟨S', Hf, pend⟩ := by
  obtain ⟨st, e1, e2, e3, e4⟩ := goA_spec _ _ _ _ _ _ _ _ _ h
  have hp := fun {i k : Nat} {o p : Oper} (hi : ops[i]? = some o) (hk : ops[k]? = some p) => pair_facts hok hm hi hk
  refine ⟨st, ⟨hm, e1, by simpa using e3, fun i o hi => ?_, fun i k o p d hi hk h1 h2 => ?_, fun i k o p d hi hk h1 h2 => ?_, fun i k o p hi hk h1 h2 hlt => ?_⟩, by simpa using e2⟩
  · obtain ⟨r, h1, h2⟩ := e4 i o (by simpa using hi)
    exact ⟨r, h1, by simpa using h2⟩
  · have := hp hi hk
    unfold pairOk at this
    simp only [hi, hk, h1, h2, Bool.and_eq_true, Bool.or_eq_true] at this
    rcases this.1.1 with h | h
    · exact Nat.eq_of_beq_eq_true h
    · simp at h
  · have := hp hi hk
    unfold pairOk at this
    simp only [hi, hk, h2, Bool.and_eq_true, Bool.or_eq_true] at this
    rcases this.1.2 with (h | h) | h
    · have hc : (o.looksAt ops).contains d = true := by simpa using h1
      rw [hc] at h; cases h
    · exact .inl ⟨Nat.le_of_ble_eq_true h.1, h.2⟩
    · exact .inr ⟨Nat.le_of_ble_eq_true h.1, h.2⟩
  · have := hp hi hk
    unfold pairOk at this
    simp only [hi, hk, h1, h2, Bool.and_eq_true, Bool.or_eq_true] at this
    rcases this.2 with h | h
    · have : Nat.blt i k = true := Nat.ble_eq_true_of_le hlt
      simp [this] at h
    · exact h

theorem put_facts {S S' : AAct} {dst : Option Tmp} {v : Value} (h : S.put dst v = some S') : S'.sz = S.sz ∧ S'.D = S.D ∧ (∀ d, dst = some d → d < S.sz) ∧ ∀ t, S'.T.get t = if dst = some t then some v else S.T.get t := by
  unfold AAct.put at h
  cases dst with
  | none => cases h; simp
  | some d =>
    simp only [] at h
    cases hb : Nat.blt d S.sz
    · rw [hb] at h; cases h
    · rw [hb] at h
      cases h
      refine ⟨rfl, rfl, fun d' e => by cases e; exact Nat.le_of_ble_eq_true hb, fun t => ?_⟩
      simp only [Tr.get_upd, Option.some.injEq]

theorem Run.sz (h : Run P cl ops ms base S H recs st) : ∀ j, j ≤ ops.size → (st j).S.sz = S.sz ∧ (st j).S.D = S.D := by
  intro j
  induction j with
  | zero => intro _; rw [h.zero]; exact ⟨rfl, rfl⟩
  | succ j ih =>
    intro hj
    obtain ⟨r, h1, h2, h3, h4, -⟩ := h.one j ops[j] (Array.getElem?_eq_getElem (by omega))
    obtain ⟨q1, q2, -⟩ := put_facts h4
    obtain ⟨e1, e2⟩ := ih (by omega)
    exact ⟨q1.trans e1, q2.trans e2⟩
/-- The temporaries before operation j. -/
theorem Run.tmp (h : Run P cl ops ms base S H recs st) : ∀ j, j ≤ ops.size →
    (∀ t, (∀ (k : Nat) (o : Oper), k < j → ops[k]? = some o → o.dst ≠ some t) → (st j).S.T.get t = S.T.get t) ∧
    (∀ (k : Nat) (o : Oper) (r : Rec) (t : Tmp), k < j → ops[k]? = some o → recs[k]? = some r → o.dst = some t → (st j).S.T.get t = some r.v) := by
  intro j
  induction j with
  | zero => intro _; rw [h.zero]; exact ⟨fun _ _ => rfl, fun k o r t hk => by omega⟩
  | succ j ih =>
    intro hj
    have hoj : ops[j]? = some ops[j] := Array.getElem?_eq_getElem (by omega)
    obtain ⟨r, h1, h2, h3, h4, -⟩ := h.one j _ hoj
    obtain ⟨-, -, -, q⟩ := put_facts h4
    obtain ⟨e1, e2⟩ := ih (by omega)
    refine ⟨fun t ht => ?_, fun k o r' t hk ho hr' hd => ?_⟩
    · rw [q, if_neg (ht j _ (by omega) hoj)]
      exact e1 t fun k o hk ho => ht k o (by omega) ho
    · by_cases e : k = j
      · subst e
        rw [hoj] at ho; cases ho
        rw [h1] at hr'; cases hr'
        rw [q, if_pos hd]
      · rw [q, if_neg fun hd' => e (h.uniq k j o _ t ho hoj hd hd')]
        exact e2 k o r' t (by omega) ho hr' hd
/-- What is set aside before operation j. -/
theorem Run.pend (h : Run P cl ops ms base S H recs st) : ∀ j, j ≤ ops.size → ∀ x ∈ (st j).pend, x.1 < j ∧ (∃ r, recs[x.1]? = some r ∧ r.ob = some x.2) ∧
    ∀ (k : Nat) (o : Oper), k < j → ops[k]? = some o → heavyO o = true → ancA ms x.1 k = false := by
  intro j
  induction j with
  | zero => intro _ x hx; rw [h.zero] at hx; cases hx
  | succ j ih =>
    intro hj x hx
    have hoj : ops[j]? = some ops[j] := Array.getElem?_eq_getElem (by omega)
    obtain ⟨r, h1, h2, h3, h4, h5⟩ := h.one j _ hoj
    have hclosed := fun i k => anc_closed h.masks (L := fun _ => True) (fun _ _ _ _ _ _ _ => trivial) i k
    have light : heavyO ops[j] = false → x ∈ (st j).pend → x.1 < j + 1 ∧ (∃ r, recs[x.1]? = some r ∧ r.ob = some x.2) ∧
        ∀ (k : Nat) (o : Oper), k < j + 1 → ops[k]? = some o → heavyO o = true → ancA ms x.1 k = false := by
      intro hh hx
      obtain ⟨q1, q2, q3⟩ := ih (by omega) x hx
      refine ⟨by omega, q2, fun k o hk ho hhk => ?_⟩
      by_cases e : k = j
      · subst e; rw [hoj] at ho; cases ho; rw [hh] at hhk; cases hhk
      · exact q3 k o (by omega) ho hhk
    have heavy : x ∈ restA ms j (st j).pend → x.1 < j + 1 ∧ (∃ r, recs[x.1]? = some r ∧ r.ob = some x.2) ∧
        ∀ (k : Nat) (o : Oper), k < j + 1 → ops[k]? = some o → heavyO o = true → ancA ms x.1 k = false := by
      intro hx
      unfold restA at hx
      rw [List.mem_filter] at hx
      obtain ⟨q1, q2, q3⟩ := ih (by omega) x hx.1
      refine ⟨by omega, q2, fun k o hk ho hhk => ?_⟩
      by_cases e : k = j
      · subst e; simpa using hx.2
      · exact q3 k o (by omega) ho hhk
    rcases h5 with ⟨-, hk, -, -, -, e⟩ | ⟨-, hk, ob, f, -, -, hob, -, e⟩ | ⟨-, hk, -, -, e⟩ | ⟨-, hk, -, -, e⟩ | ⟨-, hk, -, -, -, e⟩ | ⟨-, hk, -, -, -, e⟩
    · rw [e] at hx; exact light (by unfold heavyO; rw [hk]; rfl) hx
    · rw [e] at hx
      have hl : heavyO ops[j] = false := by unfold heavyO; rw [hk]; rfl
      rcases List.mem_cons.1 hx with rfl | hx
      · refine ⟨by simp, ⟨r, h1, hob⟩, fun k o hk' ho hhk => ?_⟩
        cases ha : ancA ms j k with
        | false => rfl
        | true => have := (hclosed k j ha).1; omega
      · exact light hl hx
    · rw [e] at hx; exact heavy hx
    · rw [e] at hx; exact heavy hx
    · rw [e] at hx; exact heavy hx
    · rw [e] at hx; exact light hk hx
/-- Between two writing operations nothing changes. -/
theorem Run.still (h : Run P cl ops ms base S H recs st) {i : Nat} : ∀ j, i ≤ j → j ≤ ops.size → (∀ (k : Nat) (o : Oper), i ≤ k → k < j → ops[k]? = some o → heavyO o = false) → (st j).H = (st i).H := by
  intro j
  induction j with
  | zero => intro hi _ _; rw [show i = 0 by omega]
  | succ j ih =>
    intro hi hj hl
    by_cases e : i = j + 1
    · rw [e]
    · have hoj : ops[j]? = some ops[j] := Array.getElem?_eq_getElem (by omega)
      have hlj := hl j _ (by omega) (by omega) hoj
      obtain ⟨r, h1, h2, h3, h4, h5⟩ := h.one j _ hoj
      rw [← ih (by omega) (by omega) fun k o h1 h2 => hl k o h1 (by omega)]
      rcases h5 with ⟨-, hk, -, -, e, -⟩ | ⟨-, hk, ob, f, -, -, hob, e, -⟩ | ⟨-, hk, -, -, e⟩ | ⟨-, hk, -, -, e⟩ | ⟨-, hk, -, -, -, e⟩ | ⟨-, hk, -, -, e, -⟩
      · exact e
      · exact e
      · unfold heavyO at hlj; rw [hk] at hlj; cases hlj
      · unfold heavyO at hlj; rw [hk] at hlj; cases hlj
      · rw [hk] at hlj; cases hlj
      · exact e
end
end Go.Abs
