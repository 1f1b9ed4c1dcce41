/- Regions without an order: every order does what the evaluator says. -/
import Derived.Test.YtmpiblpcdhgppaaGreatDoorZqDraw2
namespace Go.Abs
variable {P : Program}

theorem valA_H {ρ : Operand → Value} {H H' : AHeap} {op : Op} (h : readsH op = false) : valA P ρ H op = valA P ρ H' op := by
  cases op <;> first | rfl | cases h | skip
  rename_i f _ _
  cases f <;> rfl
theorem same1_eq : ∀ {a b : Value}, same1 a b = true → a = b := by
  intro a b h
  unfold same1 at h
  split at h <;> simp_all
  rename_i x y
  cases x; cases y
  simp only [ByteArray.mk.injEq]
  rw [← Array.toList_inj]
  simpa using h
theorem sameL_eq : ∀ {a b : List Value}, sameL a b = true → a = b
  | [], [], _ => rfl
  | x :: a, y :: b, h => by
    simp only [sameL, Bool.and_eq_true] at h
    rw [same1_eq h.1, sameL_eq h.2]
  | [], _ :: _, h => by cases h
  | _ :: _, [], h => by cases h
theorem sameC_eq {a b : Value} (h : sameC a b = true) : a = b := by
  unfold sameC at h
  split at h
  · simp only [Bool.and_eq_true] at h; rw [Nat.eq_of_beq_eq_true h.1, Nat.eq_of_beq_eq_true h.2]
  · simp only [Bool.and_eq_true] at h
    obtain ⟨⟨⟨⟨h1, h2⟩, h3⟩, h4⟩, h5⟩ := h
    rw [Nat.eq_of_beq_eq_true h1, Nat.eq_of_beq_eq_true h2, Nat.eq_of_beq_eq_true h3, Nat.eq_of_beq_eq_true h4, Nat.eq_of_beq_eq_true h5]
  · rw [Nat.eq_of_beq_eq_true h]
  · rfl
  · rfl
  · simp only [Bool.and_eq_true] at h
    obtain ⟨⟨h1, h2⟩, h3⟩ := h
    have e2 := sameL_eq h2
    have e3 := sameL_eq h3
    rw [Array.toList_inj] at e2 e3
    rw [Nat.eq_of_beq_eq_true h1, e2, e3]
  · exact same1_eq h
theorem sameCL_eq : ∀ {a b : List Value}, sameCL a b = true → a = b
  | [], [], _ => rfl
  | x :: a, y :: b, h => by
    simp only [sameCL, Bool.and_eq_true] at h
    rw [sameC_eq h.1, sameCL_eq h.2]
  | [], _ :: _, h => by cases h
  | _ :: _, [], h => by cases h
theorem sameM_eq {a b : Value} (h : sameM a b = true) : a = b := by
  unfold sameM at h
  split at h
  · have := sameCL_eq h; rw [Array.toList_inj] at this; rw [this]
  · exact sameC_eq h
theorem sameML_eq : ∀ {a b : List Value}, sameML a b = true → a = b
  | [], [], _ => rfl
  | x :: a, y :: b, h => by
    simp only [sameML, Bool.and_eq_true] at h
    rw [sameM_eq h.1, sameML_eq h.2]
  | [], _ :: _, h => by cases h
  | _ :: _, [], h => by cases h
theorem sameV_eq {a b : Value} (h : sameV a b = true) : a = b := by
  unfold sameV at h
  split at h
  · have := sameML_eq h; rw [Array.toList_inj] at this; rw [this]
  · exact sameM_eq h

theorem edges_lt : ∀ (os : List Oper) (ms0 ms : List Nat), masksA os ms0 = some ms → ∀ i o, os[i]? = some o → ∀ e ∈ o.after.toList, Region.binds .any e = true → e.on < ms0.length + i := by
  have hm : ∀ (ms : List Nat) (es : List Edge) (m : Nat), maskOf ms es = some m → ∀ e ∈ es, Region.binds .any e = true → e.on < ms.length := by
    intro ms es
    induction es with
    | nil => intro m _ e he; cases he
    | cons x es ih =>
      intro m h e he hb
      simp only [maskOf, Option.bind_eq_some_iff] at h
      obtain ⟨m0, h0, h⟩ := h
      rcases List.mem_cons.1 he with rfl | he
      · rw [if_pos hb, Option.map_eq_some_iff] at h
        obtain ⟨a, ha, -⟩ := h
        exact (List.getElem?_eq_some_iff.1 ha).1
      · exact ih m0 h0 e he hb
  intro os
  induction os with
  | nil => intro ms0 ms _ i o h; simp at h
  | cons x os ih =>
    intro ms0 ms h i o hi e he hb
    simp only [masksA, Option.bind_eq_some_iff] at h
    obtain ⟨m, hm0, h⟩ := h
    cases i with
    | zero =>
      simp only [List.getElem?_cons_zero, Option.some.injEq] at hi
      subst hi
      exact hm _ _ _ hm0 e he hb
    | succ i =>
      have := ih _ _ h i o (by simpa using hi) e he hb
      simp at this; omega

theorem wanted_at {φ : Emb} {ops : Array Oper} {T : Tr Value} {ts : Array Value} (o : Oper) (h : ∀ d ∈ o.looksAt ops, VR φ ((T.get d).getD undef) (ts.getD d undef)) : Region.wanted o (yielded ops ts) = wantedA ops T o := by
  unfold Region.wanted wantedA
  cases hgd : o.guard with
  | none => rfl
  | some jw =>
    obtain ⟨j, want⟩ := jw
    simp only []
    suffices hy : yielded ops ts j = yieldedA ops T j by rw [hy]
    unfold yielded yieldedA
    cases hd : (ops[j]?).bind (·.dst) with
    | none => rfl
    | some d =>
      simp only [Option.bind_some]
      have hv := h d (by
        unfold Oper.looksAt
        rw [List.mem_append]; right
        rw [hgd]; simp [hd])
      rw [Array.getD_eq_getD_getElem?] at hv
      cases hT : T.get d with
      | none =>
        rw [hT] at hv
        cases ha : ts[d]? with
        | none => rfl
        | some u => rw [ha] at hv; simp only [Option.getD_none, Option.getD_some] at hv; generalize hu : undef = q at hv; cases hv <;> simp_all [undef]
      | some u =>
        rw [hT] at hv
        cases ha : ts[d]? with
        | none => rw [ha] at hv; simp only [Option.getD_none, Option.getD_some] at hv; generalize hu : undef = q at hv; cases hv <;> simp_all [undef]
        | some u' => rw [ha] at hv; simp only [Option.getD_some] at hv; cases hv <;> rfl
theorem ev_at {φ : Emb} {NG : Nat} {ops : Array Oper} {T : Tr Value} {a : Act} {o : Oper} (h : ∀ d ∈ o.looksAt ops, VR φ ((T.get d).getD undef) (a.tmps.getD d undef)) (hg : Globs NG φ) (hok : opOk NG o = true) :
    ∀ x ∈ o.op.operands, VR φ (ev T x) (a.eval x) := by
  intro x hx
  unfold opOk at hok
  rw [List.all_eq_true] at hok
  have hx' := hok x (by simpa using hx)
  cases x with
  | tmp t =>
    exact h t (by
      unfold Oper.looksAt
      rw [List.mem_append]; left
      rw [List.mem_filterMap]
      exact ⟨.tmp t, by simpa using hx, rfl⟩)
  | const v => exact .plain hx'
  | global g =>
    obtain ⟨r, e⟩ := hg g (Nat.le_of_ble_eq_true hx')
    exact VR.ptr (p := ⟨g, 0, r⟩) (o := 0) e
  | func f => exact .func f .nil .nil

def on (L : Array Bool) (k : Nat) : Prop := L.getD k false = true
theorem on_set {L : Array Bool} {i k : Nat} (hi : i < L.size) : on (L.setIfInBounds i true) k ↔ k = i ∨ on L k := by
  unfold on
  rw [Array.getD_eq_getD_getElem?, Array.getD_eq_getD_getElem?]
  by_cases e : i = k
  · subst e; simp [hi]
  · rw [Array.getElem?_setIfInBounds_ne e]
    constructor
    · exact .inr
    · rintro (h | h)
      · exact absurd h.symm e
      · exact h

structure Inv (ops : Array Oper) (ms : List Nat) (base : Nat) (S : AAct) (recs : List Rec) (st : Nat → St) (φ0 : Emb) (H0 : AHeap) (w0 : World) (φ : Emb) (G : AHeap) (j : Nat) (L : Array Bool) (a : Act) (w : World) : Prop where
  size : L.size = ops.size
  rel : Rel φ G w
  step : Step φ0 H0 w0 φ G w
  asz : a.tmps.size = S.sz
  dr : DR φ S.D a.defers
  t0 : ∀ t, (∀ (k : Nat) (o : Oper), on L k → ops[k]? = some o → o.dst ≠ some t) → VR φ ((S.T.get t).getD undef) (a.tmps.getD t undef)
  t1 : ∀ (k : Nat) (o : Oper) (r : Rec) (t : Tmp), on L k → ops[k]? = some o → recs[k]? = some r → o.dst = some t → VR φ r.v (a.tmps.getD t undef)
  jn : j ≤ ops.size
  lo : ∀ (k : Nat) (o : Oper), k < j → ops[k]? = some o → heavyO o = true → on L k
  hi : ∀ (k : Nat) (o : Oper), j ≤ k → ops[k]? = some o → heavyO o = true → ¬ on L k
  jj : j = 0 ∨ ∃ o, ops[j - 1]? = some o ∧ heavyO o = true
  next : G.next = (st j).H.next
  big : base + ops.size ≤ G.next
  sub : ∀ i o, (st j).H.get i = some o → G.get i = some o
  pend : ∀ (k : Nat) (r : Rec) (ob : AObj), on L k → recs[k]? = some r → r.ob = some ob → (∀ (k' : Nat) (o : Oper), k' < j → ops[k']? = some o → heavyO o = true → ancA ms k k' = false) →
    G.get (base + k) = some ob ∧ (st j).H.get (base + k) = none ∧ ob.rw = true
  empty : ∀ k, k < ops.size → (¬ on L k ∨ ∀ r, recs[k]? = some r → r.ob = none) → φ (base + k) = none
  closed : ∀ (i : Nat) (o : Oper), ops[i]? = some o → on L i → ∀ e ∈ o.after, Region.binds .any e = true → on L e.on
section
variable {NG : Nat} {cl : CallF} {ops : Array Oper} {ms : List Nat} {base : Nat} {S : AAct} {H H0 : AHeap} {recs : List Rec} {st : Nat → St} {φ0 φ : Emb} {w0 w : World} {G : AHeap} {j : Nat} {L : Array Bool} {a : Act}

/-- Operation i may run now. -/
structure Now (ops : Array Oper) (L : Array Bool) (i : Nat) (o : Oper) : Prop where
  op : ops[i]? = some o
  off : ¬ on L i
  lt : i < L.size
  pre : ∀ e ∈ o.after, Region.binds .any e = true → on L e.on
theorem now_of {i : Nat} (h : i ∈ Region.ready .any ops L) (hs : L.size = ops.size) : ∃ o, Now ops L i o := by
  obtain ⟨h1, o, h2, h3⟩ := mem_ready.1 h
  have hlt : i < L.size := by rw [hs]; exact (Array.getElem?_eq_some_iff.1 h2).1
  refine ⟨o, h2, ?_, hlt, h3⟩
  unfold on
  rw [Array.getD_eq_getD_getElem?] at h1 ⊢
  simp [hlt] at h1 ⊢; exact h1
theorem Inv.anc (h : Inv ops ms base S recs st φ0 H0 w0 φ G j L a w) (hr : Run P cl ops ms base S H recs st) {i k : Nat} (hk : ancA ms k i = true) (hi : on L i) : on L k :=
  (anc_closed hr.masks h.closed i k hk).2 hi
theorem Inv.ancNow (h : Inv ops ms base S recs st φ0 H0 w0 φ G j L a w) (hr : Run P cl ops ms base S H recs st) {i k : Nat} {o : Oper} (hn : Now ops L i o) (hk : ancA ms k i = true) : k < i ∧ on L k := by
  have := anc_closed hr.masks (L := fun m => on L m ∨ m = i) (fun m o' ho' hm e he hb => by
    rcases hm with hm | rfl
    · exact .inl (h.closed m o' ho' hm e he hb)
    · rw [hn.op] at ho'; cases ho'; exact .inl (hn.pre e he hb)) i k hk
  refine ⟨this.1, ?_⟩
  rcases this.2 (.inr rfl) with h1 | h1
  · exact h1
  · have := this.1; omega
theorem Inv.look (h : Inv ops ms base S recs st φ0 H0 w0 φ G j L a w) (hr : Run P cl ops ms base S H recs st) {i : Nat} {o : Oper} (hn : Now ops L i o) : ∀ d ∈ o.looksAt ops, VR φ (((st i).S.T.get d).getD undef) (a.tmps.getD d undef) := by
  intro d hd
  have hin : i ≤ ops.size := by have := hn.lt; rw [h.size] at this; omega
  obtain ⟨e1, e2⟩ := hr.tmp i hin
  by_cases hex : ∃ (k : Nat) (p : Oper), ops[k]? = some p ∧ p.dst = some d
  · obtain ⟨k, p, hk, hp⟩ := hex
    rcases hr.look i k o p d hn.op hk hd hp with ⟨hlt, hanc⟩ | ⟨hlt, hanc⟩
    · obtain ⟨r, hrk, -⟩ := hr.one k p hk
      rw [e2 k p r d hlt hk hrk hp]
      exact h.t1 k p r d (h.ancNow hr hn hanc).2 hk hrk hp
    · rw [e1 d fun k' o' hk' ho' hd' => by have := hr.uniq k' k o' p d ho' hk hd' hp; omega]
      refine h.t0 d fun k' o' hk' ho' hd' => ?_
      have := hr.uniq k' k o' p d ho' hk hd' hp
      subst this
      exact hn.off (h.anc hr hanc hk')
  · rw [e1 d fun k' o' hk' ho' hd' => hex ⟨k', o', ho', hd'⟩]
    exact h.t0 d fun k' o' hk' ho' hd' => hex ⟨k', o', ho', hd'⟩
theorem put_get {a : Act} {dst : Option Tmp} {v' : Value} (hd : ∀ d, dst = some d → d < a.tmps.size) (t : Tmp) : (a.put dst v').tmps.getD t undef = if dst = some t then v' else a.tmps.getD t undef := by
  cases dst with
  | none => simp [Act.put]
  | some d =>
    have := hd d rfl
    simp only [Act.put, Option.some.injEq]
    rw [Array.getD_eq_getD_getElem?, Array.getD_eq_getD_getElem?]
    by_cases e : d = t
    · subst e; simp [this]
    · rw [Array.getElem?_setIfInBounds_ne e, if_neg e]
/-- The temporaries, after operation i. -/
theorem Inv.put (h : Inv ops ms base S recs st φ0 H0 w0 φ G j L a w) (hr : Run P cl ops ms base S H recs st) {i : Nat} {o : Oper} (hn : Now ops L i o) {r : Rec} (hrc : recs[i]? = some r) {S1 : AAct} (hp : (st i).S.put o.dst r.v = some S1)
    {φ' : Emb} (hl : φ.le φ') {v' : Value} (hv : VR φ' r.v v') :
    (a.put o.dst v').tmps.size = S.sz ∧ DR φ' S.D (a.put o.dst v').defers ∧
    (∀ t, (∀ (k : Nat) (o' : Oper), on (L.setIfInBounds i true) k → ops[k]? = some o' → o'.dst ≠ some t) → VR φ' ((S.T.get t).getD undef) ((a.put o.dst v').tmps.getD t undef)) ∧
    (∀ (k : Nat) (o' : Oper) (r : Rec) (t : Tmp), on (L.setIfInBounds i true) k → ops[k]? = some o' → recs[k]? = some r → o'.dst = some t → VR φ' r.v ((a.put o.dst v').tmps.getD t undef)) := by
  have hin : i ≤ ops.size := by have := hn.lt; rw [h.size] at this; omega
  obtain ⟨-, -, hlt, -⟩ := put_facts hp
  have hd : ∀ d, o.dst = some d → d < a.tmps.size := fun d e => by rw [h.asz, ← (hr.sz i hin).1]; exact hlt d e
  refine ⟨?_, ?_, fun t ht => ?_, fun k o' r' t hk ho' hr' hd' => ?_⟩
  · have := h.asz
    cases o.dst <;> simp [Act.put, this]
  · have := h.dr.mono hl
    cases o.dst <;> exact this
  · rw [put_get hd, if_neg (ht i o ((on_set hn.lt).2 (.inl rfl)) hn.op)]
    exact (h.t0 t fun k o' hk ho' => ht k o' ((on_set hn.lt).2 (.inr hk)) ho').mono hl
  · rw [put_get hd]
    by_cases e : k = i
    · subst e
      rw [hn.op] at ho'; cases ho'
      rw [hrc] at hr'; cases hr'
      rw [if_pos hd']; exact hv
    · rw [if_neg fun hdo => e (hr.uniq k i o' o t ho' hn.op hd' hdo)]
      rcases (on_set hn.lt).1 hk with hk | hk
      · exact absurd hk e
      · exact (h.t1 k o' r' t hk ho' hr' hd').mono hl
theorem Inv.closed' (h : Inv ops ms base S recs st φ0 H0 w0 φ G j L a w) {i : Nat} {o : Oper} (hn : Now ops L i o) :
    ∀ (k : Nat) (o' : Oper), ops[k]? = some o' → on (L.setIfInBounds i true) k → ∀ e ∈ o'.after, Region.binds .any e = true → on (L.setIfInBounds i true) e.on := by
  intro k o' ho' hk e he hb
  rw [on_set hn.lt]
  rcases (on_set hn.lt).1 hk with rfl | hk
  · rw [hn.op] at ho'; cases ho'; exact .inr (hn.pre e he hb)
  · exact .inr (h.closed k o' ho' hk e he hb)
/-- An operation that leaves the heap alone. -/
theorem Inv.light (h : Inv ops ms base S recs st φ0 H0 w0 φ G j L a w) (hr : Run P cl ops ms base S H recs st) {i : Nat} {o : Oper} (hn : Now ops L i o) {r : Rec} (hrc : recs[i]? = some r) {S1 : AAct} (hp : (st i).S.put o.dst r.v = some S1)
    (hlt : heavyO o = false) (hob : r.ob = none) {v' : Value} (hv : VR φ r.v v') : Inv ops ms base S recs st φ0 H0 w0 φ G j (L.setIfInBounds i true) (a.put o.dst v') w := by
  obtain ⟨p1, p2, p3, p4⟩ := h.put hr hn hrc hp φ.le_refl hv
  refine ⟨by simp [h.size], h.rel, h.step, p1, p2, p3, p4, h.jn, fun k o' hk ho' hh => (on_set hn.lt).2 (.inr (h.lo k o' hk ho' hh)), fun k o' hk ho' hh hon => ?_, h.jj, h.next, h.big, h.sub, fun k r' ob hk hr' hob' => ?_, fun k hk hc => ?_, h.closed' hn⟩
  · rcases (on_set hn.lt).1 hon with rfl | hon
    · rw [hn.op] at ho'; cases ho'; rw [hlt] at hh; cases hh
    · exact h.hi k o' hk ho' hh hon
  · rcases (on_set hn.lt).1 hk with rfl | hk
    · rw [hrc] at hr'; cases hr'; rw [hob] at hob'; cases hob'
    · exact h.pend k r' ob hk hr' hob'
  · by_cases e : k = i
    · subst e; exact h.empty k hk (.inl hn.off)
    · exact h.empty k hk (hc.imp (fun hc hon => hc ((on_set hn.lt).2 (.inr hon))) id)
/-- An operation that makes an object. -/
theorem Inv.fresh (h : Inv ops ms base S recs st φ0 H0 w0 φ G j L a w) (hr : Run P cl ops ms base S H recs st) (hb : H0.next ≤ base) {i : Nat} {o : Oper} (hn : Now ops L i o) {r : Rec} (hrc : recs[i]? = some r) {S1 : AAct} (hp : (st i).S.put o.dst r.v = some S1)
    (hlt : heavyO o = false) {ob : AObj} (hob : r.ob = some ob) (hrw : ob.rw = true) {ob' : Obj} {p : Pl} (hpb : p.b = w.heap.size) {v' : Value} (hrel : ob.rel (φ.ext (base + i) p) p (w.alloc ob')) (hv : VR (φ.ext (base + i) p) r.v v') :
    Inv ops ms base S recs st φ0 H0 w0 (φ.ext (base + i) p) (G.put (base + i) ob) j (L.setIfInBounds i true) (a.put o.dst v') (w.alloc ob') := by
  have hin : i < ops.size := by have := hn.lt; rw [h.size] at this; omega
  have hf := h.empty i hin (.inl hn.off)
  have hle : φ.le (φ.ext (base + i) p) := Emb.le_ext hf
  obtain ⟨p1, p2, p3, p4⟩ := h.put hr hn hrc hp hle hv
  have hbig := h.big
  obtain ⟨q1, q2⟩ := h.rel.lay h.step (i := base + i) (by omega) (by omega) hf ob ob' p hpb hrw hrel
  have hno : (st j).H.get (base + i) = none := by
    cases e : (st j).H.get (base + i) with
    | none => rfl
    | some u =>
      obtain ⟨p', hp', -⟩ := h.rel.obj _ _ (h.sub _ _ e)
      rw [hf] at hp'; cases hp'
  refine ⟨by simp [h.size], q1, q2, p1, p2, p3, p4, h.jn, fun k o' hk ho' hh => (on_set hn.lt).2 (.inr (h.lo k o' hk ho' hh)), fun k o' hk ho' hh hon => ?_, h.jj, h.next, h.big, fun k u hu => ?_, fun k r' u hk hr' hob' hun => ?_, fun k hk hc => ?_, h.closed' hn⟩
  · rcases (on_set hn.lt).1 hon with rfl | hon
    · rw [hn.op] at ho'; cases ho'; rw [hlt] at hh; cases hh
    · exact h.hi k o' hk ho' hh hon
  · rw [AHeap.get_put, if_neg fun e => by subst e; rw [hno] at hu; cases hu]
    exact h.sub k u hu
  · by_cases e : k = i
    · subst e
      rw [hrc] at hr'; cases hr'; rw [hob] at hob'; cases hob'
      exact ⟨by rw [AHeap.get_put, if_pos rfl], hno, hrw⟩
    · rcases (on_set hn.lt).1 hk with hk | hk
      · exact absurd hk e
      · obtain ⟨g1, g2, g3⟩ := h.pend k r' u hk hr' hob' hun
        exact ⟨by rw [AHeap.get_put, if_neg (by omega)]; exact g1, g2, g3⟩
  · by_cases e : k = i
    · subst e
      rcases hc with hc | hc
      · exact absurd ((on_set hn.lt).2 (.inl rfl)) hc
      · have := hc r hrc; rw [hob] at this; cases this
    · rw [Emb.ext_ne (by omega)]
      exact h.empty k hk (hc.imp (fun hc hon => hc ((on_set hn.lt).2 (.inr hon))) id)
/-- What a writing operation finds. -/
theorem Inv.at (h : Inv ops ms base S recs st φ0 H0 w0 φ G j L a w) (hr : Run P cl ops ms base S H recs st) {i : Nat} {o : Oper} (hn : Now ops L i o) (hh : heavyO o = true) :
    j ≤ i ∧ (st i).H = (st j).H ∧ (∀ k u, (placeA ms base i (st i).pend (st i).H).get k = some u → G.get k = some u) := by
  have hin : i < ops.size := by have := hn.lt; rw [h.size] at this; omega
  have hji : j ≤ i := by
    rcases Nat.lt_or_ge i j with hlt | hge
    · exact absurd (h.lo i o hlt hn.op hh) hn.off
    · exact hge
  have hst : (st i).H = (st j).H := hr.still i hji (by omega) fun k o' h1 h2 ho' => by
    cases hk : heavyO o' with
    | false => rfl
    | true => exact absurd (h.ancNow hr hn (hr.chain k i o' o ho' hn.op hk hh h2)).2 (h.hi k o' h1 ho' hk)
  refine ⟨hji, hst, fun k u hu => ?_⟩
  rcases placeA_mem hu with ⟨x, hx, rfl, rfl, hanc⟩ | hu
  · obtain ⟨q1, ⟨r, q2, q3⟩, q4⟩ := hr.pend i (by omega) x hx
    exact (h.pend x.1 r x.2 (h.ancNow hr hn hanc).2 q2 q3 fun k' o' hk' => q4 k' o' (by omega)).1
  · rw [hst] at hu; exact h.sub k u hu
open Classical in
/-- An operation that writes. -/
theorem Inv.heavy (h : Inv ops ms base S recs st φ0 H0 w0 φ G j L a w) (hr : Run P cl ops ms base S H recs st) {i : Nat} {o : Oper} (hn : Now ops L i o) {r : Rec} (hrc : recs[i]? = some r) {S1 : AAct} (hp : (st i).S.put o.dst r.v = some S1)
    (hh : heavyO o = true) (hob : r.ob = none) {φ' : Emb} {w' : World} {v' : Value} (hv : VR φ' r.v v') (hR : Rel φ' (st (i + 1)).H w') (hS : Step φ (placeA ms base i (st i).pend (st i).H) w φ' (st (i + 1)).H w') :
    ∃ G', Inv ops ms base S recs st φ0 H0 w0 φ' G' (i + 1) (L.setIfInBounds i true) (a.put o.dst v') w' := by
  have hin : i < ops.size := by have := hn.lt; rw [h.size] at this; omega
  obtain ⟨hji, hst, hsub⟩ := h.at hr hn hh
  obtain ⟨p1, p2, p3, p4⟩ := h.put hr hn hrc hp hS.le hv
  have hnext : (placeA ms base i (st i).pend (st i).H).next = G.next := by rw [placeA_next, hst, h.next]
  let l : List (Nat × AObj) := (List.range ops.size).filterMap fun k =>
    if on L k ∧ ∀ (k' : Nat) (o : Oper), k' < i + 1 → ops[k']? = some o → heavyO o = true → ancA ms k k' = false then ((recs[k]?).bind (·.ob)).map fun ob => (k, ob) else none
  have hmem : ∀ x, x ∈ l ↔ on L x.1 ∧ (∀ (k' : Nat) (o : Oper), k' < i + 1 → ops[k']? = some o → heavyO o = true → ancA ms x.1 k' = false) ∧ ∃ r, recs[x.1]? = some r ∧ r.ob = some x.2 := by
    intro x
    simp only [l, List.mem_filterMap, List.mem_range]
    constructor
    · rintro ⟨k, hk, hx⟩
      split at hx
      · rename_i hc
        simp only [Option.map_eq_some_iff, Option.bind_eq_some_iff] at hx
        obtain ⟨ob, ⟨r', h1, h2⟩, rfl⟩ := hx
        exact ⟨hc.1, hc.2, r', h1, h2⟩
      · cases hx
    · rintro ⟨h1, h2, r', h3, h4⟩
      refine ⟨x.1, by rw [← hr.len]; exact (List.getElem?_eq_some_iff.1 h3).1, ?_⟩
      rw [if_pos ⟨h1, h2⟩, h3]
      simp [h4]
  have hl : ∀ x ∈ l, G.get (base + x.1) = some x.2 ∧ x.2.rw = true ∧ (placeA ms base i (st i).pend (st i).H).get (base + x.1) = none := by
    intro x hx
    obtain ⟨h1, h2, r', h3, h4⟩ := (hmem x).1 hx
    obtain ⟨g1, g2, g3⟩ := h.pend x.1 r' x.2 h1 h3 h4 fun k' o' hk' => h2 k' o' (by omega)
    refine ⟨g1, g3, ?_⟩
    cases e : (placeA ms base i (st i).pend (st i).H).get (base + x.1) with
    | none => rfl
    | some u =>
      rcases placeA_mem e with ⟨y, hy, hyx, -, hanc⟩ | e
      · have : y.1 = x.1 := by omega
        rw [this, h2 i o (by omega) hn.op hh] at hanc; cases hanc
      · rw [hst, g2] at e; cases e
  obtain ⟨f1, f2, f3⟩ := h.rel.frame hS hR hsub hnext hl
  refine ⟨landA base l (st (i + 1)).H, by simp [h.size], f1, h.step.trans f2, p1, p2, p3, p4, by omega, fun k o' hk ho' hhk => ?_, fun k o' hk ho' hhk hon => ?_, .inr ⟨o, by simpa using hn.op, hh⟩, landA_next .., ?_, fun k u hu => ?_, fun k r' u hk hr' hob' hun => ?_, fun k hk hc => ?_, h.closed' hn⟩
  · rw [on_set hn.lt]
    by_cases e : k = i
    · exact .inl e
    · exact .inr (h.ancNow hr hn (hr.chain k i o' o ho' hn.op hhk hh (by omega))).2
  · rcases (on_set hn.lt).1 hon with rfl | hon
    · omega
    · exact h.hi k o' (by omega) ho' hhk hon
  · rw [landA_next]
    have := hS.nxt
    have := h.big
    omega
  · rw [landA_out]
    · exact hu
    · rintro x hx rfl
      rw [f3 x hx] at hu; cases hu
  · rcases (on_set hn.lt).1 hk with rfl | hk
    · rw [hrc] at hr'; cases hr'; rw [hob] at hob'; cases hob'
    · have hx : (k, u) ∈ l := (hmem (k, u)).2 ⟨hk, hun, r', hr', hob'⟩
      refine ⟨landA_in (fun x hx y hy e => ?_) (k, u) hx, f3 (k, u) hx, (hl (k, u) hx).2.1⟩
      have e1 := (hl x hx).1
      have e2 := (hl y hy).1
      rw [e, e2] at e1
      exact (Option.some.inj e1).symm
  · have := h.big
    rw [hS.fix (base + k) (by omega)]
    refine h.empty k hk (hc.imp (fun hc hon => hc ((on_set hn.lt).2 (.inr hon))) id)
/-- What a reading operation finds. -/
theorem Inv.val (h : Inv ops ms base S recs st φ0 H0 w0 φ G j L a w) (hr : Run P cl ops ms base S H recs st) {i : Nat} {o : Oper} (hn : Now ops L i o) {r : Rec} (hrc : recs[i]? = some r) (hT : r.T = (st i).S.T)
    (hk : kindOf o.op = .val) (hw : wantedA ops (st i).S.T o = true) {Hf : AHeap} (hf : (st ops.size).H = Hf) (hsteady : steadyA P ops ms recs Hf i = true) (hv : valA P (ev (st i).S.T) (st i).H o.op = some r.v) : valA P (ev (st i).S.T) (st j).H o.op = some r.v := by
  have hin : i < ops.size := by have := hn.lt; rw [h.size] at this; omega
  have hlight : heavyO o = false := by unfold heavyO; rw [hk]; rfl
  cases hread : readsH o.op with
  | false => rw [← hv]; exact valA_H hread
  | true =>
    cases hl : looseA ops ms i with
    | false =>
      have hcmp : ∀ (k : Nat) (o' : Oper), ops[k]? = some o' → heavyO o' = true → k ≠ i → ancA ms k i = true ∨ ancA ms i k = true := by
        intro k o' ho' hh hne
        unfold looseA at hl
        rw [List.any_eq_false] at hl
        have := hl k (by simpa using (Array.getElem?_eq_some_iff.1 ho').1)
        rw [ho'] at this
        cases h1 : ancA ms k i with
        | true => exact .inl rfl
        | false =>
          cases h2 : ancA ms i k with
          | true => exact .inr rfl
          | false => simp [hh, h1, h2, Tr.beq_ff (Ne.symm hne)] at this
      have : (st j).H = (st i).H := by
        rcases Nat.le_total j i with hle | hle
        · refine (hr.still i hle (by omega) fun k o' h1 h2 ho' => ?_).symm
          cases hh : heavyO o' with
          | false => rfl
          | true =>
            rcases hcmp k o' ho' hh (by omega) with hc | hc
            · exact absurd (h.ancNow hr hn hc).2 (h.hi k o' h1 ho' hh)
            · have := (anc_closed hr.masks h.closed k i hc).1; omega
        · refine hr.still j hle h.jn fun k o' h1 h2 ho' => ?_
          cases hh : heavyO o' with
          | false => rfl
          | true =>
            have hne : k ≠ i := fun e => by subst e; rw [hn.op] at ho'; cases ho'; rw [hlight] at hh; cases hh
            rcases hcmp k o' ho' hh hne with hc | hc
            · have := (h.ancNow hr hn hc).1; omega
            · exact absurd (h.anc hr hc (h.lo k o' h2 ho' hh)) hn.off
      rw [this]; exact hv
    | true =>
      unfold steadyA at hsteady
      rw [hn.op, hrc] at hsteady
      simp only [hread, hl, Bool.and_self, if_true, hT, hw, hk] at hsteady
      rw [List.all_eq_true] at hsteady
      have hat : hAt recs Hf j = (st j).H := by
        unfold hAt
        rcases Nat.lt_or_ge j ops.size with hjn | hjn
        · obtain ⟨r', h1, h2, h3, -⟩ := hr.one j _ (Array.getElem?_eq_getElem hjn)
          rw [h1]; exact h3
        · have := h.jn
          have e : j = ops.size := by omega
          rw [List.getElem?_eq_none (by rw [hr.len]; exact hjn), e, hf]
      have hc := hsteady j (by
        unfold candsA
        rw [List.mem_filter]
        refine ⟨by have := h.jn; simp; omega, ?_⟩
        unfold candA
        rw [Bool.and_eq_true]
        constructor
        · rw [List.all_eq_true]
          intro k _
          cases ho' : ops[k]? with
          | none => simp
          | some o' =>
            cases hh : heavyO o' with
            | false => simp [hh]
            | true =>
              cases hjk : Nat.ble j k with
              | false => simp
              | true =>
                cases hc : ancA ms k i with
                | false => simp
                | true => exact absurd (h.ancNow hr hn hc).2 (h.hi k o' (Nat.le_of_ble_eq_true hjk) ho' hh)
        · rcases h.jj with rfl | ⟨o', ho', hh⟩
          · rfl
          · rw [Bool.or_eq_true]
            cases hj0 : Nat.beq j 0 with
            | true => exact .inl rfl
            | false =>
              right
              have hj0' : j ≠ 0 := fun e => by rw [e] at hj0; cases hj0
              rw [ho']
              simp only [Option.any_some, hh, Bool.true_and, Bool.not_eq_true']
              cases hc : ancA ms i (j - 1) with
              | false => rfl
              | true => exact absurd (h.anc hr hc (h.lo (j - 1) o' (by omega) ho' hh)) hn.off)
      rw [hat] at hc
      split at hc
      · rename_i v hv'
        rw [hv', sameV_eq hc]
      · cases hc
end
end Go.Abs
