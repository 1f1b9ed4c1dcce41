/- Regions without an order: what is known beforehand, and how objects are set aside. -/
import Derived.Test.YtmpiblpcdhgppaaGreatDoorZqSound2
namespace Go.Abs
variable {P : Program} {φ : Emb} {H : AHeap} {w : World}

/-! ### Parts of a heap -/
theorem Rel.sub {G : AHeap} (h : Rel φ G w) (hs : ∀ i o, H.get i = some o → G.get i = some o) (hn : G.next ≤ H.next) : Rel φ H w := {
  obj := fun i o e => h.obj i o (hs i o e)
  apart := fun i j o u p q e f => h.apart i j o u p q (hs i o e) (hs j u f)
  fresh := fun i hi => h.fresh i (Nat.le_trans hn hi)
  lt := h.lt }
theorem Step.sub {φ0 : Emb} {H0 G : AHeap} {w0 : World} (h : Step φ0 H0 w0 φ G w) (hs : ∀ i o, H.get i = some o → G.get i = some o) (hn : G.next ≤ H.next) : Step φ0 H0 w0 φ H w := {
  le := h.le
  os := h.os
  tape := h.tape
  output := h.output
  size := h.size
  keep := h.keep
  foot := fun k hk => let ⟨i, o, p, e, r, f, g⟩ := hk; h.foot k ⟨i, o, p, hs i o e, r, f, g⟩
  fix := h.fix
  nxt := Nat.le_trans h.nxt hn
  ro := fun i o hr e => h.ro i o hr (hs _ _ e) }
theorem Step.bump (φ : Emb) (H : AHeap) (w : World) (n : Nat) : Step φ H w φ { H with next := H.next + n } w :=
  (Step.refl φ H w).sub (fun _ _ h => h) (Nat.le_add_right _ _)

theorem landA_next (base : Nat) : ∀ (l : List (Nat × AObj)) (H : AHeap), (landA base l H).next = H.next
  | [], _ => rfl
  | _ :: l, H => landA_next base l H
theorem landA_mem {base : Nat} : ∀ {l : List (Nat × AObj)} {H : AHeap} {i : Nat} {o : AObj}, (landA base l H).get i = some o → (∃ x ∈ l, base + x.1 = i ∧ x.2 = o) ∨ H.get i = some o
  | [], _, _, _, h => .inr h
  | x :: l, H, i, o, h => by
    rw [landA, AHeap.get_put] at h
    split at h
    · rename_i e; cases h; exact .inl ⟨x, by simp, e, rfl⟩
    · rcases landA_mem h with ⟨y, hy, e⟩ | h
      · exact .inl ⟨y, by simp [hy], e⟩
      · exact .inr h
theorem landA_out {base : Nat} : ∀ {l : List (Nat × AObj)} {H : AHeap} {i : Nat}, (∀ x ∈ l, base + x.1 ≠ i) → (landA base l H).get i = H.get i
  | [], _, _, _ => rfl
  | x :: l, H, i, h => by
    rw [landA, AHeap.get_put, if_neg (h x (by simp))]
    exact landA_out fun y hy => h y (by simp [hy])
theorem landA_in {base : Nat} : ∀ {l : List (Nat × AObj)} {H : AHeap}, (∀ x ∈ l, ∀ y ∈ l, x.1 = y.1 → x.2 = y.2) → ∀ x ∈ l, (landA base l H).get (base + x.1) = some x.2
  | [], _, _, x, hx => by cases hx
  | y :: l, H, hf, x, hx => by
    rw [landA, AHeap.get_put]
    by_cases e : base + y.1 = base + x.1
    · rw [if_pos e, hf y (by simp) x hx (by omega)]
    · rw [if_neg e]
      rcases List.mem_cons.1 hx with rfl | hx
      · exact absurd rfl e
      · exact landA_in (fun a ha b hb => hf a (by simp [ha]) b (by simp [hb])) x hx
theorem placeA_next (ms : List Nat) (base k : Nat) : ∀ (l : List (Nat × AObj)) (H : AHeap), (placeA ms base k l H).next = H.next
  | [], _ => rfl
  | x :: l, H => by
    rw [placeA]; split
    · exact placeA_next ms base k l H
    · exact placeA_next ms base k l H
theorem placeA_mem {ms : List Nat} {base k : Nat} : ∀ {l : List (Nat × AObj)} {H : AHeap} {i : Nat} {o : AObj}, (placeA ms base k l H).get i = some o →
    (∃ x ∈ l, base + x.1 = i ∧ x.2 = o ∧ ancA ms x.1 k = true) ∨ H.get i = some o
  | [], _, _, _, h => .inr h
  | x :: l, H, i, o, h => by
    rw [placeA] at h
    split at h
    · rename_i ha
      rw [AHeap.get_put] at h
      split at h
      · rename_i e; cases h; exact .inl ⟨x, by simp, e, rfl, ha⟩
      · rcases placeA_mem h with ⟨y, hy, e⟩ | h
        · exact .inl ⟨y, by simp [hy], e⟩
        · exact .inr h
    · rcases placeA_mem h with ⟨y, hy, e⟩ | h
      · exact .inl ⟨y, by simp [hy], e⟩
      · exact .inr h

/-- What stands aside while something runs, stays. -/
theorem Rel.frame {φ' : Emb} {G H1 H2 : AHeap} {w' : World} {base : Nat} {l : List (Nat × AObj)} (hG : Rel φ G w) (hS : Step φ H1 w φ' H2 w') (hR : Rel φ' H2 w') (hsub : ∀ i o, H1.get i = some o → G.get i = some o)
    (hn : H1.next = G.next) (hl : ∀ x ∈ l, G.get (base + x.1) = some x.2 ∧ x.2.rw = true ∧ H1.get (base + x.1) = none) :
    Rel φ' (landA base l H2) w' ∧ Step φ G w φ' (landA base l H2) w' ∧ ∀ x ∈ l, H2.get (base + x.1) = none := by
  have hlt : ∀ i o, G.get i = some o → i < G.next := fun i o e => by
    obtain ⟨p, hp, -⟩ := hG.obj i o e
    rcases Nat.lt_or_ge i G.next with h | h
    · exact h
    · rw [hG.fresh i h] at hp; cases hp
  have hfix : ∀ i o, G.get i = some o → φ' i = φ i := fun i o e => hS.fix i (by rw [hn]; exact hlt i o e)
  -- no object behind is in the way
  have key : ∀ x ∈ l, ∀ p, φ (base + x.1) = some p → ∀ i o q, H2.get i = some o → φ' i = some q → i ≠ base + x.1 → q.b ≠ p.b := by
    intro x hx p hp i o q hi hq hne hb
    obtain ⟨h1, h2, h3⟩ := hl x hx
    cases hrw : o.rw with
    | true =>
      rcases hS.foot q.b ⟨i, o, q, hi, hrw, hq, rfl⟩ with ⟨j, u, p', e, r, f, g⟩ | hbig
      · have hj : j ≠ base + x.1 := fun e' => by rw [e', h3] at e; cases e
        exact hG.apart j (base + x.1) u x.2 p' p (hsub j u e) h1 hj r f hp (by rw [g, hb])
      · have := hG.lt _ _ hp; omega
    | false =>
      have e := hS.ro i o hrw hi
      have e2 := hsub _ _ e
      have hq' : φ i = some q := by rw [← hfix i _ e2]; exact hq
      exact hG.apart (base + x.1) i x.2 _ p q h1 e2 (Ne.symm hne) h2 hp hq' hb.symm
  have gone : ∀ x ∈ l, H2.get (base + x.1) = none := by
    intro x hx
    cases e : H2.get (base + x.1) with
    | none => rfl
    | some o =>
      exfalso
      obtain ⟨h1, h2, h3⟩ := hl x hx
      obtain ⟨p, hp, -⟩ := hG.obj _ _ h1
      have hp' : φ' (base + x.1) = some p := by rw [hfix _ _ h1]; exact hp
      cases hrw : o.rw with
      | true =>
        rcases hS.foot p.b ⟨_, o, p, e, hrw, hp', rfl⟩ with ⟨j, u, p', e, r, f, g⟩ | hbig
        · have hj : j ≠ base + x.1 := fun e' => by rw [e', h3] at e; cases e
          exact hG.apart j (base + x.1) u x.2 p' p (hsub j u e) h1 hj r f hp g
        · have := hG.lt _ _ hp; omega
      | false =>
        have e := hS.ro _ o hrw e
        rw [h3] at e; cases e
  refine ⟨⟨fun i o e => ?_, fun i j o u p q e f hne hrw hp hq => ?_, fun i hi => hR.fresh i (by rw [landA_next] at hi; exact hi), hR.lt⟩,
    ⟨hS.le, hS.os, hS.tape, hS.output, hS.size, fun k hk hf => hS.keep k hk fun ⟨i, o, p, e, r, f, g⟩ => hf ⟨i, o, p, hsub i o e, r, f, g⟩, fun k hk => ?_, fun i hi => hS.fix i (by rw [hn]; exact hi), by rw [landA_next, ← hn]; exact hS.nxt, fun i vs hro e => ?_⟩, gone⟩
  · rcases landA_mem e with ⟨x, hx, rfl, rfl⟩ | e
    · obtain ⟨h1, h2, h3⟩ := hl x hx
      obtain ⟨p, hp, hr⟩ := hG.obj _ _ h1
      refine ⟨p, by rw [hfix _ _ h1]; exact hp, AObj.rel_mono hS.le (hS.keep _ (hG.lt _ _ hp) ?_) hr⟩
      rintro ⟨j, u, p', e, r, f, g⟩
      have hj : j ≠ base + x.1 := fun e' => by rw [e', h3] at e; cases e
      exact hG.apart j (base + x.1) u x.2 p' p (hsub j u e) h1 hj r f hp g
    · exact hR.obj i o e
  · rcases landA_mem e with ⟨x, hx, rfl, rfl⟩ | e <;> rcases landA_mem f with ⟨y, hy, rfl, rfl⟩ | f
    · obtain ⟨h1, h2, h3⟩ := hl x hx
      obtain ⟨k1, k2, k3⟩ := hl y hy
      exact hG.apart _ _ _ _ p q h1 k1 hne hrw (by rw [← hfix _ _ h1]; exact hp) (by rw [← hfix _ _ k1]; exact hq)
    · obtain ⟨h1, h2, h3⟩ := hl x hx
      exact fun hb => key x hx p (by rw [← hfix _ _ h1]; exact hp) j u q f hq (Ne.symm hne) hb.symm
    · obtain ⟨h1, h2, h3⟩ := hl y hy
      exact key y hy q (by rw [← hfix _ _ h1]; exact hq) i o p e hp hne
    · exact hR.apart i j o u p q e f hne hrw hp hq
  · obtain ⟨i, o, p, e, r, f, g⟩ := hk
    rcases landA_mem e with ⟨x, hx, rfl, rfl⟩ | e
    · obtain ⟨h1, h2, h3⟩ := hl x hx
      exact .inl ⟨_, _, p, h1, h2, by rw [← hfix _ _ h1]; exact f, g⟩
    · rcases hS.foot k ⟨i, o, p, e, r, f, g⟩ with ⟨j, u, p', e, r, f, g⟩ | h
      · exact .inl ⟨j, u, p', hsub j u e, r, f, g⟩
      · exact .inr h
  · rcases landA_mem e with ⟨x, hx, rfl, h⟩ | e
    · obtain ⟨h1, h2, h3⟩ := hl x hx
      rw [h] at h1; exact h1
    · exact hsub _ _ (hS.ro i vs hro e)

/-- A new block at a number kept for it. -/
theorem Rel.lay {φ0 : Emb} {H0 : AHeap} {w0 : World} (h : Rel φ H w) (hst : Step φ0 H0 w0 φ H w) {i : Nat} (hi0 : H0.next ≤ i) (hi : i < H.next) (hf : φ i = none) (o : AObj) (ob : Obj) (p : Pl) (hp : p.b = w.heap.size) (hrw : o.rw = true)
    (ho : o.rel (φ.ext i p) p (w.alloc ob)) : Rel (φ.ext i p) (H.put i o) (w.alloc ob) ∧ Step φ0 H0 w0 (φ.ext i p) (H.put i o) (w.alloc ob) := by
  have hl : φ.le (φ.ext i p) := Emb.le_ext hf
  have old : ∀ i q, φ i = some q → (w.alloc ob).heap[q.b]? = w.heap[q.b]? := fun i q e => heap_alloc_old w ob q.b (h.lt i q e)
  refine ⟨⟨fun j u e => ?_, fun j k u v q q' e f hne hrw hq hq' => ?_, fun j hj => ?_, fun j q e => ?_⟩,
    ⟨Emb.le_trans hst.le hl, hst.os, hst.tape, hst.output, Nat.le_trans hst.size (by simp), fun k hk hf => (heap_alloc_old w ob k (Nat.lt_of_lt_of_le hk hst.size)).trans (hst.keep k hk hf), fun k hk => ?_, fun j hj => (Emb.ext_ne (by omega)).trans (hst.fix j hj), hst.nxt, fun j vs hro e => ?_⟩⟩
  · rw [AHeap.get_put] at e
    split at e
    · rename_i he; cases e; subst he; exact ⟨p, Emb.ext_self, ho⟩
    · rename_i he
      obtain ⟨q, hq, hr⟩ := h.obj j u e
      exact ⟨q, hl _ _ hq, AObj.rel_mono hl (old j q hq) hr⟩
  · rw [AHeap.get_put] at e f
    split at e
    · rename_i he; subst he
      rw [Emb.ext_self] at hq; cases hq
      split at f
      · rename_i hk; exact absurd hk hne
      · rename_i hk; rw [Emb.ext_ne (Ne.symm hk)] at hq'; have := h.lt _ _ hq'; omega
    · rename_i he; rw [Emb.ext_ne (Ne.symm he)] at hq
      split at f
      · rename_i hk; subst hk; rw [Emb.ext_self] at hq'; cases hq'; have := h.lt _ _ hq; omega
      · rename_i hk; rw [Emb.ext_ne (Ne.symm hk)] at hq'; exact h.apart j k u v q q' e f hne hrw hq hq'
  · have : (H.put i o).next = H.next := rfl
    rw [this] at hj
    rw [Emb.ext_ne (by omega)]; exact h.fresh j hj
  · unfold Emb.ext at e
    split at e
    · cases e; simp; omega
    · have := h.lt _ _ e; simp; omega
  · obtain ⟨j, u, q, e, r, f, g⟩ := hk
    rw [AHeap.get_put] at e
    split at e
    · rename_i he; subst he; rw [Emb.ext_self] at f; cases f; right; have := hst.size; omega
    · rename_i he; rw [Emb.ext_ne (Ne.symm he)] at f; exact hst.foot k ⟨j, u, q, e, r, f, g⟩
  · rw [AHeap.get_put] at e
    split at e
    · cases e; rw [hrw] at hro; cases hro
    · exact hst.ro j vs hro e

/-! ### Masks -/
theorem maskOf_bit {ms : List Nat} : ∀ {es : List Edge} {m k : Nat}, maskOf ms es = some m → Nat.testBit m k = true →
    ∃ e ∈ es, Region.binds .any e = true ∧ e.on < ms.length ∧ (k = e.on ∨ Nat.testBit (ms.getD e.on 0) k = true)
  | [], m, k, h, hb => by simp only [maskOf, Option.some.injEq] at h; subst h; simp at hb
  | e :: es, m, k, h, hb => by
    simp only [maskOf, Option.bind_eq_some_iff] at h
    obtain ⟨m0, h0, h⟩ := h
    split at h
    · rename_i hbd
      simp only [Option.map_eq_some_iff] at h
      obtain ⟨a, ha, rfl⟩ := h
      have hlt : e.on < ms.length := (List.getElem?_eq_some_iff.1 ha).1
      simp only [Nat.testBit_or, Bool.or_eq_true] at hb
      rcases hb with hb | hb | hb
      · obtain ⟨e', he, q⟩ := maskOf_bit h0 hb
        exact ⟨e', by simp [he], q⟩
      · exact ⟨e, by simp, hbd, hlt, .inr (by rw [List.getD_eq_getElem?_getD, ha]; exact hb)⟩
      · refine ⟨e, by simp, hbd, hlt, .inl ?_⟩
        rw [Nat.one_shiftLeft, Nat.testBit_two_pow] at hb
        simpa using (of_decide_eq_true hb).symm
    · simp only [Option.some.injEq] at h
      subst h
      obtain ⟨e', he, q⟩ := maskOf_bit h0 hb
      exact ⟨e', by simp [he], q⟩
theorem masksA_bit : ∀ (os pre : List Oper) (ms0 ms : List Nat), ms0.length = pre.length →
    (∀ i k, Nat.testBit (ms0.getD i 0) k = true → ∃ o, pre[i]? = some o ∧ ∃ e ∈ o.after.toList, Region.binds .any e = true ∧ e.on < i ∧ (k = e.on ∨ Nat.testBit (ms0.getD e.on 0) k = true)) →
    masksA os ms0 = some ms →
    (∀ i k, Nat.testBit (ms.getD i 0) k = true → ∃ o, (pre ++ os)[i]? = some o ∧ ∃ e ∈ o.after.toList, Region.binds .any e = true ∧ e.on < i ∧ (k = e.on ∨ Nat.testBit (ms.getD e.on 0) k = true)) := by
  intro os
  induction os with
  | nil =>
    intro pre ms0 ms _ h0 h
    simp only [masksA, Option.some.injEq] at h; subst h
    simpa using h0
  | cons o os ih =>
    intro pre ms0 ms hlen h0 h
    simp only [masksA, Option.bind_eq_some_iff] at h
    obtain ⟨m, hm, h⟩ := h
    have := ih (pre ++ [o]) (ms0 ++ [m]) ms (by simp [hlen]) ?_ h
    · simpa using this
    · intro i k hb
      rw [List.getD_eq_getElem?_getD, List.getElem?_append] at hb
      split at hb
      · rename_i hi
        rw [← List.getD_eq_getElem?_getD] at hb
        obtain ⟨o', ho, e, he, q1, q2, q3⟩ := h0 i k hb
        refine ⟨o', by rw [List.getElem?_append_left (by omega)]; exact ho, e, he, q1, q2, ?_⟩
        rw [List.getD_eq_getElem?_getD, List.getElem?_append_left (by omega), ← List.getD_eq_getElem?_getD]; exact q3
      · rename_i hi
        by_cases e0 : i = ms0.length
        · subst e0
          simp at hb
          obtain ⟨e, he, q1, q2, q3⟩ := maskOf_bit hm hb
          refine ⟨o, by rw [hlen, List.getElem?_append_right (Nat.le_refl _)]; simp, e, he, q1, q2, ?_⟩
          rw [List.getD_eq_getElem?_getD, List.getElem?_append_left q2, ← List.getD_eq_getElem?_getD]; exact q3
        · rw [List.getElem?_eq_none (by simp; omega)] at hb; simp at hb
/-- Ancestors are listed before. -/
theorem anc_closed {ops : Array Oper} {ms : List Nat} (hm : masksA ops.toList [] = some ms) {L : Nat → Prop} (hL : ∀ i o, ops[i]? = some o → L i → ∀ e ∈ o.after, Region.binds .any e = true → L e.on) :
    ∀ i k, ancA ms k i = true → k < i ∧ (L i → L k) := by
  have h := masksA_bit ops.toList [] [] ms rfl (by intro i k hb; simp at hb) hm
  intro i
  induction i using Nat.strongRecOn with
  | _ i ih =>
    intro k hk
    obtain ⟨o, ho, e, he, q1, q2, q3⟩ := h i k hk
    simp only [List.nil_append, Array.getElem?_toList] at ho
    rcases q3 with rfl | q3
    · exact ⟨q2, fun hi => hL i o ho hi e (by simpa using he) q1⟩
    · obtain ⟨h1, h2⟩ := ih e.on q2 k q3
      exact ⟨by omega, fun hi => h2 (hL i o ho hi e (by simpa using he) q1)⟩
end Go.Abs
