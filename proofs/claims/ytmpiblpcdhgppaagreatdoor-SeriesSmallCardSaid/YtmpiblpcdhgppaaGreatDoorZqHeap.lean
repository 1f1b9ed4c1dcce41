/- How a relation of an abstract heap and a world lives on over what the machine does to a world. -/
import Derived.Test.YtmpiblpcdhgppaaGreatDoorZqBase
import Derived.Laws.World
import Derived.Laws.NewBlocks
import Derived.Laws.Tables
import Derived.RangeFuncRecord
namespace Go.Abs

theorem TR.mono {φ ψ : Emb} (hl : φ.le ψ) {T : Tr Value} {sz : Nat} {ts : Array Value} (h : TR φ T sz ts) : TR ψ T sz ts := ⟨h.1, fun t => (h.2 t).mono hl⟩
theorem MR.mono {φ ψ : Emb} (hl : φ.le ψ) : ∀ {es : List (Value × Value)} {ms : List MapEntry}, MR φ es ms → MR ψ es ms
  | [], [], _ => trivial
  | _ :: _, _ :: _, h => ⟨h.1.mono hl, h.2.1.mono hl, MR.mono hl h.2.2⟩
  | [], _ :: _, h => h
  | _ :: _, [], h => h
theorem PMR.mono {φ ψ : Emb} (hl : φ.le ψ) {es : List (Value × Value)} {ms : List MapEntry} (h : PMR φ es ms) : PMR ψ es ms :=
  let ⟨l, h1, h2⟩ := h; ⟨l, h1, MR.mono hl h2⟩
theorem AObj.rel_mono {φ ψ : Emb} (hl : φ.le ψ) {o : AObj} {p : Pl} {w w' : World} (hb : w'.heap[p.b]? = w.heap[p.b]?) (h : o.rel φ p w) : o.rel ψ p w' := by
  cases o with
  | cells vs ro =>
    obtain ⟨c, e, fr, h1, h2, h3, h4, h5⟩ := h
    exact ⟨c, e, fr, hb.trans h1, h2, h3, fun j v hj => let ⟨v', a, b⟩ := h4 j v hj; ⟨v', a, b.mono hl⟩, h5⟩
  | map es ro => obtain ⟨es', cl, h1, h2⟩ := h; exact ⟨es', cl, hb.trans h1, h2.mono hl⟩
  | loop st pend ps asg body T sz => obtain ⟨l, h1, h2, h3, h4, h5, h6, h7⟩ := h; exact ⟨l, hb.trans h1, h2, h3, h4, h5, h6, h7.mono hl⟩
  | deferred => exact hb.trans h

/-- φ with one number more. -/
def Emb.ext (φ : Emb) (i : Nat) (p : Pl) : Emb := fun j => if j = i then some p else φ j
theorem Emb.le_ext {φ : Emb} {i : Nat} {p : Pl} (h : φ i = none) : φ.le (φ.ext i p) := fun j q e => by
  unfold Emb.ext; split
  · rename_i he; subst he; rw [h] at e; cases e
  · exact e
theorem Emb.ext_self {φ : Emb} {i : Nat} {p : Pl} : φ.ext i p i = some p := by simp [Emb.ext]
theorem Emb.ext_ne {φ : Emb} {i j : Nat} {p : Pl} (h : j ≠ i) : φ.ext i p j = φ j := by simp [Emb.ext, h]

theorem Rel.drop {φ : Emb} {H : AHeap} {w : World} (h : Rel φ H w) (i : Nat) : Rel φ (H.drop i) w := {
  obj := fun j o e => by
    rw [AHeap.get_drop] at e; split at e
    · cases e
    · exact h.obj j o e
  apart := fun j k o u p q e f => by
    rw [AHeap.get_drop] at e f; split at e
    · cases e
    · split at f
      · cases f
      · exact h.apart j k o u p q e f
  fresh := h.fresh
  lt := h.lt }
theorem Step.drop (φ : Emb) (H : AHeap) (w : World) (i : Nat) : Step φ H w φ (H.drop i) w := {
  le := φ.le_refl
  os := rfl
  tape := rfl
  output := rfl
  size := Nat.le_refl _
  keep := fun _ _ _ => rfl
  foot := fun k hk => by
    obtain ⟨j, o, p, e, r, f, g⟩ := hk
    rw [AHeap.get_drop] at e; split at e
    · cases e
    · exact .inl ⟨j, o, p, e, r, f, g⟩
  fix := fun _ _ => rfl
  nxt := Nat.le_refl _
  ro := fun j vs hro e => by
    rw [AHeap.get_drop] at e; split at e
    · cases e
    · exact e }

/-- A new block, its object at the next number. -/
theorem Rel.alloc {φ : Emb} {H : AHeap} {w : World} (h : Rel φ H w) (o : AObj) (ob : Obj) (p : Pl) (hp : p.b = w.heap.size) (hrw : o.rw = true)
    (ho : o.rel (φ.ext H.next p) p (w.alloc ob)) : Rel (φ.ext H.next p) (H.alloc o) (w.alloc ob) ∧ Step φ H w (φ.ext H.next p) (H.alloc o) (w.alloc ob) := by
  have hf : φ H.next = none := h.fresh _ (Nat.le_refl _)
  have hl : φ.le (φ.ext H.next p) := Emb.le_ext hf
  have old : ∀ i q, φ i = some q → (w.alloc ob).heap[q.b]? = w.heap[q.b]? := fun i q e => heap_alloc_old w ob q.b (h.lt i q e)
  refine ⟨⟨fun j u e => ?_, fun j k u v q q' e f hne hrw hq hq' => ?_, fun j hj => ?_, fun j q e => ?_⟩,
    ⟨hl, rfl, rfl, rfl, by simp, fun k hk _ => heap_alloc_old w ob k hk, fun k hk => ?_, fun j hj => Emb.ext_ne (by omega), by rw [AHeap.next_alloc]; omega, fun j vs hro e => ?_⟩⟩
  · rw [AHeap.get_alloc] at e
    split at e
    · rename_i he; cases e; subst he; exact ⟨p, Emb.ext_self, ho⟩
    · rename_i he
      obtain ⟨q, hq, hr⟩ := h.obj j u e
      exact ⟨q, hl _ _ hq, AObj.rel_mono hl (old j q hq) hr⟩
  · rw [AHeap.get_alloc] at e f
    split at e
    · rename_i he; subst he
      rw [Emb.ext_self] at hq; cases hq
      split at f
      · rename_i hk; exact absurd hk hne
      · rename_i hk; rw [Emb.ext_ne (Ne.symm hk)] at hq'; have := h.lt _ _ hq'; omega
    · rename_i he; rw [Emb.ext_ne (Ne.symm he)] at hq
      split at f
      · rename_i hk; subst hk; rw [Emb.ext_self] at hq'; cases hq'; have := h.lt _ _ hq; omega
      · rename_i hk; rw [Emb.ext_ne (Ne.symm hk)] at hq'; exact h.apart j k u v q q' e f hne hrw hq hq'
  · rw [AHeap.next_alloc] at hj
    rw [Emb.ext_ne (by omega)]; exact h.fresh j (by omega)
  · unfold Emb.ext at e
    split at e
    · cases e; simp; omega
    · have := h.lt _ _ e; simp; omega
  · obtain ⟨j, u, q, e, r, f, g⟩ := hk
    rw [AHeap.get_alloc] at e
    split at e
    · rename_i he; subst he; rw [Emb.ext_self] at f; cases f; right; omega
    · rename_i he; rw [Emb.ext_ne (Ne.symm he)] at f; exact .inl ⟨j, u, q, e, r, f, g⟩
  · rw [AHeap.get_alloc] at e
    split at e
    · cases e; rw [hrw] at hro; cases hro
    · exact e

/-- One object's block is written. -/
theorem Rel.upd {φ : Emb} {H : AHeap} {w w' : World} (h : Rel φ H w) {i : Nat} {o : AObj} {p : Pl} (hi : H.get i = some o) (hrw : o.rw = true) (hp : φ i = some p) (o' : AObj) (hrw' : o'.rw = true)
    (hos : w'.os = w.os) (ht : w'.tape = w.tape) (hout : w'.output = w.output) (hs : w'.heap.size = w.heap.size) (hk : ∀ k, k ≠ p.b → w'.heap[k]? = w.heap[k]?)
    (ho : o'.rel φ p w') : Rel φ (H.put i o') w' ∧ Step φ H w φ (H.put i o') w' := by
  refine ⟨⟨fun j u e => ?_, fun j k u v q q' e f hne hr hq hq' => ?_, fun j hj => h.fresh j hj, fun j q e => by rw [hs]; exact h.lt j q e⟩,
    ⟨φ.le_refl, hos, ht, hout, Nat.le_of_eq hs.symm, fun k _ hf => hk k fun e => hf ⟨i, o, p, hi, hrw, hp, e.symm⟩, fun k hk => ?_, fun _ _ => rfl, Nat.le_refl _, fun j vs hro e => ?_⟩⟩
  · rw [AHeap.get_put] at e
    split at e
    · rename_i he; cases e; subst he; exact ⟨p, hp, ho⟩
    · rename_i he
      obtain ⟨q, hq, hr⟩ := h.obj j u e
      exact ⟨q, hq, AObj.rel_mono φ.le_refl (hk q.b fun e' => h.apart i j o u p q hi e he hrw hp hq e'.symm) hr⟩
  · rw [AHeap.get_put] at e f
    split at e
    · rename_i he; subst he
      split at f
      · rename_i hk; exact absurd hk hne
      · exact h.apart i k o v q q' hi f hne hrw hq hq'
    · split at f
      · rename_i he hk; subst hk; exact h.apart j i u o q q' e hi hne hr hq hq'
      · exact h.apart j k u v q q' e f hne hr hq hq'
  · obtain ⟨j, u, q, e, r, f, g⟩ := hk
    rw [AHeap.get_put] at e
    split at e
    · rename_i he; subst he; exact .inl ⟨i, o, q, hi, hrw, f, g⟩
    · exact .inl ⟨j, u, q, e, r, f, g⟩
  · rw [AHeap.get_put] at e
    split at e
    · cases e; rw [hrw'] at hro; cases hro
    · exact e

/-- An object dies, and what its block becomes is at the next number. -/
theorem Rel.move {φ : Emb} {H : AHeap} {w w' : World} (h : Rel φ H w) {i : Nat} {o : AObj} {p : Pl} (hi : H.get i = some o) (hrw : o.rw = true) (hp : φ i = some p) (o' : AObj) (hrw' : o'.rw = true) (p' : Pl) (hb : p'.b = p.b)
    (hos : w'.os = w.os) (ht : w'.tape = w.tape) (hout : w'.output = w.output) (hs : w'.heap.size = w.heap.size) (hk : ∀ k, k ≠ p.b → w'.heap[k]? = w.heap[k]?)
    (ho : o'.rel (φ.ext H.next p') p' w') : Rel (φ.ext H.next p') ((H.drop i).alloc o') w' ∧ Step φ H w (φ.ext H.next p') ((H.drop i).alloc o') w' := by
  have hf : φ H.next = none := h.fresh _ (Nat.le_refl _)
  have hl : φ.le (φ.ext H.next p') := Emb.le_ext hf
  have hin : i ≠ H.next := fun e => by rw [e] at hp; rw [hf] at hp; cases hp
  refine ⟨⟨fun j u e => ?_, fun j k u v q q' e f hne hr hq hq' => ?_, fun j hj => ?_, fun j q e => ?_⟩,
    ⟨hl, hos, ht, hout, Nat.le_of_eq hs.symm, fun k _ hf => hk k fun e => hf ⟨i, o, p, hi, hrw, hp, e.symm⟩, fun k hk => ?_, fun j hj => Emb.ext_ne (by omega), by rw [AHeap.next_alloc, AHeap.next_drop]; omega, fun j vs hro e => ?_⟩⟩
  · rw [AHeap.get_alloc] at e
    split at e
    · rename_i he; cases e; exact ⟨p', by rw [← he]; exact Emb.ext_self, ho⟩
    · rw [AHeap.get_drop] at e
      split at e
      · cases e
      · rename_i he
        obtain ⟨q, hq, hr⟩ := h.obj j u e
        exact ⟨q, hl _ _ hq, AObj.rel_mono hl (hk q.b fun e' => h.apart i j o u p q hi e he hrw hp hq e'.symm) hr⟩
  · rw [AHeap.get_alloc] at e f
    have hn : (H.drop i).next = H.next := rfl
    rw [hn] at e f
    split at e
    · rename_i he; subst he
      rw [Emb.ext_self] at hq; cases hq
      split at f
      · rename_i hk; exact absurd hk hne
      · rename_i hk
        rw [AHeap.get_drop] at f
        split at f
        · cases f
        · rename_i hik
          rw [Emb.ext_ne (Ne.symm hk)] at hq'
          rw [hb]; exact h.apart i k o v p q' hi f hik hrw hp hq'
    · rename_i he; rw [Emb.ext_ne (Ne.symm he)] at hq
      rw [AHeap.get_drop] at e
      split at e
      · cases e
      · rename_i hij
        split at f
        · rename_i hk; subst hk; rw [Emb.ext_self] at hq'; cases hq'
          rw [hb]; exact h.apart j i u o q p e hi (Ne.symm hij) hr hq hp
        · rename_i hk
          rw [AHeap.get_drop] at f
          split at f
          · cases f
          · rw [Emb.ext_ne (Ne.symm hk)] at hq'; exact h.apart j k u v q q' e f hne hr hq hq'
  · rw [AHeap.next_alloc, AHeap.next_drop] at hj
    rw [Emb.ext_ne (by omega)]; exact h.fresh j (by omega)
  · unfold Emb.ext at e
    split at e
    · cases e; rw [hs, hb]; exact h.lt _ _ hp
    · rw [hs]; exact h.lt _ _ e
  · obtain ⟨j, u, q, e, r, f, g⟩ := hk
    rw [AHeap.get_alloc] at e
    have hn : (H.drop i).next = H.next := rfl
    rw [hn] at e
    split at e
    · rename_i he; subst he; rw [Emb.ext_self] at f; cases f
      exact .inl ⟨i, o, p, hi, hrw, hp, by rw [← hb]; exact g⟩
    · rename_i he; rw [Emb.ext_ne (Ne.symm he)] at f
      rw [AHeap.get_drop] at e
      split at e
      · cases e
      · exact .inl ⟨j, u, q, e, r, f, g⟩
  · rw [AHeap.get_alloc] at e
    split at e
    · cases e; rw [hrw'] at hro; cases hro
    · rw [AHeap.get_drop] at e
      split at e
      · cases e
      · exact e

/-- An order has been drawn. -/
theorem Rel.heap_eq {φ : Emb} {H : AHeap} {w w' : World} (h : Rel φ H w) (e : w'.heap = w.heap) : Rel φ H w' := {
  obj := fun i o hi => let ⟨p, hp, hr⟩ := h.obj i o hi; ⟨p, hp, AObj.rel_mono φ.le_refl (by rw [e]) hr⟩
  apart := h.apart
  fresh := h.fresh
  lt := fun i p hp => by rw [e]; exact h.lt i p hp }
theorem Step.heap_eq (φ : Emb) (H : AHeap) {w w' : World} (e : w'.heap = w.heap) (hos : w'.os = w.os) (ht : w'.tape = w.tape) (hout : w'.output = w.output) : Step φ H w φ H w' :=
  ⟨φ.le_refl, hos, ht, hout, by rw [e]; exact Nat.le_refl _, fun _ _ _ => by rw [e], fun _ h => .inl h, fun _ _ => rfl, Nat.le_refl _, fun _ _ _ h => h⟩
theorem Rel.drew {φ : Emb} {H : AHeap} {w : World} (h : Rel φ H w) : Rel φ H w.drew := h.heap_eq rfl
theorem Step.drew (φ : Emb) (H : AHeap) (w : World) : Step φ H w φ H w.drew := Step.heap_eq φ H rfl rfl rfl rfl
end Go.Abs
