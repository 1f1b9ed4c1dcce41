/- What Go's library does, where the evaluator does not look into it. -/
import Derived.Test.YtmpiblpcdhgppaaGreatDoorZqShot3
import Derived.Lib.Bytealg
import Derived.Lib.Repeat
namespace Go.Abs
open Go.RowKit
variable {P : Program}

/-- Where only new blocks came, the abstract heap lies as it lay. -/
theorem Rel.below {φ : Emb} {H : AHeap} {w w' : World} (h : Rel φ H w) (hb : Below w.heap.size w w') : Rel φ H w' ∧ Step φ H w φ H w' :=
  ⟨{ obj := fun i o e => let ⟨p, hp, hr⟩ := h.obj i o e; ⟨p, hp, AObj.rel_mono φ.le_refl (hb.block _ (h.lt _ _ hp)) hr⟩
     apart := h.apart
     fresh := h.fresh
     lt := fun i p e => Nat.lt_of_lt_of_le (h.lt i p e) hb.size },
   { le := φ.le_refl
     os := hb.os
     tape := hb.tape
     output := hb.output
     size := hb.size
     keep := fun k hk _ => hb.block k hk
     foot := fun _ hk => .inl hk
     fix := fun _ _ => rfl
     nxt := Nat.le_refl _
     ro := fun _ _ _ e => e }⟩
def extNone : CallF := fun _ _ => none
def extOr (a b : CallF) : CallF := fun k H => match a k H with
  | some x => some x
  | none => b k H
theorem extNone_sound {NG : Nat} : SoundCall P NG 0 extNone := fun _ _ _ _ h => by cases h
theorem extOr_sound {NG : Nat} {a b : CallF} (ha : SoundCall P NG 0 a) (hb : SoundCall P NG 0 b) : SoundCall P NG 0 (extOr a b) := by
  intro k H v H' h φ w k' hg hR hk
  unfold extOr at h
  split at h
  · rename_i x hx; cases h; exact ha k H v H' hx φ w k' hg hR hk
  · exact hb k H v H' h φ w k' hg hR hk
def extIdx (g : Nat) : CallF := fun k H => match k with
  | .fn f [.string s, .int .u8 c] => cond (Nat.beq f g) (some (.int .i64 (Lib.indexByte s.data.toList c.toNat.toUInt8), H)) none
  | _ => none
theorem extIdx_sound {NG g : Nat} (h : ∀ (s : ByteArray) (c : Int) (w : World), (callFunc g #[.string s, .int .u8 c]).run P w = .ok (.value (.int .i64 (Lib.indexByte s.data.toList c.toNat.toUInt8))) w) : SoundCall P NG 0 (extIdx g) := by
  intro k H v H' hx φ w k' hg hR hk
  unfold extIdx at hx
  split at hx
  · rename_i f s c
    by_cases e : f = g
    · subst e
      rw [Nat.beq_refl] at hx
      simp only [cond_true, Option.some.injEq, Prod.mk.injEq] at hx
      obtain ⟨rfl, rfl⟩ := hx
      cases k' with
      | round l a => exact hk.elim
      | fn f' args' =>
        obtain ⟨rfl, ha⟩ := hk
        cases ha with
        | cons h1 ha =>
          cases ha with
          | cons h2 ha =>
            cases ha
            cases h1
            cases h2
            exact .inl ⟨_, w, h s c w, φ, .int _ _, hR, Step.refl ..⟩
    · rw [Tr.beq_ff e] at hx; cases hx
  · cases hx
def extRep (g : Nat) : CallF := fun k H => match k with
  | .fn f [.string s, .int .i64 (.ofNat c)] => cond (Nat.beq f g && Nat.ble c 9223372036854775807 && Nat.ble (s.size * c) 140737488355328) (some (.string ⟨(Lib.repeatL s.data.toList c).toArray⟩, H)) none
  | _ => none
theorem extRep_sound {NG g : Nat} {fn : Func} (hf : P.funcs[g]? = some fn) (hb0 : fn.body.isSome = true) (hn : (fn.name == "runtime.NumGoroutine") = false)
    (h : ∀ (s : ByteArray) (c : Nat) (w : World), c ≤ 9223372036854775807 → s.size * c ≤ 140737488355328 →
      Calls P g #[.string s, .int .i64 c] w fun e w' => e = .returned (.string ⟨(Lib.repeatL s.data.toList c).toArray⟩) ∧ Below w.heap.size w w') : SoundCall P NG 0 (extRep g) := by
  intro k H v H' hx φ w k' hg hR hk
  obtain ⟨cb, hb⟩ := Option.isSome_iff_exists.1 hb0
  unfold extRep at hx
  split at hx
  · rename_i f s m
    cases hc : (Nat.beq f g && Nat.ble m 9223372036854775807 && Nat.ble (s.size * m) 140737488355328) with
    | false => rw [hc] at hx; cases hx
    | true =>
      rw [hc] at hx
      simp only [cond_true, Option.some.injEq, Prod.mk.injEq] at hx
      obtain ⟨rfl, rfl⟩ := hx
      simp only [Bool.and_eq_true] at hc
      obtain ⟨⟨h1, h2⟩, h3⟩ := hc
      have e := Nat.eq_of_beq_eq_true h1
      subst e
      cases k' with
      | round l a => exact hk.elim
      | fn f' args' =>
        obtain ⟨rfl, ha⟩ := hk
        cases ha with
        | cons g1 ha =>
          cases ha with
          | cons g2 ha =>
            cases ha
            cases g1
            cases g2
            refine .inr (.inl ⟨f, _, run_callFunc hf hb hn, ?_⟩)
            rw [callsIn_wide]
            refine (h s m w (Nat.le_of_ble_eq_true h2) (Nat.le_of_ble_eq_true h3)).mono fun e w' he => ?_
            obtain ⟨rfl, hbl⟩ := he
            obtain ⟨r1, r2⟩ := hR.below hbl
            exact ⟨φ, .string _, r1, r2⟩
  · cases hx
/-- Functions that are fine, as bits: all at once. -/
theorem fine_of {P : Program} {NG good n : Nat} (hn : good < 2 ^ n) (h : (List.range n).all (fun f => !(Nat.testBit good f) || fnFine P NG f) = true) : ∀ f, Nat.testBit good f = true → fnFine P NG f = true := by
  intro f hf
  have hlt : f < n := by
    rcases Nat.lt_or_ge f n with q | q
    · exact q
    · rw [Nat.testBit_lt_two_pow (Nat.lt_of_lt_of_le hn (Nat.pow_le_pow_right (by omega) q))] at hf; cases hf
  rw [List.all_eq_true] at h
  have := h f (by simpa using hlt)
  simpa [hf] using this
end Go.Abs
