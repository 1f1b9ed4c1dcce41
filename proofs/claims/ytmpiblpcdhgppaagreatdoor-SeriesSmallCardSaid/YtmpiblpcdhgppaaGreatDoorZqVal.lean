/- What the evaluator says of comparing, of sums, of slicing is what the machine does. -/
import Derived.Test.YtmpiblpcdhgppaaGreatDoorZqMem
import Derived.Laws.StructEq
import Derived.ChangeKeysEq
import Derived.WideKeyRuns
namespace Go.Abs
variable {P : Program} {φ : Emb} {H : AHeap} {w : World}

theorem beq_bytes (a b : ByteArray) : (a == b) = (a.data.toList == b.data.toList) := by
  rw [beq_toListBytes, ByteArray.toList_eq, ByteArray.toList_eq]
theorem cellsOf_szT {t : TypeId} {n : Nat} (h : szT P t = some n) : P.cellsOf t = n := by
  obtain ⟨i, hi, rfl⟩ := info_szT h
  simp [Program.cellsOf, hi]
/-- 'equalIn' at d says what eq says. -/
def EqOk (P : Program) (φ : Emb) (w : World) (d : Nat) (eq : TypeId → Value → Value → Option Bool) : Prop :=
  ∀ t x y x' y' r, eq t x y = some r → VR φ x x' → VR φ y y' → (Op.equalIn d t x' y').run P w = .ok r w
theorem run_eqFieldsA {d : Nat} {eq : TypeId → Value → Value → Option Bool} (he : EqOk P φ w d eq) {xs ys xs' ys' : Array Value} (hx : VRL φ xs.toList xs'.toList) (hy : VRL φ ys.toList ys'.toList) :
    ∀ (fs : List Field) (r : Bool), eqFieldsA P eq fs xs ys = some r → (Op.eqFields d xs' ys' fs).run P w = .ok r w
  | [], r, h => by simp [eqFieldsA] at h; subst h; rfl
  | f :: fs, r, h => by
    unfold eqFieldsA at h
    unfold Op.eqFields
    by_cases hn : f.name ≠ "_"
    · rw [if_pos hn] at h
      rw [if_pos hn]
      split at h
      · rename_i a b ha hb
        obtain ⟨a', ra, va⟩ := run_partA (w := w) ha hx
        obtain ⟨b', rb, vb⟩ := run_partA (w := w) hb hy
        rw [Option.bind_eq_some_iff] at h
        obtain ⟨q, hq, h⟩ := h
        have hr := he _ _ _ _ _ _ hq va vb
        simp only [Sem.run_bind, ra, rb, hr, Result.andThen_ok]
        cases q
        · simp at h; subst h; simp
        · simp at h; simp; exact run_eqFieldsA he hx hy fs r h
      · cases h
    · rw [if_neg hn] at h
      rw [if_neg hn]
      exact run_eqFieldsA he hx hy fs r h
theorem run_eqItemsA {d : Nat} {eq : TypeId → Value → Value → Option Bool} (he : EqOk P φ w d eq) {xs ys xs' ys' : Array Value} (hx : VRL φ xs.toList xs'.toList) (hy : VRL φ ys.toList ys'.toList) {e : TypeId} {z : Nat} :
    ∀ (is : List Nat) (r : Bool), eqItemsA P eq e z xs ys is = some r → (Op.eqItems d e z xs' ys' is).run P w = .ok r w
  | [], r, h => by simp [eqItemsA] at h; subst h; rfl
  | i :: is, r, h => by
    unfold eqItemsA at h
    unfold Op.eqItems
    split at h
    · rename_i a b ha hb
      obtain ⟨a', ra, va⟩ := run_partA (w := w) ha hx
      obtain ⟨b', rb, vb⟩ := run_partA (w := w) hb hy
      rw [Option.bind_eq_some_iff] at h
      obtain ⟨q, hq, h⟩ := h
      have hr := he _ _ _ _ _ _ hq va vb
      simp only [Sem.run_bind, ra, rb, hr, Result.andThen_ok]
      cases q
      · simp at h; subst h; simp
      · simp at h; simp; exact run_eqItemsA he hx hy is r h
    · cases h
theorem run_sameAddr (hR : Rel φ H w) {i j o q : Nat} {p p' : Pl} {u v : List Value} (hi : H.get i = some (.cells u false)) (hj : H.get j = some (.cells v false)) (hp : φ i = some p) (hp' : φ j = some p') :
    (sameAddr ⟨p.b, p.s + o, none⟩ ⟨p'.b, p'.s + q, none⟩).run P w = .ok (i == j && o == q) w := by
  unfold sameAddr
  by_cases e : i = j
  · subst e
    rw [hp] at hp'; cases hp'
    have : ((⟨p.b, p.s + o, none⟩ : Addr) == ⟨p.b, p.s + q, none⟩) = (i == i && o == q) := by
      rw [Bool.eq_iff_iff]; simp
    simp [this]
  · have hb : p.b ≠ p'.b := hR.apart i j _ _ p p' hi hj e rfl hp hp'
    have hf1 : ∀ k, w.frozen? ⟨p.b, k, none⟩ = false := fun k => by
      obtain ⟨_, c, e, fr, hp1, h1, _, _, _, h5⟩ := hR.row hi
      rw [hp] at hp1; cases hp1
      have := h5 rfl; subst this
      exact frozen_of_row w p.b k c e h1
    have hf2 : ∀ k, w.frozen? ⟨p'.b, k, none⟩ = false := fun k => by
      obtain ⟨_, c, e, fr, hp1, h1, _, _, _, h5⟩ := hR.row hj
      rw [hp'] at hp1; cases hp1
      have := h5 rfl; subst this
      exact frozen_of_row w p'.b k c e h1
    have hs1 : ∃ x, w.shape? p.b = some x := by
      obtain ⟨_, c, e, fr, hp1, h1, _⟩ := hR.row hi
      rw [hp] at hp1; cases hp1
      exact ⟨_, by simp [World.shape?, h1]; rfl⟩
    have hs2 : ∃ x, w.shape? p'.b = some x := by
      obtain ⟨_, c, e, fr, hp1, h1, _⟩ := hR.row hj
      rw [hp'] at hp1; cases hp1
      exact ⟨_, by simp [World.shape?, h1]; rfl⟩
    obtain ⟨⟨t1, n1⟩, hs1⟩ := hs1
    obtain ⟨⟨t2, n2⟩, hs2⟩ := hs2
    simp [hb, e, hf1, hf2, noView, viewAt, hs1, hs2, mayBeOne, stringish]
theorem run_eqA (hR : Rel φ H w) : ∀ (d : Nat), EqOk P φ w d (eqA P H d)
  | 0, t, x, y, x', y', r, h, _, _ => by simp [eqA] at h
  | d + 1, t, x, y, x', y', r, h, hx, hy => by
    unfold eqA at h
    split at h
    · rename_i ht; cases hx; cases hy; cases h; exact run_equalIn_bool w d t _ _ ht
    · rename_i ht
      cases hx; cases hy
      split at h
      · rename_i hk; cases h; subst hk; simp [Op.equalIn, run_underlying ht]
      · cases h
    · rename_i ht; cases hx; cases hy; cases h; simp only [Op.equalIn, Sem.run_bind, run_underlying ht, Result.andThen_ok, Sem.run_pure, beq_bytes]
    · rename_i ht; cases hx; cases h
      cases hy <;> simp [Op.equalIn, run_underlying ht]
    · rename_i ht; cases hx; cases hy; cases h
      simp [Op.equalIn, run_underlying ht]
    · rename_i e i o j q ht
      cases hx with
      | ptr hp =>
        cases hy with
        | ptr hp' =>
          split at h
          · rename_i n u v hn hi hj
            split at h
            · rename_i hz
              cases h
              have hs := run_sameAddr (P := P) hR (o := o) (q := q) hi hj hp hp'
              simp [Op.equalIn, run_underlying ht, run_sizeOf hn, hz, hs]
            · cases h
          · cases h
    · rename_i ht; cases hx; cases h
      cases hy <;> simp [Op.equalIn, run_underlying ht]
    · rename_i ht; cases h
      cases hx; cases hy
      simp [Op.equalIn, run_underlying ht]
    · rename_i fs xs ys ht
      split at h
      · cases h
      · rename_i hst
        cases hx with
        | agg hx =>
          cases hy with
          | agg hy =>
            have hfs : P.fieldsOf t = fs := by simp [Program.fieldsOf, ht]
            rw [run_equalIn_struct w d t _ _ (by rw [hfs]; exact ht) (by simpa using hst), hfs]
            exact run_eqFieldsA (run_eqA hR d) hx hy _ _ h
    · rename_i n e xs ys ht
      rw [Option.bind_eq_some_iff] at h
      obtain ⟨z, hz, h⟩ := h
      cases hx with
      | agg hx =>
        cases hy with
        | agg hy =>
          obtain ⟨i, hi, hiz⟩ := info_szT hz
          rw [run_equalIn_array w d _ _ ht hi, cellsOf_szT hz]
          exact run_eqItemsA (run_eqA hR d) hx hy _ _ h
    · cases h
end Go.Abs
