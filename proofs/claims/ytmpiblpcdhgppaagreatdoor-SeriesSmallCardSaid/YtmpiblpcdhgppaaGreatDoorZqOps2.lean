/- Slicing, indexing, fields, lengths. -/
import Derived.Test.YtmpiblpcdhgppaaGreatDoorZqOps
namespace Go.Abs
variable {P : Program} {φ : Emb} {H : AHeap} {w : World}

def VRO (φ : Emb) : Option Value → Option Value → Prop
  | none, none => True
  | some a, some b => VR φ a b
  | _, _ => False
theorem run_bound {v v' : Option Value} {dflt hi y r : Nat} {code : BoundsCode} {x x' : Value} (hv : v = some x) (hv' : v' = some x') (h : boundsA v dflt hi = some r) (hx : VR φ x x') (hy : hi ≤ y) :
    (Instr.sliceBound x' y code).run P w = .ok r w ∧ r ≤ hi := by
  subst hv
  unfold boundsA at h
  split at h
  · rename_i e; cases e
  · rename_i k i e
    cases e
    cases hx
    split at h
    · rename_i hb
      cases h
      have : 0 ≤ i ∧ i ≤ (y : Int) := ⟨hb.1, by omega⟩
      refine ⟨by simp [Instr.sliceBound, asIntOf, this], by omega⟩
    · cases h
  · cases h
theorem run_bounds {lo hi lo' hi' : Option Value} {n c h l : Nat} {b : Bool} (hnc : n ≤ c) (hlo : VRO φ lo lo') (hhi : VRO φ hi hi') (hh : boundsA hi n n = some h) (hl : boundsA lo 0 h = some l) :
    (Instr.sliceBounds b n c lo' hi' none).run P w = .ok (l, h, c) w ∧ l ≤ h ∧ h ≤ n := by
  unfold Instr.sliceBounds
  have e1 : ∀ code, (match hi' with | some v => Instr.sliceBound v c code | none => (pure n : Sem Nat)).run P w = .ok h w ∧ h ≤ n := by
    intro code
    cases hi with
    | none =>
      cases hi' with
      | none => simp [boundsA] at hh; subst hh; exact ⟨rfl, Nat.le_refl _⟩
      | some _ => exact hhi.elim
    | some x =>
      cases hi' with
      | none => exact hhi.elim
      | some x' => exact run_bound rfl rfl hh hhi hnc
  have e2 : ∀ code, (match lo' with | some v => Instr.sliceBound v h code | none => (pure 0 : Sem Nat)).run P w = .ok l w ∧ l ≤ h := by
    intro code
    cases lo with
    | none =>
      cases lo' with
      | none => simp [boundsA] at hl; subst hl; exact ⟨rfl, Nat.zero_le _⟩
      | some _ => exact hlo.elim
    | some x =>
      cases lo' with
      | none => exact hlo.elim
      | some x' => exact run_bound rfl rfl hl hlo (Nat.le_refl _)
  refine ⟨?_, (e2 .index).2, (e1 .index).2⟩
  have f1 := fun code => (e1 code).1
  have f2 := fun code => (e2 code).1
  cases hi' <;> cases lo' <;> simp_all
theorem run_sliceA {t : TypeId} {x x' v : Value} {lo hi lo' hi' : Option Value} (h : sliceA P t x lo hi H = some v) (hR : Rel φ H w) (hx : VR φ x x') (hlo : VRO φ lo lo') (hhi : VRO φ hi hi') :
    ∃ v', (Instr.sliceAt t x' lo' hi' none).run P w = .ok v' w ∧ VR φ v v' := by
  unfold sliceA at h
  split at h
  · rename_i s ht
    cases hx
    rw [Option.bind_eq_some_iff] at h
    obtain ⟨b, hb, h⟩ := h
    rw [Option.map_eq_some_iff] at h
    obtain ⟨l, hl, rfl⟩ := h
    obtain ⟨hr, _, _⟩ := run_bounds (P := P) (w := w) (b := false) (Nat.le_refl _) hlo hhi hb hl
    exact ⟨_, by simp [Instr.sliceAt, Instr.slice, run_underlying ht, hr], .string _⟩
  · rename_i e i o z n n' ht
    split at h
    · rename_i hc
      obtain ⟨rfl, hz, hz0⟩ := hc
      rw [Option.bind_eq_some_iff] at h
      obtain ⟨b, hb, h⟩ := h
      rw [Option.map_eq_some_iff] at h
      obtain ⟨l, hl, rfl⟩ := h
      cases hx with
      | slice hp hn hc =>
        rename_i c p A
        obtain ⟨hr, h1, h2⟩ := run_bounds (P := P) (w := w) (b := true) hn hlo hhi hb hl
        refine ⟨.slice (if c = l then some A else some (A.add (l * z))) (b - l) (c - l), ?_, ?_⟩
        · simp [Instr.sliceAt, Instr.slice, run_underlying ht, hr, run_sizeOf hz]
        · by_cases hcl : c = l
          · rw [if_pos hcl]
            have : b - l = 0 := by omega
            rw [this]
            exact .slice hp (by omega) (.inl (by omega))
          · rw [if_neg hcl]
            refine .slice hp (by omega) (.inr ?_)
            rcases hc with hc | ⟨rfl, hc⟩
            · omega
            · refine ⟨by rw [add_pl]; congr 1; omega, ?_⟩
              rw [Nat.add_assoc, ← Nat.add_mul, show l + (c - l) = c from by omega]; exact hc
    · cases h
  · rename_i e ht
    cases hx
    rw [Option.bind_eq_some_iff] at h
    obtain ⟨z, hz, h⟩ := h
    rw [Option.bind_eq_some_iff] at h
    obtain ⟨b, hb, h⟩ := h
    rw [Option.map_eq_some_iff] at h
    obtain ⟨l, hl, rfl⟩ := h
    obtain ⟨hr, h1, h2⟩ := run_bounds (P := P) (w := w) (b := true) (Nat.le_refl 0) hlo hhi hb hl
    have e1 : b = 0 := by omega
    have e2 : l = 0 := by omega
    subst e1; subst e2
    exact ⟨_, by simp [Instr.sliceAt, Instr.slice, run_underlying ht, hr, run_sizeOf hz], .nilslice⟩
  · rename_i n e i o ht
    split at h
    · rename_i z vs ro hz hi
      split at h
      · rename_i hc
        rw [Option.bind_eq_some_iff] at h
        obtain ⟨b, hb, h⟩ := h
        rw [Option.map_eq_some_iff] at h
        obtain ⟨l, hl, rfl⟩ := h
        cases hx with
        | ptr hp =>
          rename_i p
          obtain ⟨p', c, e', fr, hp', g1, g2, g3, g4, g5⟩ := hR.row hi
          rw [hp] at hp'; cases hp'
          obtain ⟨hr, h1, h2⟩ := run_bounds (P := P) (w := w) (b := false) (Nat.le_refl n) hlo hhi hb hl
          refine ⟨.slice (some (if n = l then ⟨p.b, p.s + o, none⟩ else (⟨p.b, p.s + o, none⟩ : Addr).add (l * z))) (b - l) (n - l), ?_, ?_⟩
          · simp [Instr.sliceAt, Instr.sureAddr, run_underlying ht, hr, run_sizeOf hz]
          · by_cases hcl : n = l
            · have : b - l = 0 := by omega
              rw [this]
              exact .slice hp (by omega) (.inl (by omega))
            · rw [if_neg hcl]
              refine .slice hp (by omega) (.inr ⟨by rw [add_pl]; congr 1; omega, ?_⟩)
              rw [Nat.add_assoc, ← Nat.add_mul, show l + (n - l) = n from by omega]; omega
      · cases h
    · cases h
  · cases h
theorem run_asIntOf (k : IntKind) (n : Int) : (asIntOf (.int k n)).run P w = .ok (k, n) w := rfl
theorem run_indexAddrA {t : TypeId} {x x' i i' v : Value} (h : indexAddrA P t x i = some v) (hx : VR φ x x') (hi : VR φ i i') : ∃ v', (Instr.indexAt t x' i').run P w = .ok v' w ∧ VR φ v v' := by
  unfold indexAddrA at h
  split at h
  · rename_i e i o z n n' k kk ht
    split at h
    · rename_i hc
      obtain ⟨rfl, hz, h0, h1⟩ := hc
      cases h; cases hi
      cases hx with
      | slice hp hn hc =>
        rename_i c p A
        rcases hc with hc | ⟨rfl, hc⟩
        · omega
        · refine ⟨.pointer (some ⟨p.b, p.s + (o + kk.toNat * z), none⟩), ?_, .ptr hp⟩
          have : (⟨p.b, p.s + o, none⟩ : Addr).add (kk.toNat * z) = ⟨p.b, p.s + (o + kk.toNat * z), none⟩ := by rw [add_pl]; congr 1; omega
          simp [Instr.indexAt, run_asIntOf, run_underlying ht, h0, h1, run_sizeOf hz, this]
    · cases h
  · rename_i n e i o k kk ht
    rw [Option.bind_eq_some_iff] at h
    obtain ⟨z, hz, h⟩ := h
    split at h
    · rename_i hc
      cases h; cases hi
      cases hx with
      | ptr hp =>
        rename_i p
        refine ⟨.pointer (some ⟨p.b, p.s + (o + kk.toNat * z), none⟩), ?_, .ptr hp⟩
        have : (⟨p.b, p.s + o, none⟩ : Addr).add (kk.toNat * z) = ⟨p.b, p.s + (o + kk.toNat * z), none⟩ := by rw [add_pl]; congr 1; omega
        simp [Instr.indexAt, Instr.sureAddr, run_asIntOf, run_underlying ht, hc.1, hc.2, run_sizeOf hz, this]
    · cases h
  · cases h
theorem run_indexA {t : TypeId} {x x' i i' v : Value} (h : indexA P t x i = some v) (hx : VR φ x x') (hi : VR φ i i') : ∃ v', (Instr.index t x' i').run P w = .ok v' w ∧ VR φ v v' := by
  unfold indexA at h
  split at h
  · rename_i n e cs k kk ht
    rw [Option.bind_eq_some_iff] at h
    obtain ⟨z, hz, h⟩ := h
    split at h
    · rename_i hc
      cases hi
      cases hx with
      | agg hx =>
        obtain ⟨v', hr, hv⟩ := run_partA (w := w) h hx
        exact ⟨v', by simp [Instr.index, run_asIntOf, run_underlying ht, hc.1, hc.2, run_sizeOf hz, hr], hv⟩
    · cases h
  · rename_i s k kk ht
    split at h
    · rename_i hc
      cases hi; cases hx
      rw [Option.map_eq_some_iff] at h
      obtain ⟨b, hb, rfl⟩ := h
      exact ⟨_, by simp [Instr.index, run_asIntOf, run_underlying ht, hc, hb], .int _ _⟩
    · cases h
  · cases h
theorem run_fieldAddrA {t : TypeId} {f : Nat} {x x' v : Value} (h : fieldAddrA P t x f = some v) (hx : VR φ x x') : ∃ v', (Instr.fieldAt t x' f).run P w = .ok v' w ∧ VR φ v v' := by
  unfold fieldAddrA at h
  split at h
  · rename_i fs i o ht
    cases hx with
    | ptr hp =>
      rename_i p
      split at h
      · rename_i fd hf
        rw [Option.bind_eq_some_iff] at h
        obtain ⟨n, hn, h⟩ := h
        split at h
        · rename_i h0
          cases h
          refine ⟨.pointer (some ⟨p.b, p.s + (o + fd.offset), none⟩), ?_, .ptr hp⟩
          have : (⟨p.b, p.s + o, none⟩ : Addr).add fd.offset = ⟨p.b, p.s + (o + fd.offset), none⟩ := by rw [add_pl]; congr 1; omega
          simp [Instr.fieldAt, Instr.sureAddr, run_underlying ht, hf, fieldPlace, run_sizeOf hn, h0, this]
        · cases h
      · cases h
  · cases h
theorem run_fieldA {t : TypeId} {f : Nat} {x x' v : Value} (h : fieldA P t x f = some v) (hx : VR φ x x') : ∃ v', (Instr.field t x' f).run P w = .ok v' w ∧ VR φ v v' := by
  unfold fieldA at h
  split at h
  · rename_i fs cs ht
    cases hx with
    | agg hx =>
      split at h
      · rename_i fd hf
        obtain ⟨v', hr, hv⟩ := run_partA (w := w) h hx
        exact ⟨v', by simp [Instr.field, run_underlying ht, hf, asAgg, hr], hv⟩
      · cases h
  · cases h
theorem run_extractA {i : Nat} {x x' v : Value} (h : extractA x i = some v) (hx : VR φ x x') : ∃ v', (Instr.extract x' i).run P w = .ok v' w ∧ VR φ v v' := by
  unfold extractA at h
  split at h
  · cases hx with
    | tuple hx =>
      obtain ⟨v', h1, h2⟩ := hx.get i v (by simpa using h)
      exact ⟨v', by simp [Instr.extract, show _ = some v' from by simpa using h1], h2⟩
  · cases h
theorem MR.length {φ : Emb} : ∀ {es : List (Value × Value)} {ms : List MapEntry}, MR φ es ms → es.length = ms.length
  | [], [], _ => rfl
  | _ :: _, _ :: _, h => by simp [MR.length h.2.2]
  | [], _ :: _, h => h.elim
  | _ :: _, [], h => h.elim
theorem run_lenA {t ty : TypeId} {x x' v : Value} (h : lenA P t x H = some v) (hR : Rel φ H w) (hx : VR φ x x') : ∃ v', (Builtin.len_ #[t] ty #[x']).run P w = .ok v' w ∧ VR φ v v' := by
  unfold lenA at h
  split at h
  · rename_i ht; cases hx; cases h
    exact ⟨_, by simp [Builtin.len_, run_underlying ht, goInt], .int _ _⟩
  · rename_i ht; cases h
    cases hx with
    | nilslice => exact ⟨_, by simp [Builtin.len_, run_underlying ht, goInt], .int _ _⟩
    | slice hp hn hc => exact ⟨_, by simp [Builtin.len_, run_underlying ht, goInt], .int _ _⟩
  · rename_i ht
    cases hx with
    | map hp =>
      split at h
      · rename_i es hi
        cases h
        obtain ⟨p', hp', es', cl, g1, g2⟩ := hR.obj _ _ hi
        rw [hp] at hp'; cases hp'
        refine ⟨_, ?_, .int _ _⟩
        obtain ⟨l2, q1, q2⟩ := g2
        have := q2.length
        rw [← q1.length_eq] at this
        simp [Builtin.len_, run_underlying ht, getObj, Sem.run, g1, goInt, this]
      · cases h
  · cases h
theorem run_capA {t ty : TypeId} {x x' v : Value} (h : capA P t x = some v) (hx : VR φ x x') : ∃ v', (Builtin.cap_ #[t] ty #[x']).run P w = .ok v' w ∧ VR φ v v' := by
  unfold capA at h
  split at h
  · rename_i ht; cases h
    cases hx with
    | nilslice => exact ⟨_, by simp [Builtin.cap_, run_underlying ht, goInt], .int _ _⟩
  · cases h
theorem run_maxA {mn : Bool} {l l' : List Value} {v : Value} {ts : Array TypeId} {ty : TypeId} (h : maxA mn l = some v) (hl : VRL φ l l') :
    ∃ v', ((if mn then Builtin.min_ else Builtin.max_) ts ty l'.toArray).run P w = .ok v' w ∧ VR φ v v' := by
  unfold maxA at h
  split at h
  · rename_i k a k' b
    split at h
    · rename_i hk
      subst hk
      cases h
      cases hl with
      | cons h1 hl =>
        cases hl with
        | cons h2 hl =>
          cases hl; cases h1; cases h2
          refine ⟨_, ?_, .int _ _⟩
          cases mn <;> simp [Builtin.min_, Builtin.max_, Builtin.max2, Builtin.min2]
    · cases h
  · cases h
end Go.Abs
