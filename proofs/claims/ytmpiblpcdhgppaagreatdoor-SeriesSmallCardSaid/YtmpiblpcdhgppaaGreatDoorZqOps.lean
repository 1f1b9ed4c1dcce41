/- What only yields a value: the evaluator's answer is the machine's. -/
import Derived.Test.YtmpiblpcdhgppaaGreatDoorZqVal
namespace Go.Abs
variable {P : Program} {φ : Emb} {H : AHeap} {w : World}

theorem run_intA {op : BinOp} {t : TypeId} {k : IntKind} {x y : Int} {v : Value} (h : intA op k x y = some v) : (binOp op t (.int k x) (.int k y)).run P w = .ok v w := by
  unfold intA at h
  cases op <;> simp only [] at h <;> (try cases h) <;> (try (simp [binOp, Op.intArith, Op.intBits, Op.intCmp, wrapA_eq]; done))
  all_goals (split at h <;> cases h; simp [binOp, Op.intDiv, wrapA_eq, *])
theorem intA_int {op : BinOp} {k : IntKind} {x y : Int} {v : Value} (h : intA op k x y = some v) : VR φ v v := by
  unfold intA at h
  cases op <;> simp only [] at h <;> (try cases h) <;> (try (constructor; done))
  all_goals (split at h <;> cases h; constructor)
theorem run_strA {op : BinOp} {t : TypeId} {x y : ByteArray} {v : Value} (h : strA op x y = some v) : (binOp op t (.string x) (.string y)).run P w = .ok v w := by
  unfold strA at h
  cases op <;> simp only [] at h <;> (try cases h) <;> (try (simp [binOp, Op.stringOp, ByteArray.toList_eq]; done))
  all_goals (split at h <;> cases h; rename_i hh; simp [binOp, Op.stringOp]; omega)
theorem strA_str {op : BinOp} {x y : ByteArray} {v : Value} (h : strA op x y = some v) : VR φ v v := by
  unfold strA at h
  cases op <;> simp only [] at h <;> (try cases h) <;> (try (constructor; done))
  all_goals (split at h <;> cases h; constructor)
theorem run_eqGuard {op : BinOp} {t : TypeId} {x y : Operand} {a b : Value} (h : ∀ u v, a = .agg u → b = .agg v → P.eqGuardType P.depth t = false) (hn : a ≠ .nilIface) : (eqGuard op t x y a b).run P w = .ok () w := by
  unfold eqGuard
  split
  case h_3 => rfl
  all_goals
    rw [if_neg (by decide)]
    cases a with
    | nilIface => exact absurd rfl hn
    | agg u =>
      cases b with
      | agg v => simp [h u v rfl rfl]
      | _ => rfl
    | _ => cases b <;> rfl
theorem run_eqlA {op : BinOp} {t : TypeId} {x y x' y' v : Value} (hq : binOp .eql t x' y' = (do pure (.bool (← Op.equal t x' y')))) (hn : binOp .neq t x' y' = (do pure (.bool (!(← Op.equal t x' y')))))
    (h : (match op with | .eql => (eqA P H 10000 t x y).map .bool | .neq => (eqA P H 10000 t x y).map fun r => .bool !r | _ => none) = some v) (hR : Rel φ H w) (hx : VR φ x x') (hy : VR φ y y') :
    ∃ v', (binOp op t x' y').run P w = .ok v' w ∧ VR φ v v' := by
  cases op <;> simp only [reduceCtorEq] at h
  all_goals
    rw [Option.map_eq_some_iff] at h
    obtain ⟨r, hr, rfl⟩ := h
    have he := run_eqA hR 10000 _ _ _ _ _ _ hr hx hy
    refine ⟨_, ?_, .bool _⟩
    first | rw [hq] | rw [hn]
    simp [Op.equal, Op.maxDepth, he]
theorem run_binA {op : BinOp} {t : TypeId} {x y x' y' v : Value} {ox oy : Operand} (h : binA P op t x y H = some v) (hR : Rel φ H w) (hx : VR φ x x') (hy : VR φ y y') :
    ∃ v', (do eqGuard op t ox oy x' y'; binOp op t x' y' : Sem Value).run P w = .ok v' w ∧ VR φ v v' := by
  have key : (∃ v', (binOp op t x' y').run P w = .ok v' w ∧ VR φ v v') → (∀ u v, x' = .agg u → y' = .agg v → P.eqGuardType P.depth t = false) → x' ≠ .nilIface →
      ∃ v', (do eqGuard op t ox oy x' y'; binOp op t x' y' : Sem Value).run P w = .ok v' w ∧ VR φ v v' := by
    rintro ⟨v', h1, h2⟩ h3 h4
    exact ⟨v', by rw [Sem.run_bind, run_eqGuard h3 h4, Result.andThen_ok, h1], h2⟩
  unfold binA at h
  split at h
  · rename_i k a k' b
    cases hx; cases hy
    refine key ?_ (by simp) (by simp)
    split at h
    · split at h
      · cases h
      · rename_i hb; cases h
        exact ⟨_, by simp [binOp, Op.shift, hb, wrapA_eq], .int _ _⟩
    · split at h
      · cases h
      · rename_i hb; cases h
        exact ⟨_, by simp [binOp, Op.shift, hb], .int _ _⟩
    · split at h
      · rename_i hk; subst hk
        exact ⟨v, run_intA h, intA_int h⟩
      · cases h
  · cases hx; cases hy
    exact key ⟨v, run_strA h, strA_str h⟩ (by simp) (by simp)
  · refine key ?_ (by cases hx; simp) (by cases hx; simp)
    cases hx; cases hy
    exact run_eqlA rfl rfl h hR (.bool _) (.bool _)
  · split at h
    · cases h
    · rename_i hg
      refine key ?_ (fun _ _ _ _ => by simpa using hg) (by cases hx; simp)
      cases hx with
      | agg hx => cases hy with | agg hy => exact run_eqlA rfl rfl h hR (.agg hx) (.agg hy)
  · refine key ?_ (by cases hx <;> simp) (by cases hx <;> simp)
    cases hx <;> cases hy
    · exact run_eqlA rfl rfl h hR .nilptr .nilptr
    · rename_i hp; exact run_eqlA rfl rfl h hR .nilptr (.ptr hp)
    · rename_i hp; exact run_eqlA rfl rfl h hR (.ptr hp) .nilptr
    · rename_i hp _ _ _ hq; exact run_eqlA rfl rfl h hR (.ptr hp) (.ptr hq)
  · refine key ?_ (by cases hx <;> simp) (by cases hx <;> simp)
    cases hx with
    | nilslice =>
      cases hy with
      | nilslice => exact run_eqlA rfl rfl h hR .nilslice .nilslice
      | slice h1 h2 h3 => exact run_eqlA rfl rfl h hR .nilslice (.slice h1 h2 h3)
    | slice g1 g2 g3 =>
      cases hy with
      | nilslice => exact run_eqlA rfl rfl h hR (.slice g1 g2 g3) .nilslice
      | slice h1 h2 h3 => exact run_eqlA rfl rfl h hR (.slice g1 g2 g3) (.slice h1 h2 h3)
  · cases h
theorem run_unA {op : UnOp} {x x' v : Value} (h : unA op x = some v) (hx : VR φ x x') : ∃ v', (Op.unary op x').run P w = .ok v' w ∧ VR φ v v' := by
  unfold unA at h
  split at h
  · cases hx; cases h; exact ⟨_, rfl, .bool _⟩
  · cases hx; cases h; exact ⟨_, by simp [Op.unary, Op.intArith, wrapA_eq], .int _ _⟩
  · cases h
theorem run_convA {s d : TypeId} {x x' v : Value} (h : convA P s d x = some v) (hx : VR φ x x') : ∃ v', (convert s d x').run P w = .ok v' w ∧ VR φ v v' := by
  unfold convA at h
  split at h
  · rename_i hs hd; cases hx; cases h
    exact ⟨_, by simp [convert, run_underlying hs, run_underlying hd, Conv.intToInt, wrapA_eq], .int _ _⟩
  · rename_i hs hd; cases hx; cases h
    exact ⟨_, by simp [convert, run_underlying hs, run_underlying hd, Conv.intToString], .string _⟩
  · rename_i hs hd; cases hx; cases h
    exact ⟨_, by simp [convert, run_underlying hs, run_underlying hd], .string _⟩
  · cases h
end Go.Abs
