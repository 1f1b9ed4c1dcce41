/- Maps. -/
import Derived.Test.YtmpiblpcdhgppaaGreatDoorZqOps2
import Derived.MapKept
namespace Go.Abs
variable {P : Program} {φ : Emb} {H : AHeap} {w : World}

theorem run_checkKey {b : Bool} : ∀ (d : Nat) {t : TypeId} {v v' : Value}, keyA P d t v = true → VR φ v v' → (Instr.checkKey b d t v').run P w = .ok () w
  | 0, t, v, v', h, _ => by simp [keyA] at h
  | d + 1, t, v, v', h, hv => by
    unfold keyA at h
    split at h
    · rename_i ht; simp [Instr.checkKey, run_underlying ht]
    · rename_i ht; simp [Instr.checkKey, run_underlying ht]
    · rename_i ht; simp [Instr.checkKey, run_underlying ht]
    · rename_i ht; simp [Instr.checkKey, run_underlying ht]
    · rename_i n e ht
      split at h
      · rename_i cs
        cases hv with
        | agg hv =>
          split at h
          · rename_i z hz
            rw [List.all_eq_true] at h
            unfold Instr.checkKey
            simp only [Sem.run_bind, run_underlying ht, Result.andThen_ok]
            simp only [Std.Legacy.Range.forIn_eq_forIn_range', Std.Legacy.Range.size, Nat.sub_zero, Nat.add_one_sub_one, Nat.div_one]
            rw [List.range_eq_range'] at h
            generalize List.range' 0 n = is at h
            induction is with
            | nil => simp
            | cons j is ih =>
              have h1 := h j (by simp)
              split at h1
              · rename_i x hx
                obtain ⟨x', p1, hx'⟩ := run_partA (w := w) hx hv
                have p2 := run_checkKey (b := b) d h1 hx'
                simp only [List.forIn_cons, Sem.run_bind, run_sizeOf hz, Result.andThen_ok, p1, p2, Sem.run_pure]
                exact ih (fun y hy => h y (by simp [hy]))
              · cases h1
          · cases h
      · cases h
    · rename_i fs ht
      split at h
      · rename_i cs
        cases hv with
        | agg hv =>
          rw [List.all_eq_true] at h
          unfold Instr.checkKey
          simp only [Sem.run_bind, run_underlying ht, Result.andThen_ok]
          rw [← Array.forIn_toList]
          generalize fs.toList = L at h
          induction L with
          | nil => simp
          | cons f L ih =>
            have h1 := h f (by simp)
            rw [Bool.and_eq_true, bne_iff_ne] at h1
            obtain ⟨hn, h1⟩ := h1
            split at h1
            · rename_i x hx
              obtain ⟨x', p1, hx'⟩ := run_partA (w := w) hx hv
              have p2 := run_checkKey (b := b) d h1 hx'
              simp only [List.forIn_cons, Sem.run_bind, hn, ne_eq, not_false_eq_true, if_true, Result.andThen_ok, p1, p2, Sem.run_pure]
              exact ih (fun y hy => h y (by simp [hy]))
            · cases h1
      · cases h
    · cases h

theorem run_offA (hR : Rel φ H w) {kt : TypeId} {k k' : Value} (hk : VR φ k k') : ∀ {es : List (Value × Value)} {l : List MapEntry}, offA P kt k H es = true → MR φ es l → ∀ x ∈ l, (Op.equal kt k' x.key).run P w = .ok false w
  | [], [], _, _, x, hx => by cases hx
  | e :: es, m :: l, h, hm, x, hx => by
    unfold offA at h
    split at h
    · rename_i he
      rcases List.mem_cons.1 hx with rfl | hx
      · exact run_eqA hR 10000 _ _ _ _ _ _ he hk hm.1
      · exact run_offA hR hk h hm.2.2 x hx
    · cases h
  | [], _ :: _, _, hm, _, _ => hm.elim
  | _ :: _, [], _, hm, _, _ => hm.elim
theorem run_findA (hR : Rel φ H w) {kt : TypeId} {k k' : Value} (hk : VR φ k k') : ∀ {es : List (Value × Value)} {l : List MapEntry} {i : Nat} {r : Option (Nat × Value)}, findA P kt k H es i = some r → MR φ es l →
    (match r with
      | none => ∀ x ∈ l, (Op.equal kt k' x.key).run P w = .ok false w
      | some (j, v) => ∃ c m d e, l = c ++ m :: d ∧ i + c.length = j ∧ (Op.equal kt k' m.key).run P w = .ok true w ∧ (∀ x ∈ c, (Op.equal kt k' x.key).run P w = .ok false w) ∧ (∀ x ∈ d, (Op.equal kt k' x.key).run P w = .ok false w) ∧
          VR φ v m.val ∧ es[j - i]? = some e ∧ VR φ e.1 m.key)
  | [], [], i, r, h, _ => by simp [findA] at h; subst h; intro x hx; cases hx
  | e :: es, m :: l, i, r, h, hm => by
    unfold findA at h
    split at h
    · rename_i he
      split at h
      · rename_i hoff
        cases h
        exact ⟨[], m, l, e, rfl, by simp, run_eqA hR 10000 _ _ _ _ _ _ he hk hm.1, fun x hx => (by cases hx), run_offA hR hk hoff hm.2.2, hm.2.1, by simp, hm.1⟩
      · cases h
    · rename_i he
      have h1 : (Op.equal kt k' m.key).run P w = .ok false w := run_eqA hR 10000 _ _ _ _ _ _ he hk hm.1
      have h2 := run_findA hR hk h hm.2.2
      cases r with
      | none =>
        intro x hx
        rcases List.mem_cons.1 hx with rfl | hx
        · exact h1
        · exact h2 x hx
      | some jv =>
        obtain ⟨c, m', d, e', a1, a2, a3, a4, a5, a6, a7, a8⟩ := h2
        refine ⟨m :: c, m', d, e', by rw [a1]; rfl, by simp; omega, a3, fun x hx => ?_, a5, a6, ?_, a8⟩
        · rcases List.mem_cons.1 hx with rfl | hx
          · exact h1
          · exact a4 x hx
        · rw [show jv.1 - i = (jv.1 - (i + 1)) + 1 from by omega]; exact a7
    · cases h
  | [], _ :: _, _, _, _, hm => hm.elim
  | _ :: _, [], _, _, _, hm => hm.elim
theorem asks_none {kt : TypeId} {k' : Value} : ∀ {ms : List MapEntry} {i : Nat}, (∀ x ∈ ms, (Op.equal kt k' x.key).run P w = .ok false w) → (Instr.findAsking kt k' ms i).run P w = .ok none w
  | [], _, _ => rfl
  | m :: ms, i, h => by
    rw [Instr.findAsking]
    simp [h m (by simp), asks_none (ms := ms) (i := i + 1) fun x hx => h x (by simp [hx])]
theorem asks_some {kt : TypeId} {k' : Value} {m : MapEntry} {b : List MapEntry} (hm : (Op.equal kt k' m.key).run P w = .ok true w) : ∀ {a : List MapEntry} {i : Nat}, (∀ x ∈ a, (Op.equal kt k' x.key).run P w = .ok false w) →
    (Instr.findAsking kt k' (a ++ m :: b) i).run P w = .ok (some (i + a.length, m.val)) w
  | [], i, _ => by
    rw [List.nil_append, Instr.findAsking]
    simp [hm]
  | x :: a, i, h => by
    rw [List.cons_append, Instr.findAsking]
    simp [h x (by simp), asks_some hm (a := a) (i := i + 1) fun y hy => h y (by simp [hy])]
    omega
/-- A key among the machine's entries. -/
theorem run_findAskingA (hR : Rel φ H w) {kt : TypeId} {k k' : Value} (hk : VR φ k k') {es : List (Value × Value)} {ms : List MapEntry} {r : Option (Nat × Value)} (h : findA P kt k H es 0 = some r) (hm : PMR φ es ms) :
    (match r with
      | none => (Instr.findAsking kt k' ms 0).run P w = .ok none w
      | some (j, v) => ∃ v' a m b c d e, (Instr.findAsking kt k' ms 0).run P w = .ok (some (a.length, v')) w ∧ VR φ v v' ∧ ms = a ++ m :: b ∧ MR φ es (c ++ m :: d) ∧ (a ++ b).Perm (c ++ d) ∧ c.length = j ∧ es[j]? = some e ∧ VR φ e.1 m.key) := by
  obtain ⟨l, hp, hl⟩ := hm
  have hf := run_findA hR hk h hl
  cases r with
  | none => exact asks_none fun x hx => hf x (hp.mem_iff.1 hx)
  | some jv =>
    obtain ⟨c, m, d, e, rfl, a2, a3, a4, a5, a6, a7, a8⟩ := hf
    obtain ⟨a, b, rfl⟩ := List.append_of_mem (hp.mem_iff.2 (by simp : m ∈ c ++ m :: d))
    have hp2 : (a ++ b).Perm (c ++ d) := by
      have h1 : (m :: (a ++ b)).Perm (m :: (c ++ d)) := (List.perm_middle.symm.trans hp).trans List.perm_middle
      exact h1.cons_inv
    have hoff : ∀ x ∈ a, (Op.equal kt k' x.key).run P w = .ok false w := fun x hx => by
      have : x ∈ c ++ d := hp2.mem_iff.1 (by simp [hx])
      rcases List.mem_append.1 this with hx | hx
      · exact a4 x hx
      · exact a5 x hx
    have hr := asks_some (P := P) (w := w) (b := b) a3 (i := 0) hoff
    rw [Nat.zero_add] at hr
    exact ⟨m.val, a, m, b, c, d, e, hr, a6, rfl, hl, hp2, by omega, by simpa using a7, a8⟩
/-- Where the quick look goes, it says what the slow one says. -/
theorem findNow_asks {kt : TypeId} {d : TypeDesc} (hd : P.underlying kt = some d) {k : Value} : ∀ {ms : List MapEntry} {i : Nat} {r : Option (Nat × Value)}, Instr.findNow d k ms i = some r → (Instr.findAsking kt k ms i).run P w = .ok r w
  | [], i, r, h => by simp [Instr.findNow] at h; subst h; rfl
  | m :: ms, i, r, h => by
    unfold Instr.findNow at h
    have key : ∀ b, Instr.sameNow d k m.key = some b → (Op.equal kt k m.key).run P w = .ok b w := by
      intro b hb
      generalize m.key = q at hb ⊢
      unfold Instr.sameNow at hb
      split at hb
      · split at hb
        · rename_i hk; cases hb; subst hk; exact run_equalIn_int w 9999 kt _ _ _ _ hd
        · cases hb
      · cases hb; rw [beq_toListBytes]; exact run_equalIn_string w 9999 kt _ _ hd
      · cases hb; exact run_equalIn_bool w 9999 kt _ _ hd
      · cases hb
    split at h
    · rename_i he; cases h; simp [Instr.findAsking, key _ he]
    · rename_i he
      have := findNow_asks hd h
      simp [Instr.findAsking, key _ he, this]
    · cases h
theorem run_findKeyA {kt : TypeId} {d : TypeDesc} (hd : P.underlying kt = some d) {k : Value} {ms : List MapEntry} {r : Option (Nat × Value)} (h : (Instr.findAsking kt k ms 0).run P w = .ok r w) : (Instr.findKey kt k ms).run P w = .ok r w := by
  unfold Instr.findKey
  simp only [Sem.run_bind, run_underlying hd, Result.andThen_ok]
  split
  · rename_i q hq
    have := findNow_asks (P := P) (w := w) hd hq
    rw [h] at this
    cases this; rfl
  · exact h
theorem eqA_under {d : Nat} {t : TypeId} {x y : Value} {r : Bool} (h : eqA P H (d + 1) t x y = some r) : ∃ u, P.underlying t = some u := by
  unfold eqA at h
  split at h <;> first | exact ⟨_, ‹_›⟩ | cases h
theorem keyA_under {d : Nat} {t : TypeId} {x : Value} (h : keyA P d t x = true) : ∃ u, P.underlying t = some u := by
  cases d with
  | zero => simp [keyA] at h
  | succ d =>
    unfold keyA at h
    split at h <;> first | exact ⟨_, ‹_›⟩ | cases h
theorem run_lookupA {t : TypeId} {m m' k k' v : Value} {ok : Bool} (h : lookupA P t m k ok H = some v) (hR : Rel φ H w) (hm : VR φ m m') (hk : VR φ k k') :
    ∃ v', (Instr.lookup t m' k' ok).run P w = .ok v' w ∧ VR φ v v' := by
  unfold lookupA at h
  split at h
  · rename_i kt et i ht
    cases hm with
    | map hp =>
      rename_i p
      split at h
      · rename_i es hi
        obtain ⟨p', hp', es', cl, g1, g2⟩ := hR.obj _ _ hi
        rw [hp] at hp'; cases hp'
        split at h
        · rename_i hka
          obtain ⟨d, hd⟩ := keyA_under hka
          have hck : ∀ b, (Instr.checkKey b 10000 kt k').run P w = .ok () w := fun b => run_checkKey 10000 hka hk
          have hg : (getObj p.b).run P w = .ok (.map es' cl) w := by simp [getObj, Sem.run, g1]
          split at h
          · rename_i j u hf
            have h2 := run_findAskingA hR hk hf g2
            obtain ⟨v', _, _, _, _, _, _, a1, a2, _⟩ := h2
            have h3 := run_findKeyA hd a1
            cases h
            cases ok
            · exact ⟨v', by simp [Instr.lookup, run_underlying ht, hg, hck, h3], a2⟩
            · exact ⟨_, by simp [Instr.lookup, run_underlying ht, hg, hck, h3], .tuple (.cons a2 (.cons (.bool _) .nil))⟩
          · rename_i hf
            have h2 := run_findAskingA hR hk hf g2
            have h3 := run_findKeyA hd h2
            rw [Option.bind_eq_some_iff] at h
            obtain ⟨z, hz, h⟩ := h
            split at h
            · rename_i hpl
              cases h
              cases ok
              · exact ⟨z, by simp [Instr.lookup, run_underlying ht, hg, hck, h3, run_zeroValue hz], .plain hpl⟩
              · exact ⟨_, by simp [Instr.lookup, run_underlying ht, hg, hck, h3, run_zeroValue hz], .tuple (.cons (.plain hpl) (.cons (.bool _) .nil))⟩
            · cases h
          · cases h
        · cases h
      · cases h
  · cases h
end Go.Abs
