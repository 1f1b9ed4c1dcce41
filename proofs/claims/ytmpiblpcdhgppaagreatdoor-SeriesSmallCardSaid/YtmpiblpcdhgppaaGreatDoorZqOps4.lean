/- A map is written; a new object; append, copy, clear. -/
import Derived.Test.YtmpiblpcdhgppaaGreatDoorZqOps3
namespace Go.Abs
variable {P : Program} {φ : Emb} {H : AHeap} {w : World}

theorem same1_bits {a b a' b' : Value} (h : same1 a b = true) (ha : VR φ a a') (hb : VR φ b b') (n : Nat) : Instr.sameBits n b' a' = true := by
  unfold same1 at h
  split at h
  · cases ha; cases hb; simp at h; subst h; cases n <;> simp [Instr.sameBits]
  · cases ha; cases hb; simp at h; obtain ⟨rfl, rfl⟩ := h; cases n <;> simp [Instr.sameBits]
  · cases ha; cases hb
    have e := beq_bytes ‹ByteArray› ‹ByteArray›
    rename_i x y
    have : (y == x) = true := by rw [beq_bytes]; simp at h ⊢; exact h.symm
    cases n <;> simp only [Instr.sameBits] <;> exact this
  · cases ha; cases hb; cases n <;> simp [Instr.sameBits]
  · simp at h; obtain ⟨rfl, rfl⟩ := h
    cases ha with
    | ptr hp => cases hb with
      | ptr hq => rw [hp] at hq; cases hq; cases n <;> simp [Instr.sameBits]
  · cases h
theorem sameL_bits : ∀ {a b a' b' : List Value}, sameL a b = true → VRL φ a a' → VRL φ b b' → ∀ n, b'.length = a'.length ∧ (b'.zip a').all (fun (x, y) => Instr.sameBits n x y) = true
  | [], [], _, _, _, .nil, .nil, _ => by simp
  | _ :: _, _ :: _, _, _, h, .cons h1 h2, .cons k1 k2, n => by
    simp only [sameL, Bool.and_eq_true] at h
    obtain ⟨e1, e2⟩ := sameL_bits h.2 h2 k2 n
    refine ⟨by simp [e1], ?_⟩
    simp only [List.zip_cons_cons, List.all_cons, Bool.and_eq_true]
    exact ⟨same1_bits h.1 h1 k1 n, e2⟩
  | [], _ :: _, _, _, h, _, _, _ => by simp [sameL] at h
  | _ :: _, [], _, _, h, _, _, _ => by simp [sameL] at h
theorem sameKey_bits {a b a' b' : Value} (h : sameKey a b = true) (ha : VR φ a a') (hb : VR φ b b') : Instr.sameBits 10000 b' a' = true := by
  unfold sameKey at h
  split at h
  · cases ha with
    | agg ha => cases hb with
      | agg hb =>
        obtain ⟨e1, e2⟩ := sameL_bits h ha hb 9999
        show (_ && _) = true
        rw [Bool.and_eq_true]
        exact ⟨by simpa using e1, e2⟩
  · exact same1_bits h ha hb _
theorem modify_mid {α : Type} (f : α → α) (m : α) (b : List α) : ∀ (a : List α), (a ++ m :: b).modify a.length f = a ++ f m :: b
  | [] => by simp
  | x :: a => by rw [List.cons_append, List.length_cons, List.modify_succ_cons, modify_mid f m b a, List.cons_append]
theorem MR.set {φ : Emb} : ∀ {es : List (Value × Value)} {ms : List MapEntry} (j : Nat) {k v k' v' : Value} (f : MapEntry → MapEntry), MR φ es ms → VR φ k k' → VR φ v v' → (∀ m, (f m).key = k' ∧ (f m).val = v') → MR φ (es.set j (k, v)) (ms.modify j f)
  | [], [], _, _, _, _, _, _, _, _, _, _ => by simp [MR]
  | e :: es, m :: ms, 0, k, v, k', v', f, h, hk, hv, hf => by
    simp only [List.set_cons_zero, List.modify_zero_cons]
    exact ⟨by rw [(hf m).1]; exact hk, by rw [(hf m).2]; exact hv, h.2.2⟩
  | e :: es, m :: ms, j + 1, k, v, k', v', f, h, hk, hv, hf => by
    simp only [List.set_cons_succ, List.modify_succ_cons]
    exact ⟨h.1, h.2.1, MR.set j f h.2.2 hk hv hf⟩
  | [], _ :: _, _, _, _, _, _, _, h, _, _, _ => h.elim
  | _ :: _, [], _, _, _, _, _, _, h, _, _, _ => h.elim
theorem MR.snoc {φ : Emb} : ∀ {es : List (Value × Value)} {ms : List MapEntry} {k v k' v' : Value} {n : Nat}, MR φ es ms → VR φ k k' → VR φ v v' → MR φ (es ++ [(k, v)]) (ms ++ [⟨k', v', n⟩])
  | [], [], _, _, _, _, _, _, hk, hv => ⟨hk, hv, trivial⟩
  | _ :: _, _ :: _, _, _, _, _, _, h, hk, hv => ⟨h.1, h.2.1, MR.snoc h.2.2 hk hv⟩
  | [], _ :: _, _, _, _, _, _, h, _, _ => h.elim
  | _ :: _, [], _, _, _, _, _, h, _, _ => h.elim
theorem putObj_rest (w : World) (r : Nat) (o : Obj) : (w.putObj r o).os = w.os ∧ (w.putObj r o).tape = w.tape ∧ (w.putObj r o).output = w.output := ⟨rfl, rfl, rfl⟩
theorem run_mapSetA {t : TypeId} {m m' k k' v v' : Value} {H' : AHeap} (h : mapSetA P t m k v H = some H') (hR : Rel φ H w) (hm : VR φ m m') (hk : VR φ k k') (hv : VR φ v v') :
    ∃ w', (Instr.mapUpdate t m' k' v').run P w = .ok () w' ∧ Rel φ H' w' ∧ Step φ H w φ H' w' := by
  unfold mapSetA at h
  split at h
  · rename_i kt et i ht
    cases hm with
    | map hp =>
      rename_i p
      split at h
      · rename_i es hi
        obtain ⟨p', hp', es', cl, g1, g2⟩ := hR.obj _ _ hi
        rw [hp] at hp'; cases hp'
        have hlt := hR.lt _ _ hp
        split at h
        · rename_i hka
          obtain ⟨d, hd⟩ := keyA_under hka
          have hck : ∀ b, (Instr.checkKey b 10000 kt k').run P w = .ok () w := fun b => run_checkKey 10000 hka hk
          have hg : (getObj p.b).run P w = .ok (.map es' cl) w := by simp [getObj, Sem.run, g1]
          have hs : ∀ o, (setObj p.b o).run P w = .ok () (w.putObj p.b o) := fun o => by simp [setObj, Sem.run, g1, World.putObj]
          have done : ∀ (es2 : List (Value × Value)) (es2' : Array MapEntry) (cl' : Nat), PMR φ es2 es2'.toList → Rel φ (H.put i (.map es2 false)) (w.putObj p.b (.map es2' cl')) ∧ Step φ H w φ (H.put i (.map es2 false)) (w.putObj p.b (.map es2' cl')) := fun es2 es2' cl' hmr =>
            hR.upd hi rfl hp _ rfl rfl rfl rfl World.putObj_size (fun k hk => World.putObj_heap_other hk) ⟨es2', cl', World.putObj_heap_same hlt, hmr⟩
          split at h
          · rename_i j u hf
            split at h
            · rename_i e he
              split at h
              · rename_i hsk
                cases h
                have h2 := run_findAskingA hR hk hf g2
                obtain ⟨u', a, m0, b, c, d, e', a1, a2, a3, a4, a5, a6, a7, a8⟩ := h2
                have h3 := run_findKeyA hd a1
                rw [he] at a7; cases a7
                have hm0 : es'[a.length]? = some m0 := by
                  rw [← Array.getElem?_toList, a3]; simp
                have hbits := sameKey_bits hsk hk a8
                obtain ⟨r1, r2⟩ := done (es.set j (k, v)) (es'.modify a.length fun e => { e with key := k', val := v' }) cl (by
                  rw [Array.toList_modify, a3, modify_mid]
                  refine ⟨c ++ { m0 with key := k', val := v' } :: d, List.perm_middle.trans ((a5.cons _).trans List.perm_middle.symm), ?_⟩
                  have := MR.set j (fun e => { e with key := k', val := v' }) a4 hk hv (fun _ => ⟨rfl, rfl⟩)
                  rw [← a6, modify_mid, a6] at this
                  exact this)
                exact ⟨_, by simp [Instr.mapUpdate, run_underlying ht, hg, hck, h3, Instr.keyThatStays, hm0, hbits, hs], r1, r2⟩
              · cases h
            · cases h
          · rename_i hf
            cases h
            have h2 := run_findAskingA hR hk hf g2
            have h3 := run_findKeyA hd h2
            obtain ⟨r1, r2⟩ := done (es ++ [(k, v)]) (es'.push { key := k', val := v', born := cl }) (cl + 1) (by
              rw [Array.toList_push]
              obtain ⟨l, q1, q2⟩ := g2
              exact ⟨l ++ [⟨k', v', cl⟩], q1.append_right _, MR.snoc q2 hk hv⟩)
            exact ⟨_, by simp [Instr.mapUpdate, run_underlying ht, hg, hck, h3, hs], r1, r2⟩
          · cases h
        · cases h
      · cases h
  · cases h
end Go.Abs
