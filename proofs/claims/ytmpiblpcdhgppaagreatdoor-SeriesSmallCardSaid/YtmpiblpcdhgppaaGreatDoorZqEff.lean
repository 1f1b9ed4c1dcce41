/- append, copy, clear. -/
import Derived.Test.YtmpiblpcdhgppaaGreatDoorZqNew
import Derived.Lib.AppendZeros
namespace Go.Abs
variable {P : Program} {φ : Emb} {H : AHeap} {w : World}

/-- A slice's cells, as the machine has them. -/
theorem rowA_reads (hR : Rel φ H w) {v v' : Value} {z : Nat} {l : List Value} (h : rowA v z H = some l) (hv : VR φ v v') :
    ∃ l', VRL φ l l' ∧ ((v = .slice none 0 0 ∧ v' = .slice none 0 0 ∧ l = []) ∨
      ∃ i o n c p A vs ro, v = .slice (some ⟨i, o, some z⟩) n n ∧ v' = .slice (some A) n c ∧ H.get i = some (.cells vs ro) ∧ φ i = some p ∧ o + n * z ≤ vs.length ∧ n ≤ c ∧ (c = 0 ∨ (A = ⟨p.b, p.s + o, none⟩ ∧ o + c * z ≤ p.r)) ∧
        l = (vs.drop o).take (n * z) ∧ l'.length = n * z ∧ ∀ j u, l'[j]? = some u → w.cell? (A.add j) = some u) := by
  unfold rowA at h
  split at h
  · cases h; cases hv
    exact ⟨[], .nil, .inl ⟨rfl, rfl, rfl⟩⟩
  · rename_i i o z' n n'
    split at h
    · rename_i hc
      obtain ⟨rfl, rfl⟩ := hc
      split at h
      · rename_i vs ro hi
        split at h
        · rename_i hle
          cases h
          cases hv with
          | slice hp hn hc =>
            rename_i c p A
            obtain ⟨cs, h1, h2, h3⟩ := hR.cells hi hp hle
            refine ⟨cs, h2, .inr ⟨i, o, n, c, p, A, vs, ro, rfl, rfl, hi, hp, hle, hn, hc, rfl, h1, fun j u hj => ?_⟩⟩
            rcases hc with hc | ⟨rfl, _⟩
            · have : n = 0 := by omega
              subst this
              have : cs = [] := List.eq_nil_of_length_eq_zero (by omega)
              subst this; simp at hj
            · rw [add_pl]; exact h3 j u hj
        · cases h
      · cases h
    · cases h
  · cases h
theorem VRL.oneCells {φ : Emb} : ∀ {l l' : List Value}, VRL φ l l' → l.all Value.oneCell' = true → ∀ u ∈ l', u.oneCell' = true
  | _, _, .nil, _, u, hu => by simp at hu
  | _, _, .cons h k, ho, u, hu => by
    simp only [List.all_cons, Bool.and_eq_true] at ho
    rcases List.mem_cons.1 hu with rfl | hu
    · rw [h.oneCell]; exact ho.1
    · exact k.oneCells ho.2 u hu
/-- A row that grows into a new block. -/
theorem grown_obj {l l' : List Value} (hl : VRL φ l l') (zc : Array Value) (k : Nat) (e : TypeId) {z : Nat} (hz : zc.size = z) {ψ : Emb} (hle : φ.le ψ) {n : Nat} (hn : l.length = n * z) :
    (AObj.cells l false).rel ψ ⟨w.heap.size, 0, (n + k) * z⟩ (w.alloc (.cells (l'.toArray ++ Builtin.zeroCells zc k) e)) := by
  have hlen := hl.length
  refine ⟨_, e, (0, 0), heap_alloc_new w _, ?_, ?_, fun j v hj => ?_, fun _ => rfl⟩
  · simp only [Array.size_append, List.size_toArray, size_zeroCells, hz, Nat.zero_add, Nat.add_mul]; omega
  · show l.length ≤ (n + k) * z
    rw [Nat.add_mul]; omega
  · obtain ⟨v', h1, h2⟩ := hl.get j v hj
    have := (List.getElem?_eq_some_iff.1 h1).1
    refine ⟨v', ?_, h2.mono hle⟩
    rw [Nat.zero_add, Array.getElem?_append_left (by simpa using this)]
    simpa using h1
/-- What is appended: cells of the machine, in its own slice. -/
def News (_P : Program) (φ : Emb) (w : World) (z m : Nat) (x' : Value) (news news' : List Value) : Prop :=
  VRL φ news news' ∧ news'.length = m * z ∧ ((m = 0 ∧ x' = .slice none 0 0) ∨ ∃ A c, x' = .slice (some A) m c ∧ ∀ j u, news'[j]? = some u → w.cell? (A.add j) = some u)
theorem append_nil {t ty e : TypeId} {i : TypeInfo} {z : Value} (ht : P.underlying t = some (.slice e)) (hi : P.info? e = some i) (hz : i.zero = some z) (hR : Rel φ H w) {m : Nat} {x' : Value} {news news' : List Value} (hn : News P φ w i.size m x' news news')
    (hm : ¬ m = 0) (h1 : m * i.bytes ≤ 140737488355328) (h2 : m ≤ 140737488355328) (h5 : z.cells.size = i.size) :
    ∃ v' w' φ', (Builtin.append_ #[t, t] ty #[.slice none 0 0, x']).run P w = .ok v' w' ∧ VR φ' (.slice (some ⟨H.next, 0, some i.size⟩) m m) v' ∧ Rel φ' (H.alloc (.cells news false)) w' ∧ Step φ H w φ' (H.alloc (.cells news false)) w' := by
  obtain ⟨hnl, hl', hn⟩ := hn
  rcases hn with ⟨h, _⟩ | ⟨A, c, rfl, hcell⟩
  · exact absurd h hm
  · have hr := run_append_nil (P := P) w t ty e i z ht hi hz A m c news' (by rw [hl']) hcell (by omega) (by omega) (by omega)
    have hge := grownCap_ge w m 0 e
    generalize grownCap w m 0 e = g at hr hge
    have hnew : news.length = m * i.size := by rw [hnl.length, hl']
    have hR2 := hR.drew
    have hob := grown_obj (w := w.drew) hnl z.cells (g - m) e h5 (ψ := φ.ext H.next ⟨w.heap.size, 0, (m + (g - m)) * i.size⟩) (Emb.le_ext (hR.fresh _ (Nat.le_refl _))) hnew
    obtain ⟨r1, r2⟩ := hR2.alloc _ _ ⟨w.heap.size, 0, (m + (g - m)) * i.size⟩ rfl rfl hob
    refine ⟨_, _, _, hr, ?_, r1, (Step.drew φ H w).trans r2⟩
    refine .slice Emb.ext_self hge (.inr ⟨by simp, ?_⟩)
    show 0 + g * i.size ≤ (m + (g - m)) * i.size
    rw [show m + (g - m) = g from by omega]; omega
theorem append_fits {t ty e : TypeId} {i : TypeInfo} (ht : P.underlying t = some (.slice e)) (hi : P.info? e = some i) (hR : Rel φ H w) {m : Nat} {x' : Value} {news news' : List Value} (hn : News P φ w i.size m x' news news')
    {b o n c : Nat} {p : Pl} {A : Addr} {vs : List Value} (hb : H.get b = some (.cells vs false)) (hp : φ b = some p) (hle : o + n * i.size ≤ vs.length) (hnc : n ≤ c) (hcc : c = 0 ∨ (A = ⟨p.b, p.s + o, none⟩ ∧ o + c * i.size ≤ p.r))
    (h3 : news.all Value.oneCell' = true) (hroom : n + m ≤ c) :
    ∃ v' w' φ', (Builtin.append_ #[t, t] ty #[.slice (some A) n c, x']).run P w = .ok v' w' ∧ VR φ' (.slice (some ⟨H.next, 0, some i.size⟩) (n + m) (n + m)) v' ∧
      Rel φ' ((H.drop b).alloc (.cells ((vs.drop o).take (n * i.size) ++ news) false)) w' ∧ Step φ H w φ' ((H.drop b).alloc (.cells ((vs.drop o).take (n * i.size) ++ news) false)) w' := by
  obtain ⟨hnl, hl2, hn⟩ := hn
  obtain ⟨p0, c1, e1, fr, hp0, g1, g2, g3, g4, g5⟩ := hR.row hb
  rw [hp] at hp0; cases hp0
  have holen : ((vs.drop o).take (n * i.size)).length = n * i.size := by rw [List.length_take, List.length_drop]; omega
  have hnlen : news.length = m * i.size := by rw [hnl.length, hl2]
  have hfit : n * i.size + m * i.size ≤ p.r - o := by
    rcases hcc with hcc | ⟨_, hcr⟩
    · have hn0 : n = 0 := by omega
      have hm0 : m = 0 := by omega
      subst hn0; subst hm0; omega
    · have : n * i.size + m * i.size ≤ c * i.size := by rw [← Nat.add_mul]; exact Nat.mul_le_mul_right _ hroom
      omega
  have hrun : (Builtin.append_ #[t, t] ty #[.slice (some A) n c, x']).run P w = .ok (.slice (some A) (n + m) c) (w.setCells p.b (p.s + o + n * i.size) news') := by
    rcases hn with ⟨q1, rfl⟩ | ⟨A2, c2, rfl, hcell2⟩
    · subst q1
      have : news' = [] := List.eq_nil_of_length_eq_zero (by omega)
      subst this
      have : n ≤ c := hnc
      simp [Builtin.append_, run_underlying ht, sizeOf, typeInfo, hi, Builtin.lenOf, Builtin.firstCells, this, storeCells, World.setCells]
    · rcases hcc with hcc | ⟨rfl, hcr⟩
      · have hn0 : n = 0 := by omega
        have hm0 : m = 0 := by omega
        subst hn0; subst hm0; subst hcc
        have : news' = [] := List.eq_nil_of_length_eq_zero (by omega)
        subst this
        simp [Builtin.append_, run_underlying ht, sizeOf, typeInfo, hi, Builtin.lenOf, Builtin.firstCells, loadCells, loadCellsFrom, storeCells, World.setCells]
      · exact run_append_room_cells (P := P) w t ty e i ht hi p.b (p.s + o) n c A2 m c2 news' (by rw [hl2]) hcell2 (hnl.oneCells h3) hroom
          (fun j hj => by
            have := (hR.there hb hp (j := o + n * i.size + j) (by omega)).1
            simpa [Nat.add_assoc] using this)
          (fun j hj => by
            have := (hR.there hb hp (j := o + n * i.size + j) (by omega)).2
            simpa [Nat.add_assoc] using this)
  obtain ⟨c', k1, k2, k3⟩ := setCells_heap p.b news' (p.s + o + n * i.size) w g1
  have hf : φ.le (φ.ext H.next ⟨p.b, p.s + o, p.r - o⟩) := Emb.le_ext (hR.fresh _ (Nat.le_refl _))
  have hob : (AObj.cells ((vs.drop o).take (n * i.size) ++ news) false).rel (φ.ext H.next ⟨p.b, p.s + o, p.r - o⟩) ⟨p.b, p.s + o, p.r - o⟩ (w.setCells p.b (p.s + o + n * i.size) news') := by
    refine ⟨c', e1, fr, k1, by rw [k2]; show p.s + o + (p.r - o) ≤ c1.size; omega, by rw [List.length_append, holen, hnlen]; exact hfit, fun j v hj => ?_, g5⟩
    show ∃ v', c'[p.s + o + j]? = some v' ∧ _
    have hjl := (List.getElem?_eq_some_iff.1 hj).1
    rw [List.length_append, holen, hnlen] at hjl
    rw [k3 _ (by omega)]
    by_cases hjn : j < n * i.size
    · rw [if_neg (by omega)]
      rw [List.getElem?_append_left (by omega), List.getElem?_take, if_pos hjn, List.getElem?_drop] at hj
      obtain ⟨v', q1, q2⟩ := g4 _ v hj
      exact ⟨v', by rw [← q1]; congr 1; omega, q2.mono hf⟩
    · rw [if_pos ⟨by omega, by omega⟩]
      rw [List.getElem?_append_right (by omega), holen] at hj
      obtain ⟨v', q1, q2⟩ := hnl.get _ v hj
      exact ⟨v', by rw [← q1]; congr 1; omega, q2.mono hf⟩
  obtain ⟨r1, r2⟩ := hR.move hb rfl hp (.cells ((vs.drop o).take (n * i.size) ++ news) false) rfl ⟨p.b, p.s + o, p.r - o⟩ rfl (setCells_rest ..).1 (setCells_rest ..).2.1 (setCells_rest ..).2.2 (setCells_size ..) (fun k hk => setCells_other _ _ _ _ _ hk) hob
  refine ⟨_, _, _, hrun, ?_, r1, r2⟩
  refine .slice Emb.ext_self hroom ?_
  rcases hcc with hcc | ⟨rfl, hcr⟩
  · exact .inl hcc
  · exact .inr ⟨by simp, by show 0 + c * i.size ≤ p.r - o; omega⟩
theorem append_grows {t ty e : TypeId} {i : TypeInfo} {z : Value} (ht : P.underlying t = some (.slice e)) (hi : P.info? e = some i) (hz : i.zero = some z) (hR : Rel φ H w) {m : Nat} {x' : Value} {news news' : List Value} (hn : News P φ w i.size m x' news news')
    {b n c : Nat} {A : Addr} {olds olds' : List Value} (hol : VRL φ olds olds') (hl' : olds'.length = n * i.size) (hcell : ∀ j u, olds'[j]? = some u → w.cell? (A.add j) = some u)
    (h1 : (n + m) * i.bytes ≤ 140737488355328) (h2 : n + m ≤ 140737488355328) (h5 : z.cells.size = i.size) (hnc : n ≤ c) (hroom : ¬ n + m ≤ c) :
    ∃ v' w' φ', (Builtin.append_ #[t, t] ty #[.slice (some A) n c, x']).run P w = .ok v' w' ∧ VR φ' (.slice (some ⟨H.next, 0, some i.size⟩) (n + m) (n + m)) v' ∧
      Rel φ' ((H.drop b).alloc (.cells (olds ++ news) false)) w' ∧ Step φ H w φ' ((H.drop b).alloc (.cells (olds ++ news) false)) w' := by
  obtain ⟨hnl, hl2, hn⟩ := hn
  rcases hn with ⟨h, _⟩ | ⟨A2, c2, rfl, hcell2⟩
  · omega
  · have hr := run_append_grow (P := P) w t ty e i z ht hi hz A n c olds' (by rw [hl']) hcell A2 m c2 news' (by rw [hl2]) hcell2 (by omega) (by omega) (growslice_fits (by omega) h1)
    have hge := grownCap_ge w (n + m) c e
    generalize grownCap w (n + m) c e = g at hr hge
    have hR2 := (hR.drop b).drew
    have hlen : (olds ++ news).length = (n + m) * i.size := by rw [List.length_append, hol.length, hl', hnl.length, hl2, Nat.add_mul]
    have hob := grown_obj (w := w.drew) (hol.append hnl) z.cells (g - (n + m)) e h5 (ψ := φ.ext (H.drop b).next ⟨w.heap.size, 0, (n + m + (g - (n + m))) * i.size⟩) (Emb.le_ext (hR.fresh _ (Nat.le_refl _))) hlen
    rw [← List.append_toArray] at hob
    obtain ⟨r1, r2⟩ := hR2.alloc _ _ ⟨w.heap.size, 0, (n + m + (g - (n + m))) * i.size⟩ rfl rfl hob
    refine ⟨_, _, _, hr, ?_, r1, ((Step.drop φ H w b).trans (Step.drew φ (H.drop b) w)).trans r2⟩
    refine .slice Emb.ext_self hge (.inr ⟨by simp, ?_⟩)
    show 0 + g * i.size ≤ (n + m + (g - (n + m))) * i.size
    rw [show n + m + (g - (n + m)) = g from by omega]; omega
theorem news_of (hR : Rel φ H w) {x x' : Value} {z m xc : Nat} {xa : Option Addr} {news : List Value} (hn : rowA x z H = some news) (hx : VR φ x x') (he : x = .slice xa m xc) : ∃ news', News P φ w z m x' news news' := by
  obtain ⟨news', hnl, h⟩ := rowA_reads hR hn hx
  subst he
  rcases h with ⟨e1, rfl, e2⟩ | ⟨j, o, n, c, p, A, vs, ro, e1, rfl, _, _, _, _, _, _, hl', hcell⟩
  · cases e1; subst e2; cases hnl
    exact ⟨[], .nil, by simp, .inl ⟨rfl, rfl⟩⟩
  · cases e1
    exact ⟨news', hnl, hl', .inr ⟨A, c, rfl, hcell⟩⟩
theorem run_appendA {t u ty : TypeId} {s s' x x' v : Value} {H' : AHeap} (h : appendA P t u s x H = some (v, H')) (hR : Rel φ H w) (hs : VR φ s s') (hx : VR φ x x') :
    ∃ v' w' φ', (Builtin.append_ #[t, u] ty #[s', x']).run P w = .ok v' w' ∧ VR φ' v v' ∧ Rel φ' H' w' ∧ Step φ H w φ' H' w' := by
  unfold appendA at h
  split at h
  · rename_i htu
    subst htu
    split at h
    · rename_i e ht
      split at h
      · rename_i i hi
        split at h
        · rename_i z hz
          split at h
          · rename_i olds news ho hn
            split at h
            · rename_i xa m xc
              obtain ⟨news', hN⟩ := news_of (P := P) hR hn hx rfl
              split at h
              · cases hs
                split at h
                · rename_i hm
                  cases h
                  subst hm
                  refine ⟨.slice none 0 0, w, φ, ?_, .nilslice, hR, Step.refl ..⟩
                  rcases hN.2.2 with ⟨_, rfl⟩ | ⟨A, c, rfl, hcell⟩
                  · simp [Builtin.append_, run_underlying ht, sizeOf, typeInfo, hi, Builtin.lenOf, Builtin.firstCells]
                  · simp [Builtin.append_, run_underlying ht, sizeOf, typeInfo, hi, Builtin.lenOf, Builtin.firstCells, loadCells, loadCellsFrom]
                · rename_i hm
                  split at h
                  · rename_i hc
                    cases h
                    exact append_nil ht hi hz hR hN hm hc.1 hc.2.1 hc.2.2.2.2
                  · cases h
              · rename_i b o z' n c0
                split at h
                · rename_i vs0 hb
                  split at h
                  · rename_i hc
                    cases h
                    obtain ⟨olds', hol, holds⟩ := rowA_reads hR ho hs
                    rcases holds with ⟨e1, _, _⟩ | ⟨j, o2, n', c, p, A, vs, ro, e1, rfl, hj, hp, hle, hnc, hcc, hl, hl', hcell⟩
                    · cases e1
                    · cases e1
                      rw [hb] at hj; cases hj
                      by_cases hroom : n + m ≤ c
                      · rw [hl]
                        exact append_fits ht hi hR hN hb hp hle hnc hcc hc.2.2.1 hroom
                      · exact append_grows ht hi hz hR hN hol hl' hcell hc.1 hc.2.1 hc.2.2.2.2 hnc hroom
                  · cases h
                · cases h
              · cases h
            · cases h
          · cases h
        · cases h
      · cases h
    · cases h
  · cases h
theorem run_copyA {t u ty : TypeId} {d d' s s' v : Value} {H' : AHeap} (h : copyA P t u d s H = some (v, H')) (hR : Rel φ H w) (hd : VR φ d d') (hs : VR φ s s') :
    ∃ v' w', (Builtin.copy_ #[t, u] ty #[d', s']).run P w = .ok v' w' ∧ VR φ v v' ∧ Rel φ H' w' ∧ Step φ H w φ H' w' := by
  unfold copyA at h
  split at h
  · rename_i e ht
    split at h
    · rename_i z da n dc sa m sc hz
      split at h
      · rename_i dl src hdl hsl
        obtain ⟨i, hi, hiz⟩ := info_szT hz
        obtain ⟨dl', hdv, hdr⟩ := rowA_reads hR hdl hd
        obtain ⟨src', hsv, hsr⟩ := rowA_reads hR hsl hs
        have hlen : (Builtin.lenOf s').run P w = .ok m w := by
          rcases hsr with ⟨e1, rfl, _⟩ | ⟨j, o, n2, c, p, A, vs, ro, e1, rfl, _⟩ <;> cases e1 <;> rfl
        have hcs : (Builtin.firstCells z (Nat.min m n) s').run P w = .ok (src'.take (Nat.min m n * z)).toArray w := by
          rcases hsr with ⟨e1, rfl, e2⟩ | ⟨j, o, n2, c, p, A, vs, ro, e1, rfl, _, _, _, _, _, _, hl', hcell⟩
          · cases e1; subst e2; cases hsv; simp [Builtin.firstCells]
          · cases e1
            refine run_firstCells_some (P := P) w z (Nat.min m n) A m c (src'.take (Nat.min m n * z)) ?_ fun j u hj => ?_
            · rw [List.length_take, hl']
              have : Nat.min m n * z ≤ m * z := Nat.mul_le_mul_right _ (Nat.min_le_left _ _)
              omega
            · rw [List.getElem?_take] at hj
              split at hj
              · exact hcell j u hj
              · cases hj
        split at h
        · cases h
          rcases hdr with ⟨e1, rfl, _⟩ | ⟨j, o, n2, c, p, A, vs, ro, e1, _⟩
          · cases e1
            refine ⟨_, w, ?_, .int _ _, hR, Step.refl ..⟩
            have e0 : m.min 0 = 0 := Nat.min_zero m
            rw [e0] at hcs
            simp only [Builtin.copy_]
            simp [run_underlying ht, hlen, run_sizeOf hz, hcs, e0, goInt]
          · cases e1
        · rename_i b o sp
          split at h
          · rename_i vs0 hb
            dsimp only at h
            split at h
            · rename_i hone
              cases h
              rcases hdr with ⟨e1, _, _⟩ | ⟨j, o2, n2, c, p, A, vs, ro, e1, rfl, hj, hp, hle, hnc, hcc, hl, hl', hcell⟩
              · cases e1
              · cases e1
                rw [hb] at hj; cases hj
                have hk : Nat.min m n * z ≤ n * z := Nat.mul_le_mul_right _ (Nat.min_le_right _ _)
                have hv2 := hsv.take (Nat.min m n * z)
                have hlen2 : (src.take (Nat.min m n * z)).length ≤ n * z := by rw [List.length_take]; omega
                obtain ⟨r1, r2⟩ := hR.write hb hp (o := o) (by omega) hv2
                have hst : (storeCells A (src'.take (Nat.min m n * z))).run P w = .ok () (w.setCells p.b (p.s + o) (src'.take (Nat.min m n * z))) := by
                  rcases hcc with hcc | ⟨rfl, hcr⟩
                  · have hn0 : n = 0 := by omega
                    subst hn0
                    have : src'.take (Nat.min m 0 * z) = [] := by simp
                    rw [this]; rfl
                  · obtain ⟨_, _, _, _, hp', _, _, hr, _, _⟩ := hR.row hb
                    rw [hp] at hp'; cases hp'
                    have hst := run_storeCells_cells (P := P) p.b (p.s + o) (src'.take (Nat.min m n * z)) 0 w
                      (fun j hj => by have := (hR.there hb hp (j := o + j) (by rw [← hv2.length] at hj; omega)).1; simpa [Nat.add_assoc] using this)
                      (fun j hj => by have := (hR.there hb hp (j := o + j) (by rw [← hv2.length] at hj; omega)).2; simpa [Nat.add_assoc] using this)
                      (hv2.oneCells hone)
                    simpa using hst
                refine ⟨_, _, ?_, .int _ _, r1, r2⟩
                simp only [Builtin.copy_]
                simp [run_underlying ht, hlen, run_sizeOf hz, hcs, hst, goInt]
            · cases h
          · cases h
      · cases h
    · cases h
  · cases h
theorem run_clearA {t ty : TypeId} {x x' : Value} {H' : AHeap} (h : clearA P t x H = some H') (hR : Rel φ H w) (hx : VR φ x x') :
    ∃ w', (Builtin.clear_ #[t] ty #[x']).run P w = .ok (.tuple #[]) w' ∧ Rel φ H' w' ∧ Step φ H w φ H' w' := by
  unfold clearA at h
  split at h
  · rename_i ht; cases hx; cases h
    exact ⟨w, by simp [Builtin.clear_, run_underlying ht], hR, Step.refl ..⟩
  · rename_i e b o z n n' ht
    split at h
    · rename_i hn
      subst hn
      cases hx with
      | slice hp hnc hcc =>
        rename_i c p A
        split at h
        · rename_i hn0
          cases h
          subst hn0
          refine ⟨w, ?_, hR, Step.refl ..⟩
          simp [Builtin.clear_, run_underlying ht]
        · rename_i hn0
          split at h
          · rename_i zv vs hz hb
            split at h
            · rename_i hc
              cases h
              obtain ⟨h1, h2, h3, h4⟩ := hc
              rcases hcc with hcc | ⟨rfl, hcr⟩
              · omega
              · have hlf := flatten_length (l := zv.cells.toList) (z := z) (by simpa using h1) n
                have hv := VRL.flatten (plainV_cells (φ := φ) h2) n
                obtain ⟨r1, r2⟩ := hR.write hb hp (o := o) (by rw [hlf]; omega) hv
                refine ⟨_, ?_, r1, r2⟩
                have hz0 : 0 < z ∨ z = 0 := by omega
                have hzc : (Builtin.zeroCells zv.cells n).toList = (List.replicate n zv.cells.toList).flatten := by
                  rcases hz0 with hz0 | hz0
                  · have := made_list (zc := zv.cells) h1 hz0 n
                    rw [← this]; unfold Builtin.zeroCells madeCells; rw [h1]
                  · subst hz0
                    have : zv.cells = #[] := Array.eq_empty_of_size_eq_zero h1
                    simp [Builtin.zeroCells, this]
                have hone : ∀ u ∈ (List.replicate n zv.cells.toList).flatten, u.oneCell' = true := by
                  intro u hu
                  rw [List.mem_flatten] at hu
                  obtain ⟨l, hl, hu⟩ := hu
                  rw [List.eq_of_mem_replicate hl] at hu
                  exact List.all_eq_true.1 h3 u hu
                have hst := run_storeCells_cells (P := P) p.b (p.s + o) (List.replicate n zv.cells.toList).flatten 0 w
                  (fun j hj => by have := (hR.there hb hp (j := o + j) (by obtain ⟨_, _, _, _, hp', _, _, hr, _, _⟩ := hR.row hb; rw [hp] at hp'; cases hp'; rw [hlf] at hj; omega)).1; simpa [Nat.add_assoc] using this)
                  (fun j hj => by have := (hR.there hb hp (j := o + j) (by obtain ⟨_, _, _, _, hp', _, _, hr, _, _⟩ := hR.row hb; rw [hp] at hp'; cases hp'; rw [hlf] at hj; omega)).2; simpa [Nat.add_assoc] using this)
                  hone
                simp only [Nat.add_zero] at hst
                have hnn : ∀ k, n = k + 1 → True := fun _ _ => trivial
                cases n with
                | zero => exact absurd rfl hn0
                | succ n => simp [Builtin.clear_, run_underlying ht, run_zeroValue hz, hzc, hst]
            · cases h
          · cases h
    · cases h
  · cases h
theorem run_appendZA {t u ty : TypeId} {s s' x x' v : Value} {H' : AHeap} (h : appendZA P t u s x H = some (v, H')) (hR : Rel φ H w) (hs : VR φ s s') (hx : VR φ x x') :
    ∃ v' w' φ', (Builtin.append_ #[t, u] ty #[s', x']).run P w = .ok v' w' ∧ VR φ' v v' ∧ Rel φ' H' w' ∧ Step φ H w φ' H' w' := by
  unfold appendZA at h
  split at h
  · rename_i e kn kx n ht hu
    split at h
    · rename_i i hi
      split at h
      · rename_i z hz
        split at h
        · rename_i hc
          obtain ⟨h0, h1, h2, h3, h4, h5⟩ := hc
          cases h
          cases hs
          cases hx
          have hr := Lib.run_append_nil_zeros (P := P) w t u ty e i z kx kn ht hu hi hz n h0 h3 (by omega) (by omega)
          have hge := grownCap_ge w n 0 e
          generalize grownCap w n 0 e = g at hr hge
          have hzc : (Builtin.zeroCells z.cells n).toList = (List.replicate n z.cells.toList).flatten := by
            have := made_list (zc := z.cells) h4 h3 n
            rw [← this]; unfold Builtin.zeroCells madeCells; rw [h4]
          have hv := VRL.flatten (plainV_cells (φ := φ) h5) n
          have hlen : (List.replicate n z.cells.toList).flatten.length = n * i.size := by simp [h4]
          have hR2 := hR.drew
          have hob := grown_obj (w := w.drew) hv z.cells (g - n) e h4 (ψ := φ.ext H.next ⟨w.heap.size, 0, (n + (g - n)) * i.size⟩) (Emb.le_ext (hR.fresh _ (Nat.le_refl _))) hlen
          rw [← hzc, Array.toArray_toList] at hob
          rw [hzc] at hob
          obtain ⟨r1, r2⟩ := hR2.alloc _ _ ⟨w.heap.size, 0, (n + (g - n)) * i.size⟩ rfl rfl hob
          refine ⟨_, _, _, hr, ?_, r1, (Step.drew φ H w).trans r2⟩
          refine .slice Emb.ext_self hge (.inr ⟨by simp, ?_⟩)
          show 0 + g * i.size ≤ (n + (g - n)) * i.size
          rw [show n + (g - n) = g from by omega]; omega
        · cases h
      · cases h
    · cases h
  · cases h
end Go.Abs
