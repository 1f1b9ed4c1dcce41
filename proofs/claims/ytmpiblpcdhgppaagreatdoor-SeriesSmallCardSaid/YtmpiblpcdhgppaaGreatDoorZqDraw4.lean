/- Regions without an order: the theorem. -/
import Derived.Test.YtmpiblpcdhgppaaGreatDoorZqDraw3
namespace Go.Abs
variable {P : Program}
section
variable {NG : Nat} {cl : CallF} {ops : Array Oper} {ms : List Nat} {base : Nat} {S : AAct} {H H0 : AHeap} {recs : List Rec} {st : Nat → St} {φ0 φ : Emb} {w0 w : World} {G : AHeap} {j : Nat} {L : Array Bool} {a : Act}

theorem heavy_of {o : Oper} {k : Kind} (h : kindOf o.op = k) : heavyO o = heavyK k := by unfold heavyO; rw [h]

theorem Inv.op (h : Inv ops ms base S recs st φ0 H0 w0 φ G j L a w) (hcl : SoundCall P NG 0 cl) (hr : Run P cl ops ms base S H recs st) (hb : H0.next ≤ base) (hg : Globs NG φ0) (hok : ∀ o ∈ ops.toList, opOk NG o = true)
    {Hf : AHeap} (hf : (st ops.size).H = Hf) (hsteady : ∀ i, i < ops.size → steadyA P ops ms recs Hf i = true) {r : Option Nat} {i : Nat} (hi : i ∈ Region.ready .any ops L) {Q : Exit → Act → World → Prop} {K : Act → World → Prop}
    (hK : ∀ φ' G' j' a' w', Inv ops ms base S recs st φ0 H0 w0 φ' G' j' (L.setIfInBounds i true) a' w' → K a' w') : wpOpIn (fen r) 0 P ops Q i K a w := by
  obtain ⟨o, hn⟩ := now_of hi h.size
  have hin : i < ops.size := by have := hn.lt; rw [h.size] at this; omega
  obtain ⟨rc, hrc, hT, hH, hput, hcases⟩ := hr.one i o hn.op
  have hlook := h.look hr hn
  have hgφ : Globs NG φ := hg.mono h.step.le
  have hoko : opOk NG o = true := hok o (by rw [List.mem_iff_getElem?]; exact ⟨i, by simpa using hn.op⟩)
  have hρ := ev_at hlook hgφ hoko
  have hbig := h.big
  unfold wpOpIn
  simp only [hn.op]
  rw [wanted_at o hlook]
  rcases hcases with ⟨hw, hk, hv, hob, -, -⟩ | ⟨hw, hk, ob, f, hv, hrv, hob, -, -⟩ | ⟨hw, hk, hv, hob, -⟩ | ⟨hw, hk, ⟨c, k, ho, hck, hv⟩, hob, -⟩ | ⟨hw, hh, hrv, hob, hHn, -⟩ | ⟨hw, hh, hrv, hob, -, -⟩
  · rw [if_pos hw]
    have hlt : heavyO o = false := heavy_of hk
    have hv' := h.val hr hn hrc hT hk hw hf (hsteady i hin) hv
    have hR := h.rel.sub h.sub (Nat.le_of_eq h.next)
    obtain ⟨v', hrun, hvv⟩ := run_valA (o := o) hv' hR hρ
    exact oper_in (valA_not_defer hv') ⟨_, v', w, hrun, .inl rfl, hK _ _ _ _ _ (h.light hr hn hrc hput hlt hob hvv)⟩
  · rw [if_pos hw]
    have hlt : heavyO o = false := heavy_of hk
    obtain ⟨hrw, ob', v', p, hp, hrun, hnew⟩ := run_newA (w := w) (φ := φ) (o := o) hv hρ
    have hle : φ.le (φ.ext (base + i) p) := Emb.le_ext (h.empty i hin (.inl hn.off))
    obtain ⟨h1, h2⟩ := hnew (φ.ext (base + i) p) (base + i) hle Emb.ext_self
    rw [← hrv] at h2
    exact oper_in (newA_not_defer hv) ⟨_, v', _, hrun, .inl rfl, hK _ _ _ _ _ (h.fresh hr hb hn hrc hput hlt hob hrw hp h1 h2)⟩
  · rw [if_pos hw]
    have hh : heavyO o = true := heavy_of hk
    obtain ⟨hji, hst, hsub⟩ := h.at hr hn hh
    have hnext : (placeA ms base i (st i).pend (st i).H).next = G.next := by rw [placeA_next, hst, h.next]
    obtain ⟨nx, v', w', φ', hrun, hhd, hvv, r1, r2⟩ := run_effA (o := o) hv (h.rel.sub hsub (Nat.le_of_eq hnext.symm)) hρ
    obtain ⟨G', hI⟩ := h.heavy hr hn hrc hput hh hob hvv r1 r2
    exact oper_in (effA_not_defer hv) ⟨nx, v', w', hrun, hhd, hK _ _ _ _ _ hI⟩
  · rw [if_pos hw]
    have hh : heavyO o = true := heavy_of hk
    obtain ⟨hji, hst, hsub⟩ := h.at hr hn hh
    have hnext : (placeA ms base i (st i).pend (st i).H).next = G.next := by rw [placeA_next, hst, h.next]
    obtain ⟨k', hck', hrun⟩ := run_calleeA (P := P) (w := w) (ty := o.type) hck (fun x hx => hρ x (by rw [ho]; exact hx))
    have hc := hcl k _ _ _ hv φ w k' hgφ (h.rel.sub hsub (Nat.le_of_eq hnext.symm)) hck'
    refine oper_call (k := k') ho (by simp only [execOp, ho]; exact hrun) rfl ?_
    have key : ∀ v' w', (∃ φ', VR φ' rc.v v' ∧ Rel φ' (st (i + 1)).H w' ∧ Step φ (placeA ms base i (st i).pend (st i).H) w φ' (st (i + 1)).H w') → K (a.put o.dst v') w' := fun v' w' ⟨φ', q1, q2, q3⟩ => by
      obtain ⟨G', hI⟩ := h.heavy hr hn hrc hput hh hob q1 q2 q3
      exact hK _ _ _ _ _ hI
    rcases hc with ⟨v', w', h1, h2⟩ | ⟨f, args, h1, h2⟩ | ⟨l', f, ts, asg, body, h1, h2⟩
    · exact .inl ⟨v', w', h1, key _ _ h2⟩
    · exact .inr (.inl ⟨f, args, h1, h2.mono fun e w' he => by cases e <;> first | exact key _ _ he | exact he⟩)
    · exact .inr (.inr ⟨l', f, ts, asg, body, h1, h2.mono fun e w' he => by cases e <;> first | exact key _ _ he | exact he⟩)
  · rw [if_neg (by rw [hw]; simp)]
    obtain ⟨hji, hst, hsub⟩ := h.at hr hn hh
    have hnext : (placeA ms base i (st i).pend (st i).H).next = G.next := by rw [placeA_next, hst, h.next]
    have hR := h.rel.sub hsub (Nat.le_of_eq hnext.symm)
    obtain ⟨G', hI⟩ := h.heavy hr hn hrc hput hh hob (φ' := φ) (w' := w) (v' := undef) (by rw [hrv]; exact .tuple .nil) (by rw [hHn]; exact hR) (by rw [hHn]; exact Step.refl ..)
    exact ⟨fun f _ => fen_fn r f, hK _ _ _ _ _ hI⟩
  · rw [if_neg (by rw [hw]; simp)]
    exact ⟨fun f _ => fen_fn r f, hK _ _ _ _ _ (h.light hr hn hrc hput hh hob (by rw [hrv]; exact .tuple .nil))⟩

theorem all_on (h : Inv ops ms base S recs st φ0 H0 w0 φ G j L a w) (hr : Run P cl ops ms base S H recs st) (hrd : Region.ready .any ops L = []) : ∀ i, i < ops.size → on L i := by
  intro i
  induction i using Nat.strongRecOn with
  | _ i ih =>
    intro hi
    refine Classical.byContradiction fun hoff => ?_
    have ho : ops[i]? = some ops[i] := Array.getElem?_eq_getElem hi
    have : i ∈ Region.ready .any ops L := by
      rw [mem_ready]
      refine ⟨?_, ops[i], ho, fun e he hb => ?_⟩
      · have hlt : i < L.size := by rw [h.size]; exact hi
        unfold on at hoff
        rw [Array.getD_eq_getD_getElem?] at hoff ⊢
        simp [hlt] at hoff ⊢; exact hoff
      · have := edges_lt ops.toList [] ms hr.masks i ops[i] (by simp) e (by simpa using he) hb
        simp at this
        exact ih e.on this (by omega)
    rw [hrd] at this; cases this
theorem count_set {L : Array Bool} {i : Nat} (hi : i < L.size) (h : ¬ on L i) : (L.setIfInBounds i true).toList.countP (· == false) + 1 = L.toList.countP (· == false) := by
  have hli : L.toList[i]'(by simpa using hi) = false := by
    unfold on at h
    rw [Array.getD_eq_getD_getElem?] at h
    simp [hi] at h; simpa using h
  have hl : i < L.toList.length := by simpa using hi
  have hpos : 0 < L.toList.countP (· == false) := List.countP_pos_iff.2 ⟨L.toList[i], List.getElem_mem _, by rw [hli]; rfl⟩
  rw [Array.toList_setIfInBounds, List.countP_set hl, hli]
  show List.countP (· == false) L.toList - 1 + 0 + 1 = _
  omega
theorem any_sound (hcl : SoundCall P NG 0 cl) (hr : Run P cl ops ms base S H recs st) (hb : H0.next ≤ base) (hg : Globs NG φ0) (hok : ∀ o ∈ ops.toList, opOk NG o = true)
    {Hf : AHeap} (hf : (st ops.size).H = Hf) (hsteady : ∀ i, i < ops.size → steadyA P ops ms recs Hf i = true) {r : Option Nat} {Q : Exit → Act → World → Prop}
    (hQ : ∀ φ G j L a w, Inv ops ms base S recs st φ0 H0 w0 φ G j L a w → (∀ i, i < ops.size → on L i) → Q .normal a w) :
    ∀ (fuel : Nat) (φ : Emb) (G : AHeap) (j : Nat) (L : Array Bool) (a : Act) (w : World), Inv ops ms base S recs st φ0 H0 w0 φ G j L a w → L.toList.countP (· == false) ≤ fuel → wpAnyIn (fen r) 0 P .any ops Q fuel L a w := by
  intro fuel
  induction fuel with
  | zero =>
    intro φ G j L a w h hc
    have hrd : Region.ready .any ops L = [] := by
      cases hq : Region.ready .any ops L with
      | nil => rfl
      | cons i l =>
        obtain ⟨o, hn⟩ := now_of (i := i) (by rw [hq]; simp) h.size
        have := count_set hn.lt hn.off
        omega
    exact ⟨hrd, hQ φ G j L a w h (all_on h hr hrd)⟩
  | succ fuel ih =>
    intro φ G j L a w h hc
    refine ⟨fun hrd => hQ φ G j L a w h (all_on h hr hrd), fun i hi => ?_⟩
    obtain ⟨o, hn⟩ := now_of hi h.size
    have := count_set hn.lt hn.off
    exact h.op hcl hr hb hg hok hf hsteady hi fun φ' G' j' a' w' h' => ih φ' G' j' _ a' w' h' (by omega)
end
theorem draw_sound {NG : Nat} (hm : P.follows .mixedOrders = true) : DrawSound P NG := by
  intro cl hcl r id ops hok hdraw S S' H H' φ w a h hg hR hA
  unfold drawA at h
  split at h
  · cases h
  rename_i ms hms
  split at h
  · cases h
  rename_i recs S1 Hf pend hgo
  split at h
  case isFalse => cases h
  rename_i hsteady
  cases h
  rw [List.all_eq_true] at hsteady
  obtain ⟨st, hr, hend⟩ := run_of hdraw hms hgo
  refine wpIn_region_any hm ?_
  have h0 : Inv ops ms H.next S recs st φ H w φ { H with next := H.next + ops.size } 0 (Array.replicate ops.size false) a w.drew := by
    have hoff : ∀ k, ¬ on (Array.replicate ops.size false) k := fun k hk => by
      unfold on at hk
      rw [Array.getD_eq_getD_getElem?, Array.getElem?_replicate] at hk
      split at hk <;> cases hk
    have hst0 : (st 0).H = { H with next := H.next + ops.size } := by rw [hr.zero]
    refine ⟨by simp, hR.drew.bump _, (Step.drew φ H w).trans (Step.bump φ H w.drew ops.size), hA.1.1, hA.2, fun t _ => hA.1.2 t, fun k _ _ _ hk => absurd hk (hoff k), Nat.zero_le _, fun k _ hk => by omega, fun k _ _ _ _ => hoff k, .inl rfl, by rw [hst0], Nat.le_refl _, fun i o e => by rw [hst0] at e; exact e, fun k _ _ hk => absurd hk (hoff k), fun k hk _ => hR.fresh _ (Nat.le_add_right _ _), fun i o _ hk => absurd hk (hoff i)⟩
  refine any_sound hcl hr (Nat.le_refl _) hg hok (by rw [hend]) (fun i hi => hsteady i (by simpa using hi)) (fun φ' G j L a' w' hI hall => ?_) ops.size φ _ 0 _ a _ h0 ?_
  · have hj : (st ops.size).H = (st j).H := hr.still ops.size hI.jn (Nat.le_refl _) fun k o h1 h2 ho => by
      cases hh : heavyO o with
      | false => rfl
      | true => exact absurd (hall k h2) (hI.hi k o h1 ho hh)
    have hsub : ∀ i o, (landA H.next pend Hf).get i = some o → G.get i = some o := fun i o e => by
      rcases landA_mem e with ⟨x, hx, rfl, rfl⟩ | e
      · have := hr.pend ops.size (Nat.le_refl _) x (by rw [hend]; exact hx)
        obtain ⟨q1, ⟨rr, q2, q3⟩, q4⟩ := this
        exact (hI.pend x.1 rr x.2 (hall _ q1) q2 q3 fun k' o' hk' => q4 k' o' (Nat.lt_of_lt_of_le hk' hI.jn)).1
      · have : (st ops.size).H = Hf := by rw [hend]
        rw [← this, hj] at e
        exact hI.sub _ _ e
    have hnext : G.next ≤ (landA H.next pend Hf).next := by
      rw [landA_next, hI.next, ← hj, hend]; exact Nat.le_refl _
    refine ⟨trivial, φ', hI.rel.sub hsub hnext, ⟨⟨?_, fun t => ?_⟩, ?_⟩, hI.step.sub hsub hnext⟩
    · have := (hr.sz ops.size (Nat.le_refl _)).1
      rw [hend] at this; rw [hI.asz, ← this]
    · obtain ⟨e1, e2⟩ := hr.tmp ops.size (Nat.le_refl _)
      rw [hend] at e1 e2
      by_cases hex : ∃ (k : Nat) (p : Oper), ops[k]? = some p ∧ p.dst = some t
      · obtain ⟨k, p, hk, hp⟩ := hex
        obtain ⟨rr, hrk, -⟩ := hr.one k p hk
        have hlt := (Array.getElem?_eq_some_iff.1 hk).1
        have := e2 k p rr t hlt hk hrk hp
        simp only at this
        rw [this]
        exact hI.t1 k p rr t (hall k hlt) hk hrk hp
      · have := e1 t fun k' o' _ ho' hd' => hex ⟨k', o', ho', hd'⟩
        simp only at this
        rw [this]
        exact hI.t0 t fun k' o' _ ho' hd' => hex ⟨k', o', ho', hd'⟩
    · have := (hr.sz ops.size (Nat.le_refl _)).2
      rw [hend] at this
      simp only at this
      rw [this]; exact hI.dr
  · rw [Array.toList_replicate]
    have := List.countP_le_length (p := (· == false)) (l := List.replicate ops.size false)
    simpa using this
end Go.Abs
