/- The evaluator's texts and calls: what it says, the machine does. -/
import Derived.Test.YtmpiblpcdhgppaaGreatDoorZqRun
import Derived.Scope
namespace Go.Abs
variable {P : Program} {φ : Emb} {H : AHeap} {w : World}

/-! ### Rules that lacked -/
section
variable {F : Fence} {n : Nat} {Q : Exit → Act → World → Prop} {a : Act}
theorem stepR_scope {c : Code} {b : Frame} {k : List Item} {cs : List Frame} : step P (lone (b.atR a (.code (.scope c) :: k)) cs w) = .next (lone (b.atR a (.code c :: .inScope c :: k)) cs w) :=
  step_lone_go (by simp [stepG, stepG.exec, Frame.atR])
theorem stepR_inScope {c : Code} {b : Frame} {k : List Item} {cs : List Frame} : step P (lone (b.atR a (.inScope c :: k)) cs w) = .next (lone (b.atR a k) cs w) :=
  step_lone_go (by simp [stepG, stepG.exec, Frame.atR])
def noGoto : Exit → Prop
  | .goto _ => False
  | _ => True
theorem wpIn_scope {c : Code} (h : c.wpIn F n P (fun e a w => noGoto e ∧ Q e a w) a w) : (Code.scope c).wpIn F n P Q a w := by
  intro b k cs hro hb hr
  have h0 : (lone (b.atR a (.code (.scope c) :: k)) cs w).fenced P F := fenced_calm hb hr rfl
  obtain ⟨e, a₁, w₁, ⟨hg, hq⟩, harr⟩ := h b (.inScope c :: k) cs hro hb hr
  cases e with
  | normal => exact ⟨.normal, a₁, w₁, hq, .head h0 stepR_scope (StepsIn.trans harr (.one (fenced_calm hb hr rfl) stepR_inScope))⟩
  | exit id =>
    have hx : ∀ k, exitTo id (.inScope c :: k) = exitTo id k := fun k => by simp [exitTo]
    exact ⟨.exit id, a₁, w₁, hq, fun k' hk => .head h0 stepR_scope (harr.1 k' (by rw [hx]; exact hk)),
        fun hr' hk => let ⟨k₁, h1, h2⟩ := harr.2 hr' (by rw [hx]; exact hk); ⟨k₁, h1, .head h0 stepR_scope h2⟩⟩
  | goto l => exact hg.elim
  | ret => exact ⟨_, a₁, w₁, hq, .of_steps (.one h0 stepR_scope) harr⟩
  | panic ch => exact ⟨_, a₁, w₁, hq, .of_steps (.one h0 stepR_scope) harr⟩
  | outgrown => exact ⟨_, a₁, w₁, hq, .of_steps (.one h0 stepR_scope) harr⟩
/-- Within a loop, before its next round. -/
def LoopIn (F : Fence) (n : Nat) (P : Program) (c : Code) (Q : Exit → Act → World → Prop) (a : Act) (w : World) : Prop :=
  ∀ (b : Frame) (k : List Item) (cs : List Frame), b.roundOf = F.round → F.fn b.fn → F.room (cs.length + 1 + n) →
    ∃ e a' w', Q e a' w' ∧ ArrivesIn (Machine.fenced P F) P (lone (b.atR a (.code c :: .inLoop c :: k)) cs w) b k cs e a' w'
theorem LoopIn.wpIn {c : Code} (h : LoopIn F n P c Q a w) : (Code.loop c).wpIn F n P Q a w := fun b k cs hro hb hr =>
  let ⟨e, a', w', hq, harr⟩ := h b k cs hro hb hr
  ⟨e, a', w', hq, .of_steps (.one (fenced_calm hb hr rfl) stepR_loop) harr⟩
theorem LoopIn.mono {c : Code} {Q' : Exit → Act → World → Prop} (h : LoopIn F n P c Q a w) (hq : ∀ e a w, Q e a w → Q' e a w) : LoopIn F n P c Q' a w :=
  fun b k cs hro hb hr => let ⟨e, a', w', q, r⟩ := h b k cs hro hb hr; ⟨e, a', w', hq _ _ _ q, r⟩
theorem loopIn_of {c : Code} (h : c.wpIn F n P (Exit.then (LoopIn F n P c Q) Q) a w) : LoopIn F n P c Q a w := by
  intro b k cs hro hb hr
  obtain ⟨e, a₁, w₁, hq, harr⟩ := h b (.inLoop c :: k) cs hro hb hr
  cases e with
  | normal =>
    obtain ⟨e₂, a₂, w₂, hq₂, harr₂⟩ := hq b k cs hro hb hr
    exact ⟨e₂, a₂, w₂, hq₂, .of_steps (StepsIn.trans harr (.one (fenced_calm hb hr rfl) stepR_inLoop)) harr₂⟩
  | exit id => exact ⟨_, a₁, w₁, hq, .pass (x := .inLoop c) rfl (fun _ _ => .inl (by simp)) harr⟩
  | goto l => exact ⟨_, a₁, w₁, hq, .pass (x := .inLoop c) rfl (fun _ _ => .inl (by simp)) harr⟩
  | ret => exact ⟨_, a₁, w₁, hq, .pass (x := .inLoop c) rfl (fun _ _ => .inl (by simp)) harr⟩
  | panic ch => exact ⟨_, a₁, w₁, hq, .pass (x := .inLoop c) rfl (fun _ _ => .inl (by simp)) harr⟩
  | outgrown => exact ⟨_, a₁, w₁, hq, .pass (x := .inLoop c) rfl (fun _ _ => .inl (by simp)) harr⟩
end

/-! ### Records out of the heap -/
/-- An object goes, and its block becomes anything. -/
theorem Rel.out {w' : World} (h : Rel φ H w) {i : Nat} {o : AObj} {p : Pl} (hi : H.get i = some o) (hrw : o.rw = true) (hp : φ i = some p)
    (hos : w'.os = w.os) (ht : w'.tape = w.tape) (hout : w'.output = w.output) (hs : w'.heap.size = w.heap.size) (hk : ∀ k, k ≠ p.b → w'.heap[k]? = w.heap[k]?) :
    Rel φ (H.drop i) w' ∧ Step φ H w φ (H.drop i) w' := by
  refine ⟨⟨fun j u e => ?_, fun j k u v q q' e f hne hr hq hq' => ?_, fun j hj => h.fresh j hj, fun j q e => by rw [hs]; exact h.lt j q e⟩,
    ⟨φ.le_refl, hos, ht, hout, Nat.le_of_eq hs.symm, fun k _ hf => hk k fun e => hf ⟨i, o, p, hi, hrw, hp, e.symm⟩, fun k hk => ?_, fun _ _ => rfl, Nat.le_refl _, fun j vs hro e => ?_⟩⟩
  · rw [AHeap.get_drop] at e
    split at e
    · cases e
    · rename_i he
      obtain ⟨q, hq, hr⟩ := h.obj j u e
      exact ⟨q, hq, AObj.rel_mono φ.le_refl (hk q.b fun e' => h.apart i j o u p q hi e he hrw hp hq e'.symm) hr⟩
  · rw [AHeap.get_drop] at e f
    split at e
    · cases e
    · split at f
      · cases f
      · exact h.apart j k u v q q' e f hne hr hq hq'
  · obtain ⟨j, u, q, e, r, f, g⟩ := hk
    rw [AHeap.get_drop] at e; split at e
    · cases e
    · exact .inl ⟨j, u, q, e, r, f, g⟩
  · rw [AHeap.get_drop] at e; split at e
    · cases e
    · exact e

/-! ### Ends -/
def ER : AExit → Exit → Prop
  | .normal, .normal => True
  | .exit i, .exit j => i = j
  | .ret, .ret => True
  | _, _ => False
def PostC (φ : Emb) (H : AHeap) (w : World) (x : AExit × AAct × AHeap) : Exit → Act → World → Prop := fun e a w' =>
  ER x.1 e ∧ ∃ φ', Rel φ' x.2.2 w' ∧ AR φ' x.2.1 a ∧ Step φ H w φ' x.2.2 w'
theorem PostC.trans {φ' : Emb} {H' : AHeap} {w' : World} {x : AExit × AAct × AHeap} (h : Step φ H w φ' H' w') {e : Exit} {a : Act} {w'' : World} (k : PostC φ' H' w' x e a w'') : PostC φ H w x e a w'' :=
  let ⟨h1, φ'', h2, h3, h4⟩ := k; ⟨h1, φ'', h2, h3, h.trans h4⟩
theorem PostC.noGoto {x : AExit × AAct × AHeap} {e : Exit} {a : Act} {w' : World} (k : PostC φ H w x e a w') : noGoto e := by
  have h := k.1
  revert h
  generalize x.1 = y
  intro h
  cases y <;> cases e <;> first | trivial | exact h.elim

theorem shut_run {fn : Func} {T : Array Value} {R : Ending → World → Prop} : ∀ (D : List Nat) (ds : List Deferred) (H H' : AHeap) (w : World), DR φ D ds → shutA D H = some H' → Rel φ H w →
    (∀ w', Rel φ H' w' → Step φ H w φ H' w' → ∃ v, (results fn T).run P w' = .ok v w' ∧ R (.returned v) w') → LeavesInM Fence.wide 0 P fn T R ds .returning w
  | [], [], H, H', w, _, h, hR, k => by
    simp only [shutA, Option.some.injEq] at h; subst h
    exact k w hR (Step.refl ..)
  | i :: D, d :: ds, H, H', w, hd, h, hR, k => by
    obtain ⟨⟨p, hp, rfl⟩, hd⟩ := hd
    unfold shutA at h
    split at h
    · rename_i hi
      obtain ⟨q, hq, hrel⟩ := hR.obj i _ hi
      rw [hp] at hq; cases hq
      simp only [AObj.rel] at hrel
      have hlt := hR.lt _ _ hp
      obtain ⟨r1, r2⟩ := hR.out (w' := w.putObj p.b (.deferred none)) hi rfl hp rfl rfl rfl World.putObj_size (fun k hk => World.putObj_heap_other hk)
      exact ⟨by simp, .inl ⟨p.b, _, rfl, run_takeDeferred hrel, shut_run D ds _ H' _ hd h r1 fun w' q1 q2 => k w' q1 (r2.trans q2)⟩⟩
    · cases h
  | [], _ :: _, _, _, _, hd, _, _, _ => hd.elim
  | _ :: _, [], _, _, _, hd, _, _, _ => hd.elim


def resS (T : Array Value) (r : ResultVar) : Sem Value := match r with
  | .tmp t => pure (T.getD t undef)
  | .cell a t => do loadVar t (← asAddr (T.getD a undef))
theorem loadA_addr {t : TypeId} {a a' v : Value} (h : loadA P t a H = some v) (ha : VR φ a a') : ∃ ad, a' = .pointer (some ad) ∧ ad.spot = none := by
  unfold loadA at h
  split at h
  · cases ha with
    | ptr hp => exact ⟨_, rfl, rfl⟩
  · cases h
theorem run_resS {S : AAct} {a : Act} (hR : Rel φ H w) (hA : AR φ S a) : ∀ (rs : List ResultVar) (l : List Value), resultsA P S.T H rs = some l →
    ∃ l', (rs.mapM (resS a.tmps)).run P w = .ok l' w ∧ VRL φ l l' := by
  intro rs
  induction rs with
  | nil => intro l h; simp only [resultsA, Option.some.injEq] at h; subst h; exact ⟨[], by simp, .nil⟩
  | cons r rs ih =>
    intro l h
    cases r with
    | tmp t =>
      simp only [resultsA, Option.map_eq_some_iff] at h
      obtain ⟨l0, h0, rfl⟩ := h
      obtain ⟨l', h1, h2⟩ := ih l0 h0
      exact ⟨a.tmps.getD t undef :: l', by simp [List.mapM_cons, resS, h1], .cons (hA.1.2 t) h2⟩
    | cell c t =>
      simp only [resultsA, Option.bind_eq_some_iff, Option.map_eq_some_iff] at h
      obtain ⟨v, hv, l0, h0, rfl⟩ := h
      obtain ⟨l', h1, h2⟩ := ih l0 h0
      obtain ⟨v', hl, hvv⟩ := run_loadA (w := w) hv hR (hA.1.2 c)
      obtain ⟨ad, e, hst⟩ := loadA_addr (φ := φ) hv (hA.1.2 c)
      refine ⟨v' :: l', ?_, .cons hvv h2⟩
      rw [e] at hl
      have hl' : (loadVar t ad).run P w = .ok v' w := by
        rw [← hl]
        cases ad with
        | mk b o st => simp only at hst; subst hst; simp [Instr.loadAt, Instr.sureAddr]
      simp [List.mapM_cons, resS, e, asAddr, hl', h1]
theorem run_endA {fn : Func} {S : AAct} {a : Act} {l : List Value} (h : resultsA P S.T H fn.results.toList = some l) (hR : Rel φ H w) (hA : AR φ S a) :
    ∃ v', (results fn a.tmps).run P w = .ok v' w ∧ VR φ (tupled l) v' := by
  obtain ⟨l', h1, h2⟩ := run_resS hR hA _ l h
  have e : results fn a.tmps = (do let vs ← fn.results.mapM (resS a.tmps); pure (if h : vs.size = 1 then vs[0] else .tuple vs)) := rfl
  refine ⟨if h : l'.length = 1 then l'[0] else .tuple l'.toArray, ?_, ?_⟩
  · rw [e, Array.mapM_eq_mapM_toList]
    simp [h1]
  · match l, l', h2 with
    | [], _, .nil => exact .tuple .nil
    | [v], _, .cons h .nil => exact h
    | u :: v :: l, _, .cons h (.cons h' h'') =>
      rw [dif_neg (by simp)]
      exact .tuple (.cons h (.cons h' h''))
theorem run_callFunc {f : FuncId} {fn : Func} {c : Code} {args : Array Value} (hf : P.funcs[f]? = some fn) (hb : fn.body = some c) (hn : (fn.name == "runtime.NumGoroutine") = false) :
    (callFunc f args).run P w = .ok (.enter f args) w := by
  have hn' : ¬ fn.name = "runtime.NumGoroutine" := by simpa using hn
  simp [callFunc, hf, hb, hn']

/-! ### Temporaries of an activation's start -/
theorem initT_get : ∀ (l : List Value) (i : Nat) (T : Tr Value) (t : Nat), (initT l i T).get t = if i ≤ t ∧ t < i + l.length then l[t - i]? else T.get t := by
  intro l
  induction l with
  | nil => intro i T t; simp [initT]; omega
  | cons v l ih =>
    intro i T t
    rw [initT, ih, Tr.get_upd]
    by_cases h : i = t
    · subst h; simp; intros; omega
    · by_cases h1 : i + 1 ≤ t ∧ t < i + 1 + l.length
      · rw [if_pos h1, if_pos (by simp; omega)]
        rw [show t - i = (t - (i + 1)) + 1 by omega]; simp
      · rw [if_neg h1, if_neg h, if_neg (by simp; omega)]
theorem TR.init {l l' : List Value} {n : Nat} (h : VRL φ l l') (hn : l.length ≤ n) : TR φ (initT l 0 .nil) n (l'.toArray ++ Array.replicate (n - l'.toArray.size) undef) := by
  have hl := h.length
  refine ⟨by simp; omega, fun t => ?_⟩
  rw [initT_get, Tr.get_nil, Array.getD_eq_getD_getElem?, Array.getElem?_append]
  by_cases ht : t < l.length
  · rw [if_pos ⟨by omega, by omega⟩, if_pos (by simp; omega)]
    obtain ⟨v', h1, h2⟩ := h.get t l[t] (by simp [ht])
    simp [ht, h1]; exact h2
  · rw [if_neg (by omega), if_neg (by simp; omega)]
    simp only [Option.getD_none]
    rw [Array.getElem?_replicate]
    split <;> exact .tuple .nil
theorem TR.fold {sz : Nat} : ∀ (ps : List Tmp) (l l' : List Value) (T : Tr Value) (ts : Array Value), ps.all (Nat.blt · sz) = true → VRL φ l l' → TR φ T sz ts →
    TR φ ((ps.zip l).foldl (fun T x => T.upd x.1 (some x.2)) T) sz ((ps.zip l').foldl (fun ts x => ts.setIfInBounds x.1 x.2) ts) := by
  intro ps
  induction ps with
  | nil => intro l l' T ts _ _ h; simpa using h
  | cons p ps ih =>
    intro l l' T ts hp hl h
    simp only [List.all_cons, Bool.and_eq_true] at hp
    cases hl with
    | nil => simpa using h
    | cons hv hl =>
      simp only [List.zip_cons_cons, List.foldl_cons]
      refine ih _ _ _ _ hp.2 hl ⟨by simp [h.1], fun t => ?_⟩
      have hlt : p < ts.size := by rw [h.1]; exact Nat.le_of_ble_eq_true hp.1
      rw [Tr.get_upd, Array.getD_eq_getD_getElem?]
      by_cases e : p = t
      · subst e; simp [hlt]; exact hv
      · rw [if_neg e, Array.getElem?_setIfInBounds_ne e, ← Array.getD_eq_getD_getElem?]; exact h.2 t
end Go.Abs
