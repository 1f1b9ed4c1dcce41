/- The evaluator's texts: soundness of operations in their order, of branches, blocks, loops, scopes. -/
import Derived.Test.YtmpiblpcdhgppaaGreatDoorZqStep
import Derived.RangeFuncLeaves
import Derived.RangeFuncRecord
namespace Go.Abs
variable {P : Program} {φ : Emb} {H : AHeap} {w : World}

/-! ### Activations -/
def DR (φ : Emb) : List Nat → List Deferred → Prop
  | [], [] => True
  | i :: D, d :: ds => (∃ p, φ i = some p ∧ d = { target := .collected p.b, args := #[] }) ∧ DR φ D ds
  | _, _ => False
theorem DR.mono {φ ψ : Emb} (hl : φ.le ψ) : ∀ {D : List Nat} {ds : List Deferred}, DR φ D ds → DR ψ D ds
  | [], [], _ => trivial
  | _ :: _, _ :: _, ⟨⟨p, h, e⟩, k⟩ => ⟨⟨p, hl _ _ h, e⟩, DR.mono hl k⟩
  | [], _ :: _, h => h.elim
  | _ :: _, [], h => h.elim
def AR (φ : Emb) (S : AAct) (a : Act) : Prop := TR φ S.T S.sz a.tmps ∧ DR φ S.D a.defers
theorem AR.mono {φ ψ : Emb} (hl : φ.le ψ) {S : AAct} {a : Act} (h : AR φ S a) : AR ψ S a := ⟨h.1.mono hl, h.2.mono hl⟩
theorem AR.put {S S' : AAct} {a : Act} {dst : Option Tmp} {v v' : Value} (h : AR φ S a) (hv : VR φ v v') (hs : S.put dst v = some S') : AR φ S' (a.put dst v') := by
  unfold AAct.put at hs
  cases dst with
  | none => cases hs; exact h
  | some d =>
    simp only [] at hs
    cases hb : Nat.blt d S.sz
    · rw [hb] at hs; cases hs
    · rw [hb] at hs
      cases hs
      have hlt : d < S.sz := Nat.le_of_ble_eq_true hb
      refine ⟨⟨by simp [Act.put, h.1.1], fun t => ?_⟩, h.2⟩
      simp only [Act.put]
      rw [Tr.get_upd]
      by_cases e : d = t
      · subst e
        rw [if_pos rfl]
        have hlt' : d < a.tmps.size := by rw [h.1.1]; exact hlt
        have : (a.tmps.setIfInBounds d v').getD d undef = v' := by
          rw [Array.getD_eq_getD_getElem?]; simp [hlt']
        rw [this]; exact hv
      · rw [if_neg e]
        have : (a.tmps.setIfInBounds d v').getD t undef = a.tmps.getD t undef := by
          rw [Array.getD_eq_getD_getElem?, Array.getD_eq_getD_getElem?, Array.getElem?_setIfInBounds_ne e]
        rw [this]; exact h.1.2 t
/-- The package-level variables' places. -/
def Globs (NG : Nat) (φ : Emb) : Prop := ∀ g, g < NG → ∃ r, φ g = some ⟨g, 0, r⟩
theorem Globs.mono {φ ψ : Emb} {NG : Nat} (hl : φ.le ψ) (h : Globs NG φ) : Globs NG ψ := fun g hg => let ⟨r, e⟩ := h g hg; ⟨r, hl _ _ e⟩
def opdOk (NG : Nat) : Operand → Bool
  | .tmp _ => true
  | .const v => plainV v
  | .global g => Nat.blt g NG
  | .func _ => true
theorem ev_ok {NG : Nat} {S : AAct} {a : Act} (h : AR φ S a) (hg : Globs NG φ) {x : Operand} (hx : opdOk NG x = true) : VR φ (ev S.T x) (a.eval x) := by
  cases x with
  | tmp t => exact h.1.2 t
  | const v => exact .plain hx
  | global g =>
    obtain ⟨r, e⟩ := hg g (Nat.le_of_ble_eq_true hx)
    exact VR.ptr (p := ⟨g, 0, r⟩) (o := 0) e
  | func f => exact .func f .nil .nil
def opOk (NG : Nat) (o : Oper) : Bool := o.op.operands.toList.all (opdOk NG)
theorem wanted_same {ops : Array Oper} {S : AAct} {a : Act} (h : AR φ S a) (o : Oper) : Region.wanted o (yielded ops a.tmps) = wantedA ops S.T o := by
  unfold Region.wanted wantedA
  cases o.guard with
  | none => rfl
  | some jw =>
    obtain ⟨j, want⟩ := jw
    simp only []
    suffices hy : yielded ops a.tmps j = yieldedA ops S.T j by rw [hy]
    unfold yielded yieldedA
    cases (ops[j]?).bind (·.dst) with
    | none => rfl
    | some d =>
      simp only [Option.bind_some]
      have hv := h.1.2 d
      rw [Array.getD_eq_getD_getElem?] at hv
      cases hT : S.T.get d with
      | none =>
        rw [hT] at hv
        cases ha : a.tmps[d]? with
        | none => rfl
        | some u => rw [ha] at hv; simp only [Option.getD_none, Option.getD_some] at hv; generalize hu : undef = q at hv; cases hv <;> simp_all [undef]
      | some u =>
        rw [hT] at hv
        cases ha : a.tmps[d]? with
        | none => rw [ha] at hv; simp only [Option.getD_none, Option.getD_some] at hv; generalize hu : undef = q at hv; cases hv <;> simp_all [undef]
        | some u' => rw [ha] at hv; simp only [Option.getD_some] at hv; cases hv <;> rfl

/-! ### Fences -/
/-- The two fences: none, and none within a round. -/
def fen : Option Nat → Fence
  | none => Fence.wide
  | some l => Fence.wide.inRound l
theorem fen_fn (r : Option Nat) (f : FuncId) : (fen r).fn f := by cases r <;> trivial
theorem fen_depth (r : Option Nat) : (fen r).depth = none := by cases r <;> rfl
theorem fen_round (r : Option Nat) : (fen r).round = r := by cases r <;> rfl
theorem fen_calls {r : Option Nat} {n : Nat} {f : FuncId} {args : Array Value} {R : Ending → World → Prop} (h : CallsIn Fence.wide n P f args w R) : CallsIn (fen r) n P f args w R := by cases r <;> exact h
theorem fen_rounds {r : Option Nat} {n l : Nat} {f : FuncId} {ts : Array Value} {a b : Code} {R : Ending → World → Prop} (h : RoundIn Fence.wide n P l f ts a b w R) : RoundIn (fen r) n P l f ts a b w R := by cases r <;> exact h

/-- What a call comes to, as an operation asks for it. -/
def CallsTo (P : Program) (n : Nat) (k : Callee') (w : World) (R : Value → World → Prop) : Prop :=
  (∃ v w', (calleeSem k).run P w = .ok (.value v) w' ∧ R v w') ∨
  (∃ f args, (calleeSem k).run P w = .ok (.enter f args) w ∧ CallsIn Fence.wide n P f args w fun | .returned v, w' => R v w' | _, _ => False) ∨
  (∃ l f ts asg body, (calleeSem k).run P w = .ok (.round l f ts asg body) w ∧ RoundIn Fence.wide n P l f ts asg body w fun | .returned v, w' => R v w' | _, _ => False)
abbrev CallF := Callee' → AHeap → Option (Value × AHeap)
/-- A call function that says what the machine does. -/
def SoundCall (P : Program) (NG : Nat) (n : Nat) (cl : CallF) : Prop :=
  ∀ k H v H', cl k H = some (v, H') → ∀ φ w k', Globs NG φ → Rel φ H w → CR φ k k' →
    CallsTo P n k' w fun v' w' => ∃ φ', VR φ' v v' ∧ Rel φ' H' w' ∧ Step φ H w φ' H' w'

theorem Rel.bump {φ : Emb} {H : AHeap} {w : World} (h : Rel φ H w) (n : Nat) : Rel φ { H with next := H.next + n } w := {
  obj := h.obj
  apart := h.apart
  fresh := fun i hi => h.fresh i (by simp at hi; omega)
  lt := h.lt }
/-- One operation: what it leaves, as the calculus asks for it. -/
theorem oper_in {n : Nat} {r : Option Nat} {o : Oper} {a : Act} {K : Act → World → Prop} {Q : Exit → Act → World → Prop} (hd : ∀ c, o.op ≠ .defer c)
    (h : ∃ nx v' w', (execOp a.eval o).run P w = .ok nx w' ∧ handed nx v' ∧ K (a.put o.dst v') w') : o.wpIn (fen r) n P a w K Q := by
  obtain ⟨nx, v', w', h1, h2, h3⟩ := h
  refine ⟨fun f _ => fen_fn r f, ?_⟩
  rw [Oper.semAt_eq _ _ _ hd, h1]
  rcases h2 with rfl | ⟨rfl, rfl⟩ <;> exact h3
theorem oper_call {n m : Nat} {r : Option Nat} {o : Oper} {a : Act} {c : Call} {k : Callee'} {K : Act → World → Prop} {Q : Exit → Act → World → Prop} (ho : o.op = .call c)
    (hrun : (execOp a.eval o).run P w = (calleeSem k).run P w) (hm : n - 1 = m) (h : CallsTo P m k w fun v' w' => K (a.put o.dst v') w') : o.wpIn (fen r) n P a w K Q := by
  refine ⟨fun f _ => fen_fn r f, ?_⟩
  rw [Oper.semAt_eq _ _ _ (fun d => by rw [ho]; simp), hrun]
  rcases h with ⟨v, w', h1, h2⟩ | ⟨f, args, h1, h2⟩ | ⟨l, f, ts, asg, body, h1, h2⟩
  · rw [h1]; exact h2
  · rw [h1]
    subst hm
    refine ⟨fun hh => (by rw [fen_depth] at hh; cases hh), (fen_calls h2).mono fun e w' he => ?_⟩
    cases e <;> first | exact he | exact he.elim
  · rw [h1]
    subst hm
    refine ⟨fun hh => (by rw [fen_depth] at hh; cases hh), (fen_rounds h2).mono fun e w' he => ?_⟩
    cases e <;> first | exact he | exact he.elim

theorem valA_not_defer {ρ : Operand → Value} {op : Op} {v : Value} (h : valA P ρ H op = some v) : ∀ c, op ≠ .defer c := by rintro c rfl; simp [valA] at h
theorem newA_not_defer {ρ : Operand → Value} {op : Op} {v : AObj × (Nat → Value)} (h : newA P ρ op = some v) : ∀ c, op ≠ .defer c := by rintro c rfl; simp [newA] at h
theorem effA_not_defer {ρ : Operand → Value} {op : Op} {v : Value × AHeap} (h : effA P ρ H op = some v) : ∀ c, op ≠ .defer c := by rintro c rfl; simp [effA] at h

theorem seq_sound {NG n m : Nat} {cl : CallF} (hcl : SoundCall P NG m cl) (hm : n - 1 = m) {r : Option Nat} {ops : Array Oper} {Q : Exit → Act → World → Prop} : ∀ (l : List Nat) (os : List Oper) (S S' : AAct) (H H' : AHeap) (φ : Emb) (w : World) (a : Act),
    l.map (ops[·]?) = os.map some → (∀ o ∈ os, opOk NG o = true) → seqA P cl ops os S H = some (S', H') → Globs NG φ → Rel φ H w → AR φ S a →
    (∀ φ' w' a', Rel φ' H' w' → AR φ' S' a' → Step φ H w φ' H' w' → Q .normal a' w') → wpOpsIn (fen r) n P ops Q l a w := by
  intro l
  induction l with
  | nil =>
    intro os S S' H H' φ w a hl hok h hg hR hA hQ
    cases os with
    | cons o os => simp at hl
    | nil => simp only [seqA, Option.some.injEq, Prod.mk.injEq] at h; obtain ⟨rfl, rfl⟩ := h; exact hQ φ w a hR hA (Step.refl ..)
  | cons i l ih =>
    intro os S S' H H' φ w a hl hok h hg hR hA hQ
    cases os with
    | nil => simp at hl
    | cons o os =>
      simp only [List.map_cons, List.cons.injEq] at hl
      obtain ⟨hi, hl⟩ := hl
      have hok' : ∀ o' ∈ os, opOk NG o' = true := fun o' ho' => hok o' (by simp [ho'])
      have hoo := hok o (by simp)
      unfold opOk at hoo
      rw [List.all_eq_true] at hoo
      have hρ : ∀ x ∈ o.op.operands, VR φ (ev S.T x) (a.eval x) := fun x hx => ev_ok hA hg (hoo x (by simpa using hx))
      rw [wpOpsIn_cons]
      unfold wpOpIn
      simp only [hi]
      rw [wanted_same hA]
      unfold seqA at h
      split at h
      · rename_i hw
        rw [if_pos hw]
        split at h
        · rw [Option.bind_eq_some_iff] at h
          obtain ⟨v, hv, h⟩ := h
          rw [Option.bind_eq_some_iff] at h
          obtain ⟨S2, hS, h⟩ := h
          obtain ⟨v', hr, hvv⟩ := run_valA (o := o) hv hR hρ
          exact oper_in (valA_not_defer hv) ⟨_, v', w, hr, .inl rfl, ih os S2 S' H H' φ w _ hl hok' h hg hR (hA.put hvv hS) hQ⟩
        · rw [Option.bind_eq_some_iff] at h
          obtain ⟨⟨ob, f⟩, hv, h⟩ := h
          simp only [Option.bind_eq_some_iff] at h
          obtain ⟨S2, hS, h⟩ := h
          obtain ⟨hrw, ob', v', p, hp, hr, hnew⟩ := run_newA (w := w) (φ := φ) (o := o) hv hρ
          have hle : φ.le (φ.ext H.next p) := Emb.le_ext (hR.fresh _ (Nat.le_refl _))
          obtain ⟨h1, h2⟩ := hnew (φ.ext H.next p) H.next hle Emb.ext_self
          obtain ⟨r1, r2⟩ := hR.alloc ob ob' p hp hrw h1
          refine oper_in (newA_not_defer hv) ⟨_, v', _, hr, .inl rfl, ih os S2 S' _ H' _ _ _ hl hok' h (hg.mono hle) r1 ((hA.mono hle).put h2 hS) fun φ' w' a' q1 q2 q3 => hQ φ' w' a' q1 q2 (r2.trans q3)⟩
        · rw [Option.bind_eq_some_iff] at h
          obtain ⟨⟨v, H2⟩, hv, h⟩ := h
          simp only [Option.bind_eq_some_iff] at h
          obtain ⟨S2, hS, h⟩ := h
          obtain ⟨nx, v', w', φ', hr, hh, hvv, r1, r2⟩ := run_effA (o := o) hv hR hρ
          exact oper_in (effA_not_defer hv) ⟨nx, v', w', hr, hh, ih os S2 S' _ H' _ _ _ hl hok' h (hg.mono r2.le) r1 ((hA.mono r2.le).put hvv hS) fun φ' w' a' q1 q2 q3 => hQ φ' w' a' q1 q2 (r2.trans q3)⟩
        · split at h
          · rename_i c ho
            rw [Option.bind_eq_some_iff] at h
            obtain ⟨k, hk, h⟩ := h
            rw [Option.bind_eq_some_iff] at h
            obtain ⟨⟨v, H2⟩, hv, h⟩ := h
            simp only [Option.bind_eq_some_iff] at h
            obtain ⟨S2, hS, h⟩ := h
            obtain ⟨k', hck, hrun⟩ := run_calleeA (P := P) (w := w) (ty := o.type) hk (fun x hx => hρ x (by rw [ho]; exact hx))
            have hc := hcl k H v H2 hv φ w k' hg hR hck
            refine oper_call (k := k') ho (by simp only [execOp, ho]; exact hrun) hm ?_
            have key : ∀ v' w', (∃ φ', VR φ' v v' ∧ Rel φ' H2 w' ∧ Step φ H w φ' H2 w') → wpOpsIn (fen r) n P ops Q l (a.put o.dst v') w' := fun v' w' ⟨φ', q1, q2, q3⟩ =>
              ih os S2 S' H2 H' φ' w' _ hl hok' h (hg.mono q3.le) q2 ((hA.mono q3.le).put q1 hS) fun φ'' w'' a'' s1 s2 s3 => hQ φ'' w'' a'' s1 s2 (q3.trans s3)
            rcases hc with ⟨v', w', h1, h2⟩ | ⟨f, args, h1, h2⟩ | ⟨l', f, ts, asg, body, h1, h2⟩
            · exact .inl ⟨v', w', h1, key _ _ h2⟩
            · exact .inr (.inl ⟨f, args, h1, h2.mono fun e w' he => by cases e <;> first | exact key _ _ he | exact he⟩)
            · exact .inr (.inr ⟨l', f, ts, asg, body, h1, h2.mono fun e w' he => by cases e <;> first | exact key _ _ he | exact he⟩)
          · cases h
      · rename_i hw
        rw [if_neg hw]
        rw [Option.bind_eq_some_iff] at h
        obtain ⟨S2, hS, h⟩ := h
        exact ⟨fun f _ => fen_fn r f, ih os S2 S' H H' φ w _ hl hok' h hg hR (hA.put (.tuple .nil) hS) hQ⟩
end Go.Abs
