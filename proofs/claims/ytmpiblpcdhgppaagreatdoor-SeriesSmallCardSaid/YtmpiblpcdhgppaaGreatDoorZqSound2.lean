/- The evaluator's texts and calls: what it says, the machine does: the induction. -/
import Derived.Test.YtmpiblpcdhgppaaGreatDoorZqSound
namespace Go.Abs
variable {E : Env}

def DrawSound (P : Program) (NG : Nat) : Prop := ∀ cl, SoundCall P NG 0 cl → ∀ (r : Option Nat) (id : Nat) (ops : Array Oper), (∀ o ∈ ops.toList, opOk NG o = true) → drawOk ops = true →
  ∀ S S' H H' φ w a, drawA P cl ops S H = some (S', H') → Globs NG φ → Rel φ H w → AR φ S a → (Code.region id ops true).wpIn (fen r) 0 P (PostC φ H w (.normal, S', H')) a w
structure GoodEnv (E : Env) : Prop where
  fns : ∀ f, Nat.testBit E.good f = true → fnFine E.P E.NG f = true
  draw : DrawSound E.P E.NG
  spec : SoundCall E.P E.NG 0 E.spec
def SoundCode (P : Program) (NG : Nat) (cd : CodeF) : Prop :=
  ∀ (r : Option Nat) c S H x, cd r.isSome c S H = some x → codeFine NG c = true → ∀ φ w a, Globs NG φ → Rel φ H w → AR φ S a →
    c.wpIn (fen r) 0 P (PostC φ H w x) a w ∧ (∀ b, c = .loop b → LoopIn (fen r) 0 P b (PostC φ H w x) a w)

theorem fine_fn {P : Program} {NG f : Nat} (h : fnFine P NG f = true) : ∃ fn c, P.funcs[f]? = some fn ∧ fn.body = some c ∧ codeFine NG c = true ∧ (fn.name == "runtime.NumGoroutine") = false := by
  unfold fnFine at h
  split at h
  · rename_i fn hf
    split at h
    · rename_i c hc
      rw [Bool.and_eq_true] at h
      exact ⟨fn, c, hf, hc, h.1, by simpa using h.2⟩
    · cases h
  · cases h

theorem jump_fine {NG : Nat} {j : Code} (h : jumpOk j = true) : codeFine NG j = true := by cases j <;> first | rfl | cases h
theorem CallsTo.fn_calls {P : Program} {n f : Nat} {args : List Value} {w : World} {R : Value → World → Prop} {fn : Func} {c : Code} (h : CallsTo P n (.fn f args) w R) (hf : P.funcs[f]? = some fn) (hb : fn.body = some c) (hn : (fn.name == "runtime.NumGoroutine") = false) :
    CallsIn Fence.wide n P f args.toArray w (fun | .returned v, w' => R v w' | _, _ => False) := by
  have hrun : (calleeSem (.fn f args)).run P w = .ok (.enter f args.toArray) w := run_callFunc hf hb hn
  rcases h with ⟨rv', w', h1, h2⟩ | ⟨f', args', h1, h2⟩ | ⟨l', f', ts, asg', body', h1, h2⟩
  · rw [hrun] at h1; cases h1
  · rw [hrun] at h1
    simp only [Result.ok.injEq, Next.enter.injEq, and_true] at h1
    obtain ⟨rfl, rfl⟩ := h1
    exact h2
  · rw [hrun] at h1; cases h1
theorem code_sound (hE : GoodEnv E) {cd : CodeF} {cl : CallF} (hcd : SoundCode E.P E.NG cd) (hcl : SoundCall E.P E.NG 0 cl) : SoundCode E.P E.NG (codeS E cd cl) := by
  intro r c S H out h hf φ w a hg hR hA
  have PC : ∀ {e a' w' φ'} {S' : AAct} {H' : AHeap} {ae : AExit}, ER ae e → Rel φ' H' w' → AR φ' S' a' → Step φ H w φ' H' w' → PostC φ H w (ae, S', H') e a' w' := fun h1 h2 h3 h4 => ⟨h1, _, h2, h3, h4⟩
  cases c with
  | skip => simp only [codeS, Option.some.injEq] at h; subst h; exact ⟨wpIn_skip (PC trivial hR hA (Step.refl ..)), fun b e => by cases e⟩
  | label l => simp only [codeS, Option.some.injEq] at h; subst h; exact ⟨wpIn_label (PC trivial hR hA (Step.refl ..)), fun b e => by cases e⟩
  | exit id => simp only [codeS, Option.some.injEq] at h; subst h; exact ⟨wpIn_exit (PC rfl hR hA (Step.refl ..)), fun b e => by cases e⟩
  | ret => simp only [codeS, Option.some.injEq] at h; subst h; exact ⟨wpIn_ret (PC trivial hR hA (Step.refl ..)), fun b e => by cases e⟩
  | region id ops draw =>
    refine ⟨?_, fun b e => by cases e⟩
    simp only [codeS, Option.map_eq_some_iff] at h
    simp only [codeFine, Bool.and_eq_true, List.all_eq_true] at hf
    obtain ⟨⟨S', H'⟩, h, rfl⟩ := h
    cases draw with
    | true => exact hE.draw cl hcl r id ops hf.1 (by simpa using hf.2) S S' H H' φ w a h hg hR hA
    | false =>
      refine wpIn_region (seq_sound hcl rfl _ ops.toList S S' H H' φ w a ?_ hf.1 h hg hR hA fun φ' w' a' q1 q2 q3 => PC trivial q1 q2 q3)
      apply List.ext_getElem?
      intro i
      simp only [List.getElem?_map, Array.getElem?_toList]
      by_cases hi : i < ops.size
      · rw [List.getElem?_range hi]; simp [hi]
      · rw [List.getElem?_eq_none (by simpa using hi), Array.getElem?_eq_none (by omega)]; rfl
  | seq x y =>
    refine ⟨wpIn_seq ?_, fun b e => by cases e⟩
    simp only [codeFine, Bool.and_eq_true] at hf
    simp only [codeS] at h
    split at h
    · rename_i S1 H1 h1
      refine wpIn_mono (hcd r x S H _ h1 hf.1 φ w a hg hR hA).1 fun e a1 w1 hq => ?_
      obtain ⟨he, φ1, q1, q2, q3⟩ := hq
      cases e <;> first | exact he.elim | skip
      exact wpIn_mono (hcd r y S1 H1 _ h hf.2 φ1 w1 a1 (hg.mono q3.le) q1 q2).1 fun e a2 w2 hq => hq.trans q3
    · rename_i hne
      refine wpIn_mono (hcd r x S H _ h hf.1 φ w a hg hR hA).1 fun e a1 w1 hq => ?_
      cases e with
      | normal =>
        obtain ⟨xe, xS, xH⟩ := out
        cases xe
        · exact absurd h (hne _ _)
        · exact hq.1.elim
        · exact hq.1.elim
      | _ => exact hq
  | cond o x y =>
    refine ⟨?_, fun b e => by cases e⟩
    simp only [codeFine, Bool.and_eq_true] at hf
    simp only [codeS] at h
    split at h
    · rename_i t ht
      have hv := ev_ok hA hg hf.1.1
      rw [ht] at hv
      have hc : a.eval o = .bool t := by
        generalize a.eval o = q at hv
        cases hv; rfl
      refine wpIn_cond hc ?_
      cases t
      · exact (hcd r y S H _ h hf.2 φ w a hg hR hA).1
      · exact (hcd r x S H _ h hf.1.2 φ w a hg hR hA).1
    · cases h
  | block id b =>
    refine ⟨wpIn_block ?_, fun b e => by cases e⟩
    simp only [codeFine] at hf
    simp only [codeS] at h
    split at h
    · rename_i id' S1 H1 h1
      cases h
      refine wpIn_mono (hcd r b S H _ h1 hf φ w a hg hR hA).1 fun e a1 w1 hq => ?_
      obtain ⟨he, φ1, q1, q2, q3⟩ := hq
      cases e <;> first | exact he.elim | skip
      cases he
      simp only [Exit.inBlock]
      by_cases hid : id' = id
      · subst hid
        rw [if_pos rfl, Nat.beq_refl]
        exact PC trivial q1 q2 q3
      · rw [if_neg hid, Tr.beq_ff hid]
        exact PC rfl q1 q2 q3
    · rename_i hne
      refine wpIn_mono (hcd r b S H _ h hf φ w a hg hR hA).1 fun e a1 w1 hq => ?_
      cases e with
      | exit j =>
        obtain ⟨xe, xS, xH⟩ := out
        cases xe
        · exact hq.1.elim
        · exact absurd h (hne _ _ _)
        · exact hq.1.elim
      | _ => exact hq
  | loop b =>
    have key : LoopIn (fen r) 0 E.P b (PostC φ H w out) a w := by
      simp only [codeFine] at hf
      simp only [codeS] at h
      refine loopIn_of ?_
      split at h
      · rename_i S1 H1 h1
        refine wpIn_mono (hcd r b S H _ h1 hf φ w a hg hR hA).1 fun e a1 w1 hq => ?_
        obtain ⟨he, φ1, q1, q2, q3⟩ := hq
        cases e <;> first | exact he.elim | skip
        exact ((hcd r (.loop b) S1 H1 _ h (by simpa [codeFine] using hf) φ1 w1 a1 (hg.mono q3.le) q1 q2).2 b rfl).mono fun e a2 w2 hq => hq.trans q3
      · rename_i hne
        refine wpIn_mono (hcd r b S H _ h hf φ w a hg hR hA).1 fun e a1 w1 hq => ?_
        cases e with
        | normal =>
          obtain ⟨xe, xS, xH⟩ := out
          cases xe
          · exact absurd h (hne _ _)
          · exact hq.1.elim
          · exact hq.1.elim
        | _ => exact hq
    exact ⟨key.wpIn, fun b' e => by cases e; exact key⟩
  | scope b =>
    refine ⟨wpIn_scope ?_, fun b e => by cases e⟩
    simp only [codeFine] at hf
    simp only [codeS] at h
    exact wpIn_mono (hcd r b S H _ h hf φ w a hg hR hA).1 fun e a1 w1 hq => ⟨hq.noGoto, hq⟩
  | rangeFunc f ps asg body =>
    refine ⟨?_, fun b e => by cases e⟩
    simp only [codeFine, Bool.and_eq_true] at hf
    simp only [codeS] at h
    split at h
    · cases h
    rename_i hr
    have hr0 : r = none := by cases r <;> simp_all
    subst hr0
    have hv := ev_ok hA hg hf.1.1
    split at h
    case h_2 => cases h
    rename_i g u v hfv
    split at h
    · cases h
    rename_i hgood
    rw [Option.bind_eq_some_iff] at h
    obtain ⟨⟨rv, H3⟩, hcall, h⟩ := h
    rw [hfv] at hv
    obtain ⟨fn, c, hfn, hbody, -, hname⟩ := fine_fn (hE.fns g (by simpa using hgood))
    generalize hq : a.eval f = q at hv
    cases hv with
    | func _ hu' hv' =>
    rename_i u' v'
    -- the two blocks
    have hd := hR.alloc .deferred (.deferred (some [])) ⟨w.heap.size, 0, 0⟩ rfl rfl (by simp only [AObj.rel]; exact World.alloc_heap_new ..)
    obtain ⟨hR1, hS1⟩ := hd
    generalize hφ1 : φ.ext H.next ⟨w.heap.size, 0, 0⟩ = φ1 at hR1 hS1
    have hl := fun fn' => hR1.alloc (.loop .ready none ps asg body S.T S.sz) (.loop { state := .ready, pending := none, fn := fn', tmps := a.tmps, params := ps, assign := asg, body, defers := w.heap.size }) ⟨(w.alloc (.deferred (some []))).heap.size, 0, 0⟩ rfl rfl
      (by simp only [AObj.rel]; exact ⟨_, World.alloc_heap_new .., rfl, rfl, rfl, rfl, rfl, (hA.1.mono hS1.le).mono (Emb.le_ext (hR1.fresh _ (Nat.le_refl _)))⟩)
    refine wpIn_rangeFunc fun fn' _ => ?_
    obtain ⟨hR2, hS2⟩ := hl fn'
    have hnx : (H.alloc .deferred).next = H.next + 1 := rfl
    rw [hnx] at hR2 hS2
    generalize hφ2 : φ1.ext (H.next + 1) ⟨(w.alloc (.deferred (some []))).heap.size, 0, 0⟩ = φ2 at hR2 hS2
    have hp1 : φ2 H.next = some ⟨w.heap.size, 0, 0⟩ := by
      rw [← hφ2, Emb.ext_ne (by omega), ← hφ1]; exact Emb.ext_self
    have hp2 : φ2 (H.next + 1) = some ⟨w.heap.size + 1, 0, 0⟩ := by
      rw [← hφ2, Emb.ext_self, World.size_alloc]
    have hle : φ.le φ2 := (hS1.trans hS2).le
    have hargs : VRL φ2 (u.toList ++ (.func (.yield (H.next + 1)) #[] #[] :: v.toList)) (u'.toList ++ (.func (.yield (w.heap.size + 1)) #[] #[] :: v'.toList)) :=
      (hu'.mono hle).append (.cons (.yield hp2) (hv'.mono hle))
    have hc := hcl _ _ _ _ hcall φ2 _ (.fn g _) (hg.mono hle) hR2 ⟨rfl, hargs⟩
    have hcalls := hc.fn_calls hfn hbody hname
    have eargs : (u' ++ #[Value.func (.yield (w.heap.size + 1)) #[] #[]]) ++ v' = (u'.toList ++ (.func (.yield (w.heap.size + 1)) #[] #[] :: v'.toList)).toArray := by rw [← Array.toList_inj]; simp
    have hres : ∀ w0, (resolve a.eval (rangeCall f (w.heap.size + 1)) 0).run E.P w0 = .ok { target := .fn (.func g) v', args := u' ++ #[Value.func (.yield (w.heap.size + 1)) #[] #[]] } w0 := fun w0 => by
      simp [resolve, hq, Deferred.ofValue]; rfl
    refine ⟨w.heap.size + 1, [{ target := .collected w.heap.size, args := #[] }], _, { target := .fn (.func g) v', args := u' ++ #[Value.func (.yield (w.heap.size + 1)) #[] #[]] }, _, g, _, _,
      run_enterLoop_outer .., hres _, fun _ _ => trivial, by
        simp only [invoke]; rw [eargs]; exact run_callFunc hfn hbody hname, fun hh => (by cases hh), hcalls.mono fun e w3 he => ?_⟩
    cases e with
    | panicked ch => exact he.elim
    | outgrown => exact he.elim
    | returned rv' =>
    obtain ⟨φ3, -, hR3, hS3⟩ := he
    have hS : Step φ H w φ3 H3 w3 := (hS1.trans hS2).trans hS3
    have hp3 : φ3 (H.next + 1) = some ⟨w.heap.size + 1, 0, 0⟩ := hS3.le _ _ hp2
    simp only at h
    split at h
    case h_2 => cases h
    rename_i st pend ps' asg' body' T' sz' hget
    obtain ⟨p, hp, hrel⟩ := hR3.obj _ _ hget
    rw [hp3] at hp; cases hp
    obtain ⟨L, hL, hst, hpend, -⟩ := hrel
    have hnb : st ≠ .busy := by rintro rfl; simp at h
    have hend := run_endLoop (P := E.P) hL (by rw [hst]; exact hnb)
    have hlt := hR3.lt _ _ hp3
    obtain ⟨hR4, hS4⟩ := hR3.out (w' := w3.putObj (w.heap.size + 1) (.loop { L with state := .exhausted, pending := pend })) hget rfl hp3 rfl rfl rfl World.putObj_size (fun k hk => World.putObj_heap_other hk)
    have hA4 : AR φ3 { S with D := H.next :: S.D } { a with defers := [{ target := .collected w.heap.size, args := #[] }] ++ a.defers } :=
      ⟨(hA.mono hS.le).1, ⟨⟨_, hS3.le _ _ hp1, rfl⟩, (hA.mono hS.le).2⟩⟩
    rw [hpend] at hend
    refine ⟨_, _, hend, ?_⟩
    cases pend with
    | none =>
      have h' : some (AExit.normal, { S with D := H.next :: S.D }, H3.drop (H.next + 1)) = some out := by
        cases st <;> first | exact absurd rfl hnb | exact h
      simp only [Option.some.injEq] at h'
      subst h'
      exact PC trivial hR4 hA4 (hS.trans hS4)
    | some j =>
      have h' : (if jumpOk j = true then cd (none : Option Nat).isSome j { S with D := H.next :: S.D } (H3.drop (H.next + 1)) else none) = some out := by
        cases st <;> first | exact absurd rfl hnb | exact h
      split at h'
      case isFalse => cases h'
      rename_i hj
      exact wpIn_mono (hcd none j _ _ _ h' (jump_fine hj) φ3 _ _ (hg.mono (hS.trans hS4).le) hR4 hA4).1 fun e a2 w2 hq => hq.trans (hS.trans hS4)
  | _ => simp only [codeFine, Bool.false_eq_true] at hf

theorem call_sound (hE : GoodEnv E) {cd : CodeF} (hcd : SoundCode E.P E.NG cd) : SoundCall E.P E.NG 0 (callS E cd) := by
  intro k H v H' h φ w k' hg hR hk
  unfold callS at h
  split at h
  · rename_i x hx
    cases h
    exact hE.spec k H v H' hx φ w k' hg hR hk
  · cases k with
    | fn f args =>
      cases k' with
      | round l' args' => exact hk.elim
      | fn f' args' =>
      obtain ⟨rfl, hargs⟩ := hk
      simp only at h
      split at h
      case isFalse => cases h
      rename_i hgood
      obtain ⟨fn, c, hfn, hbody, hfine, hname⟩ := fine_fn (hE.fns f hgood)
      simp only [hfn, hbody] at h
      split at h
      case isFalse => cases h
      rename_i hlen
      refine .inr (.inl ⟨f, args'.toArray, run_callFunc hfn hbody hname, callsIn_of_wp_marks hfn hbody trivial ?_⟩)
      have hA0 : AR φ { T := initT args 0 .nil, sz := fn.ntmps, D := [] } { tmps := args'.toArray ++ Array.replicate (fn.ntmps - args'.toArray.size) undef, defers := [] } :=
        ⟨TR.init hargs hlen, trivial⟩
      have fin : ∀ {S1 : AAct} {H1 : AHeap} {φ1 : Emb} {a1 : Act} {w1 : World}, endA E fn S1 H1 = some (v, H') → Rel φ1 H1 w1 → AR φ1 S1 a1 → Step φ H w φ1 H1 w1 →
          LeavesInM Fence.wide 0 E.P fn a1.tmps (fun | .returned v', w' => ∃ φ', VR φ' v v' ∧ Rel φ' H' w' ∧ Step φ H w φ' H' w' | _, _ => False) a1.defers .returning w1 := by
        intro S1 H1 φ1 a1 w1 he r1 r2 r3
        unfold endA at he
        rw [Option.bind_eq_some_iff] at he
        obtain ⟨H2, hs, he⟩ := he
        rw [Option.map_eq_some_iff] at he
        obtain ⟨l, hl, he⟩ := he
        cases he
        refine shut_run _ _ _ _ _ r2.2 hs r1 fun w2 q1 q2 => ?_
        obtain ⟨v', hv', hvv⟩ := run_endA hl q1 r2
        exact ⟨v', hv', φ1, hvv, q1, r3.trans q2⟩
      split at h
      · rename_i S1 H1 h1
        refine wpIn_mono (hcd none c _ _ _ h1 hfine φ w _ hg hR hA0).1 fun e a1 w1 hq => ?_
        obtain ⟨he, φ1, q1, q2, q3⟩ := hq
        cases e <;> first | exact he.elim | exact fin h q1 q2 q3
      · rename_i S1 H1 h1
        refine wpIn_mono (hcd none c _ _ _ h1 hfine φ w _ hg hR hA0).1 fun e a1 w1 hq => ?_
        obtain ⟨he, φ1, q1, q2, q3⟩ := hq
        cases e <;> first | exact he.elim | exact fin h q1 q2 q3
      · cases h
    | round l args =>
      cases k' with
      | fn f' args' => exact hk.elim
      | round l' args' =>
      obtain ⟨⟨p, hp, rfl⟩, hargs⟩ := hk
      simp only at h
      split at h
      case h_2 => cases h
      rename_i pend ps asg body T sz hget
      split at h
      case isFalse => cases h
      rename_i hc
      obtain ⟨hlen, hps, hfa, hfb⟩ := hc
      obtain ⟨q, hq, hrel⟩ := hR.obj _ _ hget
      rw [hp] at hq; cases hq
      obtain ⟨L, hL, hst, hpend, hps', hasg, hbody, hT⟩ := hrel
      refine .inr (.inr ⟨p.b, _, _, _, _, run_yield hL (by simp [hps', ← hlen, hargs.length]), ?_⟩)
      rw [hasg, hbody]
      refine roundIn_of_wpIn trivial ?_
      split at h
      case h_2 => cases h
      rename_i S1 H1 h1
      have hA0 : AR φ { T := (ps.toList.zip args).foldl (fun T x => T.upd x.1 (some x.2)) T, sz, D := [] }
          { tmps := (L.params.zip args'.toArray).foldl (fun tmps (x : Tmp × Value) => tmps.setIfInBounds x.1 x.2) L.tmps, defers := [] } := by
        refine ⟨?_, trivial⟩
        have := TR.fold ps.toList args args' T L.tmps hps hargs hT
        rw [hps']
        have e : (ps.zip args'.toArray).foldl (fun tmps (x : Tmp × Value) => tmps.setIfInBounds x.1 x.2) L.tmps = (ps.toList.zip args').foldl (fun ts x => ts.setIfInBounds x.1 x.2) L.tmps := by
          rw [← Array.foldl_toList, Array.toList_zip]
        show TR φ _ sz ((ps.zip args'.toArray).foldl (fun tmps (x : Tmp × Value) => tmps.setIfInBounds x.1 x.2) L.tmps)
        rw [e]; exact this
      refine wpIn_mono (hcd (some p.b) asg _ _ _ h1 hfa φ w _ hg hR hA0).1 fun e a1 w1 hq => ?_
      obtain ⟨he, φ1, q1, q2, q3⟩ := hq
      cases e <;> first | exact he.elim | skip
      simp only [Exit.then]
      split at h
      case h_2 => cases h
      rename_i p' ps1 asg1 body1 T1 sz1 hget1
      have hp1 : φ1 l = some p := q3.le _ _ hp
      obtain ⟨q, hq, hrel1⟩ := q1.obj _ _ hget1
      rw [hp1] at hq; cases hq
      obtain ⟨L1, hL1, hst1, hpend1, hps1, hasg1, hbody1, hT1⟩ := hrel1
      have hlt1 := q1.lt _ _ hp1
      obtain ⟨r1, r2⟩ := q1.upd (w' := w1.putObj p.b (.loop { L1 with state := .busy })) hget1 rfl hp1 (.loop .busy p' ps1 asg1 body1 T1 sz1) rfl rfl rfl rfl World.putObj_size (fun k hk => World.putObj_heap_other hk)
        (by simp only [AObj.rel]; exact ⟨_, World.putObj_heap_same hlt1, rfl, hpend1, hps1, hasg1, hbody1, hT1⟩)
      refine ⟨_, run_beginRound hL1 hst1, ?_⟩
      have fin : ∀ {jump : Option Code} {H2 : AHeap} {φ2 : Emb} {w2 : World}, finA l jump H2 = some (v, H') → Rel φ2 H2 w2 → Step φ H w φ2 H2 w2 →
          ∃ rv w', (Instr.endRound p.b jump).run E.P w2 = .ok rv w' ∧ ∃ φ', VR φ' v rv ∧ Rel φ' H' w' ∧ Step φ H w φ' H' w' := by
        intro jump H2 φ2 w2 he s1 s2
        unfold finA at he
        split at he
        case h_2 => cases he
        rename_i st2 pend2 ps2 asg2 body2 T2 sz2 hget2
        cases he
        have hp2 : φ2 l = some p := s2.le _ _ hp
        obtain ⟨q, hq, hrel2⟩ := s1.obj _ _ hget2
        rw [hp2] at hq; cases hq
        obtain ⟨L2, hL2, hst2, hpend2, hps2, hasg2, hbody2, hT2⟩ := hrel2
        have hlt2 := s1.lt _ _ hp2
        obtain ⟨r1, r2⟩ := s1.upd (w' := w2.putObj p.b (.loop { L2 with state := if jump.isNone then .ready else .done, pending := jump })) hget2 rfl hp2 (.loop (if jump.isNone then .ready else .done) jump ps2 asg2 body2 T2 sz2) rfl rfl rfl rfl World.putObj_size (fun k hk => World.putObj_heap_other hk)
          (by simp only [AObj.rel]; exact ⟨_, World.putObj_heap_same hlt2, rfl, rfl, hps2, hasg2, hbody2, hT2⟩)
        exact ⟨_, _, run_endRound jump hL2, φ2, .bool _, r1, s2.trans r2⟩
      split at h
      · rename_i S2 H2 h2
        refine wpIn_mono (hcd (some p.b) body _ _ _ h2 hfb φ1 _ _ (hg.mono q3.le) r1 q2).1 fun e a2 w2 hq => ?_
        obtain ⟨he, φ2, s1, s2, s3⟩ := hq
        cases e <;> first | exact he.elim | exact fin h s1 ((q3.trans r2).trans s3)
      · rename_i S2 H2 h2
        refine wpIn_mono (hcd (some p.b) body _ _ _ h2 hfb φ1 _ _ (hg.mono q3.le) r1 q2).1 fun e a2 w2 hq => ?_
        obtain ⟨he, φ2, s1, s2, s3⟩ := hq
        cases e <;> first | exact he.elim | exact fin h s1 ((q3.trans r2).trans s3)
      · rename_i id S2 H2 h2
        refine wpIn_mono (hcd (some p.b) body _ _ _ h2 hfb φ1 _ _ (hg.mono q3.le) r1 q2).1 fun e a2 w2 hq => ?_
        obtain ⟨he, φ2, s1, s2, s3⟩ := hq
        cases e <;> first | exact he.elim | skip
        cases he
        exact fin h s1 ((q3.trans r2).trans s3)
      · cases h

theorem eval_sound (hE : GoodEnv E) : ∀ n, SoundCode E.P E.NG (evalA E n).1 ∧ SoundCall E.P E.NG 0 (evalA E n).2 := by
  intro n
  induction n with
  | zero => 
    rw [evalA_zero]
    exact ⟨fun r c S H out h => (by cases h), fun k H v H' h => (by cases h)⟩
  | succ n ih =>
    rw [evalA_succ]
    exact ⟨code_sound hE ih.1 ih.2, call_sound hE ih.1⟩
end Go.Abs
