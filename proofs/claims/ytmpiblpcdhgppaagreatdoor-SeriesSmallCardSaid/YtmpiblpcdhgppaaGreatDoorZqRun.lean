/- The evaluator's texts: operations without an order, branches, loops, calls. -/
import Derived.Test.YtmpiblpcdhgppaaGreatDoorZqCode
namespace Go.Abs

/-! ### What is known of a region before it runs -/
def bitA (m k : Nat) : Bool := Nat.testBit m k
/-- Ancestors of an operation, as bits, by those of the operations before it. -/
def maskOf (ms : List Nat) : List Edge → Option Nat
  | [] => some 0
  | e :: es => (maskOf ms es).bind fun m => if Region.binds .any e then (ms[e.on]?).map fun a => m ||| (a ||| (1 <<< e.on)) else some m
def masksA : List Oper → List Nat → Option (List Nat)
  | [], ms => some ms
  | o :: os, ms => (maskOf ms o.after.toList).bind fun m => masksA os (ms ++ [m])
def heavyK : Kind → Bool
  | .eff | .call => true
  | _ => false
def heavyO (o : Oper) : Bool := heavyK (kindOf o.op)
def ancA (ms : List Nat) (k i : Nat) : Bool := bitA (ms.getD i 0) k
def pairOk (ops : Array Oper) (ms : List Nat) (i k : Nat) : Bool :=
  match ops[i]?, ops[k]? with
  | some o, some p =>
    (Nat.beq i k || !(o.dst.isSome && o.dst == p.dst)) &&
    (match p.dst with
     | some t => !((o.looksAt ops).contains t) || (Nat.blt k i && ancA ms k i) || (Nat.blt i k && ancA ms i k)
     | none => true) &&
    (!(Nat.blt i k && heavyO o && heavyO p) || ancA ms i k)
  | _, _ => true
def drawOk (ops : Array Oper) : Bool :=
  match masksA ops.toList [] with
  | some ms => (List.range ops.size).all fun i => (List.range ops.size).all fun k => pairOk ops ms i k
  | none => false
/-- May the heaps before operation j be what operation i meets? -/
def candA (ops : Array Oper) (ms : List Nat) (i j : Nat) : Bool :=
  ((List.range ops.size).all fun k => !(Nat.ble j k && (ops[k]?).any heavyO && ancA ms k i)) &&
  (Nat.beq j 0 || ((ops[j - 1]?).any heavyO && !ancA ms i (j - 1)))
def candsA (ops : Array Oper) (ms : List Nat) (i : Nat) : List Nat := (List.range (ops.size + 1)).filter (candA ops ms i)
def readsH : Op → Bool
  | .load .. | .lookup .. | .slice .. | .binOp .. | .call .. => true
  | _ => false
/-- Does a reading operation stand in no order with some writing one? -/
def looseA (ops : Array Oper) (ms : List Nat) (i : Nat) : Bool :=
  (List.range ops.size).any fun k => (ops[k]?).any heavyO && !(Nat.beq i k) && !ancA ms i k && !ancA ms k i

/-! ### A region without an order -/
structure Rec where
  v : Value
  T : Tr Value
  H : AHeap
  ob : Option AObj
def placeA (ms : List Nat) (base k : Nat) : List (Nat × AObj) → AHeap → AHeap
  | [], H => H
  | x :: l, H => if ancA ms x.1 k then (placeA ms base k l H).put (base + x.1) x.2 else placeA ms base k l H
def restA (ms : List Nat) (k : Nat) (l : List (Nat × AObj)) : List (Nat × AObj) := l.filter fun x => !ancA ms x.1 k
def landA (base : Nat) : List (Nat × AObj) → AHeap → AHeap
  | [], H => H
  | x :: l, H => (landA base l H).put (base + x.1) x.2
def goA (P : Program) (call : Callee' → AHeap → Option (Value × AHeap)) (ops : Array Oper) (ms : List Nat) (base : Nat) :
    List Oper → Nat → AAct → AHeap → List (Nat × AObj) → Option (List Rec × AAct × AHeap × List (Nat × AObj))
  | [], _, S, H, pend => some ([], S, H, pend)
  | o :: rest, i, S, H, pend =>
    if wantedA ops S.T o then
      match kindOf o.op with
      | .val => (valA P (ev S.T) H o.op).bind fun v => (S.put o.dst v).bind fun S' => (goA P call ops ms base rest (i + 1) S' H pend).map fun x => (⟨v, S.T, H, none⟩ :: x.1, x.2)
      | .new => (newA P (ev S.T) o.op).bind fun (ob, f) => (S.put o.dst (f (base + i))).bind fun S' => (goA P call ops ms base rest (i + 1) S' H ((i, ob) :: pend)).map fun x => (⟨f (base + i), S.T, H, some ob⟩ :: x.1, x.2)
      | .eff => (effA P (ev S.T) (placeA ms base i pend H) o.op).bind fun (v, H') => (S.put o.dst v).bind fun S' => (goA P call ops ms base rest (i + 1) S' H' (restA ms i pend)).map fun x => (⟨v, S.T, H, none⟩ :: x.1, x.2)
      | .call => match o.op with
        | .call c => (calleeA (ev S.T) c).bind fun k => (call k (placeA ms base i pend H)).bind fun (v, H') => (S.put o.dst v).bind fun S' => (goA P call ops ms base rest (i + 1) S' H' (restA ms i pend)).map fun x => (⟨v, S.T, H, none⟩ :: x.1, x.2)
        | _ => none
    else if heavyO o then (S.put o.dst undef).bind fun S' => (goA P call ops ms base rest (i + 1) S' (placeA ms base i pend H) (restA ms i pend)).map fun x => (⟨undef, S.T, H, none⟩ :: x.1, x.2)
    else (S.put o.dst undef).bind fun S' => (goA P call ops ms base rest (i + 1) S' H pend).map fun x => (⟨undef, S.T, H, none⟩ :: x.1, x.2)
/-- By sight the same cell. -/
def sameC : Value → Value → Bool
  | .slice none n c, .slice none m d => Nat.beq n m && Nat.beq c d
  | .slice (some ⟨i, o, some z⟩) n c, .slice (some ⟨j, q, some y⟩) m d => Nat.beq i j && Nat.beq o q && Nat.beq z y && Nat.beq n m && Nat.beq c d
  | .map (some i), .map (some j) => Nat.beq i j
  | .map none, .map none => true
  | .nilFunc, .nilFunc => true
  | .func (.func f) a b, .func (.func g) c d => Nat.beq f g && sameL a.toList c.toList && sameL b.toList d.toList
  | a, b => same1 a b
def sameCL : List Value → List Value → Bool
  | [], [] => true
  | a :: l, b :: m => sameC a b && sameCL l m
  | _, _ => false
def sameM : Value → Value → Bool
  | .agg a, .agg b => sameCL a.toList b.toList
  | a, b => sameC a b
def sameML : List Value → List Value → Bool
  | [], [] => true
  | a :: l, b :: m => sameM a b && sameML l m
  | _, _ => false
/-- By sight the same value. -/
def sameV : Value → Value → Bool
  | .tuple a, .tuple b => sameML a.toList b.toList
  | a, b => sameM a b
def hAt (recs : List Rec) (Hf : AHeap) (j : Nat) : AHeap := match recs[j]? with | some r => r.H | none => Hf
/-- The reading operations read the same whenever they run. -/
def steadyA (P : Program) (ops : Array Oper) (ms : List Nat) (recs : List Rec) (Hf : AHeap) (i : Nat) : Bool :=
  match ops[i]?, recs[i]? with
  | some o, some r =>
    if readsH o.op && looseA ops ms i then
      if wantedA ops r.T o then
        match kindOf o.op with
        | .val => (candsA ops ms i).all fun j => match valA P (ev r.T) (hAt recs Hf j) o.op with | some v => sameV v r.v | none => false
        | _ => true
      else true
    else true
  | _, _ => true
def drawA (P : Program) (call : Callee' → AHeap → Option (Value × AHeap)) (ops : Array Oper) (S : AAct) (H : AHeap) : Option (AAct × AHeap) :=
  match masksA ops.toList [] with
  | none => none
  | some ms =>
    match goA P call ops ms H.next ops.toList 0 S { H with next := H.next + ops.size } [] with
    | none => none
    | some (recs, S', Hf, pend) =>
      if (List.range ops.size).all (steadyA P ops ms recs Hf) then some (S', landA H.next pend Hf) else none

/-! ### Texts -/
def codeFine (NG : Nat) : Code → Bool
  | .skip | .label _ | .exit _ | .ret => true
  | .region _ ops draw => ops.toList.all (opOk NG) && (!draw || drawOk ops)
  | .seq a b => codeFine NG a && codeFine NG b
  | .cond c a b => opdOk NG c && codeFine NG a && codeFine NG b
  | .block _ b => codeFine NG b
  | .loop b => codeFine NG b
  | .scope b => codeFine NG b
  | .rangeFunc f _ asg body => opdOk NG f && codeFine NG asg && codeFine NG body
  | _ => false
def jumpOk : Code → Bool
  | .ret | .exit _ => true
  | _ => false
/-- A program; the number of its package-level variables; which functions are fine (as bits); and what is known beforehand of some calls. -/
structure Env where
  P : Program
  NG : Nat
  good : Nat
  spec : Callee' → AHeap → Option (Value × AHeap)
def fnFine (P : Program) (NG : Nat) (f : Nat) : Bool :=
  match P.funcs[f]? with
  | some fn => match fn.body with
    | some c => codeFine NG c && !(fn.name == "runtime.NumGoroutine")
    | none => false
  | none => false
abbrev CodeF := Bool → Code → AAct → AHeap → Option (AExit × AAct × AHeap)
/-- One step into a text: what lies in it is told by cd, calls by cl. -/
def codeS (E : Env) (cd : CodeF) (cl : CallF) : CodeF := fun r c S H =>
    match c with
    | .skip => some (.normal, S, H)
    | .label _ => some (.normal, S, H)
    | .region _ ops draw => (cond draw (drawA E.P cl ops S H) (seqA E.P cl ops ops.toList S H)).map fun x => (.normal, x.1, x.2)
    | .seq a b => match cd r a S H with
      | some (.normal, S, H) => cd r b S H
      | x => x
    | .cond c a b => match ev S.T c with
      | .bool t => cd r (cond t a b) S H
      | _ => none
    | .block id b => match cd r b S H with
      | some (.exit id', S, H) => some (cond (Nat.beq id' id) .normal (.exit id'), S, H)
      | x => x
    | .loop b => match cd r b S H with
      | some (.normal, S, H) => cd r (.loop b) S H
      | x => x
    | .scope b => cd r b S H
    | .exit id => some (.exit id, S, H)
    | .ret => some (.ret, S, H)
    | .rangeFunc f ps asg body =>
      if r then none else
      match ev S.T f with
      | .func (.func g) x y =>
        if !Nat.testBit E.good g then none else
        (cl (.fn g (x.toList ++ (.func (.yield (H.next + 1)) #[] #[] :: y.toList))) ((H.alloc .deferred).alloc (.loop .ready none ps asg body S.T S.sz))).bind fun x =>
          match x.2.get (H.next + 1) with
          | some (.loop st pend ..) =>
            match st with
            | .busy => none
            | _ => match pend with
              | none => some (.normal, { S with D := H.next :: S.D }, x.2.drop (H.next + 1))
              | some j => if jumpOk j then cd r j { S with D := H.next :: S.D } (x.2.drop (H.next + 1)) else none
          | _ => none
      | _ => none
    | _ => none
/-- A function's end. -/
def endA (E : Env) (fn : Func) (S : AAct) (H : AHeap) : Option (Value × AHeap) :=
  (shutA S.D H).bind fun H' => (resultsA E.P S.T H' fn.results.toList).map fun l => (tupled l, H')
/-- A round's end. -/
def finA (l : Nat) (jump : Option Code) (H : AHeap) : Option (Value × AHeap) :=
  match H.get l with
  | some (.loop _ _ ps asg body T sz) => some (.bool jump.isNone, H.put l (.loop (if jump.isNone then .ready else .done) jump ps asg body T sz))
  | _ => none
def callS (E : Env) (cd : CodeF) : CallF := fun k H =>
  match E.spec k H with
  | some x => some x
  | none =>
  match k with
  | .fn f args =>
    if Nat.testBit E.good f then
    match E.P.funcs[f]? with
    | none => none
    | some fn =>
      match fn.body with
      | none => none
      | some c =>
        if args.length ≤ fn.ntmps then
          match cd false c { T := initT args 0 .nil, sz := fn.ntmps, D := [] } H with
          | some (.normal, S, H) => endA E fn S H
          | some (.ret, S, H) => endA E fn S H
          | _ => none
        else none
    else none
  | .round l args =>
    match H.get l with
    | some (.loop .ready _ ps asg body T sz) =>
      if args.length = ps.size ∧ ps.toList.all (Nat.blt · sz) = true ∧ codeFine E.NG asg = true ∧ codeFine E.NG body = true then
        match cd true asg { T := (ps.toList.zip args).foldl (fun T x => T.upd x.1 (some x.2)) T, sz, D := [] } H with
        | some (.normal, S, H) =>
          match H.get l with
          | some (.loop .ready p' ps' asg' body' T' sz') =>
            match cd true body S (H.put l (.loop .busy p' ps' asg' body' T' sz')) with
            | some (.normal, _, H) => finA l none H
            | some (.ret, _, H) => finA l (some .ret) H
            | some (.exit id, _, H) => finA l (some (.exit id)) H
            | none => none
          | _ => none
        | _ => none
      else none
    | _ => none
def evalA (E : Env) (n : Nat) : CodeF × CallF :=
  Nat.rec (motive := fun _ => CodeF × CallF) (fun _ _ _ _ => none, fun _ _ => none) (fun _ p => (codeS E p.1 p.2, callS E p.1)) n
def callA (E : Env) (n : Nat) : CallF := (evalA E n).2
theorem evalA_zero (E : Env) : evalA E 0 = (fun _ _ _ _ => none, fun _ _ => none) := rfl
theorem evalA_succ (E : Env) (n : Nat) : evalA E (n + 1) = (codeS E (evalA E n).1 (evalA E n).2, callS E (evalA E n).1) := rfl
end Go.Abs
