/- The evaluator: the machine's code run over an abstract heap, in one order, with appends that always make a new object. -/
import Derived.Test.YtmpiblpcdhgppaaGreatDoorZqHeap
import Derived.IntWalk
import Derived.Laws.Bits64
namespace Go.Abs


/-! ### Types -/
def szT (P : Program) (t : TypeId) : Option Nat := (P.info? t).map (·.size)
def aggT (P : Program) (t : TypeId) : Option Bool := (P.underlying t).map fun | .struct _ => true | .array _ _ => true | _ => false
def zeroT (P : Program) (t : TypeId) : Option Value := (P.info? t).bind (·.zero)
def partA (P : Program) (t : TypeId) (cs : Array Value) (off : Nat) : Option Value :=
  match aggT P t with
  | some true => (szT P t).map fun n => .agg (cs.extract off (off + n))
  | some false => cs[off]?
  | none => none

/-! ### Memory -/
def loadA (P : Program) (t : TypeId) (v : Value) (H : AHeap) : Option Value :=
  match v with
  | .pointer (some ⟨i, o, none⟩) =>
    match H.get i with
    | some (.cells vs _) =>
      match aggT P t with
      | some true => (szT P t).bind fun n => if o + n ≤ vs.length then some (.agg ((vs.drop o).take n).toArray) else none
      | some false => vs[o]?
      | none => none
    | _ => none
  | _ => none
def splice (vs : List Value) (o : Nat) (l : List Value) : List Value := vs.take o ++ (l ++ vs.drop (o + l.length))
def storeA (P : Program) (t : TypeId) (v x : Value) (H : AHeap) : Option AHeap :=
  match v with
  | .pointer (some ⟨i, o, none⟩) =>
    match H.get i with
    | some (.cells vs false) =>
      match szT P t with
      | some n => if x.cells.size = n ∧ o + n ≤ vs.length ∧ x.cells.toList.all Value.oneCell' = true then some (H.put i (.cells (splice vs o x.cells.toList) false)) else none
      | none => none
    | _ => none
  | _ => none
/-- Cells of a slice, all of them. -/
def rowA (v : Value) (z : Nat) (H : AHeap) : Option (List Value) :=
  match v with
  | .slice none 0 0 => some []
  | .slice (some ⟨i, o, some z'⟩) n n' =>
    if n = n' ∧ z' = z then
      match H.get i with
      | some (.cells vs _) => if o + n * z ≤ vs.length then some ((vs.drop o).take (n * z)) else none
      | _ => none
    else none
  | _ => none

/-! ### Comparing -/
def eqFieldsA (P : Program) (eq : TypeId → Value → Value → Option Bool) : List Field → Array Value → Array Value → Option Bool
  | [], _, _ => some true
  | f :: fs, xs, ys =>
    if f.name ≠ "_" then
      match partA P f.type xs f.offset, partA P f.type ys f.offset with
      | some a, some b => (eq f.type a b).bind fun r => if r then eqFieldsA P eq fs xs ys else some false
      | _, _ => none
    else eqFieldsA P eq fs xs ys
def eqItemsA (P : Program) (eq : TypeId → Value → Value → Option Bool) (e : TypeId) (z : Nat) (xs ys : Array Value) : List Nat → Option Bool
  | [] => some true
  | i :: is =>
    match partA P e xs (i * z), partA P e ys (i * z) with
    | some a, some b => (eq e a b).bind fun r => if r then eqItemsA P eq e z xs ys is else some false
    | _, _ => none
def eqA (P : Program) (H : AHeap) : (d : Nat) → TypeId → Value → Value → Option Bool
  | 0, _, _, _ => none
  | d + 1, t, x, y =>
    match P.underlying t, x, y with
    | some .bool, .bool a, .bool b => some (a == b)
    | some (.int _), .int k a, .int k' b => if k = k' then some (a == b) else none
    | some .string, .string a, .string b => some (a.data.toList == b.data.toList)
    | some (.pointer _), .pointer none, .pointer b => some b.isNone
    | some (.pointer _), .pointer (some _), .pointer none => some false
    | some (.pointer e), .pointer (some ⟨i, o, none⟩), .pointer (some ⟨j, q, none⟩) =>
      match szT P e, H.get i, H.get j with
      | some n, some (.cells _ false), some (.cells _ false) => if n ≠ 0 then some (i == j && o == q) else none
      | _, _, _ => none
    | some (.slice _), .slice none _ _, .slice b _ _ => some b.isNone
    | some (.slice _), .slice (some _) _ _, .slice none _ _ => some false
    | some (.struct fs), .agg xs, .agg ys => if P.stoodInHeld t then none else eqFieldsA P (eqA P H d) fs.toList xs ys
    | some (.array n e), .agg xs, .agg ys => (szT P e).bind fun z => eqItemsA P (eqA P H d) e z xs ys (List.range n)
    | _, _, _ => none

/-! ### Operations on values -/
/-- 'wrap', quickly where nothing is to be done. -/
def wrapA (k : IntKind) (n : Int) : Int :=
  match k with
  | .i64 => match n with
    | .ofNat m => cond (Nat.blt m 9223372036854775808) (.ofNat m) (k.wrap n)
    | .negSucc m => cond (Nat.blt m 9223372036854775808) (.negSucc m) (k.wrap n)
  | .u64 => n.emod 18446744073709551616
  | .u32 => n.emod 4294967296
  | .u8 => n.emod 256
  | _ => k.wrap n
theorem wrapA_nat (m : Nat) (h : m < 9223372036854775808) : IntKind.i64.wrap (Int.ofNat m) = Int.ofNat m :=
  IntWalk.i64_in _ (by simp only [Int.ofNat_eq_natCast]; omega)
theorem wrapA_neg (m : Nat) (h : m < 9223372036854775808) : IntKind.i64.wrap (Int.negSucc m) = Int.negSucc m :=
  IntWalk.i64_in _ (by rw [Int.negSucc_eq]; omega)
theorem cond_eq_of {α : Type} {b : Bool} {x y : α} (h : b = true → x = y) : cond b x y = y := by cases b <;> simp_all
theorem wrapA_eq (k : IntKind) (n : Int) : wrapA k n = k.wrap n := by
  cases k
  case i64 =>
    cases n with
    | ofNat m => exact cond_eq_of fun h => (wrapA_nat m (Nat.le_of_ble_eq_true h)).symm
    | negSucc m => exact cond_eq_of fun h => (wrapA_neg m (Nat.le_of_ble_eq_true h)).symm
  case u64 => rw [IntKind.wrap_u64]; rfl
  case u32 => rw [IntKind.wrap_u32]; rfl
  case u8 => rw [IntKind.wrap_u8]; rfl
  all_goals rfl
def intA (op : BinOp) (k : IntKind) (x y : Int) : Option Value :=
  match op with
  | .add => some (.int k (wrapA k (x + y)))
  | .sub => some (.int k (wrapA k (x - y)))
  | .mul => some (.int k (wrapA k (x * y)))
  | .quo => if y = 0 then none else some (.int k (wrapA k (x.tdiv y)))
  | .rem => if y = 0 then none else some (.int k (x.tmod y))
  | .and => some (.int k (wrapA k (BitVec.ofInt k.bits x &&& BitVec.ofInt k.bits y).toNat))
  | .or => some (.int k (wrapA k (BitVec.ofInt k.bits x ||| BitVec.ofInt k.bits y).toNat))
  | .xor => some (.int k (wrapA k (BitVec.ofInt k.bits x ^^^ BitVec.ofInt k.bits y).toNat))
  | .andNot => some (.int k (wrapA k (BitVec.ofInt k.bits x &&& ~~~(BitVec.ofInt k.bits y)).toNat))
  | .eql => some (.bool (x == y))
  | .neq => some (.bool (x != y))
  | .lss => some (.bool (x < y))
  | .leq => some (.bool (x ≤ y))
  | .gtr => some (.bool (x > y))
  | .geq => some (.bool (x ≥ y))
  | _ => none
def strA (op : BinOp) (x y : ByteArray) : Option Value :=
  match op with
  | .add => if x.size + y.size ≤ 9223372036854775807 then some (.string (x ++ y)) else none
  | .eql => some (.bool (x.data.toList == y.data.toList))
  | .neq => some (.bool !(x.data.toList == y.data.toList))
  | .lss => some (.bool (Op.bytesLess x.data.toList y.data.toList))
  | .leq => some (.bool (Op.bytesLess x.data.toList y.data.toList || x.data.toList == y.data.toList))
  | .gtr => some (.bool !(Op.bytesLess x.data.toList y.data.toList || x.data.toList == y.data.toList))
  | .geq => some (.bool !(Op.bytesLess x.data.toList y.data.toList))
  | _ => none
def binA (P : Program) (op : BinOp) (t : TypeId) (x y : Value) (H : AHeap) : Option Value :=
  match x, y with
  | .int k a, .int k' b =>
    match op with
    | .shl => if b < 0 then none else some (.int k (wrapA k (a * 2 ^ min b.toNat k.bits)))
    | .shr => if b < 0 then none else some (.int k (a.fdiv (2 ^ min b.toNat k.bits)))
    | _ => if k = k' then intA op k a b else none
  | .string a, .string b => strA op a b
  | .bool a, .bool b => match op with | .eql => (eqA P H 10000 t (.bool a) (.bool b)).map .bool | .neq => (eqA P H 10000 t (.bool a) (.bool b)).map fun r => .bool !r | _ => none
  | .agg a, .agg b => if P.eqGuardType P.depth t then none else match op with | .eql => (eqA P H 10000 t (.agg a) (.agg b)).map .bool | .neq => (eqA P H 10000 t (.agg a) (.agg b)).map fun r => .bool !r | _ => none
  | .pointer a, .pointer b => match op with | .eql => (eqA P H 10000 t (.pointer a) (.pointer b)).map .bool | .neq => (eqA P H 10000 t (.pointer a) (.pointer b)).map fun r => .bool !r | _ => none
  | .slice a n c, .slice b m e => match op with | .eql => (eqA P H 10000 t (.slice a n c) (.slice b m e)).map .bool | .neq => (eqA P H 10000 t (.slice a n c) (.slice b m e)).map fun r => .bool !r | _ => none
  | _, _ => none
def unA (op : UnOp) (x : Value) : Option Value :=
  match op, x with
  | .not, .bool b => some (.bool !b)
  | .neg, .int k n => some (.int k (wrapA k (0 - n)))
  | _, _ => none
def convA (P : Program) (src dst : TypeId) (x : Value) : Option Value :=
  match P.underlying src, P.underlying dst, x with
  | some _, some (.int k), .int _ n => some (.int k (wrapA k n))
  | some (.int _), some .string, .int _ n => some (.string (Utf8.encode n))
  | some .string, some .string, .string s => some (.string s)
  | _, _, _ => none
def boundsA (v : Option Value) (dflt hi : Nat) : Option Nat :=
  match v with
  | none => some dflt
  | some (.int _ i) => if 0 ≤ i ∧ i ≤ hi then some i.toNat else none
  | some _ => none
def sliceA (P : Program) (t : TypeId) (x : Value) (lo hi : Option Value) (H : AHeap) : Option Value :=
  match P.underlying t, x with
  | some .string, .string s => (boundsA hi s.size s.size).bind fun h => (boundsA lo 0 h).map fun l => .string (s.extract l h)
  | some (.slice e), .slice (some ⟨i, o, some z⟩) n n' =>
    if n = n' ∧ szT P e = some z ∧ z ≠ 0 then (boundsA hi n n).bind fun h => (boundsA lo 0 h).map fun l => .slice (some ⟨i, o + l * z, some z⟩) (h - l) (h - l) else none
  | some (.slice e), .slice none 0 0 => (szT P e).bind fun _ => (boundsA hi 0 0).bind fun h => (boundsA lo 0 h).map fun _ => .slice none 0 0
  | some (.array n e), .pointer (some ⟨i, o, none⟩) =>
    match szT P e, H.get i with
    | some z, some (.cells vs _) => if z ≠ 0 ∧ o + n * z ≤ vs.length then (boundsA hi n n).bind fun h => (boundsA lo 0 h).map fun l => .slice (some ⟨i, o + l * z, some z⟩) (h - l) (h - l) else none
    | _, _ => none
  | _, _ => none
def indexAddrA (P : Program) (t : TypeId) (x ix : Value) : Option Value :=
  match P.underlying t, x, ix with
  | some (.slice e), .slice (some ⟨i, o, some z⟩) n n', .int _ k => if n = n' ∧ szT P e = some z ∧ 0 ≤ k ∧ k < n then some (.pointer (some ⟨i, o + k.toNat * z, none⟩)) else none
  | some (.array n e), .pointer (some ⟨i, o, none⟩), .int _ k => (szT P e).bind fun z => if 0 ≤ k ∧ k < n then some (.pointer (some ⟨i, o + k.toNat * z, none⟩)) else none
  | _, _, _ => none
def indexA (P : Program) (t : TypeId) (x ix : Value) : Option Value :=
  match P.underlying t, x, ix with
  | some (.array n e), .agg cs, .int _ k => (szT P e).bind fun z => if 0 ≤ k ∧ k < n then partA P e cs (k.toNat * z) else none
  | some .string, .string s, .int _ k => if 0 ≤ k then (s[k.toNat]?).map fun b => .int .u8 b.toNat else none
  | _, _, _ => none
def fieldAddrA (P : Program) (t : TypeId) (x : Value) (f : Nat) : Option Value :=
  match P.underlying t, x with
  | some (.struct fs), .pointer (some ⟨i, o, none⟩) =>
    match fs[f]? with
    | some fd => (szT P fd.type).bind fun n => if n ≠ 0 then some (.pointer (some ⟨i, o + fd.offset, none⟩)) else none
    | none => none
  | _, _ => none
def fieldA (P : Program) (t : TypeId) (x : Value) (f : Nat) : Option Value :=
  match P.underlying t, x with
  | some (.struct fs), .agg cs =>
    match fs[f]? with
    | some fd => partA P fd.type cs fd.offset
    | none => none
  | _, _ => none
def extractA (x : Value) (i : Nat) : Option Value := match x with | .tuple vs => vs[i]? | _ => none

/-! ### Maps -/
/-- A key of a type in which no interface lies. -/
def keyA (P : Program) : Nat → TypeId → Value → Bool
  | 0, _, _ => false
  | d + 1, t, v =>
    match P.underlying t with
    | some .bool => true
    | some (.int _) => true
    | some .string => true
    | some (.pointer _) => true
    | some (.array n e) => match v with
      | .agg cs => match szT P e with
        | some z => (List.range n).all fun i => match partA P e cs (i * z) with | some x => keyA P d e x | none => false
        | none => false
      | _ => false
    | some (.struct fs) => match v with
      | .agg cs => fs.toList.all fun f => f.name != "_" && match partA P f.type cs f.offset with | some x => keyA P d f.type x | none => false
      | _ => false
    | _ => false
/-- No entry has the key. -/
def offA (P : Program) (kt : TypeId) (k : Value) (H : AHeap) : List (Value × Value) → Bool
  | [] => true
  | e :: es => match eqA P H 10000 kt k e.1 with
    | some false => offA P kt k H es
    | _ => false
/-- The place of a key among entries, which no other entry has; all comparisons have to go. -/
def findA (P : Program) (kt : TypeId) (k : Value) (H : AHeap) : List (Value × Value) → Nat → Option (Option (Nat × Value))
  | [], _ => some none
  | e :: es, i => match eqA P H 10000 kt k e.1 with
    | some true => if offA P kt k H es then some (some (i, e.2)) else none
    | some false => findA P kt k H es (i + 1)
    | none => none
def lookupA (P : Program) (t : TypeId) (m k : Value) (ok : Bool) (H : AHeap) : Option Value :=
  match P.underlying t, m with
  | some (.map kt et), .map (some i) =>
    match H.get i with
    | some (.map es _) =>
      if keyA P 10000 kt k then
        match findA P kt k H es 0 with
        | some (some (_, v)) => some (if ok then .tuple #[v, .bool true] else v)
        | some none => (zeroT P et).bind fun z => if plainV z then some (if ok then .tuple #[z, .bool false] else z) else none
        | none => none
      else none
    | _ => none
  | _, _ => none
/-- The same plain value, or pointer: by sight. -/
def same1 : Value → Value → Bool
  | .bool a, .bool b => a == b
  | .int k a, .int k' b => k == k' && a == b
  | .string a, .string b => a.data.toList == b.data.toList
  | .pointer none, .pointer none => true
  | .pointer (some ⟨i, o, none⟩), .pointer (some ⟨j, q, none⟩) => i == j && o == q
  | _, _ => false
def sameL : List Value → List Value → Bool
  | [], [] => true
  | a :: l, b :: m => same1 a b && sameL l m
  | _, _ => false
def sameKey (x y : Value) : Bool :=
  match x, y with
  | .agg a, .agg b => sameL a.toList b.toList
  | _, _ => same1 x y
def mapSetA (P : Program) (t : TypeId) (m k v : Value) (H : AHeap) : Option AHeap :=
  match P.underlying t, m with
  | some (.map kt _), .map (some i) =>
    match H.get i with
    | some (.map es false) =>
      if keyA P 10000 kt k then
        match findA P kt k H es 0 with
        | some (some (j, _)) => match es[j]? with
          | some e => if sameKey k e.1 then some (H.put i (.map (es.set j (k, v)) false)) else none
          | none => none
        | some none => some (H.put i (.map (es ++ [(k, v)]) false))
        | none => none
      else none
    | _ => none
  | _, _ => none

/-! ### Builtins -/
def lenA (P : Program) (t : TypeId) (x : Value) (H : AHeap) : Option Value :=
  match P.underlying t, x with
  | some .string, .string s => some (goInt s.size)
  | some (.slice _), .slice _ n _ => some (goInt n)
  | some (.map _ _), .map (some i) => match H.get i with | some (.map es _) => some (goInt es.length) | _ => none
  | _, _ => none
/-- The capacity of a slice that is nil; no other capacity is known. -/
def capA (P : Program) (t : TypeId) (x : Value) : Option Value :=
  match P.underlying t, x with
  | some (.slice _), .slice none 0 0 => some (goInt 0)
  | _, _ => none
def appendA (P : Program) (t u : TypeId) (s x : Value) (H : AHeap) : Option (Value × AHeap) :=
  if t = u then
    match P.underlying t with
    | some (.slice e) =>
      match P.info? e with
      | some i =>
        match i.zero with
        | some z =>
          match rowA s i.size H, rowA x i.size H with
          | some olds, some news =>
            match x with
            | .slice _ m _ =>
              match s with
              | .slice none 0 0 =>
                if m = 0 then some (s, H) else
                if m * i.bytes ≤ 140737488355328 ∧ m ≤ 140737488355328 ∧ news.all Value.oneCell' = true ∧ 0 < i.size ∧ z.cells.size = i.size then
                  some (.slice (some ⟨H.next, 0, some i.size⟩) m m, H.alloc (.cells news false)) else none
              | .slice (some ⟨b, _, _⟩) n _ =>
                match H.get b with
                | some (.cells _ false) =>
                  if (n + m) * i.bytes ≤ 140737488355328 ∧ n + m ≤ 140737488355328 ∧ news.all Value.oneCell' = true ∧ 0 < i.size ∧ z.cells.size = i.size then
                    some (.slice (some ⟨H.next, 0, some i.size⟩) (n + m) (n + m), (H.drop b).alloc (.cells (olds ++ news) false)) else none
                | _ => none
              | _ => none
            | _ => none
          | _, _ => none
        | none => none
      | none => none
    | _ => none
  else none
/-- append onto nil of a made slice: zeros, told by their number. -/
def appendZA (P : Program) (t u : TypeId) (s x : Value) (H : AHeap) : Option (Value × AHeap) :=
  match P.underlying t, P.underlying u, s, x with
  | some (.slice e), some (.int _), .slice none 0 0, .int _ (.ofNat n) =>
    match P.info? e with
    | some i =>
      match i.zero with
      | some z =>
        if 0 < n ∧ n * i.bytes ≤ 140737488355328 ∧ n ≤ 140737488355328 ∧ 0 < i.size ∧ z.cells.size = i.size ∧ plainV z = true then
          some (.slice (some ⟨H.next, 0, some i.size⟩) n n, H.alloc (.cells (List.replicate n z.cells.toList).flatten false)) else none
      | none => none
    | none => none
  | _, _, _, _ => none
def copyA (P : Program) (t _u : TypeId) (d s : Value) (H : AHeap) : Option (Value × AHeap) :=
  match P.underlying t with
  | some (.slice e) =>
    match szT P e, d, s with
    | some z, .slice da n _, .slice _ m _ =>
      match rowA d z H, rowA s z H with
      | some _, some src =>
        let k := Nat.min m n
        let new := src.take (k * z)
        match da with
        | none => some (goInt k, H)
        | some ⟨b, o, _⟩ => match H.get b with
          | some (.cells vs false) => if new.all Value.oneCell' = true then some (goInt k, H.put b (.cells (splice vs o new) false)) else none
          | _ => none
      | _, _ => none
    | _, _, _ => none
  | _ => none
def clearA (P : Program) (t : TypeId) (x : Value) (H : AHeap) : Option AHeap :=
  match P.underlying t, x with
  | some (.slice _), .slice none 0 0 => some H
  | some (.slice e), .slice (some ⟨b, o, some z⟩) n n' =>
    if n = n' then
      if n = 0 then some H else
      match zeroT P e, H.get b with
      | some zv, some (.cells vs false) =>
        if zv.cells.size = z ∧ plainV zv = true ∧ zv.cells.toList.all Value.oneCell' = true ∧ o + n * z ≤ vs.length then some (H.put b (.cells (splice vs o (List.replicate n zv.cells.toList).flatten) false)) else none
      | _, _ => none
    else none
  | _, _ => none
def maxA (mn : Bool) : List Value → Option Value
  | [.int k a, .int k' b] => if k = k' then some (.int k (if mn then (if b < a then b else a) else (if b > a then b else a))) else none
  | _ => none

/-! ### One operation -/
def ev (T : Tr Value) : Operand → Value
  | .tmp t => (T.get t).getD undef
  | .const v => v
  | .global g => .pointer (some ⟨g, 0, none⟩)
  | .func f => .func (.func f) #[] #[]
/-- What makes a new object: the object, and the value out of its number. -/
def newA (P : Program) (ρ : Operand → Value) : Op → Option (AObj × (Nat → Value))
  | .alloc e => (zeroT P e).bind fun z => if plainV z then some (.cells z.cells.toList false, fun i => .pointer (some ⟨i, 0, none⟩)) else none
  | .box _ x => some (.cells (ρ x).cells.toList false, fun i => .pointer (some ⟨i, 0, none⟩))
  | .buildSlice t len parts =>
    match P.underlying t with
    | some (.slice e) =>
      match szT P e, zeroT P e with
      | some z, some zv => if len * z ≤ 16777216 ∧ plainV zv = true ∧ zv.cells.size = z ∧ 0 < z then
          (Instr.fill (fun i => some (i * z, z)) (List.replicate len zv.cells.toList).flatten.toArray (parts.toList.map fun (i, x) => (i, ρ x))).map fun cs =>
            (.cells cs.toList false, fun i => .slice (some ⟨i, 0, some z⟩) len len) else none
      | _, _ => none
    | _ => none
  | .makeMap _ none => some (.map [] false, fun i => .map (some i))
  | .makeSlice t l c =>
    match P.underlying t, ρ l, ρ c with
    | some (.slice e), .int .i64 n, .int .i64 n' =>
      match P.info? e with
      | some i => match i.zero with
        | some zv => if n = n' ∧ 0 ≤ n ∧ n * i.bytes ≤ 140737488355328 ∧ n ≤ 140737488355328 ∧ plainV zv = true ∧ zv.cells.size = i.size ∧ 0 < i.size then
            some (.cells (List.replicate n.toNat zv.cells.toList).flatten false, fun j => .slice (some ⟨j, 0, some i.size⟩) n.toNat n.toNat) else none
        | none => none
      | none => none
    | _, _, _ => none
  | _ => none
def valCallA (P : Program) (ρ : Operand → Value) (H : AHeap) (c : Call) : Option Value :=
  match c.callee with
  | .builtin .len => match c.args.toList, c.argTypes.toList with | [x], [t] => lenA P t (ρ x) H | _, _ => none
  | .builtin .cap => match c.args.toList, c.argTypes.toList with | [x], [t] => capA P t (ρ x) | _, _ => none
  | .builtin .max => maxA false (c.args.toList.map ρ)
  | .builtin .min => maxA true (c.args.toList.map ρ)
  | _ => none
/-- What only yields a value. -/
def valA (P : Program) (ρ : Operand → Value) (H : AHeap) : Op → Option Value
  | .move x => some (ρ x)
  | .assign x => some (ρ x)
  | .pick c a b => match ρ c with | .bool t => some (if t then ρ a else ρ b) | _ => none
  | .build t parts => (P.built t (parts.toList.map fun (i, x) => (i, ρ x))).bind fun cs => (zeroT P t).bind fun z => if plainV z then some (.agg cs) else none
  | .load t a => loadA P t (ρ a) H
  | .nilCheck x => match ρ x with
    | .pointer (some a) => some (.pointer (some a))
    | .func (.func f) x y => some (.func (.func f) x y)
    | .func (.yield l) x y => some (.func (.yield l) x y)
    | _ => none
  | .binOp op t x y _ => binA P op t (ρ x) (ρ y) H
  | .unOp op _ x => unA op (ρ x)
  | .convert s d x => convA P s d (ρ x)
  | .makeFunc (.func f) first cap => some (.func (.func f) (first.map ρ) (cap.map ρ))
  | .slice t x lo hi none => sliceA P t (ρ x) (lo.map ρ) (hi.map ρ) H
  | .fieldAddr t x f => fieldAddrA P t (ρ x) f
  | .field t x f => fieldA P t (ρ x) f
  | .indexAddr t x i => indexAddrA P t (ρ x) (ρ i)
  | .index t x i => indexA P t (ρ x) (ρ i)
  | .lookup t x i ok => lookupA P t (ρ x) (ρ i) ok H
  | .extract x i => extractA (ρ x) i
  | .call c => valCallA P ρ H c
  | _ => none
def effCallA (P : Program) (ρ : Operand → Value) (H : AHeap) (c : Call) : Option (Value × AHeap) :=
  match c.callee with
  | .builtin .append => match c.args.toList, c.argTypes.toList with | [s, x], [t, u] => if t = u then appendA P t u (ρ s) (ρ x) H else appendZA P t u (ρ s) (ρ x) H | _, _ => none
  | .builtin .copy => match c.args.toList, c.argTypes.toList with | [s, x], [t, u] => copyA P t u (ρ s) (ρ x) H | _, _ => none
  | .builtin .clear => match c.args.toList, c.argTypes.toList with | [x], [t] => (clearA P t (ρ x) H).map fun H' => (.tuple #[], H') | _, _ => none
  | _ => none
/-- What writes. -/
def effA (P : Program) (ρ : Operand → Value) (H : AHeap) : Op → Option (Value × AHeap)
  | .store t a x => (storeA P t (ρ a) (ρ x) H).map fun H' => (undef, H')
  | .mapUpdate t m k x => (mapSetA P t (ρ m) (ρ k) (ρ x) H).map fun H' => (undef, H')
  | .insert t m k x => (mapSetA P t (ρ m) (ρ k) (ρ x) H).map fun H' => (undef, H')
  | .call c => effCallA P ρ H c
  | _ => none
inductive Kind where | val | new | eff | call
def kindB : Builtin → Kind
  | .append | .copy | .clear => .eff
  | _ => .val
def kindOf : Op → Kind
  | .alloc _ | .box .. | .buildSlice .. | .makeMap .. | .makeSlice .. => .new
  | .store .. | .mapUpdate .. | .insert .. => .eff
  | .call c => match c.callee with
    | .builtin b => kindB b
    | _ => .call
  | _ => .val

/-- An activation: its temporaries, how many there are, and the blocks for deferred calls that it has to shut. -/
structure AAct where
  T : Tr Value
  sz : Nat
  D : List Nat
def AAct.put (S : AAct) (dst : Option Tmp) (v : Value) : Option AAct :=
  match dst with
  | none => some S
  | some d => cond (Nat.blt d S.sz) (some { S with T := S.T.upd d (some v) }) none
def yieldedA (ops : Array Oper) (T : Tr Value) (j : Nat) : Option Bool :=
  match ((ops[j]?).bind (·.dst)).bind T.get with
  | some (.bool b) => some b
  | _ => none
def wantedA (ops : Array Oper) (T : Tr Value) (o : Oper) : Bool :=
  match o.guard with
  | none => true
  | some (j, want) => yieldedA ops T j == some want

inductive AExit where | normal | exit (id : Nat) | ret
/-- A callee's number and its arguments, or a round of a range over a function. -/
inductive Callee' where | fn (f : FuncId) (args : List Value) | round (l : Nat) (args : List Value)
def calleeA (ρ : Operand → Value) (c : Call) : Option Callee' :=
  match c.callee with
  | .value f => match ρ f with
    | .func (.func g) x y => some (.fn g (x.toList ++ (c.args.toList.map ρ ++ y.toList)))
    | .func (.yield l) x y => if x.isEmpty && y.isEmpty then some (.round l (c.args.toList.map ρ)) else none
    | _ => none
  | _ => none

def resultsA (P : Program) (T : Tr Value) (H : AHeap) : List ResultVar → Option (List Value)
  | [] => some []
  | .tmp t :: rs => (resultsA P T H rs).map ((T.get t).getD undef :: ·)
  | .cell a t :: rs => (loadA P t ((T.get a).getD undef) H).bind fun v => (resultsA P T H rs).map (v :: ·)
def tupled : List Value → Value
  | [v] => v
  | l => .tuple l.toArray
def initT : List Value → Nat → Tr Value → Tr Value
  | [], _, T => T
  | v :: l, i, T => initT l (i + 1) (T.upd i (some v))
def shutA : List Nat → AHeap → Option AHeap
  | [], H => some H
  | i :: l, H => match H.get i with
    | some .deferred => shutA l (H.drop i)
    | _ => none

/-- Operations one behind the other. -/
def seqA (P : Program) (call : Callee' → AHeap → Option (Value × AHeap)) (ops : Array Oper) : List Oper → AAct → AHeap → Option (AAct × AHeap)
  | [], S, H => some (S, H)
  | o :: rest, S, H =>
    if wantedA ops S.T o then
      match kindOf o.op with
      | .val => (valA P (ev S.T) H o.op).bind fun v => (S.put o.dst v).bind fun S => seqA P call ops rest S H
      | .new => (newA P (ev S.T) o.op).bind fun (ob, f) => (S.put o.dst (f H.next)).bind fun S => seqA P call ops rest S (H.alloc ob)
      | .eff => (effA P (ev S.T) H o.op).bind fun (v, H) => (S.put o.dst v).bind fun S => seqA P call ops rest S H
      | .call => match o.op with
        | .call c => (calleeA (ev S.T) c).bind fun k => (call k H).bind fun (v, H) => (S.put o.dst v).bind fun S => seqA P call ops rest S H
        | _ => none
    else (S.put o.dst undef).bind fun S => seqA P call ops rest S H
end Go.Abs
