/- The abstract heap, how it lies in a world of the machine, and what a step may change. -/
import Derived.CallsIn
import Derived.OrdersIn
import Derived.Below
namespace Go.Abs

/-! ### A store of numbered things -/
inductive Tr (α : Type) where
  | nil
  | node (l : Tr α) (v : Option α) (r : Tr α)
namespace Tr
variable {α : Type}
def get : Tr α → Nat → Option α
  | nil, _ => none
  | node l v r, n => cond (Nat.beq n 0) v (cond (Nat.beq (n % 2) 1) (l.get (n / 2)) (r.get (n / 2 - 1)))
def updF : Nat → Tr α → Nat → Option α → Tr α
  | 0, t, _, _ => t
  | f + 1, nil, n, x => cond (Nat.beq n 0) (node nil x nil) (cond (Nat.beq (n % 2) 1) (node (updF f nil (n / 2) x) none nil) (node nil none (updF f nil (n / 2 - 1) x)))
  | f + 1, node l v r, n, x => cond (Nat.beq n 0) (node l x r) (cond (Nat.beq (n % 2) 1) (node (updF f l (n / 2) x) v r) (node l v (updF f r (n / 2 - 1) x)))
def upd (t : Tr α) (n : Nat) (x : Option α) : Tr α := updF (n + 1) t n x
theorem beq_ff {a b : Nat} (h : a ≠ b) : Nat.beq a b = false := by
  cases e : Nat.beq a b
  · rfl
  · exact absurd (Nat.eq_of_beq_eq_true e) h
theorem beq_tt {a b : Nat} (h : a = b) : Nat.beq a b = true := by subst h; exact Nat.beq_refl a
theorem get_nil (n : Nat) : (nil : Tr α).get n = none := by simp [get]
theorem get_node (l r : Tr α) (v : Option α) (n : Nat) : (node l v r).get n = if n = 0 then v else if n % 2 = 1 then l.get (n / 2) else r.get (n / 2 - 1) := by
  rw [get]
  by_cases h0 : n = 0
  · subst h0; rfl
  · have e0 : Nat.beq n 0 = false := beq_ff h0
    rw [e0, if_neg h0]
    by_cases h1 : n % 2 = 1
    · have e1 : Nat.beq (n % 2) 1 = true := beq_tt h1
      rw [e1, if_pos h1]; rfl
    · have e1 : Nat.beq (n % 2) 1 = false := beq_ff h1
      rw [e1, if_neg h1]; rfl
theorem updF_nil (f n : Nat) (x : Option α) : updF (f + 1) nil n x = if n = 0 then node nil x nil else if n % 2 = 1 then node (updF f nil (n / 2) x) none nil else node nil none (updF f nil (n / 2 - 1) x) := by
  rw [updF]
  by_cases h0 : n = 0
  · subst h0; rfl
  · have e0 : Nat.beq n 0 = false := beq_ff h0
    rw [e0, if_neg h0]
    by_cases h1 : n % 2 = 1
    · have e1 : Nat.beq (n % 2) 1 = true := beq_tt h1
      rw [e1, if_pos h1]; rfl
    · have e1 : Nat.beq (n % 2) 1 = false := beq_ff h1
      rw [e1, if_neg h1]; rfl
theorem updF_node (f n : Nat) (l r : Tr α) (v x : Option α) : updF (f + 1) (node l v r) n x = if n = 0 then node l x r else if n % 2 = 1 then node (updF f l (n / 2) x) v r else node l v (updF f r (n / 2 - 1) x) := by
  rw [updF]
  by_cases h0 : n = 0
  · subst h0; rfl
  · have e0 : Nat.beq n 0 = false := beq_ff h0
    rw [e0, if_neg h0]
    by_cases h1 : n % 2 = 1
    · have e1 : Nat.beq (n % 2) 1 = true := beq_tt h1
      rw [e1, if_pos h1]; rfl
    · have e1 : Nat.beq (n % 2) 1 = false := beq_ff h1
      rw [e1, if_neg h1]; rfl
theorem get_updF (x : Option α) : ∀ (f n : Nat), n < f → ∀ (t : Tr α) (m : Nat), (updF f t n x).get m = if n = m then x else t.get m := by
  intro f
  induction f with
  | zero => intro n h; omega
  | succ f ih =>
    intro n hn t m
    have key : ∀ (l r : Tr α) (v : Option α), (if n = 0 then node l x r else if n % 2 = 1 then node (updF f l (n / 2) x) v r else node l v (updF f r (n / 2 - 1) x)).get m = if n = m then x else (node l v r).get m := by
      intro l r v
      by_cases h0 : n = 0
      · subst h0
        rw [if_pos rfl, get_node, get_node]
        by_cases hm : m = 0
        · subst hm; simp
        · rw [if_neg hm, if_neg (by omega : ¬ 0 = m), if_neg hm]
      · rw [if_neg h0]
        by_cases h1 : n % 2 = 1
        · rw [if_pos h1, get_node, get_node]
          by_cases hm : m = 0
          · subst hm; simp [h0]
          · rw [if_neg hm, if_neg hm]
            by_cases hq : m % 2 = 1
            · rw [if_pos hq, if_pos hq, ih _ (by omega)]
              by_cases e : n = m
              · subst e; simp
              · rw [if_neg e, if_neg (by omega)]
            · rw [if_neg hq, if_neg hq, if_neg (by omega : ¬ n = m)]
        · rw [if_neg h1, get_node, get_node]
          by_cases hm : m = 0
          · subst hm; simp [h0]
          · rw [if_neg hm, if_neg hm]
            by_cases hq : m % 2 = 1
            · rw [if_pos hq, if_pos hq, if_neg (by omega : ¬ n = m)]
            · rw [if_neg hq, if_neg hq, ih _ (by omega)]
              by_cases e : n = m
              · subst e; simp
              · rw [if_neg e, if_neg (by omega)]
    cases t with
    | nil =>
      rw [updF_nil, key nil nil none, get_nil, get_node]
      split
      · rfl
      · split
        · rfl
        · split <;> exact get_nil _
    | node l v r => rw [updF_node]; exact key l r v
theorem get_upd (t : Tr α) (n : Nat) (x : Option α) (m : Nat) : (t.upd n x).get m = if n = m then x else t.get m := get_updF x (n + 1) n (by omega) t m
end Tr

/-! ### Abstract objects and heaps -/
/-- What lies at a number: a row of cells (ro: it may not be written), a map's entries, the record of a range over a function, the block for deferred calls. -/
inductive AObj where
  | cells (vs : List Value) (ro : Bool)
  | map (es : List (Value × Value)) (ro : Bool)
  | loop (st : LoopState) (pend : Option Code) (ps : Array Tmp) (asg body : Code) (T : Tr Value) (sz : Nat)
  | deferred
structure AHeap where
  m : Tr AObj
  next : Nat
namespace AHeap
def get (H : AHeap) (i : Nat) : Option AObj := H.m.get i
def put (H : AHeap) (i : Nat) (o : AObj) : AHeap := { H with m := H.m.upd i (some o) }
def drop (H : AHeap) (i : Nat) : AHeap := { H with m := H.m.upd i none }
def alloc (H : AHeap) (o : AObj) : AHeap := { m := H.m.upd H.next (some o), next := H.next + 1 }
theorem get_put (H : AHeap) (i j : Nat) (o : AObj) : (H.put i o).get j = if i = j then some o else H.get j := Tr.get_upd ..
theorem get_drop (H : AHeap) (i j : Nat) : (H.drop i).get j = if i = j then none else H.get j := Tr.get_upd ..
theorem get_alloc (H : AHeap) (j : Nat) (o : AObj) : (H.alloc o).get j = if H.next = j then some o else H.get j := Tr.get_upd ..
theorem next_put (H : AHeap) (i : Nat) (o : AObj) : (H.put i o).next = H.next := rfl
theorem next_drop (H : AHeap) (i : Nat) : (H.drop i).next = H.next := rfl
theorem next_alloc (H : AHeap) (o : AObj) : (H.alloc o).next = H.next + 1 := rfl
end AHeap

/-- Where an object lies: its block, the first cell, how many cells are its own. -/
structure Pl where
  b : Nat
  s : Nat
  r : Nat
abbrev Emb := Nat → Option Pl
def Emb.le (φ ψ : Emb) : Prop := ∀ i p, φ i = some p → ψ i = some p
theorem Emb.le_refl (φ : Emb) : φ.le φ := fun _ _ h => h
theorem Emb.le_trans {a b c : Emb} (h : a.le b) (k : b.le c) : a.le c := fun i p e => k i p (h i p e)

/-! ### Values -/
mutual
/-- An abstract value and the machine's. A slice's address bears its element's size as its spot; its capacity says nothing. -/
inductive VR (φ : Emb) : Value → Value → Prop
  | bool (b : Bool) : VR φ (.bool b) (.bool b)
  | int (k : IntKind) (n : Int) : VR φ (.int k n) (.int k n)
  | string (s : ByteArray) : VR φ (.string s) (.string s)
  | nilptr : VR φ (.pointer none) (.pointer none)
  | ptr {i o : Nat} {p : Pl} (h : φ i = some p) : VR φ (.pointer (some ⟨i, o, none⟩)) (.pointer (some ⟨p.b, p.s + o, none⟩))
  | nilslice : VR φ (.slice none 0 0) (.slice none 0 0)
  | slice {i o z n c : Nat} {p : Pl} {A : Addr} (h : φ i = some p) (hn : n ≤ c) (hc : c = 0 ∨ (A = ⟨p.b, p.s + o, none⟩ ∧ o + c * z ≤ p.r)) :
      VR φ (.slice (some ⟨i, o, some z⟩) n n) (.slice (some A) n c)
  | nilmap : VR φ (.map none) (.map none)
  | map {i : Nat} {p : Pl} (h : φ i = some p) : VR φ (.map (some i)) (.map (some p.b))
  | func (f : FuncId) {x y x' y' : Array Value} (h : VRL φ x.toList x'.toList) (k : VRL φ y.toList y'.toList) : VR φ (.func (.func f) x y) (.func (.func f) x' y')
  | yield {i : Nat} {p : Pl} (h : φ i = some p) : VR φ (.func (.yield i) #[] #[]) (.func (.yield p.b) #[] #[])
  | nilfunc : VR φ .nilFunc .nilFunc
  | niliface : VR φ .nilIface .nilIface
  | agg {x x' : Array Value} (h : VRL φ x.toList x'.toList) : VR φ (.agg x) (.agg x')
  | tuple {x x' : Array Value} (h : VRL φ x.toList x'.toList) : VR φ (.tuple x) (.tuple x')
inductive VRL (φ : Emb) : List Value → List Value → Prop
  | nil : VRL φ [] []
  | cons {v v' : Value} {l l' : List Value} (h : VR φ v v') (k : VRL φ l l') : VRL φ (v :: l) (v' :: l')
end

mutual
theorem VR.mono {φ ψ : Emb} (hl : φ.le ψ) {v v' : Value} : VR φ v v' → VR ψ v v'
  | .bool b => .bool b
  | .int k n => .int k n
  | .string s => .string s
  | .nilptr => .nilptr
  | .ptr h => .ptr (hl _ _ h)
  | .nilslice => .nilslice
  | .slice h hn hc => .slice (hl _ _ h) hn hc
  | .nilmap => .nilmap
  | .map h => .map (hl _ _ h)
  | .func f h k => .func f (h.mono hl) (k.mono hl)
  | .yield h => .yield (hl _ _ h)
  | .nilfunc => .nilfunc
  | .niliface => .niliface
  | .agg h => .agg (h.mono hl)
  | .tuple h => .tuple (h.mono hl)
theorem VRL.mono {φ ψ : Emb} (hl : φ.le ψ) {l l' : List Value} : VRL φ l l' → VRL ψ l l'
  | .nil => .nil
  | .cons h k => .cons (h.mono hl) (k.mono hl)
end
theorem VRL.length {φ : Emb} : ∀ {l l' : List Value}, VRL φ l l' → l.length = l'.length
  | _, _, .nil => rfl
  | _, _, .cons _ k => by simp [k.length]
theorem VRL.get {φ : Emb} : ∀ {l l' : List Value}, VRL φ l l' → ∀ (j : Nat) (v : Value), l[j]? = some v → ∃ v', l'[j]? = some v' ∧ VR φ v v'
  | _, _, .nil, j, v, h => by simp at h
  | _, _, .cons h k, 0, v, e => by simp at e; subst e; exact ⟨_, rfl, h⟩
  | _, _, .cons h k, j + 1, v, e => by simpa using k.get j v (by simpa using e)
theorem VRL.of_get {φ : Emb} : ∀ {l l' : List Value}, l.length = l'.length → (∀ (j : Nat) (v : Value), l[j]? = some v → ∃ v', l'[j]? = some v' ∧ VR φ v v') → VRL φ l l'
  | [], [], _, _ => .nil
  | [], _ :: _, h, _ => by simp at h
  | _ :: _, [], h, _ => by simp at h
  | v :: l, v' :: l', h, k => by
    refine .cons ?_ (VRL.of_get (by simpa using h) fun j u e => ?_)
    · obtain ⟨u, e, r⟩ := k 0 v rfl
      simp at e; subst e; exact r
    · simpa using k (j + 1) u (by simpa using e)
theorem VRL.append {φ : Emb} : ∀ {a a' b b' : List Value}, VRL φ a a' → VRL φ b b' → VRL φ (a ++ b) (a' ++ b')
  | _, _, _, _, .nil, k => k
  | _, _, _, _, .cons h r, k => .cons h (r.append k)
theorem VRL.drop {φ : Emb} : ∀ (n : Nat) {a a' : List Value}, VRL φ a a' → VRL φ (a.drop n) (a'.drop n)
  | 0, _, _, h => h
  | _ + 1, _, _, .nil => .nil
  | n + 1, _, _, .cons _ k => k.drop n
theorem VRL.take {φ : Emb} : ∀ (n : Nat) {a a' : List Value}, VRL φ a a' → VRL φ (a.take n) (a'.take n)
  | 0, _, _, _ => by simpa using VRL.nil
  | _ + 1, _, _, .nil => .nil
  | n + 1, _, _, .cons h k => .cons h (k.take n)
theorem VRL.replicate {φ : Emb} {v v' : Value} (h : VR φ v v') : ∀ n, VRL φ (List.replicate n v) (List.replicate n v')
  | 0 => .nil
  | n + 1 => .cons h (VRL.replicate h n)
theorem VRL.map {φ : Emb} {α : Type} {f g : α → Value} : ∀ (l : List α), (∀ x ∈ l, VR φ (f x) (g x)) → VRL φ (l.map f) (l.map g)
  | [], _ => .nil
  | x :: l, h => .cons (h x (by simp)) (VRL.map l fun y hy => h y (by simp [hy]))
theorem VR.cells {φ : Emb} {v v' : Value} (h : VR φ v v') : VRL φ v.cells.toList v'.cells.toList := by
  cases h <;> first | (simpa [Value.cells] using ‹VRL φ _ _›) | (simp only [Value.cells]; refine .cons ?_ .nil; constructor <;> assumption)
theorem VR.oneCell {φ : Emb} {v v' : Value} (h : VR φ v v') : v'.oneCell' = v.oneCell' := by cases h <;> rfl

/-- A value without addresses reads as itself. -/
def plain1 : Value → Bool
  | .bool _ | .int _ _ | .string _ | .pointer none | .slice none 0 0 | .map none | .nilFunc | .nilIface => true
  | _ => false
def plainV : Value → Bool
  | .agg c => c.toList.all plain1
  | .tuple c => c.toList.all plain1
  | v => plain1 v
theorem VR.plain1 {φ : Emb} {v : Value} (h : plain1 v = true) : VR φ v v := by
  unfold Abs.plain1 at h; split at h <;> first | constructor | cases h
theorem VRL.plain {φ : Emb} : ∀ {l : List Value}, l.all Abs.plain1 = true → VRL φ l l
  | [], _ => .nil
  | v :: l, h => by simp only [List.all_cons, Bool.and_eq_true] at h; exact .cons (.plain1 h.1) (VRL.plain h.2)
theorem VR.plain {φ : Emb} {v : Value} (h : plainV v = true) : VR φ v v := by
  unfold Abs.plainV at h
  split at h
  · exact .agg (.plain h)
  · exact .tuple (.plain h)
  · exact .plain1 h

/-! ### The heap -/
/-- Temporaries. -/
def TR (φ : Emb) (T : Tr Value) (sz : Nat) (ts : Array Value) : Prop := ts.size = sz ∧ ∀ t, VR φ ((T.get t).getD undef) (ts.getD t undef)
def MR (φ : Emb) : List (Value × Value) → List MapEntry → Prop
  | [], [] => True
  | e :: es, m :: ms => VR φ e.1 m.key ∧ VR φ e.2 m.val ∧ MR φ es ms
  | _, _ => False
/-- A map's entries, in whatever order the machine has them. -/
def PMR (φ : Emb) (es : List (Value × Value)) (ms : List MapEntry) : Prop := ∃ l, ms.Perm l ∧ MR φ es l
def AObj.rw : AObj → Bool
  | .cells _ true => false
  | .map _ true => false
  | _ => true
def AObj.rel (φ : Emb) (o : AObj) (p : Pl) (w : World) : Prop :=
  match o with
  | .cells vs ro => ∃ c e fr, w.heap[p.b]? = some (.cells c e fr) ∧ p.s + p.r ≤ c.size ∧ vs.length ≤ p.r ∧ (∀ j v, vs[j]? = some v → ∃ v', c[p.s + j]? = some v' ∧ VR φ v v') ∧ (ro = false → fr = (0, 0))
  | .map es _ => ∃ es' cl, w.heap[p.b]? = some (.map es' cl) ∧ PMR φ es es'.toList
  | .loop st pend ps asg body T sz => ∃ l : Loop, w.heap[p.b]? = some (.loop l) ∧ l.state = st ∧ l.pending = pend ∧ l.params = ps ∧ l.assign = asg ∧ l.body = body ∧ TR φ T sz l.tmps
  | .deferred => w.heap[p.b]? = some (.deferred (some []))
structure Rel (φ : Emb) (H : AHeap) (w : World) : Prop where
  obj : ∀ i o, H.get i = some o → ∃ p, φ i = some p ∧ o.rel φ p w
  apart : ∀ i j o u p q, H.get i = some o → H.get j = some u → i ≠ j → o.rw = true → φ i = some p → φ j = some q → p.b ≠ q.b
  fresh : ∀ i, H.next ≤ i → φ i = none
  lt : ∀ i p, φ i = some p → p.b < w.heap.size
/-- The blocks that may be written. -/
def Foot (φ : Emb) (H : AHeap) (k : Nat) : Prop := ∃ i o p, H.get i = some o ∧ o.rw = true ∧ φ i = some p ∧ p.b = k
structure Step (φ : Emb) (H : AHeap) (w : World) (φ' : Emb) (H' : AHeap) (w' : World) : Prop where
  le : φ.le φ'
  os : w'.os = w.os
  tape : w'.tape = w.tape
  output : w'.output = w.output
  size : w.heap.size ≤ w'.heap.size
  keep : ∀ k, k < w.heap.size → ¬ Foot φ H k → w'.heap[k]? = w.heap[k]?
  foot : ∀ k, Foot φ' H' k → Foot φ H k ∨ w.heap.size ≤ k
  fix : ∀ i, i < H.next → φ' i = φ i
  nxt : H.next ≤ H'.next
  ro : ∀ i o, o.rw = false → H'.get i = some o → H.get i = some o
theorem Step.refl (φ : Emb) (H : AHeap) (w : World) : Step φ H w φ H w := ⟨φ.le_refl, rfl, rfl, rfl, Nat.le_refl _, fun _ _ _ => rfl, fun _ h => .inl h, fun _ _ => rfl, Nat.le_refl _, fun _ _ _ h => h⟩
theorem Step.trans {φ φ' φ'' : Emb} {H H' H'' : AHeap} {w w' w'' : World} (h : Step φ H w φ' H' w') (k : Step φ' H' w' φ'' H'' w'') : Step φ H w φ'' H'' w'' := {
  le := Emb.le_trans h.le k.le
  os := k.os.trans h.os
  tape := k.tape.trans h.tape
  output := k.output.trans h.output
  size := Nat.le_trans h.size k.size
  keep := fun i hi hf => by
    rw [k.keep i (Nat.lt_of_lt_of_le hi h.size) (fun hf' => ?_), h.keep i hi hf]
    rcases h.foot i hf' with h1 | h1
    · exact hf h1
    · omega
  foot := fun i hi => by
    rcases k.foot i hi with h1 | h1
    · exact h.foot i h1
    · exact .inr (Nat.le_trans h.size h1)
  fix := fun i hi => (k.fix i (Nat.lt_of_lt_of_le hi h.nxt)).trans (h.fix i hi)
  nxt := Nat.le_trans h.nxt k.nxt
  ro := fun i o hr e => h.ro i o hr (k.ro i o hr e) }

mutual
theorem VR.back {φ ψ : Emb} (hl : φ.le ψ) : ∀ {v u u' : Value}, VR φ v u → VR ψ v u' → VR φ v u'
  | _, _, _, .bool b, .bool _ => .bool b
  | _, _, _, .int k n, .int _ _ => .int k n
  | _, _, _, .string s, .string _ => .string s
  | _, _, _, .nilptr, .nilptr => .nilptr
  | _, _, _, .ptr h, .ptr (p := p) h' => by have e := hl _ _ h; rw [e] at h'; cases h'; exact .ptr h
  | _, _, _, .nilslice, .nilslice => .nilslice
  | _, _, _, .slice h _ _, .slice h' hn hc => by have e := hl _ _ h; rw [e] at h'; cases h'; exact .slice h hn hc
  | _, _, _, .nilmap, .nilmap => .nilmap
  | _, _, _, .map h, .map h' => by have e := hl _ _ h; rw [e] at h'; cases h'; exact .map h
  | _, _, _, .func f h k, .func _ h' k' => .func f (VRL.back hl h h') (VRL.back hl k k')
  | _, _, _, .yield h, .yield h' => by have e := hl _ _ h; rw [e] at h'; cases h'; exact .yield h
  | _, _, _, .nilfunc, .nilfunc => .nilfunc
  | _, _, _, .niliface, .niliface => .niliface
  | _, _, _, .agg h, .agg h' => .agg (VRL.back hl h h')
  | _, _, _, .tuple h, .tuple h' => .tuple (VRL.back hl h h')
theorem VRL.back {φ ψ : Emb} (hl : φ.le ψ) : ∀ {v u u' : List Value}, VRL φ v u → VRL ψ v u' → VRL φ v u'
  | _, _, _, .nil, .nil => .nil
  | _, _, _, .cons h k, .cons h' k' => .cons (VR.back hl h h') (VRL.back hl k k')
end
end Go.Abs
