/- From a world in which the listed variables hold what they hold at the door: the abstract heap in which a law's closed call starts. -/
import Derived.Test.YtmpiblpcdhgppaaGreatDoorZqExt
import Derived.WideKeyElems2
namespace Go.Abs
open Go.RowKit Go.WideElems Go.ChangeShapes Go.ChangeMaps Go.WideShapes
variable {P : Program}

theorem perm_map_back {α β : Type} {f : α → β} : ∀ {g : List β} {l : List α}, (l.map f).Perm g → ∃ l', l.Perm l' ∧ l'.map f = g
  | [], l, h => by
    have := h.eq_nil
    rw [List.map_eq_nil_iff] at this
    exact ⟨[], by rw [this], rfl⟩
  | a :: g, l, h => by
    have ha : a ∈ l.map f := h.mem_iff.2 (by simp)
    obtain ⟨x, hx, rfl⟩ := List.mem_map.1 ha
    obtain ⟨l1, l2, rfl⟩ := List.append_of_mem hx
    have hp : (l1 ++ x :: l2).Perm (x :: (l1 ++ l2)) := List.perm_middle
    have h2 : (f x :: (l1 ++ l2).map f).Perm (f x :: g) := by
      have := (hp.map f).symm.trans h
      simpa using this
    obtain ⟨l', h3, h4⟩ := perm_map_back h2.cons_inv
    exact ⟨x :: l', hp.trans (h3.cons x), by rw [List.map_cons, h4]⟩

/-- Each entry that reads so is so. -/
def ReadsAs {H : Type} (φ : Emb) (P : Program) (k : TypeId) (R : Value → Option (DataW H × List MemPlace)) : List (Lit × DataW H) → List (Value × Value) → Prop
  | [], [] => True
  | g :: gs, e :: es => (∀ m, rd P k R m = some g → VR φ e.1 m.key ∧ VR φ e.2 m.val) ∧ ReadsAs φ P k R gs es
  | _, _ => False
theorem ReadsAs.mr {H : Type} {φ : Emb} {k : TypeId} {R : Value → Option (DataW H × List MemPlace)} : ∀ {gs : List (Lit × DataW H)} {es : List (Value × Value)} {l : List MapEntry},
    ReadsAs φ P k R gs es → l.map (rg P k R) = gs → (∀ x ∈ l, ∃ y, rd P k R x = some y) → MR φ es l
  | [], [], [], _, _, _ => trivial
  | g :: gs, e :: es, m :: l, ⟨h1, h2⟩, h3, h4 => by
    simp only [List.map_cons, List.cons.injEq] at h3
    obtain ⟨y, hy⟩ := h4 m (by simp)
    have := h1 m (by rw [hy, ← h3.1, rg_of hy])
    exact ⟨this.1, this.2, h2.mr h3.2 fun x hx => h4 x (by simp [hx])⟩
  | [], _ :: _, _, h, _, _ => h.elim
  | _ :: _, [], _, h, _, _ => h.elim
  | _ :: _, _ :: _, [], _, h, _ => by simp at h
  | [], [], _ :: _, _, h, _ => by simp at h
theorem pmr_of {H : Type} {φ : Emb} {k : TypeId} {R : Value → Option (DataW H × List MemPlace)} {es' : Array MapEntry} {clock : Nat} (F : Fit P k R es' clock) {gs : List (Lit × DataW H)} {es : List (Value × Value)}
    (hg : (es'.toList.map (rg P k R)).foldr DataW.insert [] = gs) (h : ReadsAs φ P k R gs es) : PMR φ es es'.toList := by
  have hp : (es'.toList.map (rg P k R)).Perm gs := by rw [← hg]; exact (sorted_perm _).symm
  obtain ⟨l, h1, h2⟩ := perm_map_back hp
  exact ⟨l, h1, h.mr h2 fun x hx => F.reads x (h1.mem_iff.2 hx)⟩

/-- One variable that holds a map; nothing may be written. -/
def startMap (g NG : Nat) (es : List (Value × Value)) : List (Nat × AObj) := [(g, .cells [.map (some NG)] true), (NG, .map es true)]
theorem start_rel {g NG : Nat} {es : List (Value × Value)} {W : World} {bm : Nat} {es' : Array MapEntry} {cl : Nat} (hg : g < NG) (hNG : NG ≤ W.heap.size)
    (hcell : W.cell? ⟨g, 0, none⟩ = some (.map (some bm))) (hb : W.heap[bm]? = some (.map es' cl)) (hp : ∀ φ, PMR φ es es'.toList) :
    ∃ φ, Globs NG φ ∧ Rel φ (ofL (startMap g NG es) (NG + 1)) W := by
  let φ : Emb := fun i => if i < NG then some ⟨i, 0, if i = g then 1 else 0⟩ else if i = NG then some ⟨bm, 0, 0⟩ else none
  have f_lt : ∀ i, i < NG → φ i = some ⟨i, 0, if i = g then 1 else 0⟩ := fun i hi => if_pos hi
  have f_eq : φ NG = some ⟨bm, 0, 0⟩ := by show (if _ then _ else _) = _; rw [if_neg (by omega), if_pos rfl]
  have hbm : bm < W.heap.size := (Array.getElem?_eq_some_iff.1 hb).1
  have look : ∀ i o, (ofL (startMap g NG es) (NG + 1)).get i = some o → (i = g ∧ o = .cells [.map (some NG)] true) ∨ (i = NG ∧ o = .map es true) := fun i o e => by
    rw [ofL_get] at e
    have := lookO_mem e
    simpa [startMap] using this
  refine ⟨φ, fun i hi => ⟨_, f_lt i hi⟩, ⟨fun i o e => ?_, fun i j o u p q e _ _ hrw _ _ => ?_, fun i hi => ?_, fun i p e => ?_⟩⟩
  · rcases look i o e with ⟨rfl, rfl⟩ | ⟨rfl, rfl⟩
    · refine ⟨_, f_lt _ hg, ?_⟩
      have hg2 : W.heap[i]? = some (W.heap[i]'(by omega)) := Array.getElem?_eq_getElem (by omega)
      have hc := hcell
      unfold World.cell? at hc
      simp only at hc
      split at hc
      · rename_i c t fr hh
        refine ⟨c, t, fr, hh, ?_, ?_, fun j v hj => ?_, fun h => by cases h⟩
        · have : 1 ≤ c.size := by
            rcases Nat.eq_zero_or_pos c.size with z | z
            · rw [Array.getElem?_eq_none (by omega)] at hc; cases hc
            · exact z
          simpa using this
        · simp
        · cases j with
          | zero =>
            simp only [List.getElem?_cons_zero, Option.some.injEq] at hj
            subst hj
            exact ⟨.map (some bm), hc, .map f_eq⟩
          | succ j => simp at hj
      · cases hc
    · exact ⟨_, f_eq, es', cl, hb, hp φ⟩
  · rcases look i o e with ⟨rfl, rfl⟩ | ⟨rfl, rfl⟩ <;> cases hrw
  · show (if _ then _ else _) = _
    have : NG + 1 ≤ i := hi
    rw [if_neg (by omega), if_neg (by omega)]
  · have e' : (if i < NG then some (⟨i, 0, if i = g then 1 else 0⟩ : Pl) else if i = NG then some ⟨bm, 0, 0⟩ else none) = some p := e
    split at e'
    · cases e'; show i < _; omega
    · split at e'
      · cases e'; exact hbm
      · cases e'

/-- A law's closed call: where nothing that was there may be written, nothing that was there has turned. -/
theorem law_calls {NG : Nat} {s : Shot} (hs : ShotGood P NG s) {fn : Func} {c : Code} (hf : P.funcs[s.f]? = some fn) (hb : fn.body = some c) (hn : (fn.name == "runtime.NumGoroutine") = false)
    (hargs : s.args = []) (hv : s.v = .bool true) (hro : s.l0.all (fun x => !x.2.rw) = true) {φ : Emb} {W : World} (hg : Globs NG φ) (hR : Rel φ (ofL s.l0 s.n0) W) :
    Calls P s.f #[] W fun e w' => e = .returned (.bool true) ∧ Below W.heap.size W w' := by
  have h1 := hs.2 φ W [] hg hR (by rw [hargs]; exact .nil)
  have h2 := h1.fn_calls hf hb hn
  rw [← callsIn_wide]
  refine h2.mono fun e w' he => ?_
  cases e with
  | returned v =>
    obtain ⟨φ', q1, q2, q3⟩ := he
    rw [hv] at q1
    cases q1
    refine ⟨rfl, q3.os, q3.tape, q3.output, q3.size, fun k hk => q3.keep k hk fun ⟨i, o, p, e, hrw, _, _⟩ => ?_⟩
    rw [ofL_get] at e
    have := List.all_eq_true.1 hro _ (lookO_mem e)
    rw [hrw] at this
    cases this
  | _ => exact he.elim
end Go.Abs
