/- SeriesSmall: the row: the listed map is opened, the closed call is set upon it. -/
import Derived.Test.YtmpiblpcdhgppaaGreatDoorSmAll
import Derived.Test.YtmpiblpcdhgppaaGreatDoorRows
import Derived.ProofKit
import Derived.LaidMore
import Derived.LaidSub
import Derived.MakeChecks
import Derived.Lay
import Derived.OpenShut
import Derived.Stop.Joined
namespace Go.Proofs.Small
open Go Go.Abs Go.Proofs Go.Proofs.YtmpiblpcdhgppaaGreatDoor
open Go.ChangeShapes Go.WideShapes Go.ChangeAt Go.WideMaps Go.WideElems Go.RowKit

theorem own : ownKnob Tryz.prog.godebug = none := by kernel_rfl
theorem gWays : Tryz.prog.globalNamed "roundelay/series.ways" = some 0 := by kernel_rfl
theorem tWays : (Tryz.prog.globals[0]?).map (·.type) = some 192 := by kernel_rfl
theorem gRanges : Tryz.prog.globalNamed "unicode/utf8.acceptRanges" = some 3 := by kernel_rfl

/-- The map's entries. -/
def ways : List (Value × Value) := [(zs [98, 111, 116, 104], .agg #[.func (.func 239) ⟨[]⟩ ⟨[]⟩]), (zs [112, 114, 111, 100, 117, 99, 116], .agg #[.func (.func 240) ⟨[]⟩ ⟨[]⟩]), (zs [115, 117, 109], .agg #[.func (.func 40) ⟨[]⟩ ⟨[]⟩])]

set_option maxRecDepth 100000
/-- An entry that reads as a name is that function. -/
theorem entry_of {W : World} {n f0 : Nat} {bs : List UInt8} {b : UInt8} {r : List UInt8}
    (hone : ((List.range Tryz.prog.funcs.size).filter fun f => (Tryz.prog.funcs[f]?).any (·.name.toUTF8.data.toList == b :: r)) = [f0]) {φ : Emb} (m : MapEntry)
    (h : rd Tryz.prog 9 (elemAt (funcToken Tryz.prog) Tryz.prog W 0 (fun _ => true) true n 191) m = some (.string bs, .agg [.held (b :: r)])) :
    VR φ (zs bs) m.key ∧ VR φ (.agg #[.func (.func f0) ⟨[]⟩ ⟨[]⟩]) m.val := by
  have hk := rd_key h
  obtain ⟨s, e1, e2, _⟩ := string_of_keyOf Tryz.underlying9 hk
  simp only [Lit.string.injEq] at e2
  obtain ⟨z, hz, e3⟩ := rd_val h
  refine ⟨?_, ?_⟩
  · rw [e1, e2]
    exact .string _
  · unfold elemAt at hz
    split at hz
    · rename_i hf
      obtain ⟨xs, q, _, hx, hlen, hxs, hel⟩ := DataW.trod_struct Tryz.underlying191 hz
      simp only at e3
      rw [hx] at e3
      simp only [DataW.agg.injEq] at e3
      match xs, hxs, e3 with
      | [x0], _, e3 =>
        simp only [List.map_cons, List.map_nil, List.cons.injEq, and_true] at e3
        have c191 : Tryz.prog.cellsOf 191 = 1 := by kernel_rfl
        have c96 : Tryz.prog.cellsOf 96 = 1 := by kernel_rfl
        rw [c191] at hlen
        have h0 : DataW.trod (funcToken Tryz.prog) Tryz.prog W 0 (fun _ => true) true q 96 (List.take (Tryz.prog.cellsOf 96) (List.drop 0 m.val.cells.toList)) = some x0 := hel 0 _ rfl
        rw [c96] at h0
        cases hv : m.val with
        | agg cs =>
          rw [hv] at hlen h0
          obtain ⟨l⟩ := cs
          match l, hlen with
          | [v], _ =>
            obtain ⟨d0, p0⟩ := x0
            simp only at e3
            subst e3
            have h0' : DataW.trod (funcToken Tryz.prog) Tryz.prog W 0 (fun _ => true) true q 96 [v] = some (.held (b :: r), p0) := h0
            rw [func_of_trod Tryz.underlying96 hone h0']
            exact .agg (.cons (.func _ .nil .nil) .nil)
        | _ => rw [hv] at hf; simp [Value.formed, Tryz.underlying191] at hf
    · cases hz

/-- WHAT THE CONDITION GIVES: the map's cell, the map's block, its entries; and that all variables are there. -/
theorem of_laid {W : World} (h : laidMetH Tryz.prog (Rows.seriesSmallRow.laid) W) : ∃ bm es cl, 4 ≤ W.heap.size ∧ W.cell? ⟨0, 0, none⟩ = some (.map (some bm)) ∧ W.heap[bm]? = some (.map es cl) ∧ ∀ φ, PMR φ ways es.toList := by
  obtain ⟨g, t, cs, fuel, p, hg, ht, hv, hd⟩ := h.funcs (List.mem_cons_of_mem _ (List.mem_cons_self ..))
  obtain rfl := Option.some.inj (gWays.symm.trans hg)
  obtain rfl := Option.some.inj (tWays.symm.trans ht)
  have h3 := h.filter (fun x => x.1 == "unicode/utf8.acceptRanges")
  rw [show (Rows.seriesSmallRow.laid).filter (fun x => x.1 == "unicode/utf8.acceptRanges") = [("unicode/utf8.acceptRanges", Rows.laid_unicode_utf8_acceptRanges)] by rfl, MakeChecks.laidMetH_plain _ _ _ (by kernel_rfl)] at h3
  obtain ⟨ps, ⟨g3, t3, cs3, f3, p3, q3, hg3, ht3, hv3, _, _, _⟩, _, _⟩ := h3
  obtain rfl := Option.some.inj (gRanges.symm.trans hg3)
  have hsize : 4 ≤ W.heap.size := by
    simp only [World.var?, hg3, Option.bind_some] at hv3
    split at hv3
    · rename_i hh
      have := (Array.getElem?_eq_some_iff.1 hh).1
      omega
    · cases hv3
  rcases open_map Tryz.underlying192 hd with ⟨_, hx⟩ | ⟨bm, es, clock, m, rfl, hcs, hb, _, F, hx⟩
  · cases hx
  simp only [Prod.mk.injEq] at hx
  have hcell : W.cell? ⟨0, 0, none⟩ = some (.map (some bm)) := by
    have := World.var?_cell hg hv 0
    rw [Array.eq_one_of_toList hcs] at this
    simpa using this
  refine ⟨bm, es, clock, hsize, hcell, hb, fun φ => ?_⟩
  have hx1 : _ = DataW.map _ := hx.1
  have hx2 := DataW.map.inj hx1
  refine pmr_of F hx2.symm ⟨fun m hm => entry_of (by kernel_rfl) m hm, fun m hm => entry_of (by kernel_rfl) m hm, fun m hm => entry_of (by kernel_rfl) m hm, trivial⟩

/-- A world that meets the condition: the map laid by hand, the two tables by the kit's function. -/
noncomputable def waysWorld (os : Os) : World :=
  let w := World.holding Tryz.prog os ⟨#[], #[], []⟩
  { w with heap := (w.heap.setIfInBounds 0 (.cells #[.map (some w.heap.size)] 192)).push (.map #[⟨zs [98, 111, 116, 104], .agg #[.func (.func 239) #[] #[]], 0⟩, ⟨zs [112, 114, 111, 100, 117, 99, 116], .agg #[.func (.func 240) #[] #[]], 1⟩, ⟨zs [115, 117, 109], .agg #[.func (.func 40) #[] #[]], 2⟩] 3) }
def tables : List (String × DataW Unit) := [("unicode/utf8.acceptRanges", Rows.laid_unicode_utf8_acceptRanges), ("unicode/utf8.first", Rows.laid_unicode_utf8_first)]
noncomputable def laidWorld (os : Os) : World := (waysWorld os).layVars Tryz.prog tables
theorem laidWorld_os (os : Os) : (laidWorld os).os = os := World.layVars_os _ _ _
theorem laidWorld_met (os : Os) (args : Array Value) : laidMetH Tryz.prog (Rows.seriesSmallRow.laid) ((laidWorld os).forCall (fun _ _ => 0) ⟨#[], args, []⟩).memory := by
  refine laidMetH_of_parts3 (fuel := 8) ?_ (by kernel_rfl) (by kernel_rfl)
  have e : (Rows.seriesSmallRow.laid.filter fun x => x.2.handleName?.isNone) = tables := by rfl
  rw [e]
  have h : laidMet Tryz.prog tables (laidWorld os) := laidMet_layVars (w0 := waysWorld os) (tables.map (·.1)) [] rfl (by kernel_rfl) (by kernel_rfl) (by rw [show (tables.filter fun x => !(tables.map (·.1)).contains x.1) = [] by rfl]; exact LaidIn.none)
  exact h.of_heap (by simp [World.memory, World.forCall, Input.heap])

set_option maxRecDepth 100000 in
theorem lifted (os : Os) (started : os.Started) (H : Type) (enc : TypeId × Value → H) :
    ReturnsInHanded {} Tryz.checked os 3 .any (fun w args => (Rows.seriesSmallSpec.pre enc Tryz.prog Tryz.f3 [] false w args ∧ laidMetH Tryz.prog Rows.seriesSmallRow.laid w) ∧ sizedMet enc Tryz.prog Tryz.f3 (OpenSpec.ofChange Rows.seriesSmallSpec) false w args)
      (Rows.seriesSmallSpec.post enc Tryz.prog Tryz.f3 false true false false) := by
  refine returnsInHanded_of_change_and (C := Tryz.checked) (X := fun w _ => laidMetH Tryz.prog Rows.seriesSmallRow.laid w) (fun _ _ _ hh h => h.of_heap hh) own started (by kernel_rfl) Tryz.func3
    (ChangeSpec.witness_shaped (enc := enc) (C := Tryz.checked) (os := os) (X := fun w _ => laidMetH Tryz.prog Rows.seriesSmallRow.laid w) false (laidWorld os) #[] 8 (laidWorld_os os) (World.shaped_of_ZipB (by kernel_rfl) (by kernel_rfl)) (by kernel_rfl) (by kernel_rfl) (by kernel_rfl) (laidWorld_met os _)) ?_
  intro W base args ds gs before hval0 hW _ _ hL _
  have hW' := hW
  obtain ⟨p, q, hA0, hV, rfl, hfz, hnd⟩ := hW
  have hA : DataW.TrodAll enc Tryz.prog W 0 (fun _ => true) true Tryz.f3.params.toList args.toList ds p := hA0
  rw [Tryz.params3] at hA
  obtain ⟨ha, rfl, rfl⟩ := trodAll_nil hA
  obtain ⟨rfl, rfl⟩ := trodVars_none hV
  have ha' : args = #[] := by rw [← Array.toList_inj]; exact ha
  subst ha'
  obtain ⟨bm, es, cl, h1, h2, h3, h4⟩ := of_laid hL
  obtain ⟨φ, hg, hR⟩ := start_rel (g := 0) (NG := 4) (es := ways) (by omega) h1 h2 h3 h4
  obtain ⟨c, hc⟩ := Option.isSome_iff_exists.1 (show Tryz.f3.body.isSome = true by kernel_rfl)
  refine (law_calls (s := q1595) s1595 (fn := Tryz.f3) (c := c) Tryz.func3 hc (by kernel_rfl) rfl rfl rfl hg hR).mono fun e W' ⟨he, hb⟩ => ?_
  subst he
  exact ⟨_, rfl, _, _, _, [], [], [], hW', trodAll_mk1 (shut_bool Tryz.underlying4 _), rfl, rfl, hb.frame _, fun h => by cases h⟩

theorem seriesSmall_holds : Rows.SeriesSmallSaid :=
  OpenClaim.holds_of_wide 3 Tryz.f3 rfl rfl rfl rfl rfl rfl rfl ⟨rfl, rfl, rfl, rfl, rfl⟩ rfl rfl rfl rfl rfl (by kernel_rfl) Tryz.func3 (by kernel_rfl)
    (of_decide_eq_true (by kernel_rfl)) (by unfold Func.isWrapper; first | (rw [if_pos (by decide +kernel)]; kernel_rfl) | (rw [if_neg (by decide +kernel)]; exact ⟨rfl, rfl⟩))
    (fun os started H enc _ => lifted os started H enc)
#print axioms seriesSmall_holds
end Go.Proofs.Small
