/- SeriesSmall: the tied card. -/
import Derived.Test.YtmpiblpcdhgppaaGreatDoorSmLaw
import Derived.Test.YtmpiblpcdhgppaaGreatDoorTie
import Derived.Test.YtmpiblpcdhgppaaGreatDoorCards
import Derived.SevenTiedAt
namespace Go.Proofs.YtmpiblpcdhgppaaGreatDoor
open Go
set_option maxRecDepth 100000
theorem seriesSmall_card : Rows.SeriesSmallCardSaid :=
  Claim7.holds_tied_plain_at .later [] [.data, .funcs, .pinned] true (true, "0457f36c199c79aca17899825bf3124d3c65afd22cf3f2a474c8b2339814521b") false
    Small.seriesSmall_holds (fun _ h => by cases h) (by kernel_rfl) (fun _ h => by cases h) seriesSmall_row_tie rfl ⟨rfl, rfl⟩ (by kernel_rfl) rfl
    (fun f fn hf hfn => by
      obtain rfl : f = 3 := Option.some.inj ((show Tryz.prog.funcNamed "roundelay/roundelaylaw17.SeriesSmall" = some 3 by kernel_rfl).symm.trans hf) |>.symm
      obtain rfl : fn = Tryz.f3 := (Option.some.inj (Tryz.func3.symm.trans hfn)).symm
      exact ⟨by kernel_rfl, fun j t ht => by
        rw [Tryz.params3] at ht
        simp at ht⟩)
    (by kernel_rfl)
#print axioms seriesSmall_card
end Go.Proofs.YtmpiblpcdhgppaaGreatDoor
