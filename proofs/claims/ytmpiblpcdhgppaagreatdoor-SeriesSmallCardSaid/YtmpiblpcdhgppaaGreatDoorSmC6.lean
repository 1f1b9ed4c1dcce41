/- Closed calls, run. -/
import Derived.Test.YtmpiblpcdhgppaaGreatDoorSmDefs
namespace Go.Proofs.Small
open Go Go.Abs Go.Proofs
theorem c25 : q25.check ⟨Tryz.prog, 4, good, specA 4 ext [q23]⟩ 100000 = true := by decide +kernel
theorem c171 : q171.check ⟨Tryz.prog, 4, good, specA 4 ext []⟩ 100000 = true := by decide +kernel
theorem c236 : q236.check ⟨Tryz.prog, 4, good, specA 4 ext [q234, q216, q201]⟩ 100000 = true := by decide +kernel
theorem c238 : q238.check ⟨Tryz.prog, 4, good, specA 4 ext []⟩ 100000 = true := by decide +kernel
theorem c253 : q253.check ⟨Tryz.prog, 4, good, specA 4 ext []⟩ 100000 = true := by decide +kernel
theorem c307 : q307.check ⟨Tryz.prog, 4, good, specA 4 ext []⟩ 100000 = true := by decide +kernel
theorem c482 : q482.check ⟨Tryz.prog, 4, good, specA 4 ext []⟩ 100000 = true := by decide +kernel
theorem c502 : q502.check ⟨Tryz.prog, 4, good, specA 4 ext [q438]⟩ 100000 = true := by decide +kernel
theorem c503 : q503.check ⟨Tryz.prog, 4, good, specA 4 ext []⟩ 100000 = true := by decide +kernel
theorem c507 : q507.check ⟨Tryz.prog, 4, good, specA 4 ext []⟩ 100000 = true := by decide +kernel
theorem c527 : q527.check ⟨Tryz.prog, 4, good, specA 4 ext [q526, q509]⟩ 100000 = true := by decide +kernel
theorem c542 : q542.check ⟨Tryz.prog, 4, good, specA 4 ext [q101]⟩ 100000 = true := by decide +kernel
theorem c592 : q592.check ⟨Tryz.prog, 4, good, specA 4 ext []⟩ 100000 = true := by decide +kernel
theorem c672 : q672.check ⟨Tryz.prog, 4, good, specA 4 ext []⟩ 100000 = true := by decide +kernel
theorem c721 : q721.check ⟨Tryz.prog, 4, good, specA 4 ext [q718, q696]⟩ 100000 = true := by decide +kernel
theorem c778 : q778.check ⟨Tryz.prog, 4, good, specA 4 ext [q777, q751]⟩ 100000 = true := by decide +kernel
theorem c909 : q909.check ⟨Tryz.prog, 4, good, specA 4 ext [q867]⟩ 100000 = true := by decide +kernel
theorem c970 : q970.check ⟨Tryz.prog, 4, good, specA 4 ext []⟩ 100000 = true := by decide +kernel
theorem c1069 : q1069.check ⟨Tryz.prog, 4, good, specA 4 ext []⟩ 100000 = true := by decide +kernel
theorem c1078 : q1078.check ⟨Tryz.prog, 4, good, specA 4 ext []⟩ 100000 = true := by decide +kernel
theorem c1149 : q1149.check ⟨Tryz.prog, 4, good, specA 4 ext [q1147]⟩ 100000 = true := by decide +kernel
theorem c1165 : q1165.check ⟨Tryz.prog, 4, good, specA 4 ext [q438]⟩ 100000 = true := by decide +kernel
theorem c1228 : q1228.check ⟨Tryz.prog, 4, good, specA 4 ext []⟩ 100000 = true := by decide +kernel
theorem c1257 : q1257.check ⟨Tryz.prog, 4, good, specA 4 ext [q438, q1253, q1252]⟩ 100000 = true := by decide +kernel
theorem c1264 : q1264.check ⟨Tryz.prog, 4, good, specA 4 ext []⟩ 100000 = true := by decide +kernel
theorem c1310 : q1310.check ⟨Tryz.prog, 4, good, specA 4 ext []⟩ 100000 = true := by decide +kernel
theorem c1322 : q1322.check ⟨Tryz.prog, 4, good, specA 4 ext []⟩ 100000 = true := by decide +kernel
theorem c1330 : q1330.check ⟨Tryz.prog, 4, good, specA 4 ext [q471, q1327]⟩ 100000 = true := by decide +kernel
theorem c1342 : q1342.check ⟨Tryz.prog, 4, good, specA 4 ext []⟩ 100000 = true := by decide +kernel
theorem c1409 : q1409.check ⟨Tryz.prog, 4, good, specA 4 ext []⟩ 100000 = true := by decide +kernel
theorem c1430 : q1430.check ⟨Tryz.prog, 4, good, specA 4 ext []⟩ 100000 = true := by decide +kernel
theorem c1595 : q1595.check ⟨Tryz.prog, 4, good, specA 4 ext [q1594, q1060, q1040, q994, q870, q951, q920, q909, q904, q823, q627, q530, q310, q187, q87, q25]⟩ 100000 = true := by decide +kernel
end Go.Proofs.Small
