/- Closed calls, run. -/
import Derived.Test.YtmpiblpcdhgppaaGreatDoorSmDefs
namespace Go.Proofs.Small
open Go Go.Abs Go.Proofs
theorem c174 : q174.check ⟨Tryz.prog, 4, good, specA 4 ext [q171, q135]⟩ 100000 = true := by decide +kernel
theorem c187 : q187.check ⟨Tryz.prog, 4, good, specA 4 ext [q184, q174]⟩ 100000 = true := by decide +kernel
theorem c262 : q262.check ⟨Tryz.prog, 4, good, specA 4 ext []⟩ 100000 = true := by decide +kernel
theorem c279 : q279.check ⟨Tryz.prog, 4, good, specA 4 ext []⟩ 100000 = true := by decide +kernel
theorem c294 : q294.check ⟨Tryz.prog, 4, good, specA 4 ext []⟩ 100000 = true := by decide +kernel
theorem c475 : q475.check ⟨Tryz.prog, 4, good, specA 4 ext [q471, q463]⟩ 100000 = true := by decide +kernel
theorem c488 : q488.check ⟨Tryz.prog, 4, good, specA 4 ext []⟩ 100000 = true := by decide +kernel
theorem c516 : q516.check ⟨Tryz.prog, 4, good, specA 4 ext []⟩ 100000 = true := by decide +kernel
theorem c530 : q530.check ⟨Tryz.prog, 4, good, specA 4 ext [q528, q427, q406, q384]⟩ 100000 = true := by decide +kernel
theorem c575 : q575.check ⟨Tryz.prog, 4, good, specA 4 ext []⟩ 100000 = true := by decide +kernel
theorem c627 : q627.check ⟨Tryz.prog, 4, good, specA 4 ext [q625, q582, q575, q567]⟩ 100000 = true := by decide +kernel
theorem c751 : q751.check ⟨Tryz.prog, 4, good, specA 4 ext []⟩ 100000 = true := by decide +kernel
theorem c784 : q784.check ⟨Tryz.prog, 4, good, specA 4 ext [q438]⟩ 100000 = true := by decide +kernel
theorem c799 : q799.check ⟨Tryz.prog, 4, good, specA 4 ext []⟩ 100000 = true := by decide +kernel
theorem c965 : q965.check ⟨Tryz.prog, 4, good, specA 4 ext []⟩ 100000 = true := by decide +kernel
theorem c971 : q971.check ⟨Tryz.prog, 4, good, specA 4 ext [q970, q965]⟩ 100000 = true := by decide +kernel
theorem c1088 : q1088.check ⟨Tryz.prog, 4, good, specA 4 ext []⟩ 100000 = true := by decide +kernel
theorem c1090 : q1090.check ⟨Tryz.prog, 4, good, specA 4 ext [q438, q1088]⟩ 100000 = true := by decide +kernel
theorem c1144 : q1144.check ⟨Tryz.prog, 4, good, specA 4 ext [q1143, q438]⟩ 100000 = true := by decide +kernel
theorem c1170 : q1170.check ⟨Tryz.prog, 4, good, specA 4 ext [q438]⟩ 100000 = true := by decide +kernel
theorem c1173 : q1173.check ⟨Tryz.prog, 4, good, specA 4 ext []⟩ 100000 = true := by decide +kernel
theorem c1188 : q1188.check ⟨Tryz.prog, 4, good, specA 4 ext [q1186, q605, q595, q587, q1175]⟩ 100000 = true := by decide +kernel
theorem c1190 : q1190.check ⟨Tryz.prog, 4, good, specA 4 ext [q1188]⟩ 100000 = true := by decide +kernel
theorem c1235 : q1235.check ⟨Tryz.prog, 4, good, specA 4 ext [q438]⟩ 100000 = true := by decide +kernel
theorem c1250 : q1250.check ⟨Tryz.prog, 4, good, specA 4 ext []⟩ 100000 = true := by decide +kernel
theorem c1276 : q1276.check ⟨Tryz.prog, 4, good, specA 4 ext []⟩ 100000 = true := by decide +kernel
theorem c1325 : q1325.check ⟨Tryz.prog, 4, good, specA 4 ext []⟩ 100000 = true := by decide +kernel
theorem c1349 : q1349.check ⟨Tryz.prog, 4, good, specA 4 ext []⟩ 100000 = true := by decide +kernel
theorem c1415 : q1415.check ⟨Tryz.prog, 4, good, specA 4 ext []⟩ 100000 = true := by decide +kernel
theorem c1467 : q1467.check ⟨Tryz.prog, 4, good, specA 4 ext []⟩ 100000 = true := by decide +kernel
theorem c1537 : q1537.check ⟨Tryz.prog, 4, good, specA 4 ext []⟩ 100000 = true := by decide +kernel
theorem c1580 : q1580.check ⟨Tryz.prog, 4, good, specA 4 ext []⟩ 100000 = true := by decide +kernel
end Go.Proofs.Small
