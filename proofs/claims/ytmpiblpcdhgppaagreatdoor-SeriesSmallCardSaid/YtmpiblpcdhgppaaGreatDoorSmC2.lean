/- Closed calls, run. -/
import Derived.Test.YtmpiblpcdhgppaaGreatDoorSmDefs
namespace Go.Proofs.Small
open Go Go.Abs Go.Proofs
theorem c69 : q69.check ⟨Tryz.prog, 4, good, specA 4 ext [q64]⟩ 100000 = true := by decide +kernel
theorem c135 : q135.check ⟨Tryz.prog, 4, good, specA 4 ext [q101]⟩ 100000 = true := by decide +kernel
theorem c200 : q200.check ⟨Tryz.prog, 4, good, specA 4 ext []⟩ 100000 = true := by decide +kernel
theorem c244 : q244.check ⟨Tryz.prog, 4, good, specA 4 ext []⟩ 100000 = true := by decide +kernel
theorem c282 : q282.check ⟨Tryz.prog, 4, good, specA 4 ext []⟩ 100000 = true := by decide +kernel
theorem c308 : q308.check ⟨Tryz.prog, 4, good, specA 4 ext [q307, q302, q300, q297, q294, q292, q285, q282, q279, q275, q272]⟩ 100000 = true := by decide +kernel
theorem c452 : q452.check ⟨Tryz.prog, 4, good, specA 4 ext []⟩ 100000 = true := by decide +kernel
theorem c496 : q496.check ⟨Tryz.prog, 4, good, specA 4 ext []⟩ 100000 = true := by decide +kernel
theorem c528 : q528.check ⟨Tryz.prog, 4, good, specA 4 ext [q518, q516, q523, q498, q514, q505, q503, q527, q507, q496, q494, q525, q513, q502, q492, q488, q483]⟩ 100000 = true := by decide +kernel
theorem c567 : q567.check ⟨Tryz.prog, 4, good, specA 4 ext [q566]⟩ 100000 = true := by decide +kernel
theorem c605 : q605.check ⟨Tryz.prog, 4, good, specA 4 ext []⟩ 100000 = true := by decide +kernel
theorem c644 : q644.check ⟨Tryz.prog, 4, good, specA 4 ext []⟩ 100000 = true := by decide +kernel
theorem c680 : q680.check ⟨Tryz.prog, 4, good, specA 4 ext [q672, q662, q644]⟩ 100000 = true := by decide +kernel
theorem c718 : q718.check ⟨Tryz.prog, 4, good, specA 4 ext []⟩ 100000 = true := by decide +kernel
theorem c796 : q796.check ⟨Tryz.prog, 4, good, specA 4 ext [q438]⟩ 100000 = true := by decide +kernel
theorem c1108 : q1108.check ⟨Tryz.prog, 4, good, specA 4 ext []⟩ 100000 = true := by decide +kernel
theorem c1123 : q1123.check ⟨Tryz.prog, 4, good, specA 4 ext []⟩ 100000 = true := by decide +kernel
theorem c1143 : q1143.check ⟨Tryz.prog, 4, good, specA 4 ext [q438]⟩ 100000 = true := by decide +kernel
theorem c1252 : q1252.check ⟨Tryz.prog, 4, good, specA 4 ext []⟩ 100000 = true := by decide +kernel
theorem c1267 : q1267.check ⟨Tryz.prog, 4, good, specA 4 ext [q1266, q1265, q1264]⟩ 100000 = true := by decide +kernel
theorem c1274 : q1274.check ⟨Tryz.prog, 4, good, specA 4 ext []⟩ 100000 = true := by decide +kernel
theorem c1279 : q1279.check ⟨Tryz.prog, 4, good, specA 4 ext []⟩ 100000 = true := by decide +kernel
theorem c1280 : q1280.check ⟨Tryz.prog, 4, good, specA 4 ext [q1279, q1278, q1277, q1276]⟩ 100000 = true := by decide +kernel
theorem c1331 : q1331.check ⟨Tryz.prog, 4, good, specA 4 ext []⟩ 100000 = true := by decide +kernel
theorem c1340 : q1340.check ⟨Tryz.prog, 4, good, specA 4 ext []⟩ 100000 = true := by decide +kernel
theorem c1346 : q1346.check ⟨Tryz.prog, 4, good, specA 4 ext [q1345, q1298]⟩ 100000 = true := by decide +kernel
theorem c1407 : q1407.check ⟨Tryz.prog, 4, good, specA 4 ext [q1399]⟩ 100000 = true := by decide +kernel
theorem c1436 : q1436.check ⟨Tryz.prog, 4, good, specA 4 ext []⟩ 100000 = true := by decide +kernel
theorem c1446 : q1446.check ⟨Tryz.prog, 4, good, specA 4 ext []⟩ 100000 = true := by decide +kernel
theorem c1497 : q1497.check ⟨Tryz.prog, 4, good, specA 4 ext [q1494]⟩ 100000 = true := by decide +kernel
theorem c1523 : q1523.check ⟨Tryz.prog, 4, good, specA 4 ext []⟩ 100000 = true := by decide +kernel
theorem c1589 : q1589.check ⟨Tryz.prog, 4, good, specA 4 ext []⟩ 100000 = true := by decide +kernel
end Go.Proofs.Small
