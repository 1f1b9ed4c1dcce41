/- Closed calls, run. -/
import Derived.Test.YtmpiblpcdhgppaaGreatDoorSmDefs
namespace Go.Proofs.Small
open Go Go.Abs Go.Proofs
theorem c41 : q41.check ⟨Tryz.prog, 4, good, specA 4 ext []⟩ 100000 = true := by decide +kernel
theorem c85 : q85.check ⟨Tryz.prog, 4, good, specA 4 ext []⟩ 100000 = true := by decide +kernel
theorem c184 : q184.check ⟨Tryz.prog, 4, good, specA 4 ext []⟩ 100000 = true := by decide +kernel
theorem c216 : q216.check ⟨Tryz.prog, 4, good, specA 4 ext [q215]⟩ 100000 = true := by decide +kernel
theorem c233 : q233.check ⟨Tryz.prog, 4, good, specA 4 ext []⟩ 100000 = true := by decide +kernel
theorem c302 : q302.check ⟨Tryz.prog, 4, good, specA 4 ext []⟩ 100000 = true := by decide +kernel
theorem c310 : q310.check ⟨Tryz.prog, 4, good, specA 4 ext [q308, q201, q268, q236]⟩ 100000 = true := by decide +kernel
theorem c384 : q384.check ⟨Tryz.prog, 4, good, specA 4 ext [q381, q375]⟩ 100000 = true := by decide +kernel
theorem c406 : q406.check ⟨Tryz.prog, 4, good, specA 4 ext []⟩ 100000 = true := by decide +kernel
theorem c442 : q442.check ⟨Tryz.prog, 4, good, specA 4 ext [q438]⟩ 100000 = true := by decide +kernel
theorem c492 : q492.check ⟨Tryz.prog, 4, good, specA 4 ext [q438]⟩ 100000 = true := by decide +kernel
theorem c514 : q514.check ⟨Tryz.prog, 4, good, specA 4 ext []⟩ 100000 = true := by decide +kernel
theorem c523 : q523.check ⟨Tryz.prog, 4, good, specA 4 ext []⟩ 100000 = true := by decide +kernel
theorem c566 : q566.check ⟨Tryz.prog, 4, good, specA 4 ext [q559, q542]⟩ 100000 = true := by decide +kernel
theorem c595 : q595.check ⟨Tryz.prog, 4, good, specA 4 ext [q438, q592]⟩ 100000 = true := by decide +kernel
theorem c625 : q625.check ⟨Tryz.prog, 4, good, specA 4 ext [q623, q605, q595, q587, q609]⟩ 100000 = true := by decide +kernel
theorem c801 : q801.check ⟨Tryz.prog, 4, good, specA 4 ext []⟩ 100000 = true := by decide +kernel
theorem c900 : q900.check ⟨Tryz.prog, 4, good, specA 4 ext [q438]⟩ 100000 = true := by decide +kernel
theorem c992 : q992.check ⟨Tryz.prog, 4, good, specA 4 ext []⟩ 100000 = true := by decide +kernel
theorem c1100 : q1100.check ⟨Tryz.prog, 4, good, specA 4 ext []⟩ 100000 = true := by decide +kernel
theorem c1147 : q1147.check ⟨Tryz.prog, 4, good, specA 4 ext [q1145, q1132, q1123]⟩ 100000 = true := by decide +kernel
theorem c1240 : q1240.check ⟨Tryz.prog, 4, good, specA 4 ext []⟩ 100000 = true := by decide +kernel
theorem c1266 : q1266.check ⟨Tryz.prog, 4, good, specA 4 ext []⟩ 100000 = true := by decide +kernel
theorem c1292 : q1292.check ⟨Tryz.prog, 4, good, specA 4 ext [q438]⟩ 100000 = true := by decide +kernel
theorem c1324 : q1324.check ⟨Tryz.prog, 4, good, specA 4 ext []⟩ 100000 = true := by decide +kernel
theorem c1337 : q1337.check ⟨Tryz.prog, 4, good, specA 4 ext []⟩ 100000 = true := by decide +kernel
theorem c1347 : q1347.check ⟨Tryz.prog, 4, good, specA 4 ext []⟩ 100000 = true := by decide +kernel
theorem c1350 : q1350.check ⟨Tryz.prog, 4, good, specA 4 ext [q1349, q1326, q1325, q1324]⟩ 100000 = true := by decide +kernel
theorem c1413 : q1413.check ⟨Tryz.prog, 4, good, specA 4 ext []⟩ 100000 = true := by decide +kernel
theorem c1461 : q1461.check ⟨Tryz.prog, 4, good, specA 4 ext []⟩ 100000 = true := by decide +kernel
theorem c1521 : q1521.check ⟨Tryz.prog, 4, good, specA 4 ext []⟩ 100000 = true := by decide +kernel
end Go.Proofs.Small
