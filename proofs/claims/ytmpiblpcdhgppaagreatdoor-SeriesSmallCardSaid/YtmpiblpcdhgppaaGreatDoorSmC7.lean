/- Closed calls, run. -/
import Derived.Test.YtmpiblpcdhgppaaGreatDoorSmDefs
namespace Go.Proofs.Small
open Go Go.Abs Go.Proofs
theorem c23 : q23.check ⟨Tryz.prog, 4, good, specA 4 ext []⟩ 100000 = true := by decide +kernel
theorem c55 : q55.check ⟨Tryz.prog, 4, good, specA 4 ext []⟩ 100000 = true := by decide +kernel
theorem c87 : q87.check ⟨Tryz.prog, 4, good, specA 4 ext [q85, q69]⟩ 100000 = true := by decide +kernel
theorem c215 : q215.check ⟨Tryz.prog, 4, good, specA 4 ext []⟩ 100000 = true := by decide +kernel
theorem c234 : q234.check ⟨Tryz.prog, 4, good, specA 4 ext [q233]⟩ 100000 = true := by decide +kernel
theorem c268 : q268.check ⟨Tryz.prog, 4, good, specA 4 ext [q267, q262, q260, q253, q248, q244, q238]⟩ 100000 = true := by decide +kernel
theorem c272 : q272.check ⟨Tryz.prog, 4, good, specA 4 ext []⟩ 100000 = true := by decide +kernel
theorem c285 : q285.check ⟨Tryz.prog, 4, good, specA 4 ext []⟩ 100000 = true := by decide +kernel
theorem c461 : q461.check ⟨Tryz.prog, 4, good, specA 4 ext []⟩ 100000 = true := by decide +kernel
theorem c494 : q494.check ⟨Tryz.prog, 4, good, specA 4 ext []⟩ 100000 = true := by decide +kernel
theorem c513 : q513.check ⟨Tryz.prog, 4, good, specA 4 ext [q471, q509]⟩ 100000 = true := by decide +kernel
theorem c525 : q525.check ⟨Tryz.prog, 4, good, specA 4 ext [q523]⟩ 100000 = true := by decide +kernel
theorem c587 : q587.check ⟨Tryz.prog, 4, good, specA 4 ext [q438]⟩ 100000 = true := by decide +kernel
theorem c623 : q623.check ⟨Tryz.prog, 4, good, specA 4 ext []⟩ 100000 = true := by decide +kernel
theorem c902 : q902.check ⟨Tryz.prog, 4, good, specA 4 ext [q900]⟩ 100000 = true := by decide +kernel
theorem c920 : q920.check ⟨Tryz.prog, 4, good, specA 4 ext []⟩ 100000 = true := by decide +kernel
theorem c1037 : q1037.check ⟨Tryz.prog, 4, good, specA 4 ext []⟩ 100000 = true := by decide +kernel
theorem c1175 : q1175.check ⟨Tryz.prog, 4, good, specA 4 ext [q1173, q1170, q1165]⟩ 100000 = true := by decide +kernel
theorem c1207 : q1207.check ⟨Tryz.prog, 4, good, specA 4 ext [q1204]⟩ 100000 = true := by decide +kernel
theorem c1242 : q1242.check ⟨Tryz.prog, 4, good, specA 4 ext []⟩ 100000 = true := by decide +kernel
theorem c1278 : q1278.check ⟨Tryz.prog, 4, good, specA 4 ext []⟩ 100000 = true := by decide +kernel
theorem c1296 : q1296.check ⟨Tryz.prog, 4, good, specA 4 ext []⟩ 100000 = true := by decide +kernel
theorem c1302 : q1302.check ⟨Tryz.prog, 4, good, specA 4 ext []⟩ 100000 = true := by decide +kernel
theorem c1339 : q1339.check ⟨Tryz.prog, 4, good, specA 4 ext []⟩ 100000 = true := by decide +kernel
theorem c1343 : q1343.check ⟨Tryz.prog, 4, good, specA 4 ext [q1342, q1341, q1340, q1339]⟩ 100000 = true := by decide +kernel
theorem c1348 : q1348.check ⟨Tryz.prog, 4, good, specA 4 ext [q1347, q1311, q1310]⟩ 100000 = true := by decide +kernel
theorem c1399 : q1399.check ⟨Tryz.prog, 4, good, specA 4 ext []⟩ 100000 = true := by decide +kernel
theorem c1425 : q1425.check ⟨Tryz.prog, 4, good, specA 4 ext [q438]⟩ 100000 = true := by decide +kernel
theorem c1468 : q1468.check ⟨Tryz.prog, 4, good, specA 4 ext [q1467, q1461, q1450, q1437]⟩ 100000 = true := by decide +kernel
theorem c1530 : q1530.check ⟨Tryz.prog, 4, good, specA 4 ext []⟩ 100000 = true := by decide +kernel
theorem c1540 : q1540.check ⟨Tryz.prog, 4, good, specA 4 ext []⟩ 100000 = true := by decide +kernel
theorem c1568 : q1568.check ⟨Tryz.prog, 4, good, specA 4 ext []⟩ 100000 = true := by decide +kernel
theorem c1593 : q1593.check ⟨Tryz.prog, 4, good, specA 4 ext []⟩ 100000 = true := by decide +kernel
end Go.Proofs.Small
