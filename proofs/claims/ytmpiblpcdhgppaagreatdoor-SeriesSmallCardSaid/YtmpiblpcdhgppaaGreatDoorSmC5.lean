/- Closed calls, run. -/
import Derived.Test.YtmpiblpcdhgppaaGreatDoorSmDefs
namespace Go.Proofs.Small
open Go Go.Abs Go.Proofs
theorem c59 : q59.check ⟨Tryz.prog, 4, good, specA 4 ext [q55, q41]⟩ 100000 = true := by decide +kernel
theorem c201 : q201.check ⟨Tryz.prog, 4, good, specA 4 ext [q200]⟩ 100000 = true := by decide +kernel
theorem c260 : q260.check ⟨Tryz.prog, 4, good, specA 4 ext []⟩ 100000 = true := by decide +kernel
theorem c275 : q275.check ⟨Tryz.prog, 4, good, specA 4 ext []⟩ 100000 = true := by decide +kernel
theorem c292 : q292.check ⟨Tryz.prog, 4, good, specA 4 ext []⟩ 100000 = true := by decide +kernel
theorem c375 : q375.check ⟨Tryz.prog, 4, good, specA 4 ext [q372, q342]⟩ 100000 = true := by decide +kernel
theorem c471 : q471.check ⟨Tryz.prog, 4, good, specA 4 ext []⟩ 100000 = true := by decide +kernel
theorem c478 : q478.check ⟨Tryz.prog, 4, good, specA 4 ext []⟩ 100000 = true := by decide +kernel
theorem c505 : q505.check ⟨Tryz.prog, 4, good, specA 4 ext []⟩ 100000 = true := by decide +kernel
theorem c696 : q696.check ⟨Tryz.prog, 4, good, specA 4 ext []⟩ 100000 = true := by decide +kernel
theorem c788 : q788.check ⟨Tryz.prog, 4, good, specA 4 ext []⟩ 100000 = true := by decide +kernel
theorem c813 : q813.check ⟨Tryz.prog, 4, good, specA 4 ext []⟩ 100000 = true := by decide +kernel
theorem c951 : q951.check ⟨Tryz.prog, 4, good, specA 4 ext [q948]⟩ 100000 = true := by decide +kernel
theorem c976 : q976.check ⟨Tryz.prog, 4, good, specA 4 ext [q438]⟩ 100000 = true := by decide +kernel
theorem c1040 : q1040.check ⟨Tryz.prog, 4, good, specA 4 ext [q1037]⟩ 100000 = true := by decide +kernel
theorem c1060 : q1060.check ⟨Tryz.prog, 4, good, specA 4 ext []⟩ 100000 = true := by decide +kernel
theorem c1098 : q1098.check ⟨Tryz.prog, 4, good, specA 4 ext []⟩ 100000 = true := by decide +kernel
theorem c1132 : q1132.check ⟨Tryz.prog, 4, good, specA 4 ext [q1131]⟩ 100000 = true := by decide +kernel
theorem c1204 : q1204.check ⟨Tryz.prog, 4, good, specA 4 ext []⟩ 100000 = true := by decide +kernel
theorem c1231 : q1231.check ⟨Tryz.prog, 4, good, specA 4 ext [q1229]⟩ 100000 = true := by decide +kernel
theorem c1245 : q1245.check ⟨Tryz.prog, 4, good, specA 4 ext [q438, q1242]⟩ 100000 = true := by decide +kernel
theorem c1253 : q1253.check ⟨Tryz.prog, 4, good, specA 4 ext []⟩ 100000 = true := by decide +kernel
theorem c1298 : q1298.check ⟨Tryz.prog, 4, good, specA 4 ext []⟩ 100000 = true := by decide +kernel
theorem c1308 : q1308.check ⟨Tryz.prog, 4, good, specA 4 ext []⟩ 100000 = true := by decide +kernel
theorem c1315 : q1315.check ⟨Tryz.prog, 4, good, specA 4 ext [q438, q1311, q1310]⟩ 100000 = true := by decide +kernel
theorem c1341 : q1341.check ⟨Tryz.prog, 4, good, specA 4 ext []⟩ 100000 = true := by decide +kernel
theorem c1351 : q1351.check ⟨Tryz.prog, 4, good, specA 4 ext [q1343, q1337, q1331, q1350, q1322, q1316, q1348, q1308, q1302, q1346, q1296, q1294, q1330, q1315, q1301, q1292, q1288, q1282]⟩ 100000 = true := by decide +kernel
theorem c1411 : q1411.check ⟨Tryz.prog, 4, good, specA 4 ext []⟩ 100000 = true := by decide +kernel
theorem c1418 : q1418.check ⟨Tryz.prog, 4, good, specA 4 ext [q1415, q1413, q1411, q1409]⟩ 100000 = true := by decide +kernel
theorem c1437 : q1437.check ⟨Tryz.prog, 4, good, specA 4 ext [q1436, q1430, q1425]⟩ 100000 = true := by decide +kernel
theorem c1539 : q1539.check ⟨Tryz.prog, 4, good, specA 4 ext []⟩ 100000 = true := by decide +kernel
theorem c1552 : q1552.check ⟨Tryz.prog, 4, good, specA 4 ext []⟩ 100000 = true := by decide +kernel
theorem c1559 : q1559.check ⟨Tryz.prog, 4, good, specA 4 ext [q1557, q1552, q1550, q1542, q1537, q1534, q1521, q1518]⟩ 100000 = true := by decide +kernel
end Go.Proofs.Small
