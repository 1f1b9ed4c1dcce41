/- Closed calls, run. -/
import Derived.Test.YtmpiblpcdhgppaaGreatDoorSmDefs
namespace Go.Proofs.Small
open Go Go.Abs Go.Proofs
theorem c101 : q101.check ⟨Tryz.prog, 4, good, specA 4 ext []⟩ 100000 = true := by decide +kernel
theorem c248 : q248.check ⟨Tryz.prog, 4, good, specA 4 ext []⟩ 100000 = true := by decide +kernel
theorem c297 : q297.check ⟨Tryz.prog, 4, good, specA 4 ext []⟩ 100000 = true := by decide +kernel
theorem c342 : q342.check ⟨Tryz.prog, 4, good, specA 4 ext [q101]⟩ 100000 = true := by decide +kernel
theorem c372 : q372.check ⟨Tryz.prog, 4, good, specA 4 ext []⟩ 100000 = true := by decide +kernel
theorem c427 : q427.check ⟨Tryz.prog, 4, good, specA 4 ext []⟩ 100000 = true := by decide +kernel
theorem c450 : q450.check ⟨Tryz.prog, 4, good, specA 4 ext [q438]⟩ 100000 = true := by decide +kernel
theorem c459 : q459.check ⟨Tryz.prog, 4, good, specA 4 ext []⟩ 100000 = true := by decide +kernel
theorem c509 : q509.check ⟨Tryz.prog, 4, good, specA 4 ext []⟩ 100000 = true := by decide +kernel
theorem c518 : q518.check ⟨Tryz.prog, 4, good, specA 4 ext []⟩ 100000 = true := by decide +kernel
theorem c526 : q526.check ⟨Tryz.prog, 4, good, specA 4 ext []⟩ 100000 = true := by decide +kernel
theorem c777 : q777.check ⟨Tryz.prog, 4, good, specA 4 ext []⟩ 100000 = true := by decide +kernel
theorem c811 : q811.check ⟨Tryz.prog, 4, good, specA 4 ext []⟩ 100000 = true := by decide +kernel
theorem c823 : q823.check ⟨Tryz.prog, 4, good, specA 4 ext [q820, q813, q811, q808, q801, q799, q796, q790, q788, q784, q778, q721, q680]⟩ 100000 = true := by decide +kernel
theorem c867 : q867.check ⟨Tryz.prog, 4, good, specA 4 ext []⟩ 100000 = true := by decide +kernel
theorem c904 : q904.check ⟨Tryz.prog, 4, good, specA 4 ext [q902]⟩ 100000 = true := by decide +kernel
theorem c987 : q987.check ⟨Tryz.prog, 4, good, specA 4 ext []⟩ 100000 = true := by decide +kernel
theorem c1131 : q1131.check ⟨Tryz.prog, 4, good, specA 4 ext [q438]⟩ 100000 = true := by decide +kernel
theorem c1229 : q1229.check ⟨Tryz.prog, 4, good, specA 4 ext [q1228]⟩ 100000 = true := by decide +kernel
theorem c1265 : q1265.check ⟨Tryz.prog, 4, good, specA 4 ext []⟩ 100000 = true := by decide +kernel
theorem c1269 : q1269.check ⟨Tryz.prog, 4, good, specA 4 ext [q438, q1267]⟩ 100000 = true := by decide +kernel
theorem c1282 : q1282.check ⟨Tryz.prog, 4, good, specA 4 ext [q1280, q1274, q1269, q1262, q1257, q1250, q1245, q1240, q1235]⟩ 100000 = true := by decide +kernel
theorem c1288 : q1288.check ⟨Tryz.prog, 4, good, specA 4 ext []⟩ 100000 = true := by decide +kernel
theorem c1311 : q1311.check ⟨Tryz.prog, 4, good, specA 4 ext []⟩ 100000 = true := by decide +kernel
theorem c1316 : q1316.check ⟨Tryz.prog, 4, good, specA 4 ext []⟩ 100000 = true := by decide +kernel
theorem c1327 : q1327.check ⟨Tryz.prog, 4, good, specA 4 ext [q1326, q1325, q1324]⟩ 100000 = true := by decide +kernel
theorem c1345 : q1345.check ⟨Tryz.prog, 4, good, specA 4 ext []⟩ 100000 = true := by decide +kernel
theorem c1450 : q1450.check ⟨Tryz.prog, 4, good, specA 4 ext [q1446]⟩ 100000 = true := by decide +kernel
theorem c1494 : q1494.check ⟨Tryz.prog, 4, good, specA 4 ext []⟩ 100000 = true := by decide +kernel
theorem c1514 : q1514.check ⟨Tryz.prog, 4, good, specA 4 ext []⟩ 100000 = true := by decide +kernel
theorem c1518 : q1518.check ⟨Tryz.prog, 4, good, specA 4 ext [q438]⟩ 100000 = true := by decide +kernel
theorem c1550 : q1550.check ⟨Tryz.prog, 4, good, specA 4 ext [q438]⟩ 100000 = true := by decide +kernel
theorem c1594 : q1594.check ⟨Tryz.prog, 4, good, specA 4 ext [q1593, q1589, q1580, q1568, q1561, q1468, q870, q1418, q1407, q1351, q1231, q1207, q1190, q1149, q1108, q951, q1101, q1069]⟩ 100000 = true := by decide +kernel
end Go.Proofs.Small
