/- Closed calls, run. -/
import Derived.Test.YtmpiblpcdhgppaaGreatDoorSmDefs
namespace Go.Proofs.Small
open Go Go.Abs Go.Proofs
theorem c64 : q64.check ⟨Tryz.prog, 4, good, specA 4 ext [q59]⟩ 100000 = true := by decide +kernel
theorem c267 : q267.check ⟨Tryz.prog, 4, good, specA 4 ext []⟩ 100000 = true := by decide +kernel
theorem c300 : q300.check ⟨Tryz.prog, 4, good, specA 4 ext []⟩ 100000 = true := by decide +kernel
theorem c381 : q381.check ⟨Tryz.prog, 4, good, specA 4 ext []⟩ 100000 = true := by decide +kernel
theorem c438 : q438.check ⟨Tryz.prog, 4, good, specA 4 ext []⟩ 100000 = true := by decide +kernel
theorem c445 : q445.check ⟨Tryz.prog, 4, good, specA 4 ext []⟩ 100000 = true := by decide +kernel
theorem c463 : q463.check ⟨Tryz.prog, 4, good, specA 4 ext []⟩ 100000 = true := by decide +kernel
theorem c483 : q483.check ⟨Tryz.prog, 4, good, specA 4 ext [q482, q478, q475, q461, q459, q452, q450, q445, q442]⟩ 100000 = true := by decide +kernel
theorem c498 : q498.check ⟨Tryz.prog, 4, good, specA 4 ext []⟩ 100000 = true := by decide +kernel
theorem c559 : q559.check ⟨Tryz.prog, 4, good, specA 4 ext []⟩ 100000 = true := by decide +kernel
theorem c582 : q582.check ⟨Tryz.prog, 4, good, specA 4 ext []⟩ 100000 = true := by decide +kernel
theorem c609 : q609.check ⟨Tryz.prog, 4, good, specA 4 ext [q605, q595, q587]⟩ 100000 = true := by decide +kernel
theorem c662 : q662.check ⟨Tryz.prog, 4, good, specA 4 ext []⟩ 100000 = true := by decide +kernel
theorem c790 : q790.check ⟨Tryz.prog, 4, good, specA 4 ext []⟩ 100000 = true := by decide +kernel
theorem c808 : q808.check ⟨Tryz.prog, 4, good, specA 4 ext [q438]⟩ 100000 = true := by decide +kernel
theorem c820 : q820.check ⟨Tryz.prog, 4, good, specA 4 ext [q438]⟩ 100000 = true := by decide +kernel
theorem c870 : q870.check ⟨Tryz.prog, 4, good, specA 4 ext [q867]⟩ 100000 = true := by decide +kernel
theorem c948 : q948.check ⟨Tryz.prog, 4, good, specA 4 ext []⟩ 100000 = true := by decide +kernel
theorem c994 : q994.check ⟨Tryz.prog, 4, good, specA 4 ext [q992, q987, q976, q971, q870]⟩ 100000 = true := by decide +kernel
theorem c1080 : q1080.check ⟨Tryz.prog, 4, good, specA 4 ext [q1078, q595, q587]⟩ 100000 = true := by decide +kernel
theorem c1101 : q1101.check ⟨Tryz.prog, 4, good, specA 4 ext [q1098, q1100, q1090, q587, q1080]⟩ 100000 = true := by decide +kernel
theorem c1145 : q1145.check ⟨Tryz.prog, 4, good, specA 4 ext [q1144]⟩ 100000 = true := by decide +kernel
theorem c1186 : q1186.check ⟨Tryz.prog, 4, good, specA 4 ext []⟩ 100000 = true := by decide +kernel
theorem c1262 : q1262.check ⟨Tryz.prog, 4, good, specA 4 ext []⟩ 100000 = true := by decide +kernel
theorem c1277 : q1277.check ⟨Tryz.prog, 4, good, specA 4 ext []⟩ 100000 = true := by decide +kernel
theorem c1294 : q1294.check ⟨Tryz.prog, 4, good, specA 4 ext []⟩ 100000 = true := by decide +kernel
theorem c1301 : q1301.check ⟨Tryz.prog, 4, good, specA 4 ext [q438, q1298]⟩ 100000 = true := by decide +kernel
theorem c1326 : q1326.check ⟨Tryz.prog, 4, good, specA 4 ext []⟩ 100000 = true := by decide +kernel
theorem c1534 : q1534.check ⟨Tryz.prog, 4, good, specA 4 ext [q1530, q1523]⟩ 100000 = true := by decide +kernel
theorem c1542 : q1542.check ⟨Tryz.prog, 4, good, specA 4 ext [q1540, q1539]⟩ 100000 = true := by decide +kernel
theorem c1557 : q1557.check ⟨Tryz.prog, 4, good, specA 4 ext []⟩ 100000 = true := by decide +kernel
theorem c1561 : q1561.check ⟨Tryz.prog, 4, good, specA 4 ext [q1559, q1514, q1497]⟩ 100000 = true := by decide +kernel
end Go.Proofs.Small
