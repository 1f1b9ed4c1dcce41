/- Closed calls, shown one by one. -/
import Derived.Test.YtmpiblpcdhgppaaGreatDoorSmC1
import Derived.Test.YtmpiblpcdhgppaaGreatDoorSmC2
import Derived.Test.YtmpiblpcdhgppaaGreatDoorSmC3
import Derived.Test.YtmpiblpcdhgppaaGreatDoorSmC4
import Derived.Test.YtmpiblpcdhgppaaGreatDoorSmC5
import Derived.Test.YtmpiblpcdhgppaaGreatDoorSmC6
import Derived.Test.YtmpiblpcdhgppaaGreatDoorSmC7
import Derived.Test.YtmpiblpcdhgppaaGreatDoorSmC8
namespace Go.Proofs.Small
open Go Go.Abs Go.Proofs
theorem s23 : ShotGood Tryz.prog 4 q23 := shown base (l := []) trivial c23
theorem s25 : ShotGood Tryz.prog 4 q25 := shown base (l := [q23]) ⟨s23, trivial⟩ c25
theorem s41 : ShotGood Tryz.prog 4 q41 := shown base (l := []) trivial c41
theorem s55 : ShotGood Tryz.prog 4 q55 := shown base (l := []) trivial c55
theorem s59 : ShotGood Tryz.prog 4 q59 := shown base (l := [q55, q41]) ⟨s55, s41, trivial⟩ c59
theorem s64 : ShotGood Tryz.prog 4 q64 := shown base (l := [q59]) ⟨s59, trivial⟩ c64
theorem s69 : ShotGood Tryz.prog 4 q69 := shown base (l := [q64]) ⟨s64, trivial⟩ c69
theorem s85 : ShotGood Tryz.prog 4 q85 := shown base (l := []) trivial c85
theorem s87 : ShotGood Tryz.prog 4 q87 := shown base (l := [q85, q69]) ⟨s85, s69, trivial⟩ c87
theorem s101 : ShotGood Tryz.prog 4 q101 := shown base (l := []) trivial c101
theorem s135 : ShotGood Tryz.prog 4 q135 := shown base (l := [q101]) ⟨s101, trivial⟩ c135
theorem s171 : ShotGood Tryz.prog 4 q171 := shown base (l := []) trivial c171
theorem s174 : ShotGood Tryz.prog 4 q174 := shown base (l := [q171, q135]) ⟨s171, s135, trivial⟩ c174
theorem s184 : ShotGood Tryz.prog 4 q184 := shown base (l := []) trivial c184
theorem s187 : ShotGood Tryz.prog 4 q187 := shown base (l := [q184, q174]) ⟨s184, s174, trivial⟩ c187
theorem s200 : ShotGood Tryz.prog 4 q200 := shown base (l := []) trivial c200
theorem s201 : ShotGood Tryz.prog 4 q201 := shown base (l := [q200]) ⟨s200, trivial⟩ c201
theorem s215 : ShotGood Tryz.prog 4 q215 := shown base (l := []) trivial c215
theorem s216 : ShotGood Tryz.prog 4 q216 := shown base (l := [q215]) ⟨s215, trivial⟩ c216
theorem s233 : ShotGood Tryz.prog 4 q233 := shown base (l := []) trivial c233
theorem s234 : ShotGood Tryz.prog 4 q234 := shown base (l := [q233]) ⟨s233, trivial⟩ c234
theorem s236 : ShotGood Tryz.prog 4 q236 := shown base (l := [q234, q216, q201]) ⟨s234, s216, s201, trivial⟩ c236
theorem s238 : ShotGood Tryz.prog 4 q238 := shown base (l := []) trivial c238
theorem s244 : ShotGood Tryz.prog 4 q244 := shown base (l := []) trivial c244
theorem s248 : ShotGood Tryz.prog 4 q248 := shown base (l := []) trivial c248
theorem s253 : ShotGood Tryz.prog 4 q253 := shown base (l := []) trivial c253
theorem s260 : ShotGood Tryz.prog 4 q260 := shown base (l := []) trivial c260
theorem s262 : ShotGood Tryz.prog 4 q262 := shown base (l := []) trivial c262
theorem s267 : ShotGood Tryz.prog 4 q267 := shown base (l := []) trivial c267
theorem s268 : ShotGood Tryz.prog 4 q268 := shown base (l := [q267, q262, q260, q253, q248, q244, q238]) ⟨s267, s262, s260, s253, s248, s244, s238, trivial⟩ c268
theorem s272 : ShotGood Tryz.prog 4 q272 := shown base (l := []) trivial c272
theorem s275 : ShotGood Tryz.prog 4 q275 := shown base (l := []) trivial c275
theorem s279 : ShotGood Tryz.prog 4 q279 := shown base (l := []) trivial c279
theorem s282 : ShotGood Tryz.prog 4 q282 := shown base (l := []) trivial c282
theorem s285 : ShotGood Tryz.prog 4 q285 := shown base (l := []) trivial c285
theorem s292 : ShotGood Tryz.prog 4 q292 := shown base (l := []) trivial c292
theorem s294 : ShotGood Tryz.prog 4 q294 := shown base (l := []) trivial c294
theorem s297 : ShotGood Tryz.prog 4 q297 := shown base (l := []) trivial c297
theorem s300 : ShotGood Tryz.prog 4 q300 := shown base (l := []) trivial c300
theorem s302 : ShotGood Tryz.prog 4 q302 := shown base (l := []) trivial c302
theorem s307 : ShotGood Tryz.prog 4 q307 := shown base (l := []) trivial c307
theorem s308 : ShotGood Tryz.prog 4 q308 := shown base (l := [q307, q302, q300, q297, q294, q292, q285, q282, q279, q275, q272]) ⟨s307, s302, s300, s297, s294, s292, s285, s282, s279, s275, s272, trivial⟩ c308
theorem s310 : ShotGood Tryz.prog 4 q310 := shown base (l := [q308, q201, q268, q236]) ⟨s308, s201, s268, s236, trivial⟩ c310
theorem s342 : ShotGood Tryz.prog 4 q342 := shown base (l := [q101]) ⟨s101, trivial⟩ c342
theorem s372 : ShotGood Tryz.prog 4 q372 := shown base (l := []) trivial c372
theorem s375 : ShotGood Tryz.prog 4 q375 := shown base (l := [q372, q342]) ⟨s372, s342, trivial⟩ c375
theorem s381 : ShotGood Tryz.prog 4 q381 := shown base (l := []) trivial c381
theorem s384 : ShotGood Tryz.prog 4 q384 := shown base (l := [q381, q375]) ⟨s381, s375, trivial⟩ c384
theorem s406 : ShotGood Tryz.prog 4 q406 := shown base (l := []) trivial c406
theorem s427 : ShotGood Tryz.prog 4 q427 := shown base (l := []) trivial c427
theorem s438 : ShotGood Tryz.prog 4 q438 := shown base (l := []) trivial c438
theorem s442 : ShotGood Tryz.prog 4 q442 := shown base (l := [q438]) ⟨s438, trivial⟩ c442
theorem s445 : ShotGood Tryz.prog 4 q445 := shown base (l := []) trivial c445
theorem s450 : ShotGood Tryz.prog 4 q450 := shown base (l := [q438]) ⟨s438, trivial⟩ c450
theorem s452 : ShotGood Tryz.prog 4 q452 := shown base (l := []) trivial c452
theorem s459 : ShotGood Tryz.prog 4 q459 := shown base (l := []) trivial c459
theorem s461 : ShotGood Tryz.prog 4 q461 := shown base (l := []) trivial c461
theorem s463 : ShotGood Tryz.prog 4 q463 := shown base (l := []) trivial c463
theorem s471 : ShotGood Tryz.prog 4 q471 := shown base (l := []) trivial c471
theorem s475 : ShotGood Tryz.prog 4 q475 := shown base (l := [q471, q463]) ⟨s471, s463, trivial⟩ c475
theorem s478 : ShotGood Tryz.prog 4 q478 := shown base (l := []) trivial c478
theorem s482 : ShotGood Tryz.prog 4 q482 := shown base (l := []) trivial c482
theorem s483 : ShotGood Tryz.prog 4 q483 := shown base (l := [q482, q478, q475, q461, q459, q452, q450, q445, q442]) ⟨s482, s478, s475, s461, s459, s452, s450, s445, s442, trivial⟩ c483
theorem s488 : ShotGood Tryz.prog 4 q488 := shown base (l := []) trivial c488
theorem s492 : ShotGood Tryz.prog 4 q492 := shown base (l := [q438]) ⟨s438, trivial⟩ c492
theorem s494 : ShotGood Tryz.prog 4 q494 := shown base (l := []) trivial c494
theorem s496 : ShotGood Tryz.prog 4 q496 := shown base (l := []) trivial c496
theorem s498 : ShotGood Tryz.prog 4 q498 := shown base (l := []) trivial c498
theorem s502 : ShotGood Tryz.prog 4 q502 := shown base (l := [q438]) ⟨s438, trivial⟩ c502
theorem s503 : ShotGood Tryz.prog 4 q503 := shown base (l := []) trivial c503
theorem s505 : ShotGood Tryz.prog 4 q505 := shown base (l := []) trivial c505
theorem s507 : ShotGood Tryz.prog 4 q507 := shown base (l := []) trivial c507
theorem s509 : ShotGood Tryz.prog 4 q509 := shown base (l := []) trivial c509
theorem s513 : ShotGood Tryz.prog 4 q513 := shown base (l := [q471, q509]) ⟨s471, s509, trivial⟩ c513
theorem s514 : ShotGood Tryz.prog 4 q514 := shown base (l := []) trivial c514
theorem s516 : ShotGood Tryz.prog 4 q516 := shown base (l := []) trivial c516
theorem s518 : ShotGood Tryz.prog 4 q518 := shown base (l := []) trivial c518
theorem s523 : ShotGood Tryz.prog 4 q523 := shown base (l := []) trivial c523
theorem s525 : ShotGood Tryz.prog 4 q525 := shown base (l := [q523]) ⟨s523, trivial⟩ c525
theorem s526 : ShotGood Tryz.prog 4 q526 := shown base (l := []) trivial c526
theorem s527 : ShotGood Tryz.prog 4 q527 := shown base (l := [q526, q509]) ⟨s526, s509, trivial⟩ c527
theorem s528 : ShotGood Tryz.prog 4 q528 := shown base (l := [q518, q516, q523, q498, q514, q505, q503, q527, q507, q496, q494, q525, q513, q502, q492, q488, q483]) ⟨s518, s516, s523, s498, s514, s505, s503, s527, s507, s496, s494, s525, s513, s502, s492, s488, s483, trivial⟩ c528
theorem s530 : ShotGood Tryz.prog 4 q530 := shown base (l := [q528, q427, q406, q384]) ⟨s528, s427, s406, s384, trivial⟩ c530
theorem s542 : ShotGood Tryz.prog 4 q542 := shown base (l := [q101]) ⟨s101, trivial⟩ c542
theorem s559 : ShotGood Tryz.prog 4 q559 := shown base (l := []) trivial c559
theorem s566 : ShotGood Tryz.prog 4 q566 := shown base (l := [q559, q542]) ⟨s559, s542, trivial⟩ c566
theorem s567 : ShotGood Tryz.prog 4 q567 := shown base (l := [q566]) ⟨s566, trivial⟩ c567
theorem s575 : ShotGood Tryz.prog 4 q575 := shown base (l := []) trivial c575
theorem s582 : ShotGood Tryz.prog 4 q582 := shown base (l := []) trivial c582
theorem s587 : ShotGood Tryz.prog 4 q587 := shown base (l := [q438]) ⟨s438, trivial⟩ c587
theorem s592 : ShotGood Tryz.prog 4 q592 := shown base (l := []) trivial c592
theorem s595 : ShotGood Tryz.prog 4 q595 := shown base (l := [q438, q592]) ⟨s438, s592, trivial⟩ c595
theorem s605 : ShotGood Tryz.prog 4 q605 := shown base (l := []) trivial c605
theorem s609 : ShotGood Tryz.prog 4 q609 := shown base (l := [q605, q595, q587]) ⟨s605, s595, s587, trivial⟩ c609
theorem s623 : ShotGood Tryz.prog 4 q623 := shown base (l := []) trivial c623
theorem s625 : ShotGood Tryz.prog 4 q625 := shown base (l := [q623, q605, q595, q587, q609]) ⟨s623, s605, s595, s587, s609, trivial⟩ c625
theorem s627 : ShotGood Tryz.prog 4 q627 := shown base (l := [q625, q582, q575, q567]) ⟨s625, s582, s575, s567, trivial⟩ c627
theorem s644 : ShotGood Tryz.prog 4 q644 := shown base (l := []) trivial c644
theorem s662 : ShotGood Tryz.prog 4 q662 := shown base (l := []) trivial c662
theorem s672 : ShotGood Tryz.prog 4 q672 := shown base (l := []) trivial c672
theorem s680 : ShotGood Tryz.prog 4 q680 := shown base (l := [q672, q662, q644]) ⟨s672, s662, s644, trivial⟩ c680
theorem s696 : ShotGood Tryz.prog 4 q696 := shown base (l := []) trivial c696
theorem s718 : ShotGood Tryz.prog 4 q718 := shown base (l := []) trivial c718
theorem s721 : ShotGood Tryz.prog 4 q721 := shown base (l := [q718, q696]) ⟨s718, s696, trivial⟩ c721
theorem s751 : ShotGood Tryz.prog 4 q751 := shown base (l := []) trivial c751
theorem s777 : ShotGood Tryz.prog 4 q777 := shown base (l := []) trivial c777
theorem s778 : ShotGood Tryz.prog 4 q778 := shown base (l := [q777, q751]) ⟨s777, s751, trivial⟩ c778
theorem s784 : ShotGood Tryz.prog 4 q784 := shown base (l := [q438]) ⟨s438, trivial⟩ c784
theorem s788 : ShotGood Tryz.prog 4 q788 := shown base (l := []) trivial c788
theorem s790 : ShotGood Tryz.prog 4 q790 := shown base (l := []) trivial c790
theorem s796 : ShotGood Tryz.prog 4 q796 := shown base (l := [q438]) ⟨s438, trivial⟩ c796
theorem s799 : ShotGood Tryz.prog 4 q799 := shown base (l := []) trivial c799
theorem s801 : ShotGood Tryz.prog 4 q801 := shown base (l := []) trivial c801
theorem s808 : ShotGood Tryz.prog 4 q808 := shown base (l := [q438]) ⟨s438, trivial⟩ c808
theorem s811 : ShotGood Tryz.prog 4 q811 := shown base (l := []) trivial c811
theorem s813 : ShotGood Tryz.prog 4 q813 := shown base (l := []) trivial c813
theorem s820 : ShotGood Tryz.prog 4 q820 := shown base (l := [q438]) ⟨s438, trivial⟩ c820
theorem s823 : ShotGood Tryz.prog 4 q823 := shown base (l := [q820, q813, q811, q808, q801, q799, q796, q790, q788, q784, q778, q721, q680]) ⟨s820, s813, s811, s808, s801, s799, s796, s790, s788, s784, s778, s721, s680, trivial⟩ c823
theorem s867 : ShotGood Tryz.prog 4 q867 := shown base (l := []) trivial c867
theorem s870 : ShotGood Tryz.prog 4 q870 := shown base (l := [q867]) ⟨s867, trivial⟩ c870
theorem s900 : ShotGood Tryz.prog 4 q900 := shown base (l := [q438]) ⟨s438, trivial⟩ c900
theorem s902 : ShotGood Tryz.prog 4 q902 := shown base (l := [q900]) ⟨s900, trivial⟩ c902
theorem s904 : ShotGood Tryz.prog 4 q904 := shown base (l := [q902]) ⟨s902, trivial⟩ c904
theorem s909 : ShotGood Tryz.prog 4 q909 := shown base (l := [q867]) ⟨s867, trivial⟩ c909
theorem s920 : ShotGood Tryz.prog 4 q920 := shown base (l := []) trivial c920
theorem s948 : ShotGood Tryz.prog 4 q948 := shown base (l := []) trivial c948
theorem s951 : ShotGood Tryz.prog 4 q951 := shown base (l := [q948]) ⟨s948, trivial⟩ c951
theorem s965 : ShotGood Tryz.prog 4 q965 := shown base (l := []) trivial c965
theorem s970 : ShotGood Tryz.prog 4 q970 := shown base (l := []) trivial c970
theorem s971 : ShotGood Tryz.prog 4 q971 := shown base (l := [q970, q965]) ⟨s970, s965, trivial⟩ c971
theorem s976 : ShotGood Tryz.prog 4 q976 := shown base (l := [q438]) ⟨s438, trivial⟩ c976
theorem s987 : ShotGood Tryz.prog 4 q987 := shown base (l := []) trivial c987
theorem s992 : ShotGood Tryz.prog 4 q992 := shown base (l := []) trivial c992
theorem s994 : ShotGood Tryz.prog 4 q994 := shown base (l := [q992, q987, q976, q971, q870]) ⟨s992, s987, s976, s971, s870, trivial⟩ c994
theorem s1037 : ShotGood Tryz.prog 4 q1037 := shown base (l := []) trivial c1037
theorem s1040 : ShotGood Tryz.prog 4 q1040 := shown base (l := [q1037]) ⟨s1037, trivial⟩ c1040
theorem s1060 : ShotGood Tryz.prog 4 q1060 := shown base (l := []) trivial c1060
theorem s1069 : ShotGood Tryz.prog 4 q1069 := shown base (l := []) trivial c1069
theorem s1078 : ShotGood Tryz.prog 4 q1078 := shown base (l := []) trivial c1078
theorem s1080 : ShotGood Tryz.prog 4 q1080 := shown base (l := [q1078, q595, q587]) ⟨s1078, s595, s587, trivial⟩ c1080
theorem s1088 : ShotGood Tryz.prog 4 q1088 := shown base (l := []) trivial c1088
theorem s1090 : ShotGood Tryz.prog 4 q1090 := shown base (l := [q438, q1088]) ⟨s438, s1088, trivial⟩ c1090
theorem s1098 : ShotGood Tryz.prog 4 q1098 := shown base (l := []) trivial c1098
theorem s1100 : ShotGood Tryz.prog 4 q1100 := shown base (l := []) trivial c1100
theorem s1101 : ShotGood Tryz.prog 4 q1101 := shown base (l := [q1098, q1100, q1090, q587, q1080]) ⟨s1098, s1100, s1090, s587, s1080, trivial⟩ c1101
theorem s1108 : ShotGood Tryz.prog 4 q1108 := shown base (l := []) trivial c1108
theorem s1123 : ShotGood Tryz.prog 4 q1123 := shown base (l := []) trivial c1123
theorem s1131 : ShotGood Tryz.prog 4 q1131 := shown base (l := [q438]) ⟨s438, trivial⟩ c1131
theorem s1132 : ShotGood Tryz.prog 4 q1132 := shown base (l := [q1131]) ⟨s1131, trivial⟩ c1132
theorem s1143 : ShotGood Tryz.prog 4 q1143 := shown base (l := [q438]) ⟨s438, trivial⟩ c1143
theorem s1144 : ShotGood Tryz.prog 4 q1144 := shown base (l := [q1143, q438]) ⟨s1143, s438, trivial⟩ c1144
theorem s1145 : ShotGood Tryz.prog 4 q1145 := shown base (l := [q1144]) ⟨s1144, trivial⟩ c1145
theorem s1147 : ShotGood Tryz.prog 4 q1147 := shown base (l := [q1145, q1132, q1123]) ⟨s1145, s1132, s1123, trivial⟩ c1147
theorem s1149 : ShotGood Tryz.prog 4 q1149 := shown base (l := [q1147]) ⟨s1147, trivial⟩ c1149
theorem s1165 : ShotGood Tryz.prog 4 q1165 := shown base (l := [q438]) ⟨s438, trivial⟩ c1165
theorem s1170 : ShotGood Tryz.prog 4 q1170 := shown base (l := [q438]) ⟨s438, trivial⟩ c1170
theorem s1173 : ShotGood Tryz.prog 4 q1173 := shown base (l := []) trivial c1173
theorem s1175 : ShotGood Tryz.prog 4 q1175 := shown base (l := [q1173, q1170, q1165]) ⟨s1173, s1170, s1165, trivial⟩ c1175
theorem s1186 : ShotGood Tryz.prog 4 q1186 := shown base (l := []) trivial c1186
theorem s1188 : ShotGood Tryz.prog 4 q1188 := shown base (l := [q1186, q605, q595, q587, q1175]) ⟨s1186, s605, s595, s587, s1175, trivial⟩ c1188
theorem s1190 : ShotGood Tryz.prog 4 q1190 := shown base (l := [q1188]) ⟨s1188, trivial⟩ c1190
theorem s1204 : ShotGood Tryz.prog 4 q1204 := shown base (l := []) trivial c1204
theorem s1207 : ShotGood Tryz.prog 4 q1207 := shown base (l := [q1204]) ⟨s1204, trivial⟩ c1207
theorem s1228 : ShotGood Tryz.prog 4 q1228 := shown base (l := []) trivial c1228
theorem s1229 : ShotGood Tryz.prog 4 q1229 := shown base (l := [q1228]) ⟨s1228, trivial⟩ c1229
theorem s1231 : ShotGood Tryz.prog 4 q1231 := shown base (l := [q1229]) ⟨s1229, trivial⟩ c1231
theorem s1235 : ShotGood Tryz.prog 4 q1235 := shown base (l := [q438]) ⟨s438, trivial⟩ c1235
theorem s1240 : ShotGood Tryz.prog 4 q1240 := shown base (l := []) trivial c1240
theorem s1242 : ShotGood Tryz.prog 4 q1242 := shown base (l := []) trivial c1242
theorem s1245 : ShotGood Tryz.prog 4 q1245 := shown base (l := [q438, q1242]) ⟨s438, s1242, trivial⟩ c1245
theorem s1250 : ShotGood Tryz.prog 4 q1250 := shown base (l := []) trivial c1250
theorem s1252 : ShotGood Tryz.prog 4 q1252 := shown base (l := []) trivial c1252
theorem s1253 : ShotGood Tryz.prog 4 q1253 := shown base (l := []) trivial c1253
theorem s1257 : ShotGood Tryz.prog 4 q1257 := shown base (l := [q438, q1253, q1252]) ⟨s438, s1253, s1252, trivial⟩ c1257
theorem s1262 : ShotGood Tryz.prog 4 q1262 := shown base (l := []) trivial c1262
theorem s1264 : ShotGood Tryz.prog 4 q1264 := shown base (l := []) trivial c1264
theorem s1265 : ShotGood Tryz.prog 4 q1265 := shown base (l := []) trivial c1265
theorem s1266 : ShotGood Tryz.prog 4 q1266 := shown base (l := []) trivial c1266
theorem s1267 : ShotGood Tryz.prog 4 q1267 := shown base (l := [q1266, q1265, q1264]) ⟨s1266, s1265, s1264, trivial⟩ c1267
theorem s1269 : ShotGood Tryz.prog 4 q1269 := shown base (l := [q438, q1267]) ⟨s438, s1267, trivial⟩ c1269
theorem s1274 : ShotGood Tryz.prog 4 q1274 := shown base (l := []) trivial c1274
theorem s1276 : ShotGood Tryz.prog 4 q1276 := shown base (l := []) trivial c1276
theorem s1277 : ShotGood Tryz.prog 4 q1277 := shown base (l := []) trivial c1277
theorem s1278 : ShotGood Tryz.prog 4 q1278 := shown base (l := []) trivial c1278
theorem s1279 : ShotGood Tryz.prog 4 q1279 := shown base (l := []) trivial c1279
theorem s1280 : ShotGood Tryz.prog 4 q1280 := shown base (l := [q1279, q1278, q1277, q1276]) ⟨s1279, s1278, s1277, s1276, trivial⟩ c1280
theorem s1282 : ShotGood Tryz.prog 4 q1282 := shown base (l := [q1280, q1274, q1269, q1262, q1257, q1250, q1245, q1240, q1235]) ⟨s1280, s1274, s1269, s1262, s1257, s1250, s1245, s1240, s1235, trivial⟩ c1282
theorem s1288 : ShotGood Tryz.prog 4 q1288 := shown base (l := []) trivial c1288
theorem s1292 : ShotGood Tryz.prog 4 q1292 := shown base (l := [q438]) ⟨s438, trivial⟩ c1292
theorem s1294 : ShotGood Tryz.prog 4 q1294 := shown base (l := []) trivial c1294
theorem s1296 : ShotGood Tryz.prog 4 q1296 := shown base (l := []) trivial c1296
theorem s1298 : ShotGood Tryz.prog 4 q1298 := shown base (l := []) trivial c1298
theorem s1301 : ShotGood Tryz.prog 4 q1301 := shown base (l := [q438, q1298]) ⟨s438, s1298, trivial⟩ c1301
theorem s1302 : ShotGood Tryz.prog 4 q1302 := shown base (l := []) trivial c1302
theorem s1308 : ShotGood Tryz.prog 4 q1308 := shown base (l := []) trivial c1308
theorem s1310 : ShotGood Tryz.prog 4 q1310 := shown base (l := []) trivial c1310
theorem s1311 : ShotGood Tryz.prog 4 q1311 := shown base (l := []) trivial c1311
theorem s1315 : ShotGood Tryz.prog 4 q1315 := shown base (l := [q438, q1311, q1310]) ⟨s438, s1311, s1310, trivial⟩ c1315
theorem s1316 : ShotGood Tryz.prog 4 q1316 := shown base (l := []) trivial c1316
theorem s1322 : ShotGood Tryz.prog 4 q1322 := shown base (l := []) trivial c1322
theorem s1324 : ShotGood Tryz.prog 4 q1324 := shown base (l := []) trivial c1324
theorem s1325 : ShotGood Tryz.prog 4 q1325 := shown base (l := []) trivial c1325
theorem s1326 : ShotGood Tryz.prog 4 q1326 := shown base (l := []) trivial c1326
theorem s1327 : ShotGood Tryz.prog 4 q1327 := shown base (l := [q1326, q1325, q1324]) ⟨s1326, s1325, s1324, trivial⟩ c1327
theorem s1330 : ShotGood Tryz.prog 4 q1330 := shown base (l := [q471, q1327]) ⟨s471, s1327, trivial⟩ c1330
theorem s1331 : ShotGood Tryz.prog 4 q1331 := shown base (l := []) trivial c1331
theorem s1337 : ShotGood Tryz.prog 4 q1337 := shown base (l := []) trivial c1337
theorem s1339 : ShotGood Tryz.prog 4 q1339 := shown base (l := []) trivial c1339
theorem s1340 : ShotGood Tryz.prog 4 q1340 := shown base (l := []) trivial c1340
theorem s1341 : ShotGood Tryz.prog 4 q1341 := shown base (l := []) trivial c1341
theorem s1342 : ShotGood Tryz.prog 4 q1342 := shown base (l := []) trivial c1342
theorem s1343 : ShotGood Tryz.prog 4 q1343 := shown base (l := [q1342, q1341, q1340, q1339]) ⟨s1342, s1341, s1340, s1339, trivial⟩ c1343
theorem s1345 : ShotGood Tryz.prog 4 q1345 := shown base (l := []) trivial c1345
theorem s1346 : ShotGood Tryz.prog 4 q1346 := shown base (l := [q1345, q1298]) ⟨s1345, s1298, trivial⟩ c1346
theorem s1347 : ShotGood Tryz.prog 4 q1347 := shown base (l := []) trivial c1347
theorem s1348 : ShotGood Tryz.prog 4 q1348 := shown base (l := [q1347, q1311, q1310]) ⟨s1347, s1311, s1310, trivial⟩ c1348
theorem s1349 : ShotGood Tryz.prog 4 q1349 := shown base (l := []) trivial c1349
theorem s1350 : ShotGood Tryz.prog 4 q1350 := shown base (l := [q1349, q1326, q1325, q1324]) ⟨s1349, s1326, s1325, s1324, trivial⟩ c1350
theorem s1351 : ShotGood Tryz.prog 4 q1351 := shown base (l := [q1343, q1337, q1331, q1350, q1322, q1316, q1348, q1308, q1302, q1346, q1296, q1294, q1330, q1315, q1301, q1292, q1288, q1282]) ⟨s1343, s1337, s1331, s1350, s1322, s1316, s1348, s1308, s1302, s1346, s1296, s1294, s1330, s1315, s1301, s1292, s1288, s1282, trivial⟩ c1351
theorem s1399 : ShotGood Tryz.prog 4 q1399 := shown base (l := []) trivial c1399
theorem s1407 : ShotGood Tryz.prog 4 q1407 := shown base (l := [q1399]) ⟨s1399, trivial⟩ c1407
theorem s1409 : ShotGood Tryz.prog 4 q1409 := shown base (l := []) trivial c1409
theorem s1411 : ShotGood Tryz.prog 4 q1411 := shown base (l := []) trivial c1411
theorem s1413 : ShotGood Tryz.prog 4 q1413 := shown base (l := []) trivial c1413
theorem s1415 : ShotGood Tryz.prog 4 q1415 := shown base (l := []) trivial c1415
theorem s1418 : ShotGood Tryz.prog 4 q1418 := shown base (l := [q1415, q1413, q1411, q1409]) ⟨s1415, s1413, s1411, s1409, trivial⟩ c1418
theorem s1425 : ShotGood Tryz.prog 4 q1425 := shown base (l := [q438]) ⟨s438, trivial⟩ c1425
theorem s1430 : ShotGood Tryz.prog 4 q1430 := shown base (l := []) trivial c1430
theorem s1436 : ShotGood Tryz.prog 4 q1436 := shown base (l := []) trivial c1436
theorem s1437 : ShotGood Tryz.prog 4 q1437 := shown base (l := [q1436, q1430, q1425]) ⟨s1436, s1430, s1425, trivial⟩ c1437
theorem s1446 : ShotGood Tryz.prog 4 q1446 := shown base (l := []) trivial c1446
theorem s1450 : ShotGood Tryz.prog 4 q1450 := shown base (l := [q1446]) ⟨s1446, trivial⟩ c1450
theorem s1461 : ShotGood Tryz.prog 4 q1461 := shown base (l := []) trivial c1461
theorem s1467 : ShotGood Tryz.prog 4 q1467 := shown base (l := []) trivial c1467
theorem s1468 : ShotGood Tryz.prog 4 q1468 := shown base (l := [q1467, q1461, q1450, q1437]) ⟨s1467, s1461, s1450, s1437, trivial⟩ c1468
theorem s1494 : ShotGood Tryz.prog 4 q1494 := shown base (l := []) trivial c1494
theorem s1497 : ShotGood Tryz.prog 4 q1497 := shown base (l := [q1494]) ⟨s1494, trivial⟩ c1497
theorem s1514 : ShotGood Tryz.prog 4 q1514 := shown base (l := []) trivial c1514
theorem s1518 : ShotGood Tryz.prog 4 q1518 := shown base (l := [q438]) ⟨s438, trivial⟩ c1518
theorem s1521 : ShotGood Tryz.prog 4 q1521 := shown base (l := []) trivial c1521
theorem s1523 : ShotGood Tryz.prog 4 q1523 := shown base (l := []) trivial c1523
theorem s1530 : ShotGood Tryz.prog 4 q1530 := shown base (l := []) trivial c1530
theorem s1534 : ShotGood Tryz.prog 4 q1534 := shown base (l := [q1530, q1523]) ⟨s1530, s1523, trivial⟩ c1534
theorem s1537 : ShotGood Tryz.prog 4 q1537 := shown base (l := []) trivial c1537
theorem s1539 : ShotGood Tryz.prog 4 q1539 := shown base (l := []) trivial c1539
theorem s1540 : ShotGood Tryz.prog 4 q1540 := shown base (l := []) trivial c1540
theorem s1542 : ShotGood Tryz.prog 4 q1542 := shown base (l := [q1540, q1539]) ⟨s1540, s1539, trivial⟩ c1542
theorem s1550 : ShotGood Tryz.prog 4 q1550 := shown base (l := [q438]) ⟨s438, trivial⟩ c1550
theorem s1552 : ShotGood Tryz.prog 4 q1552 := shown base (l := []) trivial c1552
theorem s1557 : ShotGood Tryz.prog 4 q1557 := shown base (l := []) trivial c1557
theorem s1559 : ShotGood Tryz.prog 4 q1559 := shown base (l := [q1557, q1552, q1550, q1542, q1537, q1534, q1521, q1518]) ⟨s1557, s1552, s1550, s1542, s1537, s1534, s1521, s1518, trivial⟩ c1559
theorem s1561 : ShotGood Tryz.prog 4 q1561 := shown base (l := [q1559, q1514, q1497]) ⟨s1559, s1514, s1497, trivial⟩ c1561
theorem s1568 : ShotGood Tryz.prog 4 q1568 := shown base (l := []) trivial c1568
theorem s1580 : ShotGood Tryz.prog 4 q1580 := shown base (l := []) trivial c1580
theorem s1589 : ShotGood Tryz.prog 4 q1589 := shown base (l := []) trivial c1589
theorem s1593 : ShotGood Tryz.prog 4 q1593 := shown base (l := []) trivial c1593
theorem s1594 : ShotGood Tryz.prog 4 q1594 := shown base (l := [q1593, q1589, q1580, q1568, q1561, q1468, q870, q1418, q1407, q1351, q1231, q1207, q1190, q1149, q1108, q951, q1101, q1069]) ⟨s1593, s1589, s1580, s1568, s1561, s1468, s870, s1418, s1407, s1351, s1231, s1207, s1190, s1149, s1108, s951, s1101, s1069, trivial⟩ c1594
theorem s1595 : ShotGood Tryz.prog 4 q1595 := shown base (l := [q1594, q1060, q1040, q994, q870, q951, q920, q909, q904, q823, q627, q530, q310, q187, q87, q25]) ⟨s1594, s1060, s1040, s994, s870, s951, s920, s909, s904, s823, s627, s530, s310, s187, s87, s25, trivial⟩ c1595
end Go.Proofs.Small
