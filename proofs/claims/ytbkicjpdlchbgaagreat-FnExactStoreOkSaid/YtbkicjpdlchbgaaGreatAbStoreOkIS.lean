import Derived.Test.YtbkicjpdlchbgaaGreatAbS2
import Derived.Test.YtbkicjpdlchbgaaGreatProg
namespace Go.Proofs.YtbkicjpdlchbgaaGreat.Ab

section
open Go Go.Shelf Go.Proofs
set_option linter.unusedVariables false
set_option linter.unusedSimpArgs false
set_option linter.unnecessarySimpa false
def p27:Go.Shelf.Ren:=⟨fun | 190=>325 | 125=>399 | 258=>398 | 128=>456 | 129=>457 | 302=>447 | 303=>448 | 304=>449 | 305=>450 | 306=>451 | 307=>452 | 308=>453 | 309=>454 | 310=>455 | 333=>472 | 329=>473 | 330=>474 | 334=>475 | 335=>476 | 336=>433 | 344=>479 | n=>n,fun | 31=>30 | 9=>9 | 3=>3 | 46=>277 | 0=>0 | 51=>275 | 53=>375 | 4=>4 | 183=>366 | 182=>365 | 131=>371 | 5=>5 | 218=>383 | 222=>387 | 228=>390 | 229=>391 | n=>n,fun | n=>n⟩
theorem o0r:Go.Proofs.Lays.n190 Tryz.prog p27:= {
 mixed:=by kernel_rfl
 f125:=Tryz.func399.trans (congrArg some (by kernel_rfl))
 f128:=Tryz.func456.trans (congrArg some (by kernel_rfl))
 f129:=Tryz.func457.trans (congrArg some (by kernel_rfl))
 f190:=Tryz.func325.trans (congrArg some (by kernel_rfl))
 f258:=Tryz.func398.trans (congrArg some (by kernel_rfl))
 f302:=Tryz.func447.trans (congrArg some (by kernel_rfl))
 f303:=Tryz.func448.trans (congrArg some (by kernel_rfl))
 f304:=Tryz.func449.trans (congrArg some (by kernel_rfl))
 f305:=Tryz.func450.trans (congrArg some (by kernel_rfl))
 f306:=Tryz.func451.trans (congrArg some (by kernel_rfl))
 f307:=Tryz.func452.trans (congrArg some (by kernel_rfl))
 f308:=Tryz.func453.trans (congrArg some (by kernel_rfl))
 f309:=Tryz.func454.trans (congrArg some (by kernel_rfl))
 f310:=Tryz.func455.trans (congrArg some (by kernel_rfl))
 f329:=Tryz.func473.trans (congrArg some (by kernel_rfl))
 f330:=Tryz.func474.trans (congrArg some (by kernel_rfl))
 f333:=Tryz.func472.trans (congrArg some (by kernel_rfl))
 f334:=Tryz.func475.trans (congrArg some (by kernel_rfl))
 f335:=Tryz.func476.trans (congrArg some (by kernel_rfl))
 f336:=Tryz.func433.trans (congrArg some (by kernel_rfl))
 f344:=Tryz.func479.trans (congrArg some (by kernel_rfl))
 t0:=Tryz.underlying0
 a0:=Tryz.isAgg0
 z0:=Tryz.sizeOf0
 v0:=Tryz.zeroValue0
 t3:=Tryz.underlying3
 a3:=Tryz.isAgg3
 z3:=Tryz.sizeOf3
 v3:=Tryz.zeroValue3
 t4:=Tryz.underlying4
 a4:=Tryz.isAgg4
 z4:=Tryz.sizeOf4
 v4:=Tryz.zeroValue4
 t5:=Tryz.underlying5
 a5:=Tryz.isAgg5
 z5:=Tryz.sizeOf5
 v5:=Tryz.zeroValue5
 t9:=Tryz.underlying9
 a9:=Tryz.isAgg9
 z9:=Tryz.sizeOf9
 v9:=Tryz.zeroValue9
 t31:=Tryz.underlying30
 a31:=Tryz.isAgg30
 z31:=Tryz.sizeOf30
 v31:=Tryz.zeroValue30
 t46:=Tryz.underlying277
 a46:=Tryz.isAgg277
 z46:=Tryz.sizeOf277
 v46:=Tryz.zeroValue277
 t51:=Tryz.underlying275
 a51:=Tryz.isAgg275
 z51:=Tryz.sizeOf275
 v51:=Tryz.zeroValue275
 t53:=Tryz.underlying375
 a53:=Tryz.isAgg375
 z53:=Tryz.sizeOf375
 v53:=Tryz.zeroValue375
 t131:=Tryz.underlying371
 a131:=Tryz.isAgg371
 z131:=Tryz.sizeOf371
 v131:=Tryz.zeroValue371
 t182:=Tryz.underlying365
 a182:=Tryz.isAgg365
 z182:=Tryz.sizeOf365
 v182:=Tryz.zeroValue365
 t183:=Tryz.underlying366
 a183:=Tryz.isAgg366
 z183:=Tryz.sizeOf366
 v183:=Tryz.zeroValue366
 t218:=Tryz.underlying383
 a218:=Tryz.isAgg383
 z218:=Tryz.sizeOf383
 v218:=Tryz.zeroValue383
 t222:=Tryz.underlying387
 a222:=Tryz.isAgg387
 z222:=Tryz.sizeOf387
 v222:=Tryz.zeroValue387
 t228:=Tryz.underlying390
 a228:=Tryz.isAgg390
 z228:=Tryz.sizeOf390
 v228:=Tryz.zeroValue390
 t229:=Tryz.underlying391
 a229:=Tryz.isAgg391
 z229:=Tryz.sizeOf391
 v229:=Tryz.zeroValue391}
def p28:Go.Shelf.Ren:=⟨fun | 194=>326 | n=>n,fun | 31=>30 | 9=>9 | 3=>3 | 4=>4 | 0=>0 | n=>n,fun | n=>n⟩
theorem o0s:Go.Proofs.Lays.n194 Tryz.prog p28:= {
 mixed:=by kernel_rfl
 f194:=Tryz.func326.trans (congrArg some (by kernel_rfl))
 t0:=Tryz.underlying0
 a0:=Tryz.isAgg0
 z0:=Tryz.sizeOf0
 v0:=Tryz.zeroValue0
 t3:=Tryz.underlying3
 a3:=Tryz.isAgg3
 z3:=Tryz.sizeOf3
 v3:=Tryz.zeroValue3
 t4:=Tryz.underlying4
 a4:=Tryz.isAgg4
 z4:=Tryz.sizeOf4
 v4:=Tryz.zeroValue4
 t9:=Tryz.underlying9
 a9:=Tryz.isAgg9
 z9:=Tryz.sizeOf9
 v9:=Tryz.zeroValue9
 t31:=Tryz.underlying30
 a31:=Tryz.isAgg30
 z31:=Tryz.sizeOf30
 v31:=Tryz.zeroValue30}
end
end Go.Proofs.YtbkicjpdlchbgaaGreat.Ab
