import Derived.Test.YtkdpclfhapphhaaGreatAbS2
import Derived.Test.YtkdpclfhapphhaaGreatProg
namespace Go.Proofs.YtkdpclfhapphhaaGreat.Ab

section
open Go Go.Shelf Go.Proofs
set_option linter.unusedVariables false
set_option linter.unusedSimpArgs false
set_option linter.unnecessarySimpa false
def o5u:Go.Shelf.Ren:=⟨fun | 190=>312 | 125=>384 | 258=>383 | 128=>424 | 129=>425 | 302=>415 | 303=>416 | 304=>417 | 305=>418 | 306=>419 | 307=>420 | 308=>421 | 309=>422 | 310=>423 | 333=>436 | 329=>437 | 330=>438 | 334=>439 | 335=>440 | 336=>380 | 344=>441 | n=>n,fun | 31=>30 | 9=>9 | 3=>3 | 46=>244 | 0=>0 | 51=>242 | 53=>366 | 4=>4 | 183=>357 | 182=>356 | 131=>362 | 5=>5 | 218=>371 | 222=>375 | 228=>377 | 229=>378 | n=>n,fun | n=>n⟩
theorem j58:Go.Proofs.Lays.n190 Tryz.prog o5u:= {
 mixed:=by kernel_rfl
 f125:=Tryz.func384.trans (Dj some (by kernel_rfl))
 f128:=Tryz.func424.trans (Dj some (by kernel_rfl))
 f129:=Tryz.func425.trans (Dj some (by kernel_rfl))
 f190:=Tryz.func312.trans (Dj some (by kernel_rfl))
 f258:=Tryz.func383.trans (Dj some (by kernel_rfl))
 f302:=Tryz.func415.trans (Dj some (by kernel_rfl))
 f303:=Tryz.func416.trans (Dj some (by kernel_rfl))
 f304:=Tryz.func417.trans (Dj some (by kernel_rfl))
 f305:=Tryz.func418.trans (Dj some (by kernel_rfl))
 f306:=Tryz.func419.trans (Dj some (by kernel_rfl))
 f307:=Tryz.func420.trans (Dj some (by kernel_rfl))
 f308:=Tryz.func421.trans (Dj some (by kernel_rfl))
 f309:=Tryz.func422.trans (Dj some (by kernel_rfl))
 f310:=Tryz.func423.trans (Dj some (by kernel_rfl))
 f329:=Tryz.func437.trans (Dj some (by kernel_rfl))
 f330:=Tryz.func438.trans (Dj some (by kernel_rfl))
 f333:=Tryz.func436.trans (Dj some (by kernel_rfl))
 f334:=Tryz.func439.trans (Dj some (by kernel_rfl))
 f335:=Tryz.func440.trans (Dj some (by kernel_rfl))
 f336:=Tryz.func380.trans (Dj some (by kernel_rfl))
 f344:=Tryz.func441.trans (Dj some (by kernel_rfl))
 t0:=Tryz.underlying0
 a0:=Tryz.isAgg0
 z0:=Tryz.sizeOf0
 v0:=Tryz.zeroValue0
 t3:=Tryz.underlying3
 a3:=Tryz.isAgg3
 z3:=Tryz.sizeOf3
 v3:=Tryz.zeroValue3
 t4:=Tryz.underlying4
 a4:=Tryz.isAgg4
 z4:=Tryz.sizeOf4
 v4:=Tryz.zeroValue4
 t5:=Tryz.underlying5
 a5:=Tryz.isAgg5
 z5:=Tryz.sizeOf5
 v5:=Tryz.zeroValue5
 t9:=Tryz.underlying9
 a9:=Tryz.isAgg9
 z9:=Tryz.sizeOf9
 v9:=Tryz.zeroValue9
 t31:=Tryz.underlying30
 a31:=Tryz.isAgg30
 z31:=Tryz.sizeOf30
 v31:=Tryz.zeroValue30
 t46:=Tryz.underlying244
 a46:=Tryz.isAgg244
 z46:=Tryz.sizeOf244
 v46:=Tryz.zeroValue244
 t51:=Tryz.underlying242
 a51:=Tryz.isAgg242
 z51:=Tryz.sizeOf242
 v51:=Tryz.zeroValue242
 t53:=Tryz.underlying366
 a53:=Tryz.isAgg366
 z53:=Tryz.sizeOf366
 v53:=Tryz.zeroValue366
 t131:=Tryz.underlying362
 a131:=Tryz.isAgg362
 z131:=Tryz.sizeOf362
 v131:=Tryz.zeroValue362
 t182:=Tryz.underlying356
 a182:=Tryz.isAgg356
 z182:=Tryz.sizeOf356
 v182:=Tryz.zeroValue356
 t183:=Tryz.underlying357
 a183:=Tryz.isAgg357
 z183:=Tryz.sizeOf357
 v183:=Tryz.zeroValue357
 t218:=Tryz.underlying371
 a218:=Tryz.isAgg371
 z218:=Tryz.sizeOf371
 v218:=Tryz.zeroValue371
 t222:=Tryz.underlying375
 a222:=Tryz.isAgg375
 z222:=Tryz.sizeOf375
 v222:=Tryz.zeroValue375
 t228:=Tryz.underlying377
 a228:=Tryz.isAgg377
 z228:=Tryz.sizeOf377
 v228:=Tryz.zeroValue377
 t229:=Tryz.underlying378
 a229:=Tryz.isAgg378
 z229:=Tryz.sizeOf378
 v229:=Tryz.zeroValue378}
def o5v:Go.Shelf.Ren:=⟨fun | 194=>313 | n=>n,fun | 31=>30 | 9=>9 | 3=>3 | 4=>4 | 0=>0 | n=>n,fun | n=>n⟩
theorem j59:Go.Proofs.Lays.n194 Tryz.prog o5v:= {
 mixed:=by kernel_rfl
 f194:=Tryz.func313.trans (Dj some (by kernel_rfl))
 t0:=Tryz.underlying0
 a0:=Tryz.isAgg0
 z0:=Tryz.sizeOf0
 v0:=Tryz.zeroValue0
 t3:=Tryz.underlying3
 a3:=Tryz.isAgg3
 z3:=Tryz.sizeOf3
 v3:=Tryz.zeroValue3
 t4:=Tryz.underlying4
 a4:=Tryz.isAgg4
 z4:=Tryz.sizeOf4
 v4:=Tryz.zeroValue4
 t9:=Tryz.underlying9
 a9:=Tryz.isAgg9
 z9:=Tryz.sizeOf9
 v9:=Tryz.zeroValue9
 t31:=Tryz.underlying30
 a31:=Tryz.isAgg30
 z31:=Tryz.sizeOf30
 v31:=Tryz.zeroValue30}
end
end Go.Proofs.YtkdpclfhapphhaaGreat.Ab
