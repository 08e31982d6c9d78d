import Derived.Test.YtkphhjdbdnoekaaAbS2
import Derived.Test.YtkphhjdbdnoekaaAbS7
import Derived.Test.YtkphhjdbdnoekaaProg
namespace Go.Proofs.Ytkphhjdbdnoekaa.Ab

section
open Go Go.Shelf Go.Proofs
set_option linter.unusedVariables false
set_option linter.unusedSimpArgs false
set_option linter.unnecessarySimpa false
def u7j:Go.Shelf.Ren:=⟨fun | 105=>83 | 212=>89 | 99=>90 | 165=>91 | 166=>92 | 170=>93 | 169=>94 | 263=>96 | 264=>97 | 206=>98 | 240=>99 | 241=>100 | 276=>101 | 277=>102 | n=>n,fun | 9=>9 | 3=>3 | 4=>4 | 20=>20 | 0=>0 | 46=>117 | 109=>118 | 5=>5 | 72=>123 | 76=>127 | 51=>132 | 146=>133 | 53=>135 | 148=>136 | 70=>121 | 37=>84 | 75=>126 | 127=>138 | 164=>139 | 80=>109 | n=>n,fun | n=>n⟩
theorem u98:Go.Proofs.Lays.n105 Try.prog u7j:= {
 mixed:=by kernel_rfl
 f99:=Try.func90.trans (congrArg some (by kernel_rfl))
 f105:=Try.func83.trans (congrArg some (by kernel_rfl))
 f165:=Try.func91.trans (congrArg some (by kernel_rfl))
 f166:=Try.func92.trans (congrArg some (by kernel_rfl))
 f169:=Try.func94.trans (congrArg some (by kernel_rfl))
 f170:=Try.func93.trans (congrArg some (by kernel_rfl))
 f206:=Try.func98.trans (congrArg some (by kernel_rfl))
 f212:=Try.func89.trans (congrArg some (by kernel_rfl))
 f240:=Try.func99.trans (congrArg some (by kernel_rfl))
 f241:=Try.func100.trans (congrArg some (by kernel_rfl))
 f263:=Try.func96.trans (congrArg some (by kernel_rfl))
 f264:=Try.func97.trans (congrArg some (by kernel_rfl))
 f276:=Try.func101.trans (congrArg some (by kernel_rfl))
 f277:=Try.func102.trans (congrArg some (by kernel_rfl))
 t0:=Try.underlying0
 a0:=Try.isAgg0
 z0:=Try.sizeOf0
 v0:=Try.zeroValue0
 t3:=Try.underlying3
 a3:=Try.isAgg3
 z3:=Try.sizeOf3
 v3:=Try.zeroValue3
 t4:=Try.underlying4
 a4:=Try.isAgg4
 z4:=Try.sizeOf4
 v4:=Try.zeroValue4
 t5:=Try.underlying5
 a5:=Try.isAgg5
 z5:=Try.sizeOf5
 v5:=Try.zeroValue5
 t9:=Try.underlying9
 a9:=Try.isAgg9
 z9:=Try.sizeOf9
 v9:=Try.zeroValue9
 t20:=Try.underlying20
 a20:=Try.isAgg20
 z20:=Try.sizeOf20
 v20:=Try.zeroValue20
 t37:=Try.underlying84
 a37:=Try.isAgg84
 z37:=Try.sizeOf84
 v37:=Try.zeroValue84
 t46:=Try.underlying117
 a46:=Try.isAgg117
 z46:=Try.sizeOf117
 v46:=Try.zeroValue117
 t51:=Try.underlying132
 a51:=Try.isAgg132
 z51:=Try.sizeOf132
 v51:=Try.zeroValue132
 t53:=Try.underlying135
 a53:=Try.isAgg135
 z53:=Try.sizeOf135
 v53:=Try.zeroValue135
 t70:=Try.underlying121
 a70:=Try.isAgg121
 z70:=Try.sizeOf121
 v70:=Try.zeroValue121
 t72:=Try.underlying123
 a72:=Try.isAgg123
 z72:=Try.sizeOf123
 v72:=Try.zeroValue123
 t75:=Try.underlying126
 a75:=Try.isAgg126
 z75:=Try.sizeOf126
 v75:=Try.zeroValue126
 t76:=Try.underlying127
 a76:=Try.isAgg127
 z76:=Try.sizeOf127
 v76:=Try.zeroValue127
 t109:=Try.underlying118
 a109:=Try.isAgg118
 z109:=Try.sizeOf118
 v109:=Try.zeroValue118
 t127:=Try.underlying138
 a127:=Try.isAgg138
 z127:=Try.sizeOf138
 v127:=Try.zeroValue138
 t146:=Try.underlying133
 a146:=Try.isAgg133
 z146:=Try.sizeOf133
 v146:=Try.zeroValue133
 t148:=Try.underlying136
 a148:=Try.isAgg136
 z148:=Try.sizeOf136
 v148:=Try.zeroValue136
 t164:=Try.underlying139
 a164:=Try.isAgg139
 z164:=Try.sizeOf139
 v164:=Try.zeroValue139}
theorem u59:Builder.Extra Try.prog u7j:= {
 sizeBuilder:=by kernel_rfl
 liesBuilder:=by kernel_rfl
 t5:=Try.underlying5
 a5:=Try.isAgg5
 z5:=Try.sizeOf5
 v5:=Try.zeroValue5
 infoByte:=by kernel_rfl
 cellsByte:=by kernel_rfl
 sizeByte:=by kernel_rfl
 neB5:=by decide}
end
end Go.Proofs.Ytkphhjdbdnoekaa.Ab
