/- The law FnLivesSerial returns true for every input,and its inputs read behind the call as they read t1w. Conditions:none. -/
import Derived.Test.YtkdpclfhapphhaaGreatAbLivesSerialT5
import Derived.Test.YtkdpclfhapphhaaGreatAbLivesSerialIS
import Derived.Test.YtkdpclfhapphhaaGreatAbLivesSerialSI
import Derived.Test.YtkdpclfhapphhaaGreatRows
import Derived.WalkKit
import Derived.ProofKit
import Derived.OpenShut
import Derived.ChangeOld
import Derived.SizedLaws
import Derived.KernelRfl
namespace Go.Proofs.YtkdpclfhapphhaaGreat.Ab
open Go Go.ChangeShapes Go.WideShapes Go.ChangeAt Go.RowKit Go.Proofs.YtkdpclfhapphhaaGreat
set_option linter.unusedVariables false
set_option linter.unusedSimpArgs false
set_option linter.unnecessarySimpa false
set_option linter.unusedVariables false
set_option maxRecDepth 100000
theorem own3:ownKnob Tryz.prog.godebug=none:=by kernel_rfl
theorem laidOut3:laidOutB Tryz.prog=true:=by kernel_rfl
theorem tabsOk:y7i Tryz.prog d4p=true:=by kernel_rfl
theorem mixedOk:Tryz.prog.follows .mixedOrders=true:=by kernel_rfl
theorem namesOk:(Tryz.prog.funcs.toList.all fun fn=> !(fn.name== "runtime.NumGoroutine"))=true:=by kernel_rfl
theorem tyOk:TyOk Tryz.prog A:=y8o (S:=j42) tabsOk mixedOk
theorem primsOk:y5b Tryz.prog A:=by
 intro f F x y hF h
 change j1i f=some F at hF
 unfold j1i at hF
 split at hF
 ·cases hF
  exact⟨⟨Tryz.f200,Tryz.func200,by kernel_rfl,by kernel_rfl⟩,y6e j37 h⟩
 ·cases hF
  exact⟨⟨Tryz.f312,Tryz.func312,by kernel_rfl,by kernel_rfl⟩,y7o j58 h⟩
 ·cases hF
  exact⟨⟨Tryz.f313,Tryz.func313,by kernel_rfl,by kernel_rfl⟩,y5c j59 h⟩
 ·cases hF
theorem answers {f:Nat} {x:(A.sig f).ins.den} {y:(A.sig f).out.den} (h:(y5x Tryz.prog A).call f x=some y):z3i Tryz.prog A.gd (A.fn f) (A.sig f) x y:=by
 obtain⟨k,hk⟩:=y7y h
 exact(y6y tyOk primsOk (y7z namesOk) k f x y hk).2
theorem lifted (os:Os) (started:os.Started) (H:Type) (enc:TypeId×Value→H):
 ReturnsInHanded {} Tryz.checked os 4 .any (Rows.fnLivesSerialSpec.pre6 enc Tryz.prog Tryz.f4 Rows.fnLivesSerialRow.domain false) (Rows.fnLivesSerialSpec.post enc Tryz.prog Tryz.f4 false true false false):=by
 refine returnsInHanded_of_change_sized (C:=Tryz.checked) own3 started (by kernel_rfl) Tryz.func4
  (ChangeSpec.witness6 (enc:=enc) (C:=Tryz.checked) false ⟨#[],#[.slice none 0 0], []⟩ 8 (by kernel_rfl) (by kernel_rfl) (by kernel_rfl) (by kernel_rfl)) ?_
 refine y4s (C:=Tryz.checked) (ps:= [(false,(.sl (.int .u8)))]) (rt:=4) laidOut3 (by kernel_rfl) (by kernel_rfl) rfl Tryz.underlying4 rfl (fun ds h=> ?_) (fun x hx=> ?_)
 ·match ds,h with
  | [d0],_=>rfl
 ·exact answers (q8x x hx)
theorem ov1:Tryz.pinned.checked.prog.funcNamed Rows.fnLivesSerialRow.func=some 4:=by kernel_rfl
set_option maxHeartbeats 8000000 in
theorem ov2:joinedFacts Tryz.pinned.checked.prog 4 Tryz.f4 Rows.fnLivesSerialSpec Rows.fnLivesSerialRow=true:=by
 unfold joinedFacts
 iterate 31 (rewrite[Bool.and_eq_true];refine And.intro ?_ ?_)
 all_goals (as_aux_lemma=>kernel_rfl)
theorem ov3:Tryz.f4.isInstance Tryz.pinned.checked.prog Rows.fnLivesSerialRow.origin Rows.fnLivesSerialRow.targs:=(of_decide_eq_true (by kernel_rfl))
theorem ov4:Tryz.f4.isWrapper Tryz.pinned.checked.prog Rows.fnLivesSerialRow.wrapper Rows.fnLivesSerialRow.mainSum:=(by unfold Func.isWrapper;first | (rw[if_pos (by decide+kernel)];kernel_rfl) | (rw[if_neg (by decide+kernel)];exact⟨rfl,rfl⟩))
theorem over:Rows.fnLivesSerialRow.holds Tryz.pinned (OpenSpec.ofChange Rows.fnLivesSerialSpec):=
 OpenClaim.holds_of_wide 4 Tryz.f4 rfl rfl rfl rfl rfl rfl rfl ⟨rfl,rfl,rfl,rfl,rfl⟩ rfl rfl rfl rfl rfl ov1 Tryz.func4 ov2 ov3 ov4
  (fun os started H enc _=>lifted os started H enc)
theorem proved:Rows.FnLivesSerialSaid:=over
end Go.Proofs.YtkdpclfhapphhaaGreat.Ab
namespace Go.Proofs.YtkdpclfhapphhaaGreat
/-- The row,under a short name,for the claim. -/
theorem fnLivesSerial_holds:Rows.FnLivesSerialSaid:=Ab.proved
#print axioms fnLivesSerial_holds
end Go.Proofs.YtkdpclfhapphhaaGreat
