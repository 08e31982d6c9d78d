/- The law FnStores returns true for every input,and its inputs read behind the call as they read q86. Conditions:none. -/
import Derived.Test.YtkdpclfhapphhaaGreatAbStoresT5
import Derived.Test.YtkdpclfhapphhaaGreatAbStoresIS
import Derived.Test.YtkdpclfhapphhaaGreatAbStoresSI
import Derived.Test.YtkdpclfhapphhaaGreatRows
import Derived.WalkKit
import Derived.ProofKit
import Derived.OpenShut
import Derived.ChangeOld
import Derived.SizedLaws
import Derived.KernelRfl
namespace Go.Proofs.YtkdpclfhapphhaaGreat.Ab
open Go Go.ChangeShapes Go.WideShapes Go.ChangeAt Go.RowKit Go.Proofs.YtkdpclfhapphhaaGreat
set_option linter.unusedVariables false
set_option linter.unusedSimpArgs false
set_option linter.unnecessarySimpa false
set_option linter.unusedVariables false
set_option maxRecDepth 100000
theorem own3:ownKnob Tryz.prog.godebug=none:=by kernel_rfl
theorem laidOut3:laidOutB Tryz.prog=true:=by kernel_rfl
theorem tabsOk:y7i Tryz.prog d06=true:=by kernel_rfl
theorem mixedOk:Tryz.prog.follows .mixedOrders=true:=by kernel_rfl
theorem namesOk:(Tryz.prog.funcs.toList.all fun fn=> !(fn.name== "runtime.NumGoroutine"))=true:=by kernel_rfl
theorem tyOk:TyOk Tryz.prog A:=y8o (S:=j2u) tabsOk mixedOk
theorem primsOk:y5b Tryz.prog A:=by
 intro f F x y hF h
 change o9o f=some F at hF
 unfold o9o at hF
 split at hF
 ·cases hF
  exact⟨⟨Tryz.f200,Tryz.func200,by kernel_rfl,by kernel_rfl⟩,y6e j1r h⟩
 ·cases hF
  exact⟨⟨Tryz.f312,Tryz.func312,by kernel_rfl,by kernel_rfl⟩,y7o j3q h⟩
 ·cases hF
  exact⟨⟨Tryz.f313,Tryz.func313,by kernel_rfl,by kernel_rfl⟩,y5c j3r h⟩
 ·cases hF
theorem answers {f:Nat} {x:(A.sig f).ins.den} {y:(A.sig f).out.den} (h:(y5x Tryz.prog A).call f x=some y):z3i Tryz.prog A.gd (A.fn f) (A.sig f) x y:=by
 obtain⟨k,hk⟩:=y7y h
 exact(y6y tyOk primsOk (y7z namesOk) k f x y hk).2
theorem lifted (os:Os) (started:os.Started) (H:Type) (enc:TypeId×Value→H):
 ReturnsInHanded {} Tryz.checked os 3 .any (Rows.fnStoresSpec.pre6 enc Tryz.prog Tryz.f3 Rows.fnStoresRow.domain false) (Rows.fnStoresSpec.post enc Tryz.prog Tryz.f3 false true false false):=by
 refine returnsInHanded_of_change_sized (C:=Tryz.checked) own3 started (by kernel_rfl) Tryz.func3
  (ChangeSpec.witness6 (enc:=enc) (C:=Tryz.checked) false ⟨#[],#[.slice none 0 0], []⟩ 8 (by kernel_rfl) (by kernel_rfl) (by kernel_rfl) (by kernel_rfl)) ?_
 refine y4s (C:=Tryz.checked) (ps:= [(false,(.sl (.int .u8)))]) (rt:=4) laidOut3 (by kernel_rfl) (by kernel_rfl) rfl Tryz.underlying4 rfl (fun ds h=> ?_) (fun x hx=> ?_)
 ·match ds,h with
  | [d0],_=>rfl
 ·exact answers (o2z x hx)
theorem ov1:Tryz.pinned.checked.prog.funcNamed Rows.fnStoresRow.func=some 3:=by kernel_rfl
set_option maxHeartbeats 8000000 in
theorem ov2:joinedFacts Tryz.pinned.checked.prog 3 Tryz.f3 Rows.fnStoresSpec Rows.fnStoresRow=true:=by
 unfold joinedFacts
 iterate 31 (rewrite[Bool.and_eq_true];refine And.intro ?_ ?_)
 all_goals (as_aux_lemma=>kernel_rfl)
theorem ov3:Tryz.f3.isInstance Tryz.pinned.checked.prog Rows.fnStoresRow.origin Rows.fnStoresRow.targs:=(of_decide_eq_true (by kernel_rfl))
theorem ov4:Tryz.f3.isWrapper Tryz.pinned.checked.prog Rows.fnStoresRow.wrapper Rows.fnStoresRow.mainSum:=(by unfold Func.isWrapper;first | (rw[if_pos (by decide+kernel)];kernel_rfl) | (rw[if_neg (by decide+kernel)];exact⟨rfl,rfl⟩))
theorem over:Rows.fnStoresRow.holds Tryz.pinned (OpenSpec.ofChange Rows.fnStoresSpec):=
 OpenClaim.holds_of_wide 3 Tryz.f3 rfl rfl rfl rfl rfl rfl rfl ⟨rfl,rfl,rfl,rfl,rfl⟩ rfl rfl rfl rfl rfl ov1 Tryz.func3 ov2 ov3 ov4
  (fun os started H enc _=>lifted os started H enc)
theorem proved:Rows.FnStoresSaid:=over
end Go.Proofs.YtkdpclfhapphhaaGreat.Ab
namespace Go.Proofs.YtkdpclfhapphhaaGreat
/-- The row,under a short name,for the claim. -/
theorem fnStores_holds:Rows.FnStoresSaid:=Ab.proved
#print axioms fnStores_holds
end Go.Proofs.YtkdpclfhapphhaaGreat
