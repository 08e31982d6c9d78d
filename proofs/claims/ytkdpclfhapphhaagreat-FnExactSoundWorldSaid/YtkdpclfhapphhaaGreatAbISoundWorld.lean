/- The law FnExactSoundWorld returns true for every input,and its inputs read behind the call as they read r1k. Conditions:none. -/
import Derived.Test.YtkdpclfhapphhaaGreatAbSoundWorldT4
import Derived.Test.YtkdpclfhapphhaaGreatAbSoundWorldIS
import Derived.Test.YtkdpclfhapphhaaGreatAbSoundWorldSI
import Derived.Test.YtkdpclfhapphhaaGreatRows
import Derived.WalkKit
import Derived.ProofKit
import Derived.OpenShut
import Derived.ChangeOld
import Derived.SizedLaws
import Derived.KernelRfl
namespace Go.Proofs.YtkdpclfhapphhaaGreat.Ab
open Go Go.ChangeShapes Go.WideShapes Go.ChangeAt Go.RowKit Go.Proofs.YtkdpclfhapphhaaGreat
set_option linter.unusedVariables false
set_option linter.unusedSimpArgs false
set_option linter.unnecessarySimpa false
set_option linter.unusedVariables false
set_option maxRecDepth 100000
theorem own3:ownKnob Tryz.prog.godebug=none:=by kernel_rfl
theorem laidOut3:laidOutB Tryz.prog=true:=by kernel_rfl
theorem tabsOk:y7i Tryz.prog j5e=true:=by kernel_rfl
theorem mixedOk:Tryz.prog.follows .mixedOrders=true:=by kernel_rfl
theorem namesOk:(Tryz.prog.funcs.toList.all fun fn=> !(fn.name== "runtime.NumGoroutine"))=true:=by kernel_rfl
theorem tyOk:TyOk Tryz.prog A:=y8o (S:=o66) tabsOk mixedOk
theorem primsOk:y5b Tryz.prog A:=by
 intro f F x y hF h
 change o4j f=some F at hF
 unfold o4j at hF
 split at hF
 ·cases hF
  exact⟨⟨Tryz.f200,Tryz.func200,by kernel_rfl,by kernel_rfl⟩,y6e o6a h⟩
 ·cases hF
  exact⟨⟨Tryz.f312,Tryz.func312,by kernel_rfl,by kernel_rfl⟩,y7o o71 h⟩
 ·cases hF
  exact⟨⟨Tryz.f313,Tryz.func313,by kernel_rfl,by kernel_rfl⟩,y5c o72 h⟩
 ·cases hF
theorem answers {f:Nat} {x:(A.sig f).ins.den} {y:(A.sig f).out.den} (h:(y5x Tryz.prog A).call f x=some y):z3i Tryz.prog A.gd (A.fn f) (A.sig f) x y:=by
 obtain⟨k,hk⟩:=y7y h
 exact(y6y tyOk primsOk (y7z namesOk) k f x y hk).2
theorem lifted (os:Os) (started:os.Started) (H:Type) (enc:TypeId×Value→H):
 ReturnsInHanded {} Tryz.checked os 6 .any (Rows.fnExactSoundWorldSpec.pre6 enc Tryz.prog Tryz.f6 Rows.fnExactSoundWorldRow.domain false) (Rows.fnExactSoundWorldSpec.post enc Tryz.prog Tryz.f6 false true false false):=by
 refine returnsInHanded_of_change_sized (C:=Tryz.checked) own3 started (by kernel_rfl) Tryz.func6
  (ChangeSpec.witness6 (enc:=enc) (C:=Tryz.checked) false ⟨#[],#[.agg #[.slice none 0 0, .slice none 0 0, .slice none 0 0, .int .i64 0, .int .i64 0, .slice none 0 0, .slice none 0 0, .slice none 0 0, .slice none 0 0, .slice none 0 0, .slice none 0 0]], []⟩ 8 (by kernel_rfl) (by kernel_rfl) (by kernel_rfl) (by kernel_rfl)) ?_
 refine y4s (C:=Tryz.checked) (ps:= [(true,(.pair (.pair (.pair (.pair (.sl (.pair .str (.pair .str (.pair .bool (.int .i64))))) (.pair (.sl (.pair (.int .i64) (.pair (.int .i64) (.pair (.int .i64) (.pair (.int .i64) (.pair (.sl (.pair .str .str)) (.pair (.sl (.pair .str (.pair .str .bool))) (.pair .bool .str)))))))) (.pair (.sl (.pair (.int .i64) (.pair (.int .i64) (.pair (.int .i64) (.pair (.int .i64) (.pair (.sl (.pair .str .str)) (.pair (.sl (.pair .str (.pair .str .bool))) (.pair .bool .str)))))))) (.pair (.int .i64) (.int .i64))))) (.sl (.pair (.int .i64) (.pair (.int .i64) (.pair (.int .i64) (.pair (.int .i64) (.pair (.sl (.pair .str .str)) (.pair (.sl (.pair .str (.pair .str .bool))) (.pair .bool .str))))))))) (.pair (.sl .str) (.sl (.pair (.int .i64) .str)))) (.pair (.sl (.pair (.int .i64) (.pair (.int .i64) (.pair (.int .i64) (.pair (.int .i64) (.pair (.sl (.pair .str .str)) (.pair (.sl (.pair .str (.pair .str .bool))) (.pair .bool .str)))))))) (.pair (.sl (.int .i64)) (.sl .str)))))]) (rt:=4) laidOut3 (by kernel_rfl) (by kernel_rfl) rfl Tryz.underlying4 rfl (fun ds h=> ?_) (fun x hx=> ?_)
 ·match ds,h with
  | [d0],_=>rfl
 ·obtain⟨⟨⟨⟨a1,⟨a2,⟨a3,⟨a4,a5⟩⟩⟩⟩,a6⟩,⟨a7,a8⟩⟩,⟨a9,⟨a10,a11⟩⟩⟩:=x
  exact answers (r6e ⟨⟨⟨⟨a1,⟨a2,⟨a3,⟨a4,a5⟩⟩⟩⟩,a6⟩,⟨a7,a8⟩⟩,⟨a9,⟨a10,a11⟩⟩⟩ hx)
theorem ov1:Tryz.pinned.checked.prog.funcNamed Rows.fnExactSoundWorldRow.func=some 6:=by kernel_rfl
set_option maxHeartbeats 8000000 in
theorem ov2:joinedFacts Tryz.pinned.checked.prog 6 Tryz.f6 Rows.fnExactSoundWorldSpec Rows.fnExactSoundWorldRow=true:=by
 unfold joinedFacts
 iterate 31 (rewrite[Bool.and_eq_true];refine And.intro ?_ ?_)
 all_goals (as_aux_lemma=>kernel_rfl)
theorem ov3:Tryz.f6.isInstance Tryz.pinned.checked.prog Rows.fnExactSoundWorldRow.origin Rows.fnExactSoundWorldRow.targs:=(of_decide_eq_true (by kernel_rfl))
theorem ov4:Tryz.f6.isWrapper Tryz.pinned.checked.prog Rows.fnExactSoundWorldRow.wrapper Rows.fnExactSoundWorldRow.mainSum:=(by unfold Func.isWrapper;first | (rw[if_pos (by decide+kernel)];kernel_rfl) | (rw[if_neg (by decide+kernel)];exact⟨rfl,rfl⟩))
theorem over:Rows.fnExactSoundWorldRow.holds Tryz.pinned (OpenSpec.ofChange Rows.fnExactSoundWorldSpec):=
 OpenClaim.holds_of_wide 6 Tryz.f6 rfl rfl rfl rfl rfl rfl rfl ⟨rfl,rfl,rfl,rfl,rfl⟩ rfl rfl rfl rfl rfl ov1 Tryz.func6 ov2 ov3 ov4
  (fun os started H enc _=>lifted os started H enc)
theorem proved:Rows.FnExactSoundWorldSaid:=over
end Go.Proofs.YtkdpclfhapphhaaGreat.Ab
namespace Go.Proofs.YtkdpclfhapphhaaGreat
/-- The row,under a short name,for the claim. -/
theorem fnExactSoundWorld_holds:Rows.FnExactSoundWorldSaid:=Ab.proved
#print axioms fnExactSoundWorld_holds
end Go.Proofs.YtkdpclfhapphhaaGreat
