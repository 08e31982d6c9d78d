/- The law FnReports returns true for every input,and its inputs read behind the call as they read t9s,tied to the text of the listed tables. Conditions:none. -/
import Derived.Test.YtdeadnnhblaflaaGreatDoorAbReportsT5
import Derived.Test.YtdeadnnhblaflaaGreatDoorAbReportsIS
import Derived.Test.YtdeadnnhblaflaaGreatDoorCards
import Derived.Test.YtdeadnnhblaflaaGreatDoorTie
import Derived.SevenTiedAt
import Derived.LaidMore
import Derived.LaidHandle
import Derived.MakeChecks
import Derived.Stop.Joined
import Derived.Test.YtdeadnnhblaflaaGreatDoorAbF5
import Derived.Test.YtdeadnnhblaflaaGreatDoorAbS5
import Derived.WalkKit
import Derived.ProofKit
import Derived.OpenShut
import Derived.ChangeOld
import Derived.SizedLaws
import Derived.KernelRfl
namespace Go.Proofs.YtdeadnnhblaflaaGreatDoor.Ab
open Go Go.ChangeShapes Go.WideShapes Go.ChangeAt Go.RowKit Go.Proofs.YtdeadnnhblaflaaGreatDoor
set_option linter.unusedVariables false
set_option linter.unusedSimpArgs false
set_option linter.unnecessarySimpa false
set_option linter.unusedVariables false
set_option maxRecDepth 100000
theorem own3:ownKnob Tryz.prog.godebug=none:=by kernel_rfl
theorem laidOut3:laidOutB Tryz.prog=true:=by kernel_rfl
theorem tabsOk:y7g Tryz.prog o5o=true:=by kernel_rfl
theorem mixedOk:Tryz.prog.follows .mixedOrders=true:=by kernel_rfl
theorem namesOk:(Tryz.prog.funcs.toList.all fun fn=> !(fn.name== "runtime.NumGoroutine"))=true:=by kernel_rfl
theorem tyOk:TyOk Tryz.prog A:=y8p (S:=p7d) tabsOk mixedOk
theorem primsOk:y4x Tryz.prog A:=by
 intro f F x y hF h
 change p3v f=some F at hF
 unfold p3v at hF
 split at hF
 ·cases hF
  exact⟨⟨Tryz.f58,Tryz.func58,by kernel_rfl,by kernel_rfl⟩,y7m p5i h⟩
 ·cases hF
  exact⟨⟨Tryz.f83,Tryz.func83,by kernel_rfl,by kernel_rfl⟩,y7n p8b h⟩
 ·cases hF
  exact⟨⟨Tryz.f84,Tryz.func84,by kernel_rfl,by kernel_rfl⟩,y4y p8c h⟩
 ·cases hF
theorem answers {f:Nat} {x:(A.sig f).ins.den} {y:(A.sig f).out.den} (h:(y5u Tryz.prog A).call f x=some y):z2k Tryz.prog A.gd (A.fn f) (A.sig f) x y:=by
 obtain⟨k,hk⟩:=y7y h
 exact(y6v tyOk primsOk (y7z namesOk) k f x y hk).2
theorem door_met (os:Os) (args:Array Value):laidMetH Tryz.prog Rows.fnReportsRow.laid ((World.doorLaid Tryz.prog 24 os).forCall (fun _ _=>0) ⟨#[],args, []⟩).memory:=
 laidMetH_of_parts3 (fuel:=8) (laidMet_of_run' 8 (by kernel_rfl) (by kernel_rfl)) (by kernel_rfl) (by kernel_rfl)
theorem tabL20:(Rows.laid_internal_strconv_uint64pow10:DataW Unit)=Lib.tabData .u64 Lib.pow10Tab:=by kernel_rfl
theorem of_laid {W:World} (h:laidMetH Tryz.prog Rows.fnReportsRow.laid W):(z7m Tryz.prog).pre W∧ ∀b,(z7m Tryz.prog).G b→b<W.heap.size:=by
 rw[MakeChecks.laidMetH_plain _ _ _ (by kernel_rfl)] at h
 have h1:=Lib.laidMet.reads h (n:=y6i) (d:=Rows.laid_internal_strconv_uint64pow10) (.tail _ (.tail _ (.head _)))
 rw[tabL20] at h1
 exact y7t (y4t (g:=0) (t:=272) (e:=224) (n:=20) (by kernel_rfl) (by kernel_rfl) Tryz.underlying272 Tryz.underlying224 (by kernel_rfl) (by kernel_rfl) h1)
theorem lifted (os:Os) (started:os.Started) (H:Type) (enc:TypeId×Value→H):
 ReturnsInHanded {} Tryz.checked os 5 .any (fun w args=>(Rows.fnReportsSpec.pre enc Tryz.prog Tryz.f5 [] false w args∧laidMetH Tryz.prog Rows.fnReportsRow.laid w)∧sizedMet enc Tryz.prog Tryz.f5 (OpenSpec.ofChange Rows.fnReportsSpec) false w args)
  (Rows.fnReportsSpec.post enc Tryz.prog Tryz.f5 false true false false):=by
 refine returnsInHanded_of_change_and (C:=Tryz.checked) (X:=fun w _=>laidMetH Tryz.prog Rows.fnReportsRow.laid w) (fun _ _ _ hh h=>h.of_heap hh) own3 started (by kernel_rfl) Tryz.func5
  (ChangeSpec.witness_shaped (enc:=enc) (C:=Tryz.checked) (os:=os) (X:=fun w _=>laidMetH Tryz.prog Rows.fnReportsRow.laid w) false (World.doorLaid Tryz.prog 24 os) #[.slice none 0 0] 8 rfl (World.shaped_of_RefB (by kernel_rfl) (by kernel_rfl)) (by kernel_rfl) (by kernel_rfl) (by kernel_rfl) (door_met os _)) ?_
 refine y3s (C:=Tryz.checked) (gd:=z7m Tryz.prog) (X:=fun w _=>laidMetH Tryz.prog Rows.fnReportsRow.laid w) (ps:= [(false,(.sl (.int .u8)))]) (rt:=4) laidOut3 (by kernel_rfl) (by kernel_rfl) rfl Tryz.underlying4 rfl (fun ds h=> ?_) (fun W args h=>of_laid h) (fun x hx=> ?_)
 ·match ds,h with
  | [d0],_=>rfl
 ·exact answers (q4c x hx)
theorem ov1:Tryz.pinned.checked.prog.funcNamed Rows.fnReportsRow.func=some 5:=by kernel_rfl
set_option maxHeartbeats 8000000 in
theorem ov2:joinedFacts Tryz.pinned.checked.prog 5 Tryz.f5 Rows.fnReportsSpec Rows.fnReportsRow=true:=by
 unfold joinedFacts
 iterate 31 (rewrite[Bool.and_eq_true];refine And.intro ?_ ?_)
 all_goals (as_aux_lemma=>kernel_rfl)
theorem ov3:Tryz.f5.isInstance Tryz.pinned.checked.prog Rows.fnReportsRow.origin Rows.fnReportsRow.targs:=(of_decide_eq_true (by kernel_rfl))
theorem ov4:Tryz.f5.isWrapper Tryz.pinned.checked.prog Rows.fnReportsRow.wrapper Rows.fnReportsRow.mainSum:=(by unfold Func.isWrapper;first | (rw[if_pos (by decide+kernel)];kernel_rfl) | (rw[if_neg (by decide+kernel)];exact⟨rfl,rfl⟩))
theorem over:Rows.fnReportsRow.holds Tryz.pinned (OpenSpec.ofChange Rows.fnReportsSpec):=
 OpenClaim.holds_of_wide 5 Tryz.f5 rfl rfl rfl rfl rfl rfl rfl ⟨rfl,rfl,rfl,rfl,rfl⟩ rfl rfl rfl rfl rfl ov1 Tryz.func5 ov2 ov3 ov4
  (fun os started H enc _=>lifted os started H enc)
theorem proved:Rows.FnReportsCardSaid:=
 Claim7.holds_tied_plain_at .later [] [.data, .data, .data] true (true,"5a1e3a5790bae776a63758b29d68218cc3591f6cd8ec6d05c703c80b28203c52") false
  over (fun _ h=>by cases h) (by kernel_rfl) (fun _ h=>by cases h) fnReports_row_tie rfl ⟨rfl,rfl⟩ (by kernel_rfl) rfl
  (fun f fn hf hfn=>by
   obtain rfl:f=5:=Option.some.inj (ov1.symm.trans hf) |>.symm
   obtain rfl:fn=Tryz.f5:=(Option.some.inj (Tryz.func5.symm.trans hfn)).symm
   exact⟨by kernel_rfl,fun j t ht=>by
    have hm:t∈ [60] :=by
     have hp:Tryz.f5.params= #[60] :=by kernel_rfl
     rw[hp] at ht
     simpa using Array.mem_of_getElem? ht
    have hall:([60].all fun u=> !Tryz.prog.wantsStandIn u)=true:=by kernel_rfl
    exact(show Tryz.prog.wantsStandIn t=false by simpa using List.all_eq_true.1 hall t hm)⟩)
  (by kernel_rfl)
end Go.Proofs.YtdeadnnhblaflaaGreatDoor.Ab
namespace Go.Proofs.YtdeadnnhblaflaaGreatDoor
/-- The row,under a short name,for the claim. -/
theorem fnReports_holds:Rows.FnReportsCardSaid:=Ab.proved
#print axioms fnReports_holds
end Go.Proofs.YtdeadnnhblaflaaGreatDoor
