/- The law FnExactShowStore returns true for every input,and its inputs read behind the call as they read u5t,tied to the text of the listed tables. Conditions:none. -/
import Derived.Test.YtdeadnnhblaflaaGreatDoorAbShowStoreT1
import Derived.Test.YtdeadnnhblaflaaGreatDoorAbShowStoreIS
import Derived.Test.YtdeadnnhblaflaaGreatDoorCards
import Derived.Test.YtdeadnnhblaflaaGreatDoorTie
import Derived.SevenTiedAt
import Derived.LaidMore
import Derived.LaidHandle
import Derived.MakeChecks
import Derived.Stop.Joined
import Derived.Test.YtdeadnnhblaflaaGreatDoorAbF5
import Derived.Test.YtdeadnnhblaflaaGreatDoorAbS5
import Derived.WalkKit
import Derived.ProofKit
import Derived.OpenShut
import Derived.ChangeOld
import Derived.SizedLaws
import Derived.KernelRfl
namespace Go.Proofs.YtdeadnnhblaflaaGreatDoor.Ab
open Go Go.ChangeShapes Go.WideShapes Go.ChangeAt Go.RowKit Go.Proofs.YtdeadnnhblaflaaGreatDoor
set_option linter.unusedVariables false
set_option linter.unusedSimpArgs false
set_option linter.unnecessarySimpa false
set_option linter.unusedVariables false
set_option maxRecDepth 100000
theorem own3:ownKnob Tryz.prog.godebug=none:=by kernel_rfl
theorem laidOut3:laidOutB Tryz.prog=true:=by kernel_rfl
theorem tabsOk:y7f Tryz.prog t7i=true:=by kernel_rfl
theorem mixedOk:Tryz.prog.follows .mixedOrders=true:=by kernel_rfl
theorem namesOk:(Tryz.prog.funcs.toList.all fun fn=> !(fn.name== "runtime.NumGoroutine"))=true:=by kernel_rfl
theorem tyOk:TyOk Tryz.prog A:=y8o (S:=t4t) tabsOk mixedOk
theorem primsOk:y4x Tryz.prog A:=by
 intro f F x y hF h
 change t3j f=some F at hF
 unfold t3j at hF
 split at hF
 ·cases hF
  exact⟨⟨Tryz.f58,Tryz.func58,by kernel_rfl,by kernel_rfl⟩,y7l t4f h⟩
 ·cases hF
  exact⟨⟨Tryz.f83,Tryz.func83,by kernel_rfl,by kernel_rfl⟩,y7m t41 h⟩
 ·cases hF
  exact⟨⟨Tryz.f84,Tryz.func84,by kernel_rfl,by kernel_rfl⟩,y4y t42 h⟩
 ·cases hF
theorem answers {f:Nat} {x:(A.sig f).ins.den} {y:(A.sig f).out.den} (h:(y5u Tryz.prog A).call f x=some y):z2k Tryz.prog A.gd (A.fn f) (A.sig f) x y:=by
 obtain⟨k,hk⟩:=y7x h
 exact(y6u tyOk primsOk (y7y namesOk) k f x y hk).2
theorem door_met (os:Os) (args:Array Value):laidMetH Tryz.prog Rows.fnExactShowStoreRow.laid ((World.doorLaid Tryz.prog 24 os).forCall (fun _ _=>0) ⟨#[],args, []⟩).memory:=
 laidMetH_of_parts3 (fuel:=8) (laidMet_of_run' 8 (by kernel_rfl) (by kernel_rfl)) (by kernel_rfl) (by kernel_rfl)
theorem tabL20:(Rows.laid_internal_strconv_uint64pow10:DataW Unit)=Lib.tabData .u64 Lib.pow10Tab:=by kernel_rfl
theorem of_laid {W:World} (h:laidMetH Tryz.prog Rows.fnExactShowStoreRow.laid W):(z7n Tryz.prog).pre W∧ ∀b,(z7n Tryz.prog).G b→b<W.heap.size:=by
 rw[MakeChecks.laidMetH_plain _ _ _ (by kernel_rfl)] at h
 have h1:=Lib.laidMet.reads h (n:=y6h) (d:=Rows.laid_internal_strconv_uint64pow10) (.tail _ (.tail _ (.head _)))
 rw[tabL20] at h1
 exact y7s (y4t (g:=0) (t:=272) (e:=224) (n:=20) (by kernel_rfl) (by kernel_rfl) Tryz.underlying272 Tryz.underlying224 (by kernel_rfl) (by kernel_rfl) h1)
theorem lifted (os:Os) (started:os.Started) (H:Type) (enc:TypeId×Value→H):
 ReturnsInHanded {} Tryz.checked os 3 .any (fun w args=>(Rows.fnExactShowStoreSpec.pre enc Tryz.prog Tryz.f3 [] false w args∧laidMetH Tryz.prog Rows.fnExactShowStoreRow.laid w)∧sizedMet enc Tryz.prog Tryz.f3 (OpenSpec.ofChange Rows.fnExactShowStoreSpec) false w args)
  (Rows.fnExactShowStoreSpec.post enc Tryz.prog Tryz.f3 false true false false):=by
 refine returnsInHanded_of_change_and (C:=Tryz.checked) (X:=fun w _=>laidMetH Tryz.prog Rows.fnExactShowStoreRow.laid w) (fun _ _ _ hh h=>h.of_heap hh) own3 started (by kernel_rfl) Tryz.func3
  (ChangeSpec.witness_shaped (enc:=enc) (C:=Tryz.checked) (os:=os) (X:=fun w _=>laidMetH Tryz.prog Rows.fnExactShowStoreRow.laid w) false (World.doorLaid Tryz.prog 24 os) #[.agg #[.slice none 0 0, .slice none 0 0, .slice none 0 0, .int .i64 0, .int .i64 0, .slice none 0 0, .slice none 0 0, .slice none 0 0]] 8 rfl (World.shaped_of_RefB (by kernel_rfl) (by kernel_rfl)) (by kernel_rfl) (by kernel_rfl) (by kernel_rfl) (door_met os _)) ?_
 refine y3s (C:=Tryz.checked) (gd:=z7n Tryz.prog) (X:=fun w _=>laidMetH Tryz.prog Rows.fnExactShowStoreRow.laid w) (ps:= [(true,(.pair (.pair (.pair (.sl (.pair .str (.pair .str (.pair .bool (.int .i64))))) (.pair (.sl (.pair (.int .i64) (.pair (.int .i64) (.pair (.int .i64) (.pair (.int .i64) (.pair (.sl (.pair .str .str)) (.pair (.sl (.pair .str (.pair .str .bool))) (.pair .bool .str)))))))) (.pair (.sl (.pair (.int .i64) (.pair (.int .i64) (.pair (.int .i64) (.pair (.int .i64) (.pair (.sl (.pair .str .str)) (.pair (.sl (.pair .str (.pair .str .bool))) (.pair .bool .str)))))))) (.pair (.int .i64) (.int .i64))))) (.sl (.pair (.int .i64) (.pair (.int .i64) (.pair (.int .i64) (.pair (.int .i64) (.pair (.sl (.pair .str .str)) (.pair (.sl (.pair .str (.pair .str .bool))) (.pair .bool .str))))))))) (.pair (.sl .str) (.sl (.pair (.int .i64) .str)))))]) (rt:=4) laidOut3 (by kernel_rfl) (by kernel_rfl) rfl Tryz.underlying4 rfl (fun ds h=> ?_) (fun W args h=>of_laid h) (fun x hx=> ?_)
 ·match ds,h with
  | [d0],_=>rfl
 ·obtain⟨⟨⟨a1,⟨a2,⟨a3,⟨a4,a5⟩⟩⟩⟩,a6⟩,⟨a7,a8⟩⟩:=x
  exact answers (u6g ⟨⟨⟨a1,⟨a2,⟨a3,⟨a4,a5⟩⟩⟩⟩,a6⟩,⟨a7,a8⟩⟩ hx)
theorem ov1:Tryz.pinned.checked.prog.funcNamed Rows.fnExactShowStoreRow.func=some 3:=by kernel_rfl
set_option maxHeartbeats 8000000 in
theorem ov2:joinedFacts Tryz.pinned.checked.prog 3 Tryz.f3 Rows.fnExactShowStoreSpec Rows.fnExactShowStoreRow=true:=by
 unfold joinedFacts
 iterate 31 (rewrite[Bool.and_eq_true];refine And.intro ?_ ?_)
 all_goals (as_aux_lemma=>kernel_rfl)
theorem ov3:Tryz.f3.isInstance Tryz.pinned.checked.prog Rows.fnExactShowStoreRow.origin Rows.fnExactShowStoreRow.targs:=(of_decide_eq_true (by kernel_rfl))
theorem ov4:Tryz.f3.isWrapper Tryz.pinned.checked.prog Rows.fnExactShowStoreRow.wrapper Rows.fnExactShowStoreRow.mainSum:=(by unfold Func.isWrapper;first | (rw[if_pos (by decide+kernel)];kernel_rfl) | (rw[if_neg (by decide+kernel)];exact⟨rfl,rfl⟩))
theorem over:Rows.fnExactShowStoreRow.holds Tryz.pinned (OpenSpec.ofChange Rows.fnExactShowStoreSpec):=
 OpenClaim.holds_of_wide 3 Tryz.f3 rfl rfl rfl rfl rfl rfl rfl ⟨rfl,rfl,rfl,rfl,rfl⟩ rfl rfl rfl rfl rfl ov1 Tryz.func3 ov2 ov3 ov4
  (fun os started H enc _=>lifted os started H enc)
theorem proved:Rows.FnExactShowStoreCardSaid:=
 Claim7.holds_tied_plain_at .later [] [.data, .data, .data] true (true,"5a1e3a5790bae776a63758b29d68218cc3591f6cd8ec6d05c703c80b28203c52") false
  over (fun _ h=>by cases h) (by kernel_rfl) (fun _ h=>by cases h) fnExactShowStore_row_tie rfl ⟨rfl,rfl⟩ (by kernel_rfl) rfl
  (fun f fn hf hfn=>by
   obtain rfl:f=3:=Option.some.inj (ov1.symm.trans hf) |>.symm
   obtain rfl:fn=Tryz.f3:=(Option.some.inj (Tryz.func3.symm.trans hfn)).symm
   exact⟨by kernel_rfl,fun j t ht=>by
    have hm:t∈ [33] :=by
     have hp:Tryz.f3.params= #[33] :=by kernel_rfl
     rw[hp] at ht
     simpa using Array.mem_of_getElem? ht
    have hall:([33].all fun u=> !Tryz.prog.wantsStandIn u)=true:=by kernel_rfl
    exact(show Tryz.prog.wantsStandIn t=false by simpa using List.all_eq_true.1 hall t hm)⟩)
  (by kernel_rfl)
end Go.Proofs.YtdeadnnhblaflaaGreatDoor.Ab
namespace Go.Proofs.YtdeadnnhblaflaaGreatDoor
/-- The row,under a short name,for the claim. -/
theorem fnExactShowStore_holds:Rows.FnExactShowStoreCardSaid:=Ab.proved
#print axioms fnExactShowStore_holds
end Go.Proofs.YtdeadnnhblaflaaGreatDoor
