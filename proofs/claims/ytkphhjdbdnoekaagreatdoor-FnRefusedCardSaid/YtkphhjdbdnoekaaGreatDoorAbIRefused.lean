/- The law FnRefused returns true for every input, and its inputs stay as they were, tied to the listed tables' text. Conditions: none. -/
import Derived.Test.YtkphhjdbdnoekaaGreatDoorAbRefusedT5
import Derived.Test.YtkphhjdbdnoekaaGreatDoorAbRefusedIS
import Derived.Test.YtkphhjdbdnoekaaGreatDoorAbRefusedSI
import Derived.Test.YtkphhjdbdnoekaaGreatDoorCards
import Derived.Test.YtkphhjdbdnoekaaGreatDoorTie
import Derived.LaidMore
import Derived.Test.YtkphhjdbdnoekaaGreatDoorAbF5
import Derived.Test.YtkphhjdbdnoekaaGreatDoorAbS5
import Derived.ProofKit
namespace Go.Proofs.YtkphhjdbdnoekaaGreatDoor.Ab
open Go Go.ChangeShapes Go.WideShapes Go.ChangeAt Go.RowKit Go.Proofs.YtkphhjdbdnoekaaGreatDoor
set_option linter.all false
set_option maxRecDepth 100000
theorem own3:ownKnob Tryz.prog.godebug=none:=by kernel_rfl
theorem laidOut3:laidOutB Tryz.prog=true:=by kernel_rfl
theorem tabsOk:y7u Tryz.prog c5p=true:=by kernel_rfl
theorem mixedOk:Tryz.prog.follows .mixedOrders=true:=by kernel_rfl
theorem namesOk:(Tryz.prog.funcs.toList.all fun fn=> !(fn.name== "runtime.NumGoroutine"))=true:=by kernel_rfl
theorem tyOk:TyOk Tryz.prog A:=y9f (S:=d46) tabsOk mixedOk
theorem primsOk:y5i Tryz.prog A:=by
 intro f F x y hF h;change d1u f=some F at hF;unfold d1u at hF;split at hF
 .cases hF;exact⟨⟨Tryz.f52,Tryz.func52,by kernel_rfl,by kernel_rfl⟩,y8a d3j h⟩
 .cases hF;exact⟨⟨Tryz.f162,Tryz.func162,by kernel_rfl,by kernel_rfl⟩,y8c d6b h⟩
 .cases hF;exact⟨⟨Tryz.f163,Tryz.func163,by kernel_rfl,by kernel_rfl⟩,y5j d6c h⟩
 .cases hF;exact⟨⟨Tryz.f55,Tryz.func55,by kernel_rfl,by kernel_rfl⟩,y8b d6a p5s h⟩
 .cases hF;exact⟨⟨Tryz.f167,Tryz.func167,by kernel_rfl,by kernel_rfl⟩,y6o d35 h⟩
 .cases hF;exact⟨⟨Tryz.f348,Tryz.func348,by kernel_rfl,by kernel_rfl⟩,y6o d36 h⟩
 .cases hF
theorem answers {f:Nat} {x:(A.sig f).ins.den} {y:(A.sig f).out.den} (h:(y6f Tryz.prog A).call f x=some y):z1n Tryz.prog A.gd (A.fn f) (A.sig f) x y:=by
 obtain⟨k,hk⟩:=y8n h;exact(y7i tyOk primsOk (y8o namesOk) k f x y hk).2
theorem door_met (os:Os) (args:Array Value):laidMetH Tryz.prog Rows.fnRefusedRow.laid ((World.doorLaid Tryz.prog 24 os).forCall (fun _ _=>0) ⟨#[],args, []⟩).memory:=
 laidMetH_of_parts3 (fuel:=8) (laidMet_of_run' 8 (by kernel_rfl) (by kernel_rfl)) (by kernel_rfl) (by kernel_rfl)
theorem tabL20:(Rows.laid_internal_strconv_uint64pow10:DataW Unit)=Lib.tabData .u64 Lib.pow10Tab:=by kernel_rfl
theorem of_laid {W:World} (h:laidMetH Tryz.prog Rows.fnRefusedRow.laid W):(z7r Tryz.prog).pre W/\ ∀b,(z7r Tryz.prog).G b->b<W.heap.size:=by
 rw[MakeChecks.laidMetH_plain _ _ _ (by kernel_rfl)] at h;have h1:=Lib.laidMet.reads h (n:=y6v) (d:=Rows.laid_internal_strconv_uint64pow10) (.tail _ (.tail _ (.head _)));rw[tabL20] at h1;exact y8i (y5e (g:=0) (t:=285) (e:=239) (n:=20) (by kernel_rfl) (by kernel_rfl) Tryz.underlying285 Tryz.underlying239 (by kernel_rfl) (by kernel_rfl) h1)
theorem lifted (os:Os) (started:os.Started) (H:Type) (enc:TypeId×Value->H):
 ReturnsInHanded {} Tryz.checked os 3 .any (fun w args=>(Rows.fnRefusedSpec.pre enc Tryz.prog Tryz.f3 [] false w args/\laidMetH Tryz.prog Rows.fnRefusedRow.laid w)/\sizedMet enc Tryz.prog Tryz.f3 (OpenSpec.ofChange Rows.fnRefusedSpec) false w args)
  (Rows.fnRefusedSpec.post enc Tryz.prog Tryz.f3 false true false false):=by
 refine returnsInHanded_of_change_and (C:=Tryz.checked) (X:=fun w _=>laidMetH Tryz.prog Rows.fnRefusedRow.laid w) (fun _ _ _ hh h=>h.of_heap hh) own3 started (by kernel_rfl) Tryz.func3
  (ChangeSpec.witness_shaped (enc:=enc) (C:=Tryz.checked) (os:=os) (X:=fun w _=>laidMetH Tryz.prog Rows.fnRefusedRow.laid w) false (World.doorLaid Tryz.prog 24 os) #[.slice none 0 0] 8 rfl (World.shaped_of_RefB (by kernel_rfl) (by kernel_rfl)) (by kernel_rfl) (by kernel_rfl) (by kernel_rfl) (door_met os _)) ?_
 refine y4c (C:=Tryz.checked) (gd:=z7r Tryz.prog) (X:=fun w _=>laidMetH Tryz.prog Rows.fnRefusedRow.laid w) (ps:= [(false,(.sl (.int .u8)))]) (rt:=4) laidOut3 (by kernel_rfl) (by kernel_rfl) rfl Tryz.underlying4 rfl (fun ds h=> ?_) (fun W args h=>of_laid h) (fun x hx=> ?_)
 .match ds,h with
  | [d0],_=>rfl
 .exact answers (j09 x hx)
theorem ov1:Tryz.pinned.checked.prog.funcNamed Rows.fnRefusedRow.func=some 3:=by kernel_rfl
set_option maxHeartbeats 8000000 in
theorem ov2:joinedFacts Tryz.pinned.checked.prog 3 Tryz.f3 Rows.fnRefusedSpec Rows.fnRefusedRow=true:=by
 unfold joinedFacts
 iterate 31 (rewrite[Bool.and_eq_true];refine And.intro ?_ ?_)
 all_goals (as_aux_lemma=>kernel_rfl)
theorem ov3:Tryz.f3.isInstance Tryz.pinned.checked.prog Rows.fnRefusedRow.origin Rows.fnRefusedRow.targs:=(of_decide_eq_true (by kernel_rfl))
theorem ov4:Tryz.f3.isWrapper Tryz.pinned.checked.prog Rows.fnRefusedRow.wrapper Rows.fnRefusedRow.mainSum:=(by unfold Func.isWrapper;first | (rw[if_pos (by decide+kernel)];kernel_rfl) | (rw[if_neg (by decide+kernel)];exact⟨rfl,rfl⟩))
theorem over:Rows.fnRefusedRow.holds Tryz.pinned (OpenSpec.ofChange Rows.fnRefusedSpec):=
 OpenClaim.holds_of_wide 3 Tryz.f3 rfl rfl rfl rfl rfl rfl rfl ⟨rfl,rfl,rfl,rfl,rfl⟩ rfl rfl rfl rfl rfl ov1 Tryz.func3 ov2 ov3 ov4
  (fun os started H enc _=>lifted os started H enc)
theorem ovg{P:Program}{c:OpenClaim}(hs:c.start=.entering)(h:P.funcs.any Func.goes=false):false=c.goesBy P:=by
 have k f:P.goes f=false:=by
  simp only[Program.goes,h,Bool.and_false,Bool.or_false,List.any_eq_false];intro g _ z;rw[Option.any_eq_true] at z;obtain⟨x,e,z⟩:=z;exact absurd z (by simpa using Array.any_eq_false'.1 h x (Array.mem_of_getElem? e))
 unfold OpenClaim.goesBy Program.goesAt Program.goesFrom;rw[hs];cases P.funcNamed c.func<;>simp[k]
theorem ovh:Tryz.prog.funcs.any Func.goes=false:=by kernel_rfl
theorem proved:Rows.FnRefusedCardSaid:=
 Claim7.holds_tied_plain_at .later [] [.data, .data, .data] true (true,"5e54251ec7436b2dcd121d1e63303b5230fb3e24a70dc563c480cd2f4d0f355f") false
  over (fun _ h=>by cases h) (by as_aux_lemma=>kernel_rfl) (fun _ h=>by cases h) fnRefused_row_tie rfl ⟨rfl,rfl⟩ (by as_aux_lemma=>kernel_rfl) rfl
  (fun f fn hf hfn=>by
   obtain rfl:f=3:=Option.some.inj (ov1.symm.trans hf) |>.symm;obtain rfl:fn=Tryz.f3:=(Option.some.inj (Tryz.func3.symm.trans hfn)).symm;exact⟨by as_aux_lemma=>kernel_rfl,fun j t ht=>by
    have hm:t∈ [22] :=by
     have hp:Tryz.f3.params= #[22] :=by as_aux_lemma=>kernel_rfl
     rw[hp] at ht;simpa using Array.mem_of_getElem? ht
    have hall:([22].all fun u=> !Tryz.prog.wantsStandIn u)=true:=by as_aux_lemma=>kernel_rfl
    exact(show Tryz.prog.wantsStandIn t=false by simpa using List.all_eq_true.1 hall t hm)⟩)
  (ovg rfl ovh)
end Go.Proofs.YtkphhjdbdnoekaaGreatDoor.Ab
namespace Go.Proofs.YtkphhjdbdnoekaaGreatDoor
theorem fnRefused_holds:Rows.FnRefusedCardSaid:=Ab.proved
#print axioms fnRefused_holds
end Go.Proofs.YtkphhjdbdnoekaaGreatDoor
