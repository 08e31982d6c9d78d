/- The law FnSerials returns true for every input, and its inputs read behind the call as they read before. Conditions: none. -/
import Derived.Test.YthhpkgegmfjdmaaAbLSerials
import Derived.Test.YthhpkgegmfjdmaaAbIS
import Derived.Test.YthhpkgegmfjdmaaAbSI
import Derived.Test.YthhpkgegmfjdmaaRows
import Derived.WalkKit
import Derived.ProofKit
import Derived.OpenShut
import Derived.ChangeOld
import Derived.SizedLaws
import Derived.KernelRfl
namespace Go.Proofs.Ythhpkgegmfjdmaa.Ab
open Go Go.ChangeShapes Go.WideShapes Go.ChangeAt Go.RowKit Go.Proofs.Ythhpkgegmfjdmaa
set_option linter.unusedVariables false
set_option linter.unusedSimpArgs false
set_option linter.unnecessarySimpa false
set_option linter.unusedVariables false
set_option maxRecDepth 100000
theorem own3 : ownKnob Try.prog.godebug = none := by kernel_rfl
theorem laidOut3 : laidOutB Try.prog = true := by kernel_rfl
theorem tabsOk : tabsE Try.prog tabs = true := by kernel_rfl
theorem mixedOk : Try.prog.follows .mixedOrders = true := by kernel_rfl
theorem namesOk : (Try.prog.funcs.toList.all fun fn => !(fn.name == "runtime.NumGoroutine")) = true := by kernel_rfl
theorem tyOk : TyOk Try.prog A := tyOk_of (S := planOf) tabsOk mixedOk
theorem primsOk : PrimsOk Try.prog A := by
  intro f F x y hF h
  change primOf f = some F at hF
  unfold primOf at hF
  split at hF
  · cases hF
    exact ⟨⟨Try.f195, Try.func195, by kernel_rfl, by kernel_rfl⟩, ans_insert roads195 h⟩
  · cases hF
    exact ⟨⟨Try.f234, Try.func234, by kernel_rfl, by kernel_rfl⟩, ans_sort lays190 h⟩
  · cases hF
    exact ⟨⟨Try.f235, Try.func235, by kernel_rfl, by kernel_rfl⟩, ans_compact lays194 h⟩
  · cases hF
theorem answers {f : Nat} {x : (A.sig f).ins.den} {y : (A.sig f).out.den} (h : (lvlW Try.prog A).call f x = some y) : Answers Try.prog A.gd (A.fn f) (A.sig f) x y := by
  obtain ⟨k, hk⟩ := lvlW_hit h
  exact (lvl_ok tyOk primsOk (names_of namesOk) k f x y hk).2
theorem lifted (os : Os) (started : os.Started) (H : Type) (enc : TypeId × Value → H) :
    ReturnsInHanded {} Try.checked os 11 .any (Rows.fnSerialsSpec.pre6 enc Try.prog Try.f11 Rows.fnSerialsRow.domain false) (Rows.fnSerialsSpec.post enc Try.prog Try.f11 false true false false) := by
  refine returnsInHanded_of_change_sized (C := Try.checked) own3 started (by kernel_rfl) Try.func11
    (ChangeSpec.witness6 (enc := enc) (C := Try.checked) false ⟨#[], #[.slice none 0 0], []⟩ 8 (by kernel_rfl) (by kernel_rfl) (by kernel_rfl) (by kernel_rfl)) ?_
  refine law_contract (C := Try.checked) (ps := [(false, (.sl (.int .u8)))]) (rt := 4) laidOut3 (by kernel_rfl) (by kernel_rfl) rfl Try.underlying4 rfl (fun ds h => ?_) (fun x hx => ?_)
  · match ds, h with
    | [d0], _ => rfl
  · exact answers (law_FnSerials x hx)
theorem ov1 : Try.pinned.checked.prog.funcNamed Rows.fnSerialsRow.func = some 11 := by kernel_rfl
theorem ov2 : joinedFacts Try.pinned.checked.prog 11 Try.f11 Rows.fnSerialsSpec Rows.fnSerialsRow = true := by kernel_rfl
theorem ov3 : Try.f11.isInstance Try.pinned.checked.prog Rows.fnSerialsRow.origin Rows.fnSerialsRow.targs := (of_decide_eq_true (by kernel_rfl))
theorem ov4 : Try.f11.isWrapper Try.pinned.checked.prog Rows.fnSerialsRow.wrapper Rows.fnSerialsRow.mainSum := (by unfold Func.isWrapper; first | (rw [if_pos (by decide +kernel)]; kernel_rfl) | (rw [if_neg (by decide +kernel)]; exact ⟨rfl, rfl⟩))
theorem over : Rows.fnSerialsRow.holds Try.pinned (OpenSpec.ofChange Rows.fnSerialsSpec) :=
  OpenClaim.holds_of_wide 11 Try.f11 rfl rfl rfl rfl rfl rfl rfl ⟨rfl, rfl, rfl, rfl, rfl⟩ rfl rfl rfl rfl rfl ov1 Try.func11 ov2 ov3 ov4
    (fun os started H enc _ => lifted os started H enc)
theorem proved : Rows.FnSerialsSaid := over
end Go.Proofs.Ythhpkgegmfjdmaa.Ab
namespace Go.Proofs.Ythhpkgegmfjdmaa
/-- The row, under a short name, for the claim. -/
theorem fnSerials_holds : Rows.FnSerialsSaid := Ab.proved
#print axioms fnSerials_holds
end Go.Proofs.Ythhpkgegmfjdmaa
