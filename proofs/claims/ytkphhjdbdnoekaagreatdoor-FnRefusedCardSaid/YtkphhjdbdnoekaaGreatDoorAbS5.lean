import Derived.Test.YtkphhjdbdnoekaaGreatDoorAbS4
import Derived.Lib.LaidU8
namespace Go.Proofs.YtkphhjdbdnoekaaGreatDoor.Ab
open Go
set_option linter.unusedVariables false
set_option linter.unusedSimpArgs false
set_option linter.unnecessarySimpa false
theorem y5e {P:Program} {W:World} {name:String} {k:IntKind} {zs:List Int} {g:Nat} {t e:TypeId} {n:Nat}
 (hg:P.globalNamed name=some g) (hty:(P.globals[g]?).map (·.type)=some t) (ht:P.underlying t=some (.array n e)) (he:P.underlying e=some (.int k)) (hce:P.cellsOf e=1) (hct:P.cellsOf t=n)
 (h:Lib.VarReads P W name (Lib.tabData k zs)):Lib.TabIs P W name k zs:=by
 obtain⟨g',t',cs,fuel,p,hg',ht',hvar,hd⟩:=h;obtain rfl:=Ds (hg.symm.trans hg');obtain rfl:=Ds (hty.symm.trans ht');unfold Lib.TabIs;rw[hvar,←Lib.cells_of_tab ht he hce hct hd]
theorem y8i {P:Program} {W:World} (h:Lib.TabIs P W y6v .u64 Lib.pow10Tab):(z7r P).pre W/\ ∀b,(z7r P).G b->b<W.heap.size:=by
 refine⟨h,fun b hb=> ?_⟩;have hb:P.globalNamed y6v=some b:=hb;unfold Lib.TabIs World.var? at h;simp only[hb,zOb] at h;cases q:W.heap[b]? with
 | none=>rw[q] at h;cases h | some o=>exact(Cj.mp q).1
end Go.Proofs.YtkphhjdbdnoekaaGreatDoor.Ab
