import Derived.Test.YtkphhjdbdnoekaaGreatDoorAbE12
import Derived.ChangeArms
import Derived.Deep.Slices
import Derived.Carry
import Derived.SizedLaws
import Derived.ChangeShapes
import Derived.OpenShut
namespace Go.Proofs.YtkphhjdbdnoekaaGreatDoor.Ab
open Go
set_option linter.unusedVariables false
set_option linter.unusedSimpArgs false
set_option linter.unnecessarySimpa false
def y5y (go:Nat->Ty->Bool) (P:Program):Nat->List Field->Ty->Bool
 | _, [],_=>false | o, [f],y=>Nat.beq f.offset o&&Nat.beq (P.cellsOf f.type) y.size&&go f.type y | o,f::g::fs, .pair a b=>Nat.beq f.offset o&&Nat.beq (P.cellsOf f.type) a.size&&go f.type a&&y5y go P (o+a.size) (g::fs) b | _,_,_=>false
def fit (P:Program):Nat->Nat->Ty->Bool
 | 0,_,_=>false | k+1,t,y=>match P.underlying t with
  | some .bool=>(match y with
   | .bool=>true | _=>false)
  | some (.int i)=>(match y with
   | .int j=>decide (i=j) | _=>false)
  | some .string=>(match y with
   | .str=>true | _=>false)
  | some (.slice e)=>(match y with
   | .sl z=>Nat.beq (P.cellsOf e) z.size&&fit P k e z | _=>false)
  | some (.struct fs)=>Nat.beq (P.cellsOf t) y.size&&y5y (fit P k) P 0 fs.toList y | _=>false
def Ty.fine:(t:Ty)->t.den->Prop
 | .int k,n=>(Lit.int k n).wf=true | .bool,_=>True | .str,s=>s.size<=maxLen | .sl e,l=>l.length<=maxLen/\ ∀(i:Nat) (h:i<l.length),e.fine l[i] | .pair a b,x=>a.fine x.1/\b.fine x.2
theorem z5p {X:Type} {p:Nat->X->Prop} :∀n:Nat,(∀i,i<n-> ∃x,p i x)-> ∃l:List X,l.length=n/\ ∀(i:Nat) (h:i<l.length),p i l[i]
 | 0,_=>⟨[],rfl,fun i h=>absurd h (by simp)⟩ | n+1,h=>by
  obtain⟨l,h1,h2⟩:=z5p n (fun i hi=>h i (by omega));obtain⟨x,hx⟩:=h n (by omega);refine⟨l++ [x],by simp[h1],fun i hi=> ?_⟩;by_cases e:i<l.length
  .rw[Ck e];exact h2 i e
  .have:i=n:=by simp[h1] at hi e;omega
   subst this;rw[Cv (by omega)];simp[h1,hx]
section
variable {P:Program} {w:World} {H:Type} {enc:TypeId×Value->H}
theorem z8p {go:Nat->Ty->Bool} (hgo:∀t y,go t y=true-> ∀n cs x,DataW.trod enc P w 0 (fun _=>true) true n t cs=some x-> ∃v,Dat (fun _=>False) w y v cs/\y.fine v) {n:Nat} :
 ∀ {fs:List Field} {o:Nat} {y:Ty} {cs:List Value},y5y go P o fs y=true->cs.length=o+y.size->
  (∀(i:Nat) f,fs[i]? =some f-> ∃x,DataW.trod enc P w 0 (fun _=>true) true n f.type ((cs.drop f.offset).take (P.cellsOf f.type))=some x)-> ∃v,Dat (fun _=>False) w y v (cs.drop o)/\y.fine v
 | [],o,y,cs,h,_,_=>by simp[y5y] at h
 | [f],o,y,cs,h,hl,hx=>by
  simp only[y5y,Ai] at h;obtain⟨⟨h1,h2⟩,h3⟩:=h;have h1:=Av h1;have h2:=Av h2;obtain⟨x,hx⟩:=hx 0 f rfl;rw[h1,h2,List.take_of_length_le (by simp;omega)] at hx;exact hgo _ _ h3 _ _ _ hx
 | f::g::fs,o,y,cs,h,hl,hx=>by
  cases y with
  | pair a b=>
   simp only[y5y,Ai] at h;obtain⟨⟨⟨h1,h2⟩,h3⟩,h4⟩:=h;have h1:=Av h1;have h2:=Av h2;simp only[Ty.size] at hl;obtain⟨x,hx0⟩:=hx 0 f rfl;rw[h1,h2] at hx0;obtain⟨v1,d1,f1⟩:=hgo _ _ h3 _ _ _ hx0;obtain⟨v2,d2,f2⟩:=z8p hgo (fs:=g::fs) (n:=n) h4 (by omega) (fun i f' hf=>hx (i+1) f' (by simpa using hf));refine⟨(v1,v2),⟨_,_,?_,d1,d2⟩,f1,f2⟩;rw[←Gl,En]
  | _=>simp[y5y] at h
theorem z7m:∀ {k t:Nat} {y:Ty},fit P k t y=true-> ∀n cs x,DataW.trod enc P w 0 (fun _=>true) true n t cs=some x-> ∃v,Dat (fun _=>False) w y v cs/\y.fine v
 | 0,_,_,h,_,_,_,_=>by simp[fit] at h
 | k+1,t,y,h,n,cs,x,hx=>by
  unfold fit at h;split at h
  .rename_i hu;cases y<;>simp only at h<;>try (cases h;done)
   obtain⟨b,rfl,_⟩:=DataW.trod_bool hu hx;exact⟨b,rfl,trivial⟩
  .rename_i i hu;cases y<;>simp only at h<;>try (cases h;done)
   have h:=Ej h;subst h;obtain⟨n0,rfl,_,hw⟩:=DataW.trod_int hu hx;exact⟨n0,rfl,hw⟩
  .rename_i hu;cases y<;>simp only at h<;>try (cases h;done)
   obtain⟨s,rfl,_,hw⟩:=DataW.trod_string hu hx;exact⟨s,rfl,hw⟩
  .rename_i e hu;cases y<;>simp only at h<;>try (cases h;done)
   rename_i z;simp only[Ai] at h;obtain⟨h1,h2⟩:=h;have h1:=Av h1;rcases Go.Deep.open_slice hu hx with ⟨rfl,_⟩ | ⟨a,len,cap,m,n',D0,Pl,rfl,_,hl,hm,hmm,_,hx⟩
   .exact⟨[],⟨none,0,rfl,Au _, .inl rfl⟩,by simp[Ty.fine]⟩
   .have hmc:m=cap:=by simpa using hmm
    obtain⟨l,l1,l2⟩:=z5p (p:=fun i v=> ∃cs',w.cells? 0 (a.add (i*P.cellsOf e)) (P.cellsOf e)=some cs' /\Dat (fun _=>False) w z v cs' /\z.fine v) len (fun i hi=>by
     obtain⟨cs',k1,k2⟩:=hx i (by omega);obtain⟨v,k3,k4⟩:=z7m h2 _ _ _ k2;exact⟨v,cs',k1,k3,k4⟩)
    refine⟨l,⟨some a,cap,by rw[l1],by omega,?_⟩,by rw[l1];omega,fun i hi=> ?_⟩
    .by_cases hl0:l= []
     .exact .inl hl0
     .right;have hpos:0<l.length:=by cases l with
       | nil=>exact absurd rfl hl0 | cons _ _=>simp
      have hz:=z.size_pos;obtain⟨cs',k1,_,_⟩:=l2 0 hpos;obtain⟨_,k3,k4⟩:=World.cells?_some k1;have hc:=k4 0 (by omega);have hlt0:0<cs'.length:=by omega
      rw[A4 hlt0] at hc;obtain⟨b,o,sp⟩:=a;have hsp:sp=none/\b<w.heap.size:=by
       simp only[Nat.zero_mul,Addr.add,Al] at hc;unfold World.cell? at hc;simp only at hc;split at hc
       .rename_i hb;split at hc
        .cases hc
        .rename_i hs;refine⟨by cases sp with
          | none=>rfl | some _=>simp at hs,?_⟩
         rcases B8 b w.heap.size with q | q
         .exact q
         .rw[Array.getElem?_eq_none q] at hb;cases hb
       .cases hc
      obtain⟨rfl,hb⟩:=hsp;refine⟨b,o,rfl,fun q=>q,hb,fun i hi=> ?_⟩;obtain⟨cs',k1,k2,_⟩:=l2 i hi;obtain⟨_,k3,k4⟩:=World.cells?_some k1;refine⟨cs',k2,fun j hj=> ?_⟩;rw[←k4 j (by omega),h1,z2p,z2p]
    .obtain⟨_,_,_,k4⟩:=l2 i hi;exact k4
  .rename_i fs hu;simp only[Ai] at h;obtain⟨h1,h2⟩:=h;have h1:=Av h1;obtain⟨xs,n',_,_,hlen,hxs,hx⟩:=DataW.trod_struct hu hx;have:=z8p (fun t y hg=>z7m hg) (n:=n') (cs:=cs) h2 (by omega) (fun i f hf=>by
    have hf' :fs[i]? =some f:=by simpa using hf
    have hi:i<xs.length:=by rw[hxs];exact(Cj.1 hf').1
    exact⟨xs[i],by rw[hx i f hf',A4 hi]⟩)
   simpa using this
  .cases h
end
section
open Go Go.ChangeShapes Go.RowKit
@[reducible] def shp:Ty->Sh
 | .int k=> .int k | .bool=> .bool | .str=> .str | .sl e=> .tr false e | .pair a b=> .pair (shp a) (shp b)
def z9v:(t:Ty)->t.den->(shp t).den
 | .int _,x=>x | .bool,x=>x | .str,x=>x | .sl _,x=>x | .pair a b,x=>(z9v a x.1,z9v b x.2)
abbrev Par:=Bool×Ty
@[reducible] def z8q (a:Par):Sh:=match a.1 with
 | true=> .agg (shp a.2) | false=>shp a.2
def z9u:(a:Par)->a.2.den->(z8q a).den
 | (true,t),x=>z9v t x | (false,t),x=>z9v t x
@[reducible] def z3z:List Par->Sh
 | [] => .unit | [a] =>z8q a | a::b::r=> .pair (z8q a) (z3z (b::r))
@[reducible] def y6n:List Par->Type
 | [] =>Unit | [a] =>a.2.den | a::b::r=>a.2.den×y6n (b::r)
def z4d:(as:List Par)->y6n as->(z3z as).den
 | [],_=>() | [a],x=>z9u a x | a::b::r,x=>(z9u a x.1,z4d (b::r) x.2)
def z7f:(as:List Par)->y6n as->Prop
 | [],_=>True | [a],x=>a.2.fine x | a::b::r,x=>a.2.fine x.1/\z7f (b::r) x.2
def y2j (P:Program) (t:Nat) (a:Par):Bool:=
 fit P 9 t a.2&&(match P.underlying t with
  | some (.struct _)=>a.1 | some .bool=> !a.1 | some (.int _)=> !a.1 | some .string=> !a.1 | some (.slice _)=> !a.1 | _=>false)
def z0l (P:Program):List Nat->List Par->Bool
 | [], [] =>true | t::ts,a::as=>y2j P t a&&z0l P ts as | _,_=>false
section
variable {P:Program} {w W W' :World} {H:Type} {enc:TypeId×Value->H} {N Np:Nat->Prop} {B:List (Option Nat)}
theorem z6c:∀ {t:Ty} {x:t.den} {vs:List Value} {Hh H0:z0a},Dat N w t x vs->CRs N Np Hh B w (emb (shp t) (z9v t x) H0).1 vs/\(emb (shp t) (z9v t x) H0).2=H0
 | .int _,_,_,_,_,h=>by cases h;simp[shp,z9v,emb,CRs,CR]
 | .bool,_,_,_,_,h=>by cases h;simp[shp,z9v,emb,CRs,CR]
 | .str,_,_,_,_,h=>by cases h;simp[shp,z9v,emb,CRs,CR]
 | .sl e,x,vs,_,_,h=>by
  have h' :=h;obtain⟨A,c,rfl,_⟩:=h;refine⟨?_,rfl⟩;simp only[emb,CRs,CR];exact⟨_,_,rfl,h',rfl⟩
 | .pair a b,x,vs,Hh,H0,h=>by
  obtain⟨us,ws,rfl,h1,h2⟩:=h;obtain⟨k1,k2⟩:=z6c (Hh:=Hh) (H0:=H0) h1;obtain⟨k3,k4⟩:=z6c (Hh:=Hh) (H0:=H0) h2;refine⟨?_,?_⟩
  .show CRs N Np Hh B w ((emb (shp a) (z9v a x.1) H0).1++(emb (shp b) (z9v b x.2) (emb (shp a) (z9v a x.1) H0).2).1) (us++ws);rw[k2];exact k1.append k3
  .show(emb (shp b) (z9v b x.2) (emb (shp a) (z9v a x.1) H0).2).2=H0;rw[k2,k4]
theorem y7n {t:Nat} {a:Par} (hf:y2j P t a=true) {base:Nat} {v:Value} (hv:Value.okWide P W .any base t v) {d:DataW H} {p:List MemPlace} (h:DataW.Trod enc P W 0 (fun _=>true) true t v d p):
 ∃x:a.2.den,a.2.fine x/\ ∀Hh H0,CRs (fun _=>False) (fun _=>False) Hh [] W (emb (z8q a) (z9u a x) H0).1 [v] /\(emb (z8q a) (z9u a x) H0).2=H0:=by
 unfold y2j at hf;simp only[Ai] at hf;obtain⟨hf,hg⟩:=hf;obtain⟨n,hn⟩:=h;obtain⟨x,hx,hfine⟩:=z7m hf _ _ _ hn;refine⟨x,hfine,fun Hh H0=> ?_⟩;obtain⟨g,ty⟩:=a;simp only at hf hg hx hfine;obtain⟨k1,k2⟩:=z6c (N:=fun _=>False) (Np:=fun _=>False) (B:= []) (Hh:=Hh) (H0:=H0) hx;unfold Value.okWide at hv;split at hg
 .rename_i fs hu;subst hg;rw[hu] at hv;obtain⟨cs,rfl,_,_⟩:=hv;refine⟨?_,k2⟩;show CRs _ _ _ _ _ [D.agg (emb (shp ty) (z9v ty x) H0).1] [Value.agg cs];simp only[CRs,CR];exact⟨_,_,rfl,⟨cs,rfl,k1⟩,rfl⟩
 all_goals (try (cases hg;done))
 all_goals
  rename_i hu;rw[hu] at hv;simp only[Cell.okWide,hu,Cell.ok] at hv;have hg' :g=false:=by simpa using hg
  subst hg';have hc:v.cells.toList= [v] :=by
   cases v<;>first | rfl | (simp at hv;done) | simp_all [Value.cells]
  rw[hc] at k1;exact⟨k1,k2⟩
theorem z9m {base:Nat} :∀ {ts:List Nat} {as:List Par} {vs:List Value} {ds:List (DataW H)} {p:List MemPlace},z0l P ts as=true->(∀(j:Nat) t v,ts[j]? =some t->vs[j]? =some v->Value.okWide P W .any base t v)->
 DataW.TrodAll enc P W 0 (fun _=>true) true ts vs ds p-> ∃x:y6n as,z7f as x/\ ∀Hh H0,CRs (fun _=>False) (fun _=>False) Hh [] W (emb (z3z as) (z4d as x) H0).1 vs/\(emb (z3z as) (z4d as x) H0).2=H0
 | [], [],vs,ds,p,_,_,h=>by
  obtain⟨rfl,rfl,rfl⟩:=trodAll_nil h;exact⟨(),trivial,fun Hh H0=>⟨by simp[z4d,emb,CRs],rfl⟩⟩
 | [],_::_,_,_,_,hf,_,_=>by simp[z0l] at hf
 | _::_, [],_,_,_,hf,_,_=>by simp[z0l] at hf
 | t::ts,a::as,vs,ds,p,hf,hv,h=>by
  simp only[z0l,Ai] at hf;obtain⟨v,vs',d,ds',p1,p2,rfl,rfl,rfl,h1,h2⟩:=trodAll_cons h;obtain⟨x,k1,k2⟩:=y7n hf.1 (hv 0 t v rfl rfl) h1;obtain⟨y,k3,k4⟩:=z9m hf.2 (fun j t v h1 h2=>hv (j+1) t v (by simpa using h1) (by simpa using h2)) h2;cases as with
  | nil=>
   cases ts with
   | cons _ _=>simp[z0l] at hf | nil=>
    obtain⟨rfl,rfl,rfl⟩:=trodAll_nil h2;exact⟨x,k1,k2⟩
  | cons b r=>
   refine⟨(x,y),⟨k1,k3⟩,fun Hh H0=> ?_⟩;obtain⟨q1,q2⟩:=k2 Hh H0;obtain⟨q3,q4⟩:=k4 Hh H0;refine⟨?_,?_⟩
   .show CRs _ _ _ _ _ ((emb (z8q a) (z9u a x) H0).1++(emb (z3z (b::r)) (z4d (b::r) y) (emb (z8q a) (z9u a x) H0).2).1) (v::vs');rw[q2];exact q1.append q3
   .show(emb (z3z (b::r)) (z4d (b::r) y) (emb (z8q a) (z9u a x) H0).2).2=H0;rw[q2,q4]
theorem z5k (hl:laidOutB P=true) (hb:Below W.heap.size W W'):∀ {ts:List Nat} {vs:List Value} {ds:List (DataW H)} {p:List MemPlace},(ts.all fun t=>P.readableRec t&&decide (t<P.types.size))=true->
 DataW.TrodAll enc P W 0 (fun _=>true) true ts vs ds p->DataW.TrodAll enc P W' 0 (fun b=>decide (b<W.heap.size)) true ts vs ds p
 | [],vs,ds,p,_,h=>by
  obtain⟨rfl,rfl,rfl⟩:=trodAll_nil h;exact trodAll_mk0
 | t::ts,vs,ds,p,hr,h=>by
  simp only[Gc,Ai,Ar] at hr;obtain⟨v,vs',d,ds',p1,p2,rfl,rfl,rfl,h1,h2⟩:=trodAll_cons h;have lt:∀x∈p1,x.block<W.heap.size:=by obtain⟨m,hm⟩:=h1;exact DataW.trod_lt m _ _ _ hm
  exact trodAll_cons_mk (Below.trod hl hr.1.1 hr.1.2 h1 hb lt) (z5k hl hb (by simpa using hr.2) h2)
theorem y0g {Hh:z0a} {ds:List D} {u:Used} {b:Bool} (h:ext false Hh .bool ds [] =some (b, [],u)):ds= [.bool b] :=by
 cases ds with
 | nil=>simp[ext] at h | cons d ds=>
  cases d<;>simp only[ext] at h<;>try (cases h;done)
  simp only[Ac,Ak] at h;obtain⟨rfl,rfl,_⟩:=h;rfl
end
theorem y4x {H:Type} {enc:TypeId×Value->H} {C:Checked} {f:Nat} {fn:Func} {s:ChangeSpec} {conds:List PathCond} {ps:List Par} {rt:Nat} (hl:laidOutB C.prog=true) (hfit:z0l C.prog fn.params.toList ps=true)
 (hread:(fn.params.toList.all fun t=>C.prog.readableRec t&&decide (t<C.prog.types.size))=true) (hres:fn.resultTypes= #[rt]) (hbool:C.prog.underlying rt=some .bool) (hvars:s.vars= [])
 (hspec:∀ds:List (DataW H),ds.length=ps.length->s.fn H ds= {results:= [.lit (.bool true)],args:=ds})
 (hans:∀x:y6n ps,z7f ps x->z1n C.prog z7l f {ins:=z3z ps,inout:= [],out:= .bool,nres:=1} (z4d ps x) true):
 ∀(W:World) (base:Nat) (args:Array Value) (ds gs:List (DataW H)) (before:List MemPlace),
  (∀(j:Nat) t v,fn.params[j]? =some t->args[j]? =some v->Value.okWide C.prog W .any base t v)->
  DataW.Whole enc C.prog fn.params.toList s.vars false W args.toList ds gs before->
  conds.all (PathCond.test C.prog ⟨fn.params.toList,ds,s.plain.varTypes C.prog,gs⟩)=true->
  (DataW.weightsEach C.prog (fn.params.toList++s.plain.varTypes C.prog) (ds++gs)).all (·<=reachBytes)=true->
  ({} :Assume).holds C.prog (lone (Frame.enter C.prog f args .normal) [] W)->
  Calls C.prog f args W fun e W' => ∃v,e= .returned v/\s.post enc C.prog fn false true false false W args v W' :=by
 intro W base args ds gs before hval hW _ _ _;have hW' :=hW;obtain⟨p,q,hA,hV,rfl,_,_⟩:=hW;rw[hvars] at hV;obtain⟨rfl,rfl⟩:=trodVars_none hV;obtain⟨x,hx,hc⟩:=z9m hfit (fun j t v h1 h2=>hval j t v (by simpa using h1) (by simpa using h2)) hA
 let C0:Cx:= {w0:=W,W0:=fun _=>False,Lb:=fun _=>False,Lp:=fun _=>False,nt:=0,fx:= [],fv:=fun _=>undef,gd:=z7l}
 obtain⟨hc1,hc2⟩:=hc [] [];have hno:∀b:Nat,¬Has [] b:=fun b ⟨i,k⟩=>by simp at k
 have hs:HS C0 (emb (z3z ps) (z4d ps x) []).2 [] C0.w0:=by
  rw[hc2]
  exact {
   lenB:=rfl
   nodup:=fun i j rb k=>by simp at k
   alloc:=fun i rb k=>by simp at k
   blk:=fun i b ob k=>by simp at k
   lb:=fun b k=>k
   lp:=fun b k=>k.elim
   fr:=Fr.refl _ _
   gl:=fun b k=>k.elim
   gp:=trivial}
 have hcr:CRs (C0.N []) (C0.Np []) (emb (z3z ps) (z4d ps x) []).2 [] C0.w0 (emb (z3z ps) (z4d ps x) []).1 args.toList:=by
  rw[hc2];exact hc1.step (z2x (fun b k=>k.elim (hno b) (fun z=>z)) (fun b k=>k.elim (hno b) (fun z=>z)))
 have:=hans x hx C0 [] args.toList rfl hs hcr;have ha:args.toList.toArray=args:=by simp
 rw[ha] at this;refine Calls.mono this ?_;intro e w' hR;cases e with
 | panicked _=>exact hR.elim | outgrown=>exact hR.elim | returned v=>
  obtain⟨H1,B1,ds1,vs,u1,g1,g2,g3,g4,g5⟩:=hR;have hds:=y0g g3;subst hds;have hkv:z0z [] args.toList= [] :=rfl;rw[hkv,Bw] at g2;simp only[CRs,CR] at g2;obtain⟨_,_,rfl,rfl,rfl⟩:=g2;have hbel:Below W.heap.size W w' :=⟨g1.fr.os,g1.fr.tape,g1.fr.output,g1.fr.size,fun k hk=>g1.fr.same k hk (fun z=>z)⟩;refine⟨_,rfl,?_⟩;have hlen:ds.length=ps.length:=by
   have l1:∀ {ts:List Nat} {vs:List Value} {ds:List (DataW H)} {p:List MemPlace},DataW.TrodAll enc C.prog W 0 (fun _=>true) true ts vs ds p->ds.length=ts.length:=by
    intro ts
    induction ts with
    | nil=>intro vs ds p h;obtain⟨_,rfl,_⟩:=trodAll_nil h;rfl | cons t ts ih=>intro vs ds p h;obtain⟨_,_,_,_,_,_,_,rfl,_,_,h2⟩:=trodAll_cons h;simp[ih h2]
   have l2:∀ {ts:List Nat} {ps:List Par},z0l C.prog ts ps=true->ts.length=ps.length:=by
    intro ts
    induction ts with
    | nil=>intro as h;cases as<;>simp[z0l] at h ⊢
    | cons t ts ih=>intro as h;cases as with
     | nil=>simp[z0l] at h | cons a as=>simp only[z0l,Ai] at h;simp[ih h.2]
   rw[l1 hA,l2 hfit]
  have hsp:=hspec (ds++ []) (by simpa using hlen);refine⟨ds, [],p++ [], [],p, [],hW',?_,?_,?_,hbel.frame _,fun h=>by cases h⟩
  .rw[hsp,g5,hres];exact trodAll_mk1 ⟨1,by simp[DataW.trod,Value.cells,hbool,y2x,Value.resultList]⟩
  .rw[hsp];simpa using z5k hl hbel hread hA
  .rw[hvars,hsp];exact rfl
end
def z1u {X:Type} :List (Nat×X)->Nat->Option X
 | [],_=>none | e::r,t=>match Nat.beq e.1 t with
  | true=>some e.2 | false=>z1u r t
theorem z1a {X:Type} :∀ {l:List (Nat×X)} {t:Nat} {x:X},z1u l t=some x->(t,x)∈l
 | [],_,_,h=>by cases h
 | e::r,t,x,h=>by
  simp only[z1u] at h;split at h
  .rename_i hb;have:=Av hb;simp only[Ac] at h;subst this;subst h;simp
  .exact Bm _ (z1a h)
def y6u {X:Type} :List X->Nat->Option X
 | [],_=>none | x::_,0=>some x | _::r,n+1=>y6u r n
theorem y2q {X:Type} :∀(l:List X) (n:Nat),y6u l n=l[n]?
 | [],_=>by simp[y6u]
 | x::_,0=>by simp[y6u]
 | _::r,n+1=>by simp[y6u,y2q r n]
def vE:Value->Value->Bool
 | .int k n, .int k' n' =>decide (k=k')&&decide (n=n') | .bool a, .bool b=>a==b | .string a, .string b=>(match a.data.toList,b.data.toList with
  | [], [] =>true | _,_=>false)
 | .slice none 0 0, .slice none 0 0=>true | _,_=>false
theorem y9h {u v:Value} (h:vE u v=true):u=v:=by
 unfold vE at h;split at h
 .simp only[Ai,Ar] at h;obtain⟨rfl,rfl⟩:=h;rfl
 .simp at h;rw[h]
 .rename_i a b;split at h
  .rename_i h1 h2;obtain⟨⟨a⟩⟩:=a;obtain⟨⟨b⟩⟩:=b;simp at h1 h2;rw[h1,h2]
  .cases h
 .rfl
 .cases h
def vsE:List Value->List Value->Bool
 | [], [] =>true | u::us,v::vs=>vE u v&&vsE us vs | _,_=>false
theorem y3l:∀ {us vs:List Value},vsE us vs=true->us=vs
 | [], [],_=>rfl | u::us,v::vs,h=>by
  simp only[vsE,Ai] at h;rw[y9h h.1,y3l h.2]
 | [],_::_,h=>by cases h
 | _::_, [],h=>by cases h
structure Tabs where
 ty:List (Nat×Ty)
 lay:List (Nat×Nat×Bool)
 fld:List (Nat×List (Nat×Nat×Bool))
 eqs:List (Nat×List Ek):= []
 tz:List (Nat×Ty):= []
def tyE (P:Program) (T:Tabs) (t:Nat) (y:Ty):Bool:=
 match P.info? t,P.underlying t with
 | some i,some d=>
  Nat.beq i.size y.size&&(match i.zero with
   | some z=>vsE z.cells.toList (z2n y) | none=>false)&&Nat.ble y.size 64&&
  (match y,d with
   | .int k, .int k' =>decide (k' =k) | .bool, .bool=>true | .str, .string=>true | .sl e, .slice et=>(match z1u T.ty et with
    | some e' =>decide (e' =e)&&(match P.info? et with
     | some ie=>Nat.ble ie.bytes 128 | none=>true)
    | none=>false)
   | .pair _ _,_=>true | _,_=>false)
 | _,_=>false
def y6c (P:Program) (t n:Nat) (ag:Bool):Bool:=
 match P.info? t,P.underlying t with
 | some i,some d=>Nat.beq i.size n&&(z2q d==ag)&&(match i.zero with
  | some z=>Nat.beq z.cells.size n | none=>false)
 | _,_=>false
def z9f (P:Program):List Field->List (Nat×Nat×Bool)->Bool
 | [], [] =>true | f::fs,(o,n,ag)::r=>Nat.beq f.offset o&& !(Nat.beq n 0)&&y6c P f.type n ag&&z9f P fs r | _,_=>false
def y8f (P:Program) (t:Nat) (l:List (Nat×Nat×Bool)):Bool:=
 match P.underlying t,P.info? t with
 | some (.struct fs),some i=>z9f P fs.toList l&&(match i.zero with
  | some _=>true | none=>false)
 | _,_=>false
def ekE:Ek->TypeDesc->Bool
 | .i, .int _=>true | .b, .bool=>true | .s, .string=>true | _,_=>false
def y6q (P:Program):Nat->List Ek->List Field->Bool
 | _, [], [] =>true | o,k::ks,f::fs=>Nat.beq f.offset o&& !(f.name== "_")&&(match P.underlying f.type with
  | some d=>ekE k d | none=>false)&&y6q P (o+1) ks fs
 | _,_,_=>false
def eqE (P:Program) (t:Nat) (ks:List Ek):Bool:=
 match P.underlying t with
 | some (.struct fs)=> !P.stoodInHeld t&& !P.eqGuardType P.depth t&&y6q P 0 ks fs.toList | _=>false
def tzE (P:Program) (t:Nat) (y:Ty):Bool:=
 match P.info? t with
 | some i=>Nat.beq i.size y.size&&(match i.zero with
  | some z=>vsE z.cells.toList (z2n y) | none=>false)
 | none=>false
def y7u (P:Program) (T:Tabs):Bool:=
 T.eqs.all (fun e=>eqE P e.1 e.2)&&T.ty.all (fun e=>tyE P T e.1 e.2)&&T.lay.all (fun e=>y6c P e.1 e.2.1 e.2.2)&&T.fld.all (fun e=>y8f P e.1 e.2)&&T.tz.all (fun e=>tzE P e.1 e.2)
structure Plan where
 sig:Nat->Sig
 join:Nat->Nat->Option Join
 loop:Nat->Nat->Option LoopA
 fn:Nat->Nat:=fun f=>f
 pick:Nat->List Nat->Nat:=fun f _=>f
 pickF:Nat->Nat->List Nat->Nat:=fun _ f l=>pick f l
 prim:(f:Nat)->Option ((sig f).ins.den->Option (sig f).out.den):=fun _=>none
 gd:Guard:=z7l
def ann (T:Tabs) (S:Plan):Ann where
 sig:=S.sig
 prim:=S.prim
 fn:=S.fn
 pick:=S.pick
 pickF:=S.pickF
 gd:=S.gd
 ty:=z1u T.ty
 tz:=fun t=>match z1u T.tz t with
  | some y=>some y | none=>z1u T.ty t
 lay:=z1u T.lay
 fld:=fun t f=>match z1u T.fld t with
  | some l=>y6u l f | none=>none
 eqt:=z1u T.eqs
 join:=S.join
 loop:=S.loop
section
variable {P:Program} {T:Tabs} {S:Plan}
theorem y2f {w:World} :∀ {ks:List Ek} {fs:List Field} {o:Nat} {cs ds:List D} {xs ys:Array Value} {b:Bool} {N Np:Nat->Prop} {H:z0a} {B:List (Option Nat)},y6q P o ks fs=true->y0e ks cs ds=some b->
 CRs N Np H B w cs (xs.toList.drop o)->CRs N Np H B w ds (ys.toList.drop o)-> ∀n,(Op.eqFields (n+1) xs ys fs).run P w= .ok b w
 | [],fs,o,cs,ds,xs,ys,b,N,Np,H,B,hf,h,_,_,n=>by
  cases fs with
  | cons _ _=>simp[y6q] at hf | nil=>
   cases cs<;>cases ds<;>simp[y0e] at h
   subst h;simp[Op.eqFields]
 | k::ks,fs,o,cs,ds,xs,ys,b,N,Np,H,B,hf,h,h1,h2,n=>by
  cases fs with
  | nil=>simp[y6q] at hf | cons f fs=>
  simp only[y6q,Ai,Bj] at hf;obtain⟨⟨⟨a1,a2⟩,a3⟩,a4⟩:=hf;have a1:=Av a1;have hname:f.name≠ "_" :=by simpa using a2
  split at a3
  case h_2=>cases a3
  rename_i de hu;have hag:z2q de=false:=by cases k<;>cases de<;>simp_all [ekE,z2q]
  cases cs with
  | nil=>cases k<;>simp[y0e] at h
  | cons c cs=>
  cases ds with
  | nil=>cases k<;>cases c<;>simp[y0e] at h
  | cons d ds=>
   simp only[CRs] at h1 h2;obtain⟨u,us,e1,c1,r1⟩:=h1;obtain⟨v,vs,e2,c2,r2⟩:=h2;have hx:xs[o]? =some u:=by
    have:(xs.toList.drop o)[0]? =some u:=by rw[e1];rfl
    simpa using this
   have hy:ys[o]? =some v:=by
    have:(ys.toList.drop o)[0]? =some v:=by rw[e2];rfl
    simpa using this
   have d1:xs.toList.drop (o+1)=us:=by rw[←Gl,e1];rfl
   have d2:ys.toList.drop (o+1)=vs:=by rw[←Gl,e2];rfl
   rw[←d1] at r1;rw[←d2] at r2;have p1:(part f.type xs o).run P w= .ok u w:=by
    unfold part;simp[z4c hu,hag,hx]
   have p2:(part f.type ys o).run P w= .ok v w:=by
    unfold part;simp[z4c hu,hag,hy]
   have key:∀(x:Bool) (r:Bool),y0e ks cs ds=some r->(Op.equalIn (n+1) f.type u v).run P w= .ok x w->b=(x&&r)->(Op.eqFields (n+1) xs ys (f::fs)).run P w= .ok b w:=by
    intro x r hr hq hb;have ih:=y2f (xs:=xs) (ys:=ys) a4 hr r1 r2 n;simp only[Op.eqFields,hname,ne_eq,not_false_eq_true,Bl,Sem.run_bind,a1,p1,p2,hq,Result.andThen_ok];cases x
    .simp[hb]
    .simp[hb,ih]
   cases k
   .cases c<;>cases d<;>simp only[y0e] at h<;>try (cases h;done)
    cases de<;>simp[ekE] at a3
    simp only[CR] at c1 c2;subst c1;subst c2;split at h
    .rename_i e;subst e;split at h
     .rename_i r hr;simp only[Ac] at h;exact key _ r hr (run_equalIn_int w n f.type _ _ _ _ hu) (by rw[←h,Cd];simp)
     .cases h
    .cases h
   .cases c<;>cases d<;>simp only[y0e] at h<;>try (cases h;done)
    cases de<;>simp[ekE] at a3
    simp only[CR] at c1 c2;subst c1;subst c2;split at h
    .rename_i r hr;simp only[Ac] at h;exact key _ r hr (run_equalIn_bool' w n f.type _ _ hu) h.symm
    .cases h
   .cases c<;>cases d<;>simp only[y0e] at h<;>try (cases h;done)
    cases de<;>simp[ekE] at a3
    simp only[CR] at c1 c2;subst c1;subst c2;split at h
    .rename_i r hr;simp only[Ac] at h;exact key _ r hr (run_equalIn_string w n f.type _ _ hu) h.symm
    .cases h
theorem y7c {t:Nat} {ks:List Ek} (h:eqE P t ks=true):P.eqGuardType P.depth t=false/\ ∀(w:World) (cs ds:List D) (xs ys:Array Value) (b:Bool),y0e ks cs ds=some b->
 (∀N Np H B,CRs N Np H B w cs xs.toList->CRs N Np H B w ds ys.toList->(Op.equalIn 10000 t (.agg xs) (.agg ys)).run P w= .ok b w):=by
 unfold eqE at h;split at h
 .rename_i fs hu;simp only[Ai,Bj] at h;obtain⟨⟨h1,h2⟩,h3⟩:=h;refine⟨h2,fun w cs ds xs ys b e N Np H B k1 k2=> ?_⟩;have hfs:P.fieldsOf t=fs:=by simp[Program.fieldsOf,hu]
  rw[show(10000:Nat)=9998+1+1 from rfl,run_equalIn_struct w (9998+1) t xs ys (by rw[hfs];exact hu) h1,hfs];exact y2f h3 e (by simpa using k1) (by simpa using k2) 9998
 .cases h
theorem z9i {t n:Nat} {ag:Bool} (h:y6c P t n ag=true):∃i d,P.info? t=some i/\i.size=n/\P.underlying t=some d/\z2q d=ag:=by
 unfold y6c at h;split at h
 .rename_i i d h1 h2;simp only[Ai,Hq] at h;exact⟨i,d,h1,Av h.1.1,h2,h.1.2⟩
 .cases h
theorem y4d {t n:Nat} {ag:Bool} (h:y6c P t n ag=true):∃i z,P.info? t=some i/\i.zero=some z/\z.cells.size=n:=by
 unfold y6c at h;split at h
 .rename_i i d h1 h2;simp only[Ai,Hq] at h;have h3:=h.2;split at h3
  .rename_i z hz;exact⟨i,z,h1,hz,Av h3⟩
  .cases h3
 .cases h
theorem z7g:∀ {fs:List Field} {l:List (Nat×Nat×Bool)},z9f P fs l=true->(∀(f o n:Nat) ag,l[f]? =some (o,n,ag)-> ∃fd,fs[f]? =some fd/\fd.offset=o/\n≠0/\y6c P fd.type n ag=true)/\
 ∃places,fs.mapM (fun f=>(P.info? f.type).map fun i=>(f.offset,i.size))=some places/\ ∀(f o n:Nat) ag,l[f]? =some (o,n,ag)->places[f]? =some (o,n)
 | [], [],_=>⟨fun f o n ag h=>by simp at h, [],rfl,fun f o n ag h=>by simp at h⟩ | f::fs,(o,n,ag)::r,h=>by
  simp only[z9f,Ai,Bj] at h;obtain⟨⟨⟨h1,h2⟩,h3⟩,h4⟩:=h;obtain⟨k1,places,k2,k3⟩:=z7g h4;have h1:=Av h1;obtain⟨i,d,q1,q2,_,_⟩:=z9i h3;refine⟨fun j o' n' ag' hj=> ?_,(o,n)::places,?_,fun j o' n' ag' hj=> ?_⟩
  .cases j with
   | zero=>
    simp only[Bt,Ac,Ak] at hj;obtain⟨rfl,rfl,rfl⟩:=hj;exact⟨f,rfl,h1,fun z=>by subst z;simp at h2,h3⟩
   | succ j=>exact k1 j o' n' ag' (by simpa using hj)
  .simp only[List.mapM_cons,q1,Dc,k2,h1,q2];rfl
  .cases j with
   | zero=>
    simp only[Bt,Ac,Ak] at hj;obtain⟨rfl,rfl,rfl⟩:=hj;rfl
   | succ j=>simpa using k3 j o' n' ag' (by simpa using hj)
 | [],_::_,h=>by simp[z9f] at h
 | _::_, [],h=>by simp[z9f] at h
theorem y9f (h:y7u P T=true) (hm:P.follows .mixedOrders=true):TyOk P (ann T S):=by
 unfold y7u at h;simp only[Ai] at h;obtain⟨⟨⟨⟨h0,h1⟩,h2⟩,h3⟩,h4⟩:=h;have ty:∀t y,z1u T.ty t=some y->tyE P T t y=true:=fun t y e=>Bg.mp h1 _ (z1a e)
 have key:∀t y,z1u T.ty t=some y-> ∃i z d,P.info? t=some i/\i.size=y.size/\i.zero=some z/\z.cells.toList=z2n y/\True/\y.size<=64/\P.underlying t=some d/\
  (match y,d with
   | .int k, .int k' =>decide (k' =k) | .bool, .bool=>true | .str, .string=>true | .sl e, .slice et=>(match z1u T.ty et with
    | some e' =>decide (e' =e)&&(match P.info? et with
     | some ie=>Nat.ble ie.bytes 128 | none=>true)
    | none=>false)
   | .pair _ _,_=>true | _,_=>false)=true:=by
  intro t y e;have:=ty t y e;unfold tyE at this;split at this
  .rename_i i d q1 q2;simp only[Ai] at this;obtain⟨⟨⟨a1,a2⟩,a4⟩,a5⟩:=this;split at a2
   .rename_i z hz;exact⟨i,z,d,q1,Av a1,hz,y3l a2,trivial,Cw a4,q2,a5⟩
   .cases a2
  .cases this
 have fld:∀t f o n ag,(ann T S).fld t f=some (o,n,ag)-> ∃l,l[f]? =some (o,n,ag)/\z1u T.fld t=some l/\y8f P t l=true:=by
  intro t f o n ag e;simp only[ann] at e;split at e
  .rename_i l hl;rw[y2q] at e;exact⟨l,e,hl,Bg.mp h3 _ (z1a hl)⟩
  .cases e
 have fldk:∀t l,y8f P t l=true-> ∃fs i z,P.underlying t=some (.struct fs)/\P.info? t=some i/\i.zero=some z/\z9f P fs.toList l=true:=by
  intro t l e;unfold y8f at e;split at e
  .rename_i fs i q1 q2;simp only[Ai] at e;obtain⟨a1,a2⟩:=e;split at a2
   .rename_i z hz;exact⟨fs,i,z,q1,q2,hz,a1⟩
   .cases a2
  .cases e
 exact {
  lay:=fun t n ag e=>z9i (Bg.mp h2 _ (z1a (x:=(n,ag)) e))
  zer:=fun t n ag e=>y4d (Bg.mp h2 _ (z1a (x:=(n,ag)) e))
  fld:=fun s f o n ag e=>by
   obtain⟨l,e1,_,e2⟩:=fld s f o n ag e;obtain⟨fs,i,z,q1,_,_,q4⟩:=fldk s l e2;obtain⟨fd,r1,r2,r3,r4⟩:=(z7g q4).1 f o n ag e1;obtain⟨i',d,s1,s2,s3,s4⟩:=z9i r4;exact⟨fs,fd,i',d,q1,by simpa using r1,r2,s1,s2,r3,s3,s4⟩
  tyi:=fun t y e=>by
   obtain⟨i,z,d,q1,q2,q3,q4,q5,q6,_⟩:=key t y e;exact⟨i,z,q1,q2,q3,q4,q5,q6⟩
  tzi:=fun t y e=>by
   simp only[ann] at e;split at e
   .rename_i y' hy;cases e;have:=Bg.mp h4 _ (z1a hy);unfold tzE at this;split at this
    .rename_i i hi;simp only[Ai] at this;obtain⟨a1,a2⟩:=this;split at a2
     .rename_i z hz;exact⟨i,z,hi,Av a1,hz,y3l a2⟩
     .cases a2
    .cases this
   .obtain⟨i,z,d,q1,q2,q3,q4,_⟩:=key t y e;exact⟨i,z,q1,q2,q3,q4⟩
  int:=fun t k e=>by
   obtain⟨i,z,d,_,_,_,_,_,_,q7,q8⟩:=key t _ e;cases d<;>simp only at q8<;>try (cases q8;done)
   have:=Ej q8;subst this;exact q7
  bool:=fun t e=>by
   obtain⟨i,z,d,_,_,_,_,_,_,q7,q8⟩:=key t _ e;cases d<;>simp only at q8<;>try (cases q8;done)
   exact q7
  str:=fun t e=>by
   obtain⟨i,z,d,_,_,_,_,_,_,q7,q8⟩:=key t _ e;cases d<;>simp only at q8<;>try (cases q8;done)
   exact q7
  sl:=fun t e0 e=>by
   obtain⟨i,z,d,_,_,_,_,_,_,q7,q8⟩:=key t _ e;cases d<;>simp only at q8<;>try (cases q8;done)
   rename_i et;split at q8
   .rename_i e' he;simp only[Ai] at q8;have:=Ej q8.1;subst this;exact⟨et,q7,he⟩
   .cases q8
  small:=fun t e0 et0 i0 e hu hi=>by
   obtain⟨i,z,d,_,_,_,_,_,_,q7,q8⟩:=key t _ e;rw[q7] at hu;cases hu;simp only at q8;split at q8
   .simp only[Ai] at q8;have q9:=q8.2;rw[hi] at q9;exact Cw q9
   .cases q8
  some_:=fun t y e=>by
   obtain⟨i,z,d,_,_,_,_,_,_,q7,_⟩:=key t y e;exact⟨d,q7⟩
  bld:=fun t f o n ag e=>by
   obtain⟨l,e1,el,e2⟩:=fld t f o n ag e;obtain⟨fs,i,z,q1,q2,q3,q4⟩:=fldk t l e2;obtain⟨places,r1,r2⟩:=(z7g q4).2;refine⟨i,z,fs,places,q2,q1,q3,r1,fun f' o' n' ag' e' => ?_⟩;obtain⟨l',e1',el',_⟩:=fld t f' o' n' ag' e';rw[el] at el';cases el';exact r2 f' o' n' ag' e1'
  eqt:=fun t ks e=>y7c (Bg.mp h0 _ (z1a (l:=T.eqs) e))
  mixed:=hm}
end
theorem y5p {P:Program} {A:Ann} {k f:Nat} {fn:Func} (hp:A.prim f=none) (hf:P.funcs[A.fn f]? =some fn) (x:(A.sig f).ins.den):
 (lvl P A (k+1)).call f x=body A (lvl P A k) k f fn x:=by
 simp only[lvl,hp,hf]
theorem y8v {P:Program} {A:Ann} {f:Nat} {fn:Func} (hp:A.prim f=none) (hf:P.funcs[A.fn f]? =some fn) {X:Nat->(A.sig f).ins.den->Option (A.sig f).out.den} (hb:∀k x,body A (lvl P A k) k f fn x=X k x) (k:Nat)
 (x:(A.sig f).ins.den):(lvl P A (k+1)).call f x=X k x:=(y5p hp hf x).trans (hb _ _)
theorem y8o {P:Program} (h:(P.funcs.toList.all fun fn=> !(fn.name== "runtime.NumGoroutine"))=true) (f:Nat) (fn:Func) (hf:P.funcs[f]? =some fn):(fn.name== "runtime.NumGoroutine")=false:=by
 have hm:fn∈P.funcs.toList:=Dn (i:=f) (by simpa using hf);have:=Bg.mp h fn hm;simpa using this
theorem y4f {X S:Type} {step:(X->Option S)->X->Option S} {r:S} (I:Nat->X->Prop)
 (h:∀m x,I m x-> ∀again:X->Option S,(∀y m',m' <m->I m' y->again y=some r)->step again x=some r):∀(n m:Nat) (x:X),m<n->I m x->z0x step n x=some r
 | 0,_,_,hm,_=>absurd hm (by omega) | n+1,m,x,hm,hI=>h m x hI _ (fun y m' hlt hy=>y4f I h n m' y (by omega) hy)
theorem y5f {n:Int} (h1: -9223372036854775808<=n) (h2:n<=9223372036854775807):IntKind.i64.wrap n=n:=by
 simp[IntKind.wrap,IntKind.bits,IntKind.signed];omega
theorem y8q {n:Nat} (h:n<=4611686018427387904):IntKind.i64.wrap (n:Int)=(n:Int):=y5f (by omega) (by omega)
theorem y7x {i:Nat} (h:i<4611686018427387904):IntKind.i64.wrap ((i:Int)+(1:Int))=((i+1:Nat):Int):=by
 rw[y5f (by omega) (by omega)];simp
theorem y8h {i n:Nat} (h:i<n):y4v (i:Int) n=true:=by
 simp[y4v,h]
theorem y9b {t:Ty} {l:List t.den} {i:Nat} (h:i<l.length):rdL t l ((i:Int)).toNat=l[i] :=by
 simp[rdL,h]
theorem y9a {t:Ty} {l:List t.den} {i:Nat} (h:i<l.length):rdL t l i=l[i] :=by
 simp[rdL,h]
theorem y7r {a b:ByteArray} :z7q a b=true↔a=b:=by
 unfold z7q;rw[Hq];constructor
 .intro h;rw[ByteArray.toList_eq,ByteArray.toList_eq] at h;obtain⟨⟨a⟩⟩:=a;obtain⟨⟨b⟩⟩:=b;simp only at h;rw[h]
 .intro h;rw[h]
theorem y6w (a:ByteArray):z7q a a=true:=y7r.mpr rfl
theorem y7d {α:Type} {l:List α} {z:α} {i:Nat} {f:α->α} (h:i<l.length):
 ((l.map f).take i++List.replicate (l.length - i) z).set i (f l[i])=(l.map f).take (i+1)++List.replicate (l.length - (i+1)) z:=by
 have h1:((l.map f).take i).length=i:=by simp;omega
 rw[List.set_append_right _ _ (by omega),h1,Dw];have:l.length - i=(l.length - (i+1))+1:=by omega
 rw[this,List.replicate_succ,Hj,Gm];simp[h]
end Go.Proofs.YtkphhjdbdnoekaaGreatDoor.Ab
