import Derived.Test.YtkphhjdbdnoekaaGreatDoorAbE11
namespace Go.Proofs.YtkphhjdbdnoekaaGreatDoor.Ab
open Go
set_option linter.unusedVariables false
set_option linter.unusedSimpArgs false
set_option linter.unnecessarySimpa false
section
variable {P:Program} {A:Ann} {V:Lvl A} {all:List Oper} {ops:Array Oper} {C:Cx} {env env' E:List D} {H H0 H1:z0a} {B:List (Option Nat)} {a:Act} {w w' :World} {e:Nat}
theorem z9c {t:Nat} {v u:Value} (h:(Instr.loadAt t v).run P w= .ok u w):(do loadVar t (←asAddr v)).run P w= .ok u w:=by
 cases v<;>simp[Instr.loadAt,Instr.sureAddr,asAddr,stuck] at h ⊢
 rename_i o;cases o with
 | none=>simp[Instr.loadAt,Instr.sureAddr,asAddr,stuck] at h | some a=>simpa[Instr.loadAt,Instr.sureAddr,asAddr] using h
def y0q (tmps:Array Value):ResultVar->Sem Value
 | .tmp t=>pure (tmps.getD t undef) | .cell a t=>do loadVar t (←asAddr (tmps.getD a undef))
theorem z9n (ok:TyOk P A) (h:St C env H B a w):∀ {rs:List ResultVar} {ds:List D},y3o A env H rs=some ds-> ∃vs:List Value,(rs.mapM (y0q a.tmps)).run P w= .ok vs w/\CRs (C.N B) (C.Np B) H B w ds vs
 | [],ds,hr=>by
  simp only[y3o,Ac] at hr;subst hr;exact⟨[],by simp,by simp[CRs]⟩
 | .tmp t::rs,ds,hr=>by
  simp only[y3o] at hr;split at hr
  .rename_i ds' h1;simp only[Ac] at hr;subst hr;obtain⟨vs,k1,k2⟩:=z9n ok h h1;refine⟨_::vs,?_,by simp only[CRs];exact⟨_,_,rfl,h.envs t,k2⟩⟩;simp only[List.mapM_cons,y0q,Sem.run_bind,Sem.run_pure,Result.andThen_ok,k1]
  .cases hr
 | .cell ad t::rs,ds,hr=>by
  simp only[y3o] at hr;split at hr
  .rename_i n ag hl;split at hr
   .rename_i d ds' hd h1;simp only[Ac] at hr;subst hr;obtain⟨vs,k1,k2⟩:=z9n ok h h1;obtain⟨u,k3,k4⟩:=y0m ok h.toHS hl (h.envs ad) hd;refine⟨u::vs,?_,by simp only[CRs];exact⟨_,_,rfl,k4,k2⟩⟩;have k5:=z9c k3;rw[Sem.run_bind] at k5;simp only[List.mapM_cons,y0q,Sem.run_bind,Sem.run_pure,k5,Result.andThen_ok,k1]
   .cases hr
  .cases hr
theorem y1g (ok:TyOk P A) (h:St C env H B a w) {fn:Func} {ds:List D} (hr:y3o A env H fn.results.toList=some ds):
 ∃vs:List Value,(results fn a.tmps).run P w= .ok (y2x vs) w/\CRs (C.N B) (C.Np B) H B w ds vs:=by
 obtain⟨vs,k1,k2⟩:=z9n ok h hr;refine⟨vs,?_,k2⟩;have he:results fn a.tmps=(do let vs ←fn.results.mapM (y0q a.tmps);pure (if h:vs.size=1 then vs[0] else .tuple vs)):=by
  unfold results;congr 1
 rw[he,Array.mapM_eq_mapM_toList];simp only[Sem.run_bind,Sem.run_map,k1,Result.andThen_ok,Sem.run_pure];congr 1
 match vs with
 | [] =>rfl | [v] =>rfl | _::_::_=>simp[y2x]
theorem z5u:∀(bs:List Bool) (l m:List Value),bs.length<=l.length->bs.length<=m.length->(∀i:Nat,bs.getD i false=true->l[i]? =m[i]?)->z0z bs l=z0z bs m
 | [],_,_,_,_,_=>by simp[z0z]
 | b::bs, [],_,h,_,_=>by simp at h
 | b::bs,_::_, [],_,h,_=>by simp at h
 | b::bs,x::l,y::m,h1,h2,h=>by
  have ih:=z5u bs l m (by simpa using h1) (by simpa using h2) (fun i hi=>by simpa using h (i+1) (by simpa using hi));cases b with
  | true=>
   have:=h 0 rfl;simp at this;simp only[z0z,ih,this]
  | false=>simp only[z0z,ih]
theorem y1d:∀c:Code,z0n [] c=true:=by
 intro c
 induction c with
 | region id ops draw=>
  simp only[z0n];rw[Bg];intro o _;split<;>simp
 | seq a b iha ihb=>simp[z0n,iha,ihb] | cond c a b iha ihb=>simp[z0n,iha,ihb] | block id c ih=>simpa[z0n] using ih | loop c ih=>simpa[z0n] using ih | _=>rfl
theorem y5v {N Np:Nat->Prop} {ds:List D} {args:List Value} (h:CRs N Np H B w ds args) (n:Nat) (t:Nat):
 CR N Np H B w (get (ds++List.replicate n D.undef) t) ((args.toArray++Array.replicate n undef).getD t undef):=by
 by_cases ht:t<ds.length
 .have h1:get (ds++List.replicate n D.undef) t=get ds t:=by
   unfold get;simp[A5,Aj ht]
  have ht' :t<args.length:=by rw[h.length];exact ht
  have h2:(args.toArray++Array.replicate n undef).getD t undef=args.getD t undef:=by
   rw[Cy,A5,C6 (by simpa using ht')];simp
  rw[h1,h2];exact h.get t
 .have h1:get (ds++List.replicate n D.undef) t= .undef:=by
   unfold get;rw[A5,Aq (by omega),List.getElem?_replicate];split<;>rfl
  rw[h1];exact z5j
theorem TyOk.at (h:TyOk P A) (f:Nat):TyOk P (A.at f):=⟨h.lay,h.zer,h.fld,h.tyi,h.tzi,h.int,h.bool,h.str,h.sl,h.small,h.some_,h.bld,h.eqt,h.mixed⟩
theorem LvlOk.at {V:Lvl A} (h:LvlOk P A V) (f:Nat):LvlOk P (A.at f) (V.at f):=fun g x y k=>h g x y k
theorem y5o (ok:TyOk P A) (hV:LvlOk P A V) {n f:Nat} {fn:Func} (hf:P.funcs[A.fn f]? =some fn) {x:(A.sig f).ins.den} {y:(A.sig f).out.den} (hy:body A V n f fn x=some y):
 fn.body.isNone=false/\z1n P A.gd (A.fn f) (A.sig f) x y:=by
 unfold body at hy;split at hy
 .cases hy
 .rename_i c hb;refine⟨by rw[hb];rfl,?_⟩;simp only at hy;split at hy
  .cases hy
  .rename_i hst;intro C B args hgd hs hc;have hlen:=hc.length
   let C' :Cx:= {C with nt:=(emb (A.sig f).ins x []).1.length+(fn.ntmps - (emb (A.sig f).ins x []).1.length),fx:=(A.sig f).inout,fv:=fun t=>args.getD t undef}
   have hok:z0n C'.fx c=true/\(A.sig f).inout.length<=args.length:=by
    show z0n (A.sig f).inout c=true/\_;unfold y4o at hst;split at hst
    .rename_i h0;rw[h0];exact⟨y1d c,by simp⟩
    .simp only[Ai] at hst;exact⟨hst.2,by rw[hlen];exact Cw hst.1⟩
   have h0:St C' ((emb (A.sig f).ins x []).1++List.replicate (fn.ntmps - (emb (A.sig f).ins x []).1.length) .undef) (emb (A.sig f).ins x []).2 B
    {tmps:=args.toArray++Array.replicate (fn.ntmps - args.toArray.size) undef,defers:= []} C.w0:= {
    lenB:=hs.lenB
    nodup:=hs.nodup
    alloc:=hs.alloc
    blk:=hs.blk
    lb:=hs.lb
    lp:=hs.lp
    fr:=hs.fr
    gl:=hs.gl
    gp:=hs.gp
    envs:=fun t=>by
     have:fn.ntmps - args.toArray.size=fn.ntmps - (emb (A.sig f).ins x []).1.length:=by simp[hlen]
     rw[this];exact y5v hc _ t
    envlen:=by simp[hlen]
    defers:=rfl
    siz:=by simp[hlen,C']
    fix:=fun t ht=>by
     have ht:(A.sig f).inout.getD t false=true:=ht;have hlt:t<(A.sig f).inout.length:=by
      rcases B8 t (A.sig f).inout.length with z | z
      .exact z
      .rw[A5,Be z] at ht;cases ht
     have:t<args.length:=by have:=hok.2;omega
     show(args.toArray++_)[t]? =some (args.getD t undef);rw[C6 (by simpa using this)];simp[this]}
   refine calls_of_wp hf hb (wp_mono (y7p (ok.at f) (hV.at f) (C:=C') hgd c hok.1 hy h0) ?_)
   rintro e a' w' ⟨ex,he,env',H',B',hst',hk⟩
   have fin:(match y3o A env' H' fn.results.toList with
    | some rs=>(match Nat.beq rs.length (A.sig f).nres,ext false H' (A.sig f).out (rs++keep (A.sig f).inout env') [] with
     | true,some (y, [],_)=>some y | _,_=>none)
    | none=>none)=some y->a'.defers= [] /\ ∃v,(results fn a'.tmps).run P w' = .ok v w' /\ ∃H1 B1 ds vs u,HS C H1 B1 w' /\CRs (C.N B1) (C.Np B1) H1 B1 w' ds (vs++z0z (A.sig f).inout args)/\
     ext false H1 (A.sig f).out ds [] =some (y, [],u)/\vs.length=(A.sig f).nres/\v=y2x vs:=by
    intro hk;split at hk
    .rename_i rs hrs;split at hk
     .rename_i y' u hbeq hext;simp only[Ac] at hk;subst hk;obtain⟨vs,k1,k2⟩:=y1g ok hst' hrs;refine⟨hst'.defers,_,k1,H',B',_,vs,u,⟨hst'.lenB,hst'.nodup,hst'.alloc,hst'.blk,hst'.lb,hst'.lp,hst'.fr,hst'.gl,hst'.gp⟩,k2.append ?_,hext,?_,rfl⟩
      .have hcr:CRs (C'.N B') (C'.Np B') H' B' w' env' a'.tmps.toList:=by
        have hl:env'.length=a'.tmps.toList.length:=by rw[hst'.envlen];simp
        have key:∀(k:Nat) (ds:List D) (vs:List Value),ds.length=vs.length->(∀i,CR (C'.N B') (C'.Np B') H' B' w' (get ds i) (vs.getD i undef))->CRs (C'.N B') (C'.Np B') H' B' w' ds vs:=by
         intro k ds
         induction ds with
         | nil=>intro vs hl _;cases vs with
          | nil=>simp[CRs] | cons _ _=>simp at hl
         | cons d ds ih=>
          intro vs hl hc;cases vs with
          | nil=>simp at hl | cons v vs=>
           simp only[CRs];refine⟨v,vs,rfl,by simpa[get] using hc 0,ih vs (by simpa using hl) (fun i=> ?_)⟩;have:=hc (i+1);simpa[get] using this
        refine key 0 _ _ hl (fun i=> ?_);have:=hst'.envs i;rw[Cy] at this;rw[A5];simpa using this
       have hkv:z0z (A.sig f).inout a'.tmps.toList=z0z (A.sig f).inout args:=by
        refine z5u _ _ _ ?_ hok.2 (fun i hi=> ?_)
        .have:=hst'.siz;have h2:C'.nt=(emb (A.sig f).ins x []).1.length+(fn.ntmps - (emb (A.sig f).ins x []).1.length):=rfl;simp only[B6];have:=hok.2;omega
        .have:=hst'.fix i hi;have hlt:i<(A.sig f).inout.length:=by
          rcases B8 i (A.sig f).inout.length with z | z
          .exact z
          .rw[A5,Be z] at hi;cases hi
         have hl2:i<args.length:=by have:=hok.2;omega
         have h3:C'.fv i=args.getD i undef:=rfl;rw[El,this,h3];simp[hl2]
       rw[←hkv];exact hcr.keep _
      .rw[k2.length];exact Av hbeq
     .cases hk
    .cases hk
   cases e<;>simp only[y6r,Ac] at he<;>first | (cases he;done) | subst he
   .exact fin hk
   .cases hk
   .exact fin hk
def y5i (P:Program) (A:Ann):Prop:= ∀f F x y,A.prim f=some F->F x=some y->z4i P (A.fn f)/\z1n P A.gd (A.fn f) (A.sig f) x y
theorem y7i (ok:TyOk P A) (hp:y5i P A) (hn:∀(f:Nat) fn,P.funcs[f]? =some fn->(fn.name== "runtime.NumGoroutine")=false):∀k,LvlOk P A (lvl P A k)
 | 0=>fun f x y h=>by cases h
 | k+1=>fun f x y h=>by
  simp only[lvl] at h;split at h
  .rename_i F hF;exact hp f F x y hF h
  .split at h
   .rename_i fn hfn;obtain⟨h1,h2⟩:=y5o ok (y7i ok hp hn k) hfn h;exact⟨⟨fn,hfn,hn _ fn hfn,h1⟩,h2⟩
   .cases h
end
end Go.Proofs.YtkphhjdbdnoekaaGreatDoor.Ab
