import Derived.Test.YtkphhjdbdnoekaaGreatDoorAbE10
namespace Go.Proofs.YtkphhjdbdnoekaaGreatDoor.Ab
open Go
set_option linter.unusedVariables false
set_option linter.unusedSimpArgs false
set_option linter.unnecessarySimpa false
section
variable {P:Program} {A:Ann} {V:Lvl A} {all:List Oper} {ops:Array Oper} {C:Cx} {env env' E:List D} {H H0 H1:z0a} {B:List (Option Nat)} {a:Act} {w w' :World} {e:Nat}
theorem z8s {N Np:Nat->Prop} (g:Nat->Value):∀(ts:List Nat) (ds env:List D),CRs N Np H B w ds (ts.map g)->(∀t,CR N Np H B w (get env t) (g t))-> ∀t,CR N Np H B w (get (z2w ts ds env) t) (g t)
 | [],ds,env,_,h,t=>by cases ds<;>exact h t
 | u::ts, [],env,hc,h,t=>h t | u::ts,d::ds,env,hc,h,t=>by
  simp only[C8,CRs] at hc;obtain⟨v,vs,e1,h1,h2⟩:=hc;obtain⟨rfl,rfl⟩:=List.cons.inj e1;simp only[z2w];refine z8s g ts ds _ h2 (fun t=> ?_) t;rw[z0m];split
  .rename_i z;rw[←z.1];exact h1
  .exact h t
theorem CRs.map {N Np:Nat->Prop} {f:Nat->D} {g:Nat->Value} (h:∀t,CR N Np H B w (f t) (g t)):∀ts:List Nat,CRs N Np H B w (ts.map f) (ts.map g)
 | [] =>by simp[CRs]
 | t::ts=>by simp only[C8,CRs];exact⟨_,_,rfl,h t,CRs.map h ts⟩
theorem y5z (n t:Nat):get (List.replicate n D.undef) t= .undef:=by
 unfold get;rw[A5,List.getElem?_replicate];split<;>rfl
theorem y4b (h:St C env H B a w) {j:Join} {x:j.sh.den} (hx:y2g j env H=some x) {n:Nat} (hn:n=C.nt):∃B',St C (y2e j n x).1 (y2e j n x).2 B' a w:=by
 unfold y2g at hx;split at hx
 .rename_i x' u he;simp only[Ac] at hx;subst hx;have hex:=z5h he (fun id k=>absurd k (by simp));have hc:CRs (C.N B) (C.Np B) H B w (j.ts.map (get env)) (j.ts.map fun t=>a.tmps.getD t undef):=CRs.map h.envs j.ts
  obtain⟨us,vs',hv,hnil,Bn,L,_⟩:=z2s (Nt:=fun b=>Moved B u b\/C.Lb b) (Ntp:=fun b=>Moved B u b\/C.Lp b) (fun b=>Cx.N_Np h.lb) (fun b k=>k.imp id (h.lb b)) h.lenB h.blk
   (fun b _ hn k=>hn (by
    rcases k with k | k
    .exact .inl k.has
    .exact .inr k))
   (fun _ b _ hn k=>hn (by
    rcases k with k | k
    .exact .inl k.has
    .exact .inr k)) he hc
   (fun id rb hid hb=>by
    have key: ¬(Moved B u rb\/C.Lp rb):=fun k=>by
     rcases k with ⟨id',h1,h2⟩ | k
     .have:=h.nodup _ _ _ hb h2;subst this;exact hex _ h1 hid
     .exact(h.alloc id rb hb).2.1 k
    exact⟨fun k=>key (k.imp (fun z=>z) (h.lb rb)),fun _=>key⟩) [] [] rfl (.inr Mp.start)
  simp only[CRs] at hnil;subst hnil;rw[Bw] at hv;subst hv;obtain⟨⟨Hn,e1,e2,e3⟩,hcells,M,m1,m2,m3,m4⟩:=L;rw[Cf] at e1;rw[Cf] at hcells;simp only[Cf] at e3;have hmv:∀i rb:Nat,Bn[i]? =some (some rb)->Moved B u rb:=fun i rb q=>by
   obtain⟨id,k1,k2⟩:=m3 i rb q;exact⟨id,(m2 _ _ k1).1,k2⟩
  have hs:Step (fun b=>Moved B u b\/C.Lb b) (fun b=>Moved B u b\/C.Lp b) (C.N Bn) (C.Np Bn) (emb j.sh x' []).2 Bn w (emb j.sh x' []).2 Bn w:=
   z2x (fun b k=>k.imp (fun⟨i,q⟩=>hmv i b q) (fun q=>q)) (fun b k=>k.imp (fun⟨i,q⟩=>hmv i b q) (fun q=>q))
  refine⟨Bn,?_⟩
  exact {
   lenB:=by show Bn.length=(emb j.sh x' []).2.length;rw[e1,e2]
   nodup:=fun i j rb q1 q2=>by
    obtain⟨id,k1,k2⟩:=m3 i rb q1;obtain⟨jd,k3,k4⟩:=m3 j rb q2;have:=h.nodup _ _ _ k2 k4;subst this;exact m4 _ _ _ k1 k3
   alloc:=fun i rb q=>by
    obtain⟨id,k1,k2⟩:=hmv i rb q;exact h.alloc id rb k2
   blk:=fun i b ob q1 q2=>(e3 i b ob (by rw[←e1];exact q1) q2).step hs (fun _ _=>rfl)
   lb:=h.lb
   lp:=h.lp
   fr:=h.fr
   gl:=h.gl
   gp:=h.gp
   envs:=fun t=>z8s (fun t=>a.tmps.getD t undef) j.ts _ _ (hcells.step hs) (fun t=>by rw[y5z];exact z5j) t
   envlen:=by show(z2w j.ts _ _).length=_;rw[z4r,Fq,hn,h.siz]
   defers:=h.defers
   siz:=h.siz
   fix:=h.fix}
 .cases hx
def y6r:Exit->Option Ex
 | .normal=>some .normal | .exit id=>some (.exit id) | .ret=>some .ret | _=>none
def y9m (C:Cx) {R:Type} (K:Ex->List D->z0a->Option R) (r:R) (e:Exit) (a:Act) (w:World):Prop:=
 ∃ex,y6r e=some ex/\ ∃env H B,St C env H B a w/\K ex env H=some r
theorem z4w {tb off:Nat} {T:Ty} {r:Nat×Nat} (h:z3k env H tb off T=some r):∃bid cells p l,get env tb= .ptr bid 0/\H[bid]? =some (.box cells)/\get cells off= .hd r.1 r.2/\H[r.1]? =some (.arr p r.2 T l):=by
 unfold z3k at h;split at h
 .rename_i bid o hb;split at h
  .rename_i cells ho hH;have ho:=Av ho;subst ho;split at h
   .rename_i id st hc;split at h
    .rename_i p st' t l hA;split at h
     .rename_i q;obtain⟨rfl,rfl⟩:=q;cases h;exact⟨bid,cells,p,l,hb,hH,hc,hA⟩
     .cases h
    .cases h
   .cases h
  .cases h
 .cases h
theorem y3r {env2:List D} {H2:z0a} {B2:List (Option Nat)} (h:St C env H B a w) (h2:St C env2 H2 B2 a w) {t tb off:Nat} {T:Ty} {id st id2 st2:Nat} (e1:z3k env H tb off T=some (id,st)) (e2:get env t= .hd id st) (e3:z3k env2 H2 tb off T=some (id2,st2)):
 CR (C.N B2) (C.Np B2) H2 B2 w (.hd id2 st2) (a.tmps.getD t undef):=by
 obtain⟨bid,cells,p,l,b1,b2,b3,b4⟩:=z4w e1;obtain⟨bid2,cells2,p2,l2,c1,c2,c3,c4⟩:=z4w e3;simp only at b3 b4 c3 c4;have k1:=h.envs tb;have k2:=h2.envs tb;rw[b1] at k1;rw[c1] at k2;simp only[CR] at k1 k2;obtain⟨rb,r1,v1⟩:=k1.2 _ b2;obtain⟨rb2,r2,v2⟩:=k2.2 _ c2;rw[v1] at v2;injection v2 with v2
 injection v2 with v2
 injection v2 with v2 _ _
 subst v2;obtain⟨rb',cs,q1,q2,q3⟩:=h.blk _ _ _ b2 r1;obtain⟨rb2',cs2,s1,s2,s3⟩:=h2.blk _ _ _ c2 r2;cases q1;cases s1;have hcc:cs=cs2:=by
  obtain⟨_,z⟩:=q2;obtain⟨_,z'⟩:=s2;rw[z] at z';injection z' with z'
  injection z' with z'
 subst hcc;have m1:=q3.get off;have m2:=s3.get off;rw[b3] at m1;rw[c3] at m2;have kt:=h.envs t;rw[e2] at kt;simp only[CR] at m1 m2 kt;obtain⟨_,m1⟩:=m1.2 _ _ _ _ b4;obtain⟨a1,n1,x1,x2,x3⟩:=m1 rfl;obtain⟨_,kt'⟩:=kt.2 _ _ _ _ b4;obtain⟨a3,n3,z1,z2,z3⟩:=kt' rfl;obtain⟨hm1,m2⟩:=m2;obtain⟨_,m2⟩:=m2 _ _ _ _ c4;obtain⟨a2,n2,y1,y2,y3⟩:=m2 rfl;rw[x1] at y1;injection y1 with y1 y4 y5
 subst y1;simp only[CR];refine⟨⟨hm1.1,by rw[z1];rfl⟩,fun p' st' t' l' e=> ?_⟩;rw[c4] at e;cases e;refine⟨Au _,fun _=>⟨a3,n3,by rw[z1,y4],by omega,?_⟩⟩;unfold RowP at x3 y3 z3 ⊢;cases hb:B[id]? with
 | none=>
  rw[hb] at x3 z3;simp only at x3 z3;obtain⟨rfl,_⟩:=x3;obtain⟨rfl,rfl⟩:=z3;split at y3
  .obtain⟨q,_⟩:=y3;cases q
  .exact⟨rfl,rfl⟩
 | some ob=>
  cases ob with
  | none=>
   rw[hb] at x3 z3;simp only at x3 z3;obtain⟨rfl,_⟩:=x3;obtain⟨rfl,rfl⟩:=z3;split at y3
   .obtain⟨q,_⟩:=y3;cases q
   .exact⟨rfl,rfl⟩
  | some rb4=>
   rw[hb] at x3 z3;simp only at x3 z3;obtain⟨rfl,_⟩:=x3;obtain⟨rfl,cs4,w1,w2⟩:=z3;split at y3
   .rename_i rb5 hq;obtain⟨q,_⟩:=y3;have e5:rb5=rb4:=by injection q with q;injection q with q;exact q.symm
    subst e5;exact⟨rfl,cs4,w1,w2⟩
   .obtain⟨q,_⟩:=y3;cases q
theorem z9x (h:St C env H B a w) {H2:z0a} {B2:List (Option Nat)} :∀(al:List (Nat×Nat×Nat×Ty)) {env2:List D},y7z env H al=true->St C env2 H2 B2 a w->St C (y3q H2 al env2) H2 B2 a w
 | [],env2,_,h2=>h2 | (t,tb,off,T)::r,env2,ho,h2=>by
  simp only[y7z,Ai] at ho;obtain⟨ho,hr⟩:=ho;simp only[y3q];refine z9x h r hr ?_;split at ho
  .rename_i id st id' st' e1 e2;simp only[Ai] at ho;have q1:=Av ho.1;have q2:=Av ho.2;subst q1;subst q2;cases e3:z3k env2 H2 tb off T with
   | none=>exact h2 | some r2=>
    obtain⟨id2,st2⟩:=r2;have hc:=y3r h h2 e1 e2 e3;refine {h2 with envs:=fun u=> ?_,envlen:=by simp[h2.envlen]};rw[z0m];split
    .rename_i z;rw[←z.1];exact hc
    .exact h2.envs u
  .cases ho
theorem z5t (h:St C env H B a w) {j:Join} {x:j.sh.den} (hx:z3d j env H=some x) {n:Nat} (hn:n=C.nt):∃B',St C (z4z j n x).1 (z4z j n x).2 B' a w:=by
 unfold z3d at hx;split at hx
 .rename_i ho;obtain⟨B',h2⟩:=y4b h hx hn;exact⟨B',z9x h j.al ho h2⟩
 .cases hx
theorem y7p (ok:TyOk P A) (hV:LvlOk P A V) {fid n:Nat} {C:Cx} (hgd:C.gd=A.gd):∀(c:Code),z0n C.fx c=true-> ∀ {R:Type} {K:Ex->List D->z0a->Option R} {r:R} {env:List D} {H:z0a} {B:List (Option Nat)} {a:Act} {w:World},
 run A V fid n c R K env H=some r->St C env H B a w->c.wp P (y9m C K r) a w:=by
 intro c
 induction c with
 | skip=>
  intro _ R K r env H B a w hr h;exact wp_skip ⟨_,rfl,env,H,B,h,hr⟩
 | region id ops draw=>
  intro hf R K r env H B a w hr h;simp only[run] at hr;refine y1f ok hV hgd hr h (fun i o ho t ht=> ?_) (fun E H' B' a' w' hst hk=>⟨_,rfl,E,H',B',hst,hk⟩);simp only[z0n] at hf;have hm:o∈ops.toList:=Dn (i:=i) (by simpa using ho);have:=Bg.mp hf o hm;rw[ht] at this;simpa using this
 | seq x y ihx ihy=>
  intro hf R K r env H B a w hr h;simp only[z0n,Ai] at hf;simp only[run] at hr;split at hr
  .refine wp_seq (wp_mono (ihx hf.1 hr h) ?_)
   rintro e a' w' ⟨ex,he,env',H',B',hst,hk⟩
   cases e<;>simp only[y6r,Ac] at he<;>first | (cases he;done) | subst he
   .exact ihy hf.2 hk hst
   .exact⟨_,rfl,env',H',B',hst,hk⟩
   .exact⟨_,rfl,env',H',B',hst,hk⟩
  .rename_i j hj;obtain⟨v,hx,hr⟩:=Dy.mp hr;refine wp_seq (wp_mono (ihx hf.1 hx h) ?_)
   rintro e a' w' ⟨ex,he,env',H',B',hst,hk⟩
   cases e<;>simp only[y6r,Ac] at he<;>first | (cases he;done) | subst he
   .obtain⟨B2,hst2⟩:=z5t hst hk (n:=env.length) (by rw[h.envlen,h.siz]);exact ihy hf.2 hr hst2
   .cases hk
   .cases hk
 | cond c x y ihx ihy=>
  intro hf R K r env H B a w hr h;simp only[z0n,Ai] at hf;simp only[run] at hr;split at hr
  .rename_i t ht;have hc:=z0y h c;rw[ht] at hc;simp only[CR] at hc;cases t with
   | true=>exact wp_cond_true hc (ihx hf.1 hr h) | false=>exact wp_cond_false hc (ihy hf.2 hr h)
  .cases hr
 | block id c ih=>
  intro hf R K r env H B a w hr h;simp only[z0n] at hf;simp only[run] at hr;refine wp_block (wp_mono (ih hf hr h) ?_)
  rintro e a' w' ⟨ex,he,env',H',B',hst,hk⟩
  cases e<;>simp only[y6r,Ac] at he<;>first | (cases he;done) | subst he
  .exact⟨_,rfl,env',H',B',hst,hk⟩
  .rename_i i;simp only[Exit.inBlock];simp only at hk;split at hk
   .rename_i hb;have:=Av hb;subst this;rw[Al rfl];exact⟨_,rfl,env',H',B',hst,hk⟩
   .rename_i hb;rw[Ao (fun z=>by subst z;rw[Gi] at hb;cases hb)];exact⟨_,rfl,env',H',B',hst,hk⟩
  .exact⟨_,rfl,env',H',B',hst,hk⟩
 | loop c ih=>
  intro hf R K r env H B a w hr h;simp only[z0n] at hf;simp only[run] at hr;split at hr
  .cases hr
  .rename_i l hl;split at hr
   .cases hr
   .rename_i x hx;have hn:env.length=C.nt:=by rw[h.envlen,h.siz]
    obtain⟨B0,h0⟩:=z5t h hx hn;generalize hstep:(fun(again:l.head.sh.den->Option (l.out.sh.den⊕l.ret.sh.den)) x=>run A V fid n c (l.out.sh.den⊕l.ret.sh.den) (fun e env H=>match e with
     | .normal=>(z3d l.head env H).bind again | .exit i=>(match Nat.beq i l.exid with
      | true=>(z3d l.out env H).map .inl | false=>none)
     | .ret=>(z3d l.ret env H).map .inr) (z4z l.head env.length x).1 (z4z l.head env.length x).2)=step at hr
    cases hs:z0x step n x with
    | none=>rw[hs] at hr;cases hr | some s=>
     rw[hs] at hr;simp only[zOb] at hr;refine wp_loop_ghost (fun m a w=> ∃x B,St C (z4z l.head env.length x).1 (z4z l.head env.length x).2 B a w/\z0x step m x=some s) n ⟨x,B0,h0,hs⟩ ?_
     rintro m a w ⟨x,B,hst,hm⟩
     cases m with
     | zero=>cases hm | succ m=>
      simp only[z0x] at hm;rw[←hstep] at hm;refine wp_mono (ih hf hm hst) ?_
      rintro e a' w' ⟨ex,he,env',H',B',hst',hk⟩
      cases e<;>simp only[y6r,Ac] at he<;>first | (cases he;done) | subst he
      .simp only at hk;cases hx' :z3d l.head env' H' with
       | none=>rw[hx'] at hk;cases hk | some x' =>
        rw[hx'] at hk;simp only[zOb] at hk;obtain⟨B2,hst2⟩:=z5t hst' hx' hn;refine⟨m,Gv m,x',B2,hst2,?_⟩;rw[hstep] at hk;exact hk
      .rename_i i;simp only at hk;split at hk
       .rename_i hb;have:=Av hb;subst this;cases hy:z3d l.out env' H' with
        | none=>rw[hy] at hk;cases hk | some y=>
         rw[hy] at hk;simp only[Dc,Ac] at hk;subst hk;obtain⟨B2,hst2⟩:=z5t hst' hy hn;exact⟨_,rfl,_,_,B2,hst2,hr⟩
       .cases hk
      .simp only at hk;cases hy:z3d l.ret env' H' with
       | none=>rw[hy] at hk;cases hk | some y=>
        rw[hy] at hk;simp only[Dc,Ac] at hk;subst hk;obtain⟨B2,hst2⟩:=z5t hst' hy hn;exact⟨_,rfl,_,_,B2,hst2,hr⟩
 | exit id=>
  intro _ R K r env H B a w hr h;exact wp_exit ⟨_,rfl,env,H,B,h,hr⟩
 | ret=>
  intro _ R K r env H B a w hr h;exact wp_ret ⟨_,rfl,env,H,B,h,hr⟩
 | _=>
  intro _ R K r env H B a w hr h;simp[run] at hr
end
end Go.Proofs.YtkphhjdbdnoekaaGreatDoor.Ab
