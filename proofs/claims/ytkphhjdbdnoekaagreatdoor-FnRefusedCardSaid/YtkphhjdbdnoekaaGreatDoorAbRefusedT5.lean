import Derived.Test.YtkphhjdbdnoekaaGreatDoorAbRefusedT4
namespace Go.Proofs.YtkphhjdbdnoekaaGreatDoor.Ab
open Go Go.IntKind
set_option linter.all false
theorem o1a(t:u0e)(l:Hu u2u)(k:Hs)(ht:s8c t)(hl:l.length<=4194304):s92 (t,l,k)=some (s5r t l k):=by
 have h8:=ht.2;have hq:∀x∈t.2.2.2.2.2.1,s62 (x,k)=some (z7q x.1 k):=fun x _=>by rw[o58];rfl
 have L:=Q.first (T:=u2m) (c:=Hs) (W:=u1t) (q:=s62) (p:=fun w:WrT=>z7q w.1 k) (fun x=>t3a x) t.2.2.2.2.2.1 k (by omega) hq;rw[o97];unfold p22 s5r;simp only[j3l,p7s,t5g,u6o,L,zOb];by_cases hk:u0o (fun w:WrT=>z7q w.1 k) t.2.2.2.2.2.1<t.2.2.2.2.2.1.length
 .have c0:decide (((u0o (fun w:WrT=>z7q w.1 k) t.2.2.2.2.2.1:Nat):Int)>=0)=true:=by simp
  simp only[Al hk,zOb,c0,Ad,y8h hk,zTn,y9a (t:=u2m) hk];cases (t.2.2.2.2.2.1[u0o (fun w:WrT=>z7q w.1 k) t.2.2.2.2.2.1]).2.2<;>rfl
 .have c0:decide ((-1:Int)>=0)=false:=rfl;simp only[Ao hk,zOb,c0,Aa,j53 l k _ (show l.length<=1099511627776 by omega)]
theorem j9c(a b:Hu Hs):r9r (r9r a++b)=r9r (a++b):=
 Asc.ext (t9x _).1 (t9x _).1 fun x=>by
  rw[(t9x _).2,(t9x _).2,Ay,Ay,(t9x _).2]
theorem j2k(t:u0e)(l:Hu u2u)(r:s3z)(ht:s8c t)(hl:l.length<=4194304):r5w (t,l,r)=some (r9t t l r):=by
 have h8:=ht.2;obtain⟨a0,ha0⟩:∃a0,a0=r9r (l.map fun v=>v.1):=⟨_,rfl⟩;have hk0:a0.length<=4194304:=by
  have:=r7c (l.map fun v=>v.1);rw[Da,←ha0]at this;omega
 have L:=t14 t4p t.2.2.2.2.2.1 (fun(a:Hu Hs) i=>(l,t,r,a,t.2.2.2.2.2.1,(t.2.2.2.2.2.1.length:Int),i)) (fun a (w:WrT)=>a++ [w.1]) (fun a=> .inl (l,t,r,a)) (fun i a=>a.length=a0.length+i)
  (fun a _=>by rw[q26];simp only[s1f,u0b,Am,Ah,Aa])
  (fun i hi a ha=>⟨by simp[ha];omega,by
   rw[q26];simp only[s1f,u0b,hi,Ae,Ad,y8h hi,zTn,y9a (t:=u2m) hi,Aw,u0v (show a.length+1<=1099511627776 by omega)];rw[y7x (by omega)]⟩) a0 rfl
 have fo:∀(ws:Hu WrT) (a:Hu Hs),ws.foldl (fun a (w:WrT)=>a++ [w.1]) a=a++ws.map fun w=>w.1:=by
  intro ws
  induction ws with
  |nil=>intro a;simp|cons w ws ih=>intro a;rw[Bs,ih,C8,Bi];rfl
 rw[fo]at L;have hall:(a0++t.2.2.2.2.2.1.map fun w=>w.1).length<=6000000:=by simp;omega
 have h1:y7m (a0++t.2.2.2.2.2.1.map fun w=>w.1)=some (y4n (a0++t.2.2.2.2.2.1.map fun w=>w.1)):=by
  unfold y7m;rw[u0v (by omega)];rfl
 have h2:y0p (y4n (a0++t.2.2.2.2.2.1.map fun w=>w.1))=some (r9r (a0++t.2.2.2.2.2.1.map fun w=>w.1)):=by
  unfold y0p;rw[o4y,u0v (by omega)];rfl
 obtain⟨ks,hks⟩:∃ks,ks=r9r (a0++t.2.2.2.2.2.1.map fun w=>w.1):=⟨_,rfl⟩;have hkl:ks.length<=6000000:=by
  rw[hks];have:=r7c (a0++t.2.2.2.2.2.1.map fun w=>w.1);omega
 have L2:=s80 t9j ks (fun a i=>(l,t,r,a,ks,(ks.length:Int),i)) (fun k=>(s5r t l k).2&&inR r k) (fun k=>(k,(s5r t l k).1)) (fun a=> .inl a) (by omega)
  (fun a _=>by rw[r8i];simp only[t8q,u0b,Am,Ah,Aa])
  (fun i hi a ha=>by
   rw[r8i];simp only[t8q,u0b,hi,Ae,Ad,y8h hi,zTn,y9a (t:=Ty.str) hi,o1a t l _ ht hl,p7a,zOb,Aw,u0v (show a.length+1<=1099511627776 by omega)];rw[y7x (by omega)];cases (s5r t l ks[i]).2<;>rfl)
 have L:t4p (l,t,r,a0,t.2.2.2.2.2.1,(t.2.2.2.2.2.1.length:Int),0)=_:=L;rw[o5t];unfold q84;simp only[d0n l (show l.length<=1099511627775 by omega),zOb];rw[←ha0];simp only[L,zOb,t7z,t3e,h1,h2];rw[←hks];simp only[L2,zOb];rw[hks,ha0,j9c];rfl
theorem o49(l:Hu s3z)(r:s3z)(hl:l.length<=1048576):u86 (l,r)=some (d56 l r):=by
 have L:=q4l u3a (u0o (fun x:s3z=>z7q x.1 r.1&&z7q x.2 r.2) l) (fun(_:Unit) i=>(l,r,(l.length:Int),i)) (fun _ _=>if u0o (fun x:s3z=>z7q x.1 r.1&&z7q x.2 r.2) l<l.length then .inr ((u0o (fun x:s3z=>z7q x.1 r.1&&z7q x.2 r.2) l:Nat):Int) else .inl ()) (fun _ _=>True)
  (fun a _=>by
   have hle:=t2l (fun x:s3z=>z7q x.1 r.1&&z7q x.2 r.2) l;rw[t8k];by_cases hk:u0o (fun x:s3z=>z7q x.1 r.1&&z7q x.2 r.2) l<l.length
   .have hy:=u9u hk;simp only[u28,u0b,hk,Ae,Ad,y8h hk,zTn,y9a (t:=t3d) hk,q8a r.1,q8a r.2,Cz,hy,Bl]
   .simp only[u28,u0b,hk,Ah,Aa,Bk])
  (fun i a hi _=> .inr ⟨(),trivial,rfl,by
   have hle:=t2l (fun x:s3z=>z7q x.1 r.1&&z7q x.2 r.2) l;have hil:i<l.length:=by omega
   have hn:=u9n hil hi;rw[t8k];simp only[u28,u0b,hil,Ae,Ad,y8h hil,zTn,y9a (t:=t3d) hil,q8a r.1,q8a r.2,Cz,hn,Aa];rw[y7x (by omega)]⟩) 0 () (Cn _) trivial
 have L:u3a (l,r,(l.length:Int),0)=_:=L;rw[s9w];unfold t62 d56;rw[r5q];unfold s0v;simp only[L,zOb];rw[←u9t];by_cases hk:u0o (fun x:s3z=>z7q x.1 r.1&&z7q x.2 r.2) l<l.length
 .simp[hk]
 .simp[hk]
theorem o5e{t:u0e}{r:s3z}(ht:TxnR t)(h1:t.2.1=1)(hr:u3f r=true):s8k (t,r)=some (r0b t r):=by
 have hy:=ht.tiny;have hw:=hy.wt;have hl:=ht.rlen;have c0:=s7i t hy.few;have c1:=t9g t (by unfold u0i;omega);have k:=u2z (s:=r.1) (by unfold u3f at hr;simp only[Ai]at hr;exact hr.1);have k' :=u2z (s:=r.2) (by unfold u3f at hr;simp only[Ai]at hr;exact hr.2.1);have c2:=q4f r (by unfold u0i;omega) (by unfold u0i;omega);have ok:=p5c.mpr ht;have L:=o49 t.2.2.2.2.1 r (by omega);rw[p9h];unfold q0s r0b;simp only[c0,c1,c2,ok,hr,h1,zOb,Ae,Ap,Aa,L];cases d56 t.2.2.2.2.1 r
 .have e8:decide ((t.2.2.2.2.1.length:Int)=8)= !decide (t.2.2.2.2.1.length<8):=by by_cases c:t.2.2.2.2.1.length<8<;>simp[c] <;>omega
  simp only[Aa,e8,Br,Bk];by_cases c:t.2.2.2.2.1.length<8
  .simp only[c,Ae,Ap,Aa,Aw,u0v (show t.2.2.2.2.1.length+1<=1099511627776 by omega),Ad,Bl];unfold c2n;rw[h1]
  .simp only[c,Ah,Bh,Ad,Bk]
 .rfl
theorem d0x{l:Hu WrT}(w:WrT)(h:l.Pairwise fun a b=>y3i a.1 b.1=true):
 l.filter (fun x=>y3i x.1 w.1)=l.takeWhile (fun x=>y3i x.1 w.1)/\l.filter (fun x=> !(y3i x.1 w.1 || z7q x.1 w.1))=(l.dropWhile fun x=>y3i x.1 w.1).filter fun x=> !z7q x.1 w.1:=by
 induction l with
 |nil=>exact⟨rfl,rfl⟩|cons a l ih=>
  rw[Ch]at h;obtain⟨h1,h2⟩:=ih h.2;cases hc:y3i a.1 w.1 with
  |true=>
   simp only[Di,F8,List.dropWhile_cons,hc,Bl,Dx,Ap,Br,Bk];exact⟨by rw[h1],h2⟩
  |false=>
   have no:∀x∈l,y3i x.1 w.1=false:=fun x hx=>by
    cases q:y3i x.1 w.1 with
    |false=>rfl|true=>rw[p1i (h.1 x hx) q]at hc;cases hc
   simp only[Di,F8,List.dropWhile_cons,hc,Br,Bk,Ci];refine⟨List.filter_eq_nil_iff.mpr fun x hx=>by rw[no x hx];simp,?_⟩;have e:l.filter (fun x=> !(y3i x.1 w.1 || z7q x.1 w.1))=l.filter fun x=> !z7q x.1 w.1:=List.filter_congr fun x hx=>by rw[no x hx,Ci]
   rw[e]
theorem o9e{l:Hu WrT}(w:WrT)(h:l.Pairwise fun a b=>y3i a.1 b.1=true)(hl:l.length<=1048576):r1p (l,w)=some (p2e l w):=by
 obtain⟨s1,s2⟩:=d0x w h;obtain⟨f1,f2,f3,f4,f5⟩:=q0f (fun x:WrT=>y3i x.1 w.1) l
 have L:=d0t t16 l (fun i=>(w,l,i)) (fun x:WrT=>y3i x.1 w.1) (fun i=> .inl (w,l,i)) (.inl (w,l,(l.length:Int)))
  (by rw[r8j];simp only[t8r,u0b,Am,Ah,Aa,zOb])
  (fun i hi=>by
   rw[r8j];simp only[t8r,u0b,hi,Ae,Ad,y8h hi,zTn,y9a (t:=u2m) hi,zOb];rw[y7x (by omega)])
 obtain⟨k,hk⟩:∃k,k=(l.takeWhile fun x:WrT=>y3i x.1 w.1).length:=⟨_,rfl⟩;rw[←hk]at L f1 f2 f3 f4;have L:t16 (w,l,0)=some (.inl (w,l,(k:Int))):=by
  rw[L];by_cases c:k<l.length
  .rw[Al c]
  .rw[Ao c];congr 4;omega
 have hd:l.dropWhile (fun x:WrT=>y3i x.1 w.1)=l.drop k:=by
  have e:=Fe (p:=fun x:WrT=>y3i x.1 w.1) (l:=l);have e2:=En k l;rw[←f4]at e2;exact(List.append_cancel_left (e.trans e2.symm))
 have hp:p2e l w=l.take k++ [w] ++(l.drop k).filter fun x=> !z7q x.1 w.1:=by
  unfold p2e;rw[s1,s2,hd,f4]
 rw[o2m];unfold q40;simp only[u0v (show l.length<=1099511627776 by omega),Ad,L,zOb,u0b];have ins:u99 (l,(k:Int), [w])=some (l.take k++ [w] ++l.drop k):=by
  rw[r25];unfold y2u;have h1:decide ((0:Int)<=(k:Int))=true:=by simp
  have h2:decide ((k:Int)<=(l.length:Int))=true:=by simpa using f1
  simp only[h1,h2,u0v (show l.length+1<=1099511627776 by omega),Bz,Aw,zTn];rfl
 by_cases c:k<l.length
 .have hgt:∀x∈l.drop (k+1),y3i l[k].1 x.1=true:=fun x hx=>by
   rw[Gy]at hx;obtain⟨i,hi,rfl⟩:=hx;rw[List.getElem_drop];rw[F0]at hi;exact Cp.mp h k (k+1+i) c (by omega) (by omega)
  have hne:∀x∈l.drop (k+1),z7q x.1 w.1=false:=fun x hx=>by
   have q:=hgt x hx;rw[o4z];intro e;rw[e]at q;have:=f3 c;rw[q]at this;cases this
  have hdr:l.drop k=l[k] ::l.drop (k+1):=Ce c;have hft:(l.drop (k+1)).filter (fun x=> !z7q x.1 w.1)=l.drop (k+1):=F9.mpr fun x hx=>by rw[hne x hx];rfl
  simp only[c,Ae,Ad,y8h c,zTn,y9a (t:=u2m) c,zOb];cases he:z7q l[k].1 w.1 with
  |true=>
   simp only[Ad];rw[hp,hdr,Di,he,hft];simp only[Ap,Br,Bk];rw[List.set_eq_take_append_cons_drop,Al c,Bi];rfl
  |false=>
   simp only[Aa,ins,zOb];rw[hp];congr 2;rw[hdr,Di,he,hft];rfl
 .have hk2:l.drop k= [] :=List.drop_of_length_le (by omega);simp only[c,Ah,Aa,zOb,ins];rw[hp,hk2];rfl
theorem d18{t:u0e}(ht:TxnR t)(l:Hu WrT):u93 (d13 t l)=u6d l:=by
 cases h:u6d l with
 |true=>exact p5c.mpr (d49 ht h)|false=>
  cases q:u93 (d13 t l) with
  |false=>rfl|true=>have:=(p5c.mp q).ws;have:u6d l=true:=this;rw[this]at h;cases h
theorem o9l{t:u0e}{w:WrT}(ht:TxnR t)(h1:t.2.1=1)(hw:u4i w=true):r1s (t,w)=some (r5a t w):=by
 have hy:=ht.tiny;have hyw:=hy.wt;obtain⟨wa,wb,ht8⟩:=d5c.mp ht.ws;have hl:=j75 t.2.2.2.2.2.1 w;have c0:=s7i t hy.few;have c1:=t9g t (by unfold u0i;omega);have c2:=q4n w (by have:=p5j hw;unfold u0i;omega);have c3:=o9e (l:=t.2.2.2.2.2.1) w wb (by omega);have c4:=t9g (d13 t (p2e t.2.2.2.2.2.1 w)) (by
  have:=j5g (l:=p2e t.2.2.2.2.2.1 w) (by omega) (j4t ht.ws hw);have e1:=j49 t;have e2:=j49 (d13 t (p2e t.2.2.2.2.2.1 w));have e3:(d13 t (p2e t.2.2.2.2.2.1 w)).2.2.2.2.1=t.2.2.2.2.1:=rfl;have e4:(d13 t (p2e t.2.2.2.2.2.1 w)).2.2.2.2.2.1=p2e t.2.2.2.2.2.1 w:=rfl;have e5:(d13 t (p2e t.2.2.2.2.2.1 w)).2.2.2.2.2.2.2=t.2.2.2.2.2.2.2:=rfl;rw[e3,e4,e5]at e2;unfold u0i;omega)
 have ok:=p5c.mpr ht;have e:d13 t (p2e t.2.2.2.2.2.1 w)=(t.1,t.2.1,t.2.2.1,t.2.2.2.1,t.2.2.2.2.1,p2e t.2.2.2.2.2.1 w,t.2.2.2.2.2.2):=rfl;rw[d18 ht,p5k ht.ws hw]at c4;rw[e,h1]at c4;rw[o2s];unfold q45 r5a;simp only[c0,c1,c2,c3,c4,ok,hw,h1,zOb,Ae,Ap,Aa];by_cases c:(p2e t.2.2.2.2.2.1 w).length<=8
 .simp only[c,Ae,Ap,Aa,Bl];rw[e,h1]
 .simp only[c,Ah,Bh,Ad,Bk]
theorem j2a(t:u0e)(l:Hu u0e)(ht:s8c t)(hl:q4a l):r5u (t,l)=some (q58 t l):=by
 obtain⟨l1,l2⟩:=hl;have hq:∀x∈l,s2r (x,t)=some (!decide (x.1=t.1)&&((decide (x.2.1=2) || (decide (x.2.1=3)&&decide (x.2.2.2.1 >t.2.2.1)))&&q8m x.2.2.2.2.2.1 t.2.2.2.2.2.1)):=fun x hx=>by
  have h1:=j8r x.2.2.2.2.2.1 t.2.2.2.2.2.1 (t1q (l2 x hx).2) (t1q ht.2);rw[p9a];unfold q0m;simp only[u9c,s4r,s4m,zOb,h1];cases decide (x.1=t.1)<;>cases decide (x.2.1=2)<;>cases decide (x.2.1=3)<;>cases decide (x.2.2.2.1 >t.2.2.1)<;>cases q8m x.2.2.2.2.2.1 t.2.2.2.2.2.1<;>rfl
 have L:=Q.first (T:=u0y) (c:=u0e) (W:=u1o) (q:=s2r) (p:=fun x:u0e=> !decide (x.1=t.1)&&((decide (x.2.1=2) || (decide (x.2.1=3)&&decide (x.2.2.2.1 >t.2.2.1)))&&q8m x.2.2.2.2.2.1 t.2.2.2.2.2.1)) (fun x=>t25 x) l t (by omega) hq;rw[o5n];unfold q8y q58;simp only[r23,t99,t2k,u4x,t5b,u6j,L,zOb];rw[←u9t];clear L hq;split<;>rename_i hc<;>split at hc<;>simp_all<;>omega
theorem j2h(t:u0e)(l:Hu u0e)(ht:s8c t)(hl:q4a l):r9y (t,l)=some (j5l t l):=by
 obtain⟨l1,l2⟩:=hl;have hq:∀x∈l,s91 (x,t)=some (j6l x&&ahead x t):=fun x hx=>by
  have h1:=t5t x t (t1q (l2 x hx).1) (t1q ht.2);rw[o95];unfold p20;simp only[u9c,s4r,s4m,zOb,h1,j6l];cases decide (x.2.1=2)<;>cases decide (x.2.1=3)<;>cases ahead x t<;>rfl
 have L:=Q.first (T:=u0y) (c:=u0e) (W:=u15) (q:=s91) (p:=fun x:u0e=>j6l x&&ahead x t) (fun x=>t59 x) l t (by omega) hq;rw[j6e];unfold o1l j5l;simp only[r9o,s4n,t49,u6h,t7y,u7r,L,zOb];rw[←u9t];clear L hq;split<;>rename_i hc<;>split at hc<;>simp_all<;>omega
def o2a(t:u0e)(l:Hu u0e):Bool:=r5n (fun _=>true) t l
theorem j2c(t:u0e)(l:Hu u0e)(ht:s8c t)(hl:q4a l):t1b (l,t)=some (l.any fun x=>j6l x&&(x.2.2.2.2.2.2.1&&ahead t x)):=by
 obtain⟨l1,l2⟩:=hl;have hq:∀x∈l,s4w (x,t)=some (j6l x&&(x.2.2.2.2.2.2.1&&ahead t x)):=fun x hx=>by
  have h1:=t5t t x (t1q ht.1) (t1q (l2 x hx).2);rw[o2f];unfold q4t;simp only[u9c,s4r,s4m,zOb,h1,j6l];cases decide (x.2.1=2)<;>cases decide (x.2.1=3)<;>cases x.2.2.2.2.2.2.1<;>cases ahead t x<;>rfl
 have L:=Q.first (T:=u0y) (c:=u0e) (W:=u1w) (q:=s4w) (p:=fun x:u0e=>j6l x&&(x.2.2.2.2.2.2.1&&ahead t x)) (fun x=>t4f x) l t (by omega) hq;simp only[r5o,s0t,t21,u5g,t52,u63,L,zOb];rw[←u9t];clear L hq;split<;>rename_i hc<;>split at hc<;>simp_all<;>omega
theorem o86(p:u0e)(l:Hu u0e)(ht:s8c p)(hl:q4a l):u9x (l,p)=some (l.any fun x=>decide (x.2.1=2)&&ahead x p):=by
 obtain⟨l1,l2⟩:=hl;have hq:∀x∈l,t9y (x,p)=some (decide (x.2.1=2)&&ahead x p):=fun x hx=>by
  have h1:=t5t x p (t1q (l2 x hx).1) (t1q ht.2);rw[p6a];unfold r6j;simp only[u9c,zOb,h1];cases decide (x.2.1=2)<;>cases ahead x p<;>rfl
 have L:=Q.first (T:=u0y) (c:=u0e) (W:=u1k) (q:=t9y) (p:=fun x:u0e=>decide (x.2.1=2)&&ahead x p) (fun x=>t2z x) l p (by omega) hq;simp only[r02,t7v,t1n,u4l,t38,u53,L,zOb];rw[←u9t];clear L hq;split<;>rename_i hc<;>split at hc<;>simp_all<;>omega
theorem j2d(t:u0e)(l:Hu u0e)(ht:s8c t)(hl:q4a l):t1c (l,t,l)=some (l.any fun p=>decide (p.2.1=2)&&(ahead p t&&(ahead t p || l.any fun x=>decide (x.2.1=2)&&ahead x p))):=by
 have hl' :=hl;obtain⟨l1,l2⟩:=hl;have hq:∀p∈l,s4x (p,t,l)=some (decide (p.2.1=2)&&(ahead p t&&(ahead t p || l.any fun x=>decide (x.2.1=2)&&ahead x p))):=fun p hx=>by
  have h1:=t5t t p (t1q ht.1) (t1q (l2 p hx).2);have h2:=t5t p t (t1q (l2 p hx).1) (t1q ht.2);have h3:=o86 p l (l2 p hx) hl';rw[o2g];unfold q4u;simp only[u9c,zOb,h1,h2,h3];cases decide (p.2.1=2)<;>cases ahead p t<;>cases ahead t p<;>cases (l.any fun x=>decide (x.2.1=2)&&ahead x p)<;>rfl
 have L:=Q.first (T:=u0y) (c:=u0e×Hu u0e) (W:=u1x) (q:=s4x) (p:=fun p:u0e=>decide (p.2.1=2)&&(ahead p t&&(ahead t p || l.any fun x=>decide (x.2.1=2)&&ahead x p))) (fun x=>t4g x) l (t,l) (by omega) hq;simp only[r5p,s0u,t22,u5h,t54,u65,L,zOb];rw[←u9t];clear L hq;split<;>rename_i hc<;>split at hc<;>simp_all<;>omega
theorem o04(t:u0e)(l:Hu u0e)(ht:s8c t)(hl:q4a l):s90 (t,l)=some (o2a t l):=by
 rw[o91];unfold p2w o2a r5n;simp only[j2h t l ht hl,p5z t l ht hl,j2c t l ht hl,j2d t l ht hl,zOb,Bz];cases j5l t l<;>cases p40 t l<;>cases (l.any fun x=>j6l x&&(x.2.2.2.2.2.2.1&&ahead t x))<;>cases (l.any fun p=>decide (p.2.1=2)&&(ahead p t&&(ahead t p || l.any fun x=>decide (x.2.1=2)&&ahead x p)))<;>rfl
theorem j2s(t:u0e)(l:Hu u0e)(ht:s8c t)(hl:q4a l):u7x (l,t)=some (l.any fun x=>decide (x.2.1=2)&&ahead t x):=by
 obtain⟨l1,l2⟩:=hl;have hq:∀x∈l,u82 (x,t)=some (decide (x.2.1=2)&&ahead t x):=fun x hx=>by
  have h1:=t5t t x (t1q ht.1) (t1q (l2 x hx).2);rw[s89];unfold s0f;simp only[u9c,zOb,h1];cases decide (x.2.1=2)<;>cases ahead t x<;>rfl
 have L:=Q.first (T:=u0y) (c:=u0e) (W:=u07) (q:=u82) (p:=fun x:u0e=>decide (x.2.1=2)&&ahead t x) (fun x=>t04 x) l t (by omega) hq;simp only[s7n,t3b,u97,u3p,t1o,u4m,L,zOb];rw[←u9t];clear L hq;split<;>rename_i hc<;>split at hc<;>simp_all<;>omega
theorem o9g(t p:u0e)(l:Hu u0e)(ht:s8c p)(hl:q4a l):u6y (l,t,p)=some (l.any fun y=>decide (y.2.1=2)&&(!decide (y.1=t.1)&&ahead p y)):=by
 obtain⟨l1,l2⟩:=hl;have hq:∀x∈l,u91 (x,t,p)=some (decide (x.2.1=2)&&(!decide (x.1=t.1)&&ahead p x)):=fun x hx=>by
  have h1:=t5t p x (t1q ht.1) (t1q (l2 x hx).2);rw[q36];unfold s5o;simp only[u9c,zOb,h1];cases decide (x.2.1=2)<;>cases decide (x.1=t.1)<;>cases ahead p x<;>rfl
 have L:=Q.first (T:=u0y) (c:=u0e×u0e) (W:=u04) (q:=u91) (p:=fun x:u0e=>decide (x.2.1=2)&&(!decide (x.1=t.1)&&ahead p x)) (fun x=>u94 x) l (t,p) (by omega) hq;simp only[s5m,t1j,u9s,u3b,t0y,u33,L,zOb];rw[←u9t];clear L hq;split<;>rename_i hc<;>split at hc<;>simp_all<;>omega
theorem j2t(t:u0e)(l:Hu u0e)(ht:s8c t)(hl:q4a l):u37 (l,t,l,t)=some (l.any fun x=>(decide (x.2.1=2)&&ahead t x)&&l.any fun y=>decide (y.2.1=2)&&(!decide (y.1=t.1)&&ahead x y)):=by
 have hl' :=hl;obtain⟨l1,l2⟩:=hl;have hq:∀p∈l,t11 (p,t,l,t)=some ((decide (p.2.1=2)&&ahead t p)&&l.any fun y=>decide (y.2.1=2)&&(!decide (y.1=t.1)&&ahead p y)):=fun p hx=>by
  have h1:=t5t t p (t1q ht.1) (t1q (l2 p hx).2);have h3:=o9g t p l (l2 p hx) hl';rw[q8h];unfold s83;simp only[s89,s0f,u9c,zOb,h1,h3];cases decide (p.2.1=2)<;>cases ahead t p<;>cases (l.any fun y=>decide (y.2.1=2)&&(!decide (y.1=t.1)&&ahead p y))<;>rfl
 have L:=Q.first (T:=u0y) (c:=u0e×Hu u0e×u0e) (W:=u08) (q:=t11) (p:=fun x:u0e=>(decide (x.2.1=2)&&ahead t x)&&l.any fun y=>decide (y.2.1=2)&&(!decide (y.1=t.1)&&ahead x y)) (fun x=>t05 x) l (t,l,t) (by omega) hq;simp only[s7o,t3c,u98,u3q,t1p,u4n,L,zOb];rw[←u9t];clear L hq;split<;>rename_i hc<;>split at hc<;>simp_all<;>omega
theorem p8x(t:u0e)(l:Hu u0e)(ht:s8c t)(hl:q4a l):s40 (t,l)=some (s3u (fun _=>true) t l):=by
 rw[p37];unfold r3a s3u;have e:r5n (fun _=>true) t l=o2a t l:=rfl;simp only[o04 t l ht hl,j2h t l ht hl,j2s t l ht hl,j2t t l ht hl,zOb,e];cases o2a t l<;>cases j5l t l<;>cases (l.any fun x=>decide (x.2.1=2)&&ahead t x)<;>cases (l.any fun x=>(decide (x.2.1=2)&&ahead t x)&&l.any fun y=>decide (y.2.1=2)&&(!decide (y.1=t.1)&&ahead x y))<;>rfl
theorem p8d{f g:u0e->Bool}{t:u0e}{l:Hu u0e}(h:∀x∈l,f x=g x):r5n f t l=r5n g t l:=by
 unfold r5n;have e:∀p:u0e,(l.any fun x=>decide (x.2.1=2)&&(f x&&ahead x p))=l.any fun x=>decide (x.2.1=2)&&(g x&&ahead x p):=fun p=>by
  rw[Cd,Cm,Cm];constructor<;>rintro⟨x,hx,q⟩<;>exact⟨x,hx,by rw[h x hx] at*;exact q⟩
 simp only[e]
theorem p5u{e:u3g}(h:EngR e):u11 e=some e:=o7p e.1 e.2 h.fewB h.fewO
theorem j8k{e:u3g}(h:EngR e):q6y e=some (t64 e):=by
 have ho:=h.olen;have hn:=h.base.next;have h1:=p5u h;have h2:=o87 e (by have:=h.tinyO.wt;have:=o00 (l:=e.2) (by omega) (fun t ht=>h.ot ht);have:=j7p e;unfold u0i;omega);have hk:=d8u.mpr h;have b1:decide ((e.2.length:Int)=4)= !decide (e.2.length<4):=by by_cases c:e.2.length<4<;>simp[c] <;>omega
 have b2:decide (e.1.2.2.2.2=9999)= !decide (e.1.2.2.2.2<9999):=by by_cases c:e.1.2.2.2.2<9999<;>simp[c] <;>omega
 rw[j3c];unfold p7j t64;simp only[h1,h2,hk,zOb,Ap,Aa,b1,b2,Aw,u0v (show e.2.length+1<=1099511627776 by omega),Ad];by_cases c1:e.2.length<4
 .by_cases c2:e.1.2.2.2.2<9999
  .simp only[c1,c2,Ae,Ap,Aa,zOb,and_self,Bl,s26 (n:=e.1.2.2.2.2) (r5t hn)];rfl
  .simp only[c1,c2,Ae,Ah,Ap,Bh,Aa,Ad,zOb,and_false,Bk]
 .simp only[c1,Ah,Bh,Ad,zOb,false_and,Bk]
theorem o7x{e:u3g}(h:EngR e)(id:Int){r:s3z}{right:Bool}(hr:right=true->u3f r=true):r4h (e,id,r,right)=some ((r1i e id r right).1,u2q e.2 id,(r1i e id r right).2):=by
 have ho:=h.olen;have h1:=p5u h;have h2:=s27 e id (by omega);rw[j3n];unfold p7u r1i;simp only[h1,h2,zOb];by_cases hn:u2q e.2 id<0
 .simp only[hn,Ae,Ad,Bl]
 .obtain⟨j,hj,e1,e2,e3⟩:=u16 hn;have hR:=h.open_ _ (Ag hj);simp only[hn,Ah,Aa,Bk];cases hok:right with
  |false=>rfl|true=>
   have c:=o5e (r:=r) hR.1 hR.2.1 (hr hok);simp only[Ap,Aa,e1,y8h hj,Ad,zTn,y9a (t:=u0y) hj,c,zOb,e2,Fm,Bk];cases hq:(r0b e.2[j] r).2 with
   |false=>rfl|true=>rfl
theorem d1j{e:u3g}{id:Int}{r:s3z}{right:Bool}(h:(r1i e id r right).2=0): ¬u2q e.2 id<0:=by
 intro hn;unfold r1i at h;rw[Al hn]at h;exact(by decide: ¬((1:Int)=0)) h
theorem j5w{e:u3g}(h:EngR e)(id:Int){k:Hs}(hk:k.size<=1048576):r9x (e,id,k)=some (j03 e id k):=by
 have h3:=s3f k (by unfold u0i;omega);have hr:=o7x h id (r:=(k,k)) (right:=u81 k) (fun q=>by rw[j1i];exact q);rw[o94];unfold p2z j03;simp only[h3,hr,zOb];by_cases c:(r1i e id (k,k) (u81 k)).2=0
 .obtain⟨j,hj,e1,e2,e3⟩:=u16 (d1j c);have g:=o1a e.2[j] e.1.1 k (h.ot (Ag hj)).few (by have:=h.tinyO.vl;omega);simp only[c,Ae,Ap,Aa,e1,y8h hj,Ad,zTn,y9a (t:=u0y) hj,g,zOb,Bl,e2]
 .simp only[c,Ah,Bh,Ad,Bk];rfl
theorem o9h{e:u3g}(h:EngR e)(id:Int){r:s3z}(hk:r.1.size<=1048576/\r.2.size<=1048576):r1q (e,id,r)=some (p48 e id r):=by
 have h3:=q4f r (by unfold u0i;omega) (by unfold u0i;omega);have hr:=o7x h id (r:=r) (right:=u3f r) (fun q=>q);rw[o2p];unfold q43 p48;simp only[h3,hr,zOb];by_cases c:(r1i e id r (u3f r)).2=0
 .obtain⟨j,hj,e1,e2,e3⟩:=u16 (d1j c);have g:=j2k e.2[j] e.1.1 r (h.ot (Ag hj)).few (by have:=h.tinyO.vl;omega);simp only[c,Ae,Ap,Aa,e1,y8h hj,Ad,zTn,y9a (t:=u0y) hj,g,zOb,Bl,e2]
 .simp only[c,Ah,Bh,Ad,Bk]
theorem o1c{e:u3g}(h:EngR e)(id:Int){w:WrT}(hw:w.1.size<=1048576):t91 (e,id,w)=some (j1z e id w):=by
 have ho:=h.olen;have h1:=p5u h;have h2:=s27 e id (by omega);have h3:=q4n w (by unfold u0i;omega);rw[o99];unfold p24 j1z;simp only[h1,h2,h3,zOb];by_cases hn:u2q e.2 id<0
 .simp only[hn,Ae,Ad,Bl]
 .obtain⟨j,hj,e1,e2,e3⟩:=u16 hn;have hR:=h.open_ _ (Ag hj);simp only[hn,Ah,Aa,Bk];cases hok:u4i w with
  |false=>rfl|true=>
   have c:=o9l (w:=w) hR.1 hR.2.1 hok;simp only[Ap,Aa,e1,y8h hj,Ad,zTn,y9a (t:=u0y) hj,c,zOb,e2,Fm,Bk];cases hr:(r5a e.2[j] w).2 with
   |false=>rfl|true=>rfl
theorem q4m{e:u3g}(h:EngR e)(id:Int):u9f (e,id)=some (e.1,s5h e id):=by
 have ho:=h.olen;have h1:=p5u h;have h2:=o5c e.2 id (by omega);rw[o6a];unfold q9j;simp only[h1,h2,zOb];rfl
theorem r6h{e:u3g}(h:EngR e)(id:Int):t00 (e,id)=some (s7t e id):=by
 have ho:=h.olen;have h1:=q4m h id;have h2:=s27 e id (by omega);have h3:=t07 e.1 (s5h e id) h.fewB (by have:=j1m e id;omega);rw[j3f];unfold p7m s7t;simp only[h1,h2,zOb];by_cases hn:u2q e.2 id<0
 .simp only[hn,Ae,Ad,Bl,d10 hn]
 .simp only[hn,Ah,Aa,Bk,h3,zOb];rfl
theorem o7v{e:u3g}(h:EngR e):s70 e=some (t1l e):=by
 have h1:=h.base.plen;have h2:=h.base.rlen;have e1: [e.1.2.1,e.1.2.2.1].flatten=t1l e:=by simp[t1l]
 have L:=p5t [e.1.2.1,e.1.2.2.1] (by rw[e1];simp only[t1l,Ba];omega) (by simp);rw[e1]at L;rw[j3m];unfold p7t;simp only[L,zOb]
theorem EngR.unlike{e:u3g}(h:EngR e){t:u0e}(ht:t∈e.2):∀x∈t1l e,(!decide (x.1=t.1))=true:=fun x hx=>by
 have:=h.apart x hx t ht;simpa using this
theorem j6b{e:u3g}(h:EngR e){t:u0e}(ht:t∈e.2):o2a t (t1l e)=p0p t (t1l e):=
 p8d fun x hx=>(h.unlike ht x hx).symm
theorem o0m{e:u3g}(h:EngR e){t:u0e}(ht:t∈e.2):s3u (fun _=>true) t (t1l e)=t8d t (t1l e):=by
 unfold t8d s3u;rw[p8d (f:=fun _=>true) (g:=fun x=> !decide (x.1=t.1)) fun x hx=>(h.unlike ht x hx).symm]
theorem o7t{e:u3g}(h:EngR e)(id:Int):r4f (e,id)=some (s4s e id):=by
 have ho:=h.olen;have h2:=s27 e id (by omega);have h3:=o7v h;have h4:=j37 e.1;rw[j3d];unfold p7k s4s;simp only[h2,h3,zOb];by_cases hn:u2q e.2 id<0
 .simp only[hn,Ae,Ad,Bl]
 .obtain⟨j,hj,e1,e2,e3⟩:=u16 hn;have hm:=Ag hj;have hT:=(h.ot hm).few;simp only[hn,Ah,Aa,Bk,e1,y8h hj,Ad,zTn,y9a (t:=u0y) hj,j2a _ _ hT h.fewOth,o04 _ _ hT h.fewOth,j6b h hm,h4,zOb,e2];have hn' : ¬((j:Int)<0):=by omega
  simp only[hn',Ah,Aa,Bk];cases q58 e.2[j] (t1l e)<;>cases p0p e.2[j] (t1l e)<;>cases s8i e.1<;>rfl
theorem j7d{e:u3g}(h:EngR e){t:u0e}(ht:t∈e.2\/t∈e.1.2.2.1):u9e (e.1,t)=some (u1u e.1 t):=by
 have hT:TxnR t:=by
  rcases ht with q|q
  .exact(h.open_ t q).1
  .exact(h.base.ready t q).1
 rw[p7g e.1 t h.fewB hT.tiny.few,p2i h.mids (r5t hT.id)]
theorem p4u{e:u3g}{id:Int}(h: ¬u2q e.2 id<0):s7t e id=(leaveE e id,0):=by unfold s7t;rw[Ao h]
theorem j6p{e:u3g}{id:Int}(h:u2q e.2 id<0):s7t e id=(e,1):=by unfold s7t;rw[Al h]
theorem j5r{e:u3g}(h:EngR e)(id:Int):r9v (e,id)=some (u4s e id):=by
 have ho:=h.olen;have h2:=s27 e id (by omega);have hJ:=o7t h id;have hO:=r6h h id;have hW:=q4m h id;rw[o90];unfold p2v u4s;simp only[hJ,zOb];by_cases c1:s4s e id=1
 .have d:decide ((1:Int)=0)=false:=by decide
  simp only[c1,d,Bh,Ad,hO,zOb,Bl,j6p (c2q.mp c1)];rfl
 .by_cases c0:s4s e id=0
  .obtain⟨hn,_,_,_⟩:=q6d c0;obtain⟨j,hj,e1,e2,e3⟩:=u16 hn;have hm:e.2[j] ∈e.2\/e.2[j] ∈e.1.2.2.1:= .inl (Ag hj);have hT:=j7d h hm;obtain⟨k,hk,f1,f2⟩:=j4r e.1 e.2[j] (by have:=h.base.plen;omega);have hC:=s7i (s9u e.1 e.2[j]) (j3a (h.ot (Ag hj)).few);have hO2:=t07 (u1u e.1 e.2[j]) (s5h e id) (o0s h hm).few (by have:=j1m e id;omega);have d: ¬((0:Int)=1):=by decide
   simp only[c0,d,Ae,Ap,Aa,Bl,Bk,h2,e1,y8h hj,Ad,zTn,y9a (t:=u0y) hj,hW,hT,f1,y8h hk,y9a (t:=u0y) hk,f2,hC,hO2,zOb,e2];show some _=some (q59 e e.2[j],_);unfold q59 s5h;rw[e3];rfl
  .have hn: ¬u2q e.2 id<0:=fun q=>c1 (c2q.mpr q)
   simp only[c1,c0,Ah,Bh,Ad,Bk,hO,zOb,p4u hn];rfl
theorem j2q{e:u3g}(h:EngR e)(id:Int){n:Hs}(hn1:n.size<=1048576):r5x (e,id,n)=some (s3x e id n):=by
 have ho:=h.olen;have h1:=p5u h;have h2:=s27 e id (by omega);have hK:=s3f n (by unfold u0i;omega);have hA:u2e (e.1,n)=some (u0k e.1 n):=s3h e.1 n (by have:=h.base.rlen;omega);have hJ:=o7t h id;have hL:=o7v h;have hO:=r6h h id;have hW:=q4m h id;rw[o5v];unfold q86 s3x;simp only[h1,h2,zOb];by_cases c1:u2q e.2 id<0
 .simp only[c1,Ae,Ad,Bl];rfl
 rw[p4u c1]at hO;simp only[c1,Ah,Aa,Bk,hK,zOb];cases c2:u81 n with
 |false=>simp only[Bh,Ad,Bl];rfl|true=>
 simp only[Ap,Aa,Fm,Bk,hA,zOb];by_cases c3:0<=u0k e.1 n
 .have c3' :decide (u0k e.1 n>=0)=true:=by simpa using c3
  simp only[c3,c3',Ad,Bl];rfl
 have c3' :decide (u0k e.1 n>=0)=false:=by simpa using c3
 simp only[c3,c3',Aa,Bk,hJ,zOb];unfold s6w;by_cases c4:s4s e id=0
 .obtain⟨j,hj,e1,e2,e3⟩:=u16 c1;have hm:=Ag hj;have hT:=(h.ot hm);have hTR:=(h.open_ _ hm).1;have hD:=p8x e.2[j] (t1l e) hT.few h.fewOth;rw[o0m h hm]at hD;have hr:=h.base.rlen;simp only[c4,Ae,e1,y8h hj,Ad,zTn,y9a (t:=u0y) hj,hL,hD,zOb,e2,ne_eq,not_true_eq_false,Bk];cases c5:t8d e.2[j] (t1l e) with
  |true=>
   have d5:decide ((5:Int)=0)=false:=by decide
   simp only[Ad,d5,Aa,zOb,Bh,hO,Bl];rfl
  |false=>
   simp only[Aa,zOb,Br,Bk];have e6:decide ((e.1.2.2.1.length:Int)>=3)=decide (3<=e.1.2.2.1.length):=by simp;omega
   simp only[e6];by_cases c6:3<=e.1.2.2.1.length
   .have d3:decide ((3:Int)=0)=false:=by decide
    simp only[c6,Ae,Ad,d3,Bh,hO,zOb,Bl];rfl
   .have hM:=q8r e.1 e.2[j] n h.fewB hT.few (r5t hTR.id);obtain⟨k,hk,f1,f2⟩:=p8r (t:=e.2[j]) c3;have hns:n.size<=100:=by have:=(u2z c2).2;omega
    have hMt:=q78 (t:=e.2[j]) h.base hT hns;have hA2:u2e (u21 e.1 e.2[j] n,n)=some ((k:Nat):Int):=by rw[s3h _ n (by have:=hMt.rl;omega),f1]
    have hC:=s7i (u70 e.1 e.2[j] n) hT.few;have hO2:=t07 (u21 e.1 e.2[j] n) (s5h e id) hMt.few (by have:=j1m e id;omega);simp only[c6,Ah,Aa,Ae,Ap,hW,y8h hj,Ad,y9a (t:=u0y) hj,hM,hA2,y8h hk,zTn,y9a (t:=u0y) hk,f2,hC,hO2,zOb,Bk,Bl];show some _=some (j6u e e.2[j] n,_);unfold j6u s5h;rw[e3];rfl
 .simp only[c4,Ah,Aa,zOb,Bh,Ad,hO,ne_eq,not_false_eq_true,Bl,Bk];rfl
theorem o89{e:u3g}(h:EngR e)(n:Hs)(yes:Bool):r9w (e,n,yes)=some (p0z e n yes):=by
 have ho:=h.olen;have h1:=p5u h;have hA:u2e (e.1,n)=some (u0k e.1 n):=s3h e.1 n (by have:=h.base.rlen;omega);have hF:=j37 e.1;have hG:=p68 e.1 n h.fewB;have hG2:=t07 (s3a e.1 n) e.2 (q72 h.tinyO).few (by omega);rw[o93];unfold p2y p0z;simp only[h1,hA,hF,zOb];by_cases c1:u0k e.1 n<0
 .simp only[c1,Ae,Ad,Bl];rfl
 obtain⟨k,hk,f1,f2⟩:=t8c c1;simp only[c1,Ah,Aa,Bk];cases yes with
 |false=>simp only[Aa,zOb,hG,hG2,Br,false_and,Bk];rfl|true=>
  have hm:e.1.2.2.1[k] ∈e.2\/e.1.2.2.1[k] ∈e.1.2.2.1:= .inr (Ag hk);have hT:=j7d h hm;have hT2:=t07 (u1u e.1 e.1.2.2.1[k]) e.2 (o0s h hm).few (by omega);simp only[Ad,true_and];cases s8i e.1 with
  |true=>rfl|false=>
   simp only[Aa,Br,Bk,Bl,f1,y8h hk,Ad,zTn,y9a (t:=u0y) hk,hT,hT2,zOb];rfl
theorem d4i{l:Hu u2u}(hA:VAsc l){a s:Int}(h:a<=s)(k v:Hs):
 (∃x∈u2y l a,x.1=k/\vCs x<=s/\x.2.2.1=false/\x.2.1=v/\ ∀y∈u2y l a,y.1=k->vCs y<=s->vCs y<=vCs x)↔
 ∃x∈l,x.1=k/\vCs x<=s/\x.2.2.1=false/\x.2.1=v/\ ∀y∈l,y.1=k->vCs y<=s->vCs y<=vCs x:=by
 constructor
 .rintro⟨x,hx,h1,h2,h3,h4,h5⟩
  obtain⟨m1,m2⟩:=(u7i hA).mp hx;refine⟨x,m1,h1,h2,h3,h4,fun y hy q1 q2=> ?_⟩;obtain⟨z,hz,z1,z2,z3⟩:=d1f (s:=s) (k:=k) l ⟨y,hy,q1,q2⟩;have hzy:=z3 y hy q1 q2;have hzx:=z3 x m1 h1 h2;by_cases hza:vCs z >a
  .have:=h5 z ((u7i hA).mpr ⟨hz, .inl hza⟩) z1 z2;omega
  .rcases m2 with c|⟨c,_⟩
   .omega
   .have:=c.2 z hz (z1.trans h1.symm) (by omega);omega
 .rintro⟨x,hx,h1,h2,h3,h4,h5⟩
  refine⟨x,(u7i hA).mpr ⟨hx,?_⟩,h1,h2,h3,h4,fun y hy q1 q2=>h5 y ((u7i hA).mp hy).1 q1 q2⟩;by_cases c:vCs x >a
  .exact .inl c
  .exact .inr ⟨⟨by omega,fun y hy q1 q2=>h5 y hy (q1.trans h1) (by omega)⟩, .inl h3⟩
theorem d3t{r s:Hu PrT}(h1:d9u r)(h2:d9u s)(h:∀k v,(k,v)∈r↔(k,v)∈s):r=s:=by
 refine d1x (r:=fun a b:PrT=>y3i a.1 b.1=true) (fun x=>by rw[t8f];simp) (fun x y q=>by rw[q0c q];simp) h1 h2 fun x=>h x.1 x.2
theorem q0e{l:Hu u2u}(hA:VAsc l){a s:Int}(h:a<=s)(r:s3z):s5s (u2y l a) r s=s5s l r s:=by
 refine d3t (j79 _ _ _) (j79 _ _ _) fun k v=> ?_
 rw[j7x _ _ _ _ _ (s3e hA a).uni,j7x _ _ _ _ _ hA.uni,d4i hA h k v]
theorem BaseR.asc{b:u0m}(h:BaseR b):VAsc b.1:=(d2q.mp h.vs).2.1
theorem j62{b:u0m}(h:BaseR b)(o:Hu u0e)(r:s3z):s5s (tidied b o).1 r b.2.2.2.1=s5s b.1 r b.2.2.2.1:=q0e h.asc (p4z b o) r
theorem q7d(a b:Hu PrT)(ha:a.length<=1099511627776):s2x (a,b)=some (decide (a=b)):=by
 rw[p91];unfold q1a;by_cases h:a.length=b.length
 .have hz:(a.zip b).length=a.length:=by simp[h]
  have L:=s4c t6x (a.zip b) (fun i=>(a,b,i)) (fun p=> !(z7q p.1.1 p.2.1&&(z7q p.1.2 p.2.2&&true))) (.inr false) (.inl ())
   (by rw[r4z,hz];simp only[t6i,u0b,Am,Ah,Aa])
   (fun i hi=>by
    have hi1:i<a.length:=by omega
    have hi2:i<b.length:=by omega
    rw[r4z];simp only[t6i,u0b,hi1,Ae,Ad,y8h hi1,y8h hi2,zTn,y9a (t:=d20) hi1,y9a (t:=d20) hi2,List.getElem_zip];rw[y7x (by omega)])
  have e1:decide ((a.length:Int)=(b.length:Int))=true:=by simp[h]
  simp only[e1,Ap,Aa,L,zOb];rw[←d1n h];cases (a.zip b).any fun p=> !(z7q p.1.1 p.2.1&&(z7q p.1.2 p.2.2&&true))<;>rfl
 .have e1:decide ((a.length:Int)=(b.length:Int))=false:=by simp;omega
  have e2:decide (a=b)=false:=by
   rw[Bu];intro e;exact h (by rw[e])
  rw[e1,e2];rfl
def c3h:u1a:=((u26, []),([], []))
def q7c(d:u0j):u1a×Bool:=if u2k d=true/\(p8j (u0d d)).2=true then((((p8j (u0d d)).1, []),d),true) else(c3h,false)
theorem j2u(d:u0j)(hd:c2e.wt d<=10000000):s2w d=some (q7c d):=by
 have hb:u0i=1099511627776:=rfl;rw[p9k];unfold q0v q7c;rw[j2p d (by omega),p5x d (by omega),u9j d (by omega)];simp only[zOb];cases u2k d<;>cases (p8j (u0d d)).2<;>rfl
theorem d0r(d:u0j)(hd:c2e.wt d<=10000000):u8t d=some (q7c d):=by
 have hb:u0i=1099511627776:=rfl;rw[o0d];unfold q1m q7c;rw[o7w d (by omega),p5y d (by omega),u9k d (by omega)];simp only[zOb];cases u2k d<;>cases (p8j (u0d d)).2<;>rfl
theorem j17(d:u0j)(hd:c2e.wt d<=10000000):r91 d=some (orD d (j1y d)):=by
 have h1:=j2p d (by omega);have h2:=t7h (o1u (p8j (u0d d)).1) (p77 (j4i _)).wt;have h3:=u9j d (by unfold u0i;omega);rw[j6f];unfold o1n;simp only[h1,zOb];have h2:u43 (4,(0,0,0,0, [], [],false,(⟨#[]⟩:Hs)),(⟨#[]⟩:Hs),false,(p8j (u0d d)).1)=_:=h2;simp only[h2,h3,zOb];unfold j1y;cases hp:t1a (u0d d) with
 |none=>
  have e:(p8j (u0d d)).2=false:=by unfold p8j;rw[hp]
  simp only[e,Bh,Ad,zOb];rfl
 |some b=>
  have e:p8j (u0d d)=(b,true):=by unfold p8j;rw[hp]
  simp only[e,Ap,Aa,zOb];have e4:o1u b=(4,u3i,emp,false,b):=rfl;rw[e4];cases ht:(u0u (4,u3i,emp,false,b)).2 with
  |false=>simp only[Bh,Ad,Br,Bk];rfl|true=>
   have h5:=o5h (d:=d) (l:= [(u0u (4,u3i,emp,false,b)).1]) hd (by simp) (fun t h=>by
    rw[Ax.mp h];have:=s7g (4,u3i,emp,false,b);omega)
   simp only[Ap,Aa,Bl,h5,zOb]
theorem r0e{s:u1a}(hb:fewB s.1.1)(ho:q4a s.1.2)(hd:c2e.wt s.2<=10000000):u4j s=some s:=by
 have h1:u11 s.1=some s.1:=o7p s.1.1 s.1.2 hb ho;have h2:=u9j s.2 (by unfold u0i;omega);rw[p9q];unfold q00;simp only[h1,h2,zOb]
theorem p5w(s:u1a)(r:r21)(hb:fewB s.1.1)(ho:q4a s.1.2)(hd:c2e.wt s.2<=10000000)(hr:tinyR r):t90 (s,r)=some ((s.1,(u9v s.2 r).getD s.2),(u9v s.2 r).isSome):=by
 have h0:=r0e hb ho hd;have h1:=t7h r hr.wt;have hl:=s7g r;have h2:=r5b s.2 (u0u r).1 hd (by omega);have h3:=j17 s.2 hd;rw[p6b];unfold r6k u9v;simp only[h0,h1,zOb];cases ht:(u0u r).2 with
 |false=>simp only[Bh,Ad,Br,Bk];rfl|true=>
  simp only[Ap,Aa,Bl,h2,zOb];cases ha:append_ s.2 (u0u r).1 with
  |some y=>rfl|none=>
   simp only[orD,Aa,h3,zOb];cases hz:j1y s.2 with
   |none=>rfl|some z=>
    have h4:=r5b z (u0u r).1 (u60 (d0w hz)) (by omega);simp only[orD,Ad,h4,zOb];cases hq:append_ z (u0u r).1<;>rfl
theorem d04{e:u3g}{id:Int}(c:(u4s e id).2.2=0):s4s e id=0:=by
 unfold u4s at c;split at c
 .exact absurd c (by show ¬((1:Int)=0);decide)
 .split at c
  .assumption
  .exact c
theorem p8z{s:u1a}(h:EngR s.1)(hd:u2k s.2=true)(id:Int):s42 (s,id)=some (u27 s id):=by
 have ho:=h.olen;have h1:=j5r h id;have h0:=r0e h.fewB h.fewO (u60 hd);have hR:=d05 h id;have h2:=p5w ((u4s s.1 id).1,s.2) (u4s s.1 id).2.1 hR.fewB hR.fewO (u60 hd) (p8a h id);have hL:=r6h h id;rw[p38];unfold r3b;simp only[h1,zOb];rw[o2y];unfold p1w u27;simp only[h0,zOb];by_cases c:(u4s s.1 id).2.2=0
 .have hn:=(q6d (d04 c)).1;rw[p4u hn]at hL;simp only[c,Ae,Ap,Aa,Bl,h2,zOb];cases u9v s.2 (u4s s.1 id).2.1 with
  |none=>simp only[Option.isSome_none,Aa,hL,zOb]|some d=>rfl
 .simp only[c,Ah,Bh,Ad,Bk,zOb]
theorem d0c{s:u1a}(hb:fewB s.1.1)(ho:q4a s.1.2)(hd:c2e.wt s.2<=10000000):s4y s=some (j7r s):=by
 have h1:=r0e hb ho hd;have h2:=j17 s.2 hd;rw[o2i];unfold q4w j7r;simp only[h1,h2,zOb];cases j1y s.2<;>rfl
structure View(H:Hu u0e)(b:u0m):Prop where
 eq:d9i (c2w H) j93=s5s b.1 j93 b.2.2.2.1
 right:∀t∈H,TxnR t
theorem d6n{c:Int}{t:u0e}(ht:TxnR t)(hs:t.2.2.1<=c)(hc:c<9999):TxnR (d33 (c+1) t):=
 ⟨ht.id,⟨by show(1:Int)<=3;omega,by show(3:Int)<=3;omega⟩,ht.snap,ht.rlen,ht.ws,ht.rs,fun _=>⟨by show t.2.2.1+1<=c+1;omega,by show c+1<=9999;omega⟩,
   fun e=>absurd rfl e,fun e=>by have e:(3:Int)=2:=e;omega,fun _=>rfl,fun e=>by have e:(3:Int)=1:=e;omega⟩
structure Life(k:Nat)(H:Hu u0e)(s:u1a):Prop where
 ser:Ser H s.1
 disk:HB H s
 view:View H s.1.1
 few:H.length<=k
theorem p4y(e:u3g)(id:Int)(r:s3z)(right:Bool):(r1i e id r right).1.1=e.1:=by
 unfold r1i;split
 .rfl
 .split
  .rfl
  .split<;>rfl
theorem o0x(e:u3g)(id:Int)(w:WrT):(j1z e id w).1.1=e.1:=by
 unfold j1z;split
 .rfl
 .split
  .rfl
  .split<;>rfl
theorem j9n{l:Hu u2u}(hl:u7k l=true)(k:Hs)(s:Int):(r4m l k s).1.size<=12:=by
 obtain⟨h1,_,_⟩:=d2q.mp hl;have hr:=q75 l k s;unfold r4m;split
 .exact(by decide:(emp).size<=12)
 .rename_i c;have c1: ¬t5i l k s<0:=fun q=>c (.inl q)
  have hlt:(t5i l k s).toNat<l.length:=by omega
  rw[y9a (t:=u0g) hlt];have:=h1 _ (Ag hlt);unfold q7j at this;simp only[Ai,Ar]at this;exact this.2.1
theorem j4o{t:u0e}{l:Hu u2u}(ht:TxnR t)(hl:u7k l=true)(k:Hs):(s5r t l k).1.size<=12:=by
 unfold s5r;split
 .rename_i c;rw[y9a (t:=u2m) c];have:=p5j ((d5c.mp ht.ws).1 _ (Ag c));split
  .exact(by decide:(emp).size<=12)
  .exact this.2
 .exact j9n hl k _
theorem j1b{t:u0e}{l:Hu u2u}(ht:TxnR t)(hl:u7k l=true)(r:s3z):(r9t t l r).length<=200/\ ∀x∈r9t t l r,x.1.size<=3/\x.2.size<=12:=by
 obtain⟨h1,_,h3⟩:=d2q.mp hl;obtain⟨w1,_,w3⟩:=d5c.mp ht.ws;unfold r9t;constructor
 .rw[Da];refine A9 (Cs _ _) (A9 (r7c _) ?_);rw[Ba,Da,Da];omega
 .intro x hx;obtain⟨k,hk,rfl⟩:=Bx.mp hx;refine⟨?_,j4o ht hl k⟩;have hk:=((t9x _).2 k).mp (A6.mp hk).1;rcases Ay.mp hk with hk|hk
  .obtain⟨v,hv,rfl⟩:=Bx.mp hk;have:=h1 v hv;unfold q7j at this;simp only[Ai]at this;exact(u2z this.1).2
  .obtain⟨w,hw,rfl⟩:=Bx.mp hk;exact(p5j (w1 w hw)).1
theorem p2h{e:u3g}(hE:EngR e)(id:Int)(r:s3z):(p48 e id r).2.1.length<=200/\ ∀x∈(p48 e id r).2.1,x.1.size<=3/\x.2.size<=12:=by
 unfold p48;split
 .rename_i c;obtain⟨j,hj,e1,e2,e3⟩:=u16 (d1j c);have ht:u3c e id∈e.2:=by rw[e2];exact Ag hj
  exact j1b (hE.open_ _ ht).1 hE.base.vs r
 .exact⟨by show 0<=200;omega,fun x hx=>by cases hx⟩
theorem o4t(e:u3g)(id:Int)(r:s3z):(p48 e id r).1=(r1i e id r (u3f r)).1:=by
 unfold p48;split<;>rfl
theorem j04(e:u3g)(id:Int)(k:Hs):(j03 e id k).1=(r1i e id (k,k) (u81 k)).1:=by
 unfold j03;split<;>rfl
structure EvR(e:j7h.den):Prop where
 kind:1<=e.1/\e.1<=12
 at0:0<=e.2.1
 key6:e.2.2.1.size<=6
 text:e.2.2.2.1.size<=20
 keep:e.2.2.2.2.length<=10
 nokeep:e.1≠12->e.2.2.2.2.length=0
theorem o7q{e:j7h.den}(h:EvR e):s03 e=some true:=by
 have l1:u0q (e.1,1,12)=some true:=by
  rw[r3q];unfold r3m;have:=h.kind;simp[this.1,this.2]
 have a1:decide (e.2.1<0)=false:=A7 (Hk.mpr h.at0);have a2:decide ((e.2.2.1.size:Int) >6)=false:=A7 (by have:=h.key6;omega);have a3:decide ((e.2.2.2.1.size:Int) >20)=false:=A7 (by have:=h.text;omega);have a4:decide ((e.2.2.2.2.length:Int) >10)=false:=A7 (by have:=h.keep;omega);rw[p0t];unfold r5g;simp only[l1,a1,a2,a3,a4,zOb,Ap,Aa];by_cases c:e.1=12
 .simp only[c,Ae,Ad,zOb]
 .have:=h.nokeep c;simp[c,this]
abbrev p51:=Hu Int×Hu Hs
structure FitS(s:u1a):Prop where
 eng:EngR s.1
 log:u2k s.2=true
structure Fit(k:Nat)(H:Hu u0e)(s:u1a):Prop extends FitS s where
 few:H.length<=k
 hist:∀t∈H,TxnR t
theorem d50{d y:u0j}(h:j1y d=some y):u2k y=true:=by
 unfold j1y at h;split at h
 .cases h
 .split at h
  .exact(p63 h).2.1
  .cases h
theorem q73{d y:u0j}{r:r21}(h:u9v d r=some y):u2k y=true:=by
 unfold u9v at h;split at h
 .split at h
  .rename_i e;cases h;exact(p54 e).2.1
  .split at h
   .cases h
   .exact(p54 h).2.1
 .cases h
section
variable {k:Nat} {H:Hu u0e} {s:u1a}
theorem Fit.opens(h:Fit k H s){e:u3g}(he:EngR e):Fit (k+1) H (e,s.2):=⟨⟨he,h.log⟩,by have:=h.few;omega,h.hist⟩
theorem Fit.leave(h:Fit k H s)(id:Int):Fit (k+1) H ((s7t s.1 id).1,s.2):=h.opens (d3k h.eng id)
theorem Fit.fix(h:Fit k H s):Fit (k+1) H (j7r s).1:=by
 unfold j7r;split
 .rename_i e;exact⟨⟨h.eng,d50 e⟩,by have:=h.few;omega,h.hist⟩
 .exact⟨⟨h.eng,h.log⟩,by have:=h.few;omega,h.hist⟩
theorem Fit.no(h:Fit k H s)(t:u0e){s' :u1a}(he:EngR s'.1)(hl:u2k s'.2=true)(hc:s'.1.1.2.2.2.1=s.1.1.2.2.2.1):Fit (k+1) (o7m H s'.1 s.1.1.2.2.2.1 t) s' :=by
 rw[j61 t h.eng.mids hc];exact⟨⟨he,hl⟩,by have:=h.few;omega,h.hist⟩
theorem Fit.yes(h:Fit k H s){t:u0e}{s' :u1a}(he:EngR s'.1)(hl:u2k s'.2=true)(hc:s'.1.1.2.2.2.1=s.1.1.2.2.2.1+1)(ht:TxnR t)(hs:t.2.2.1<=s.1.1.2.2.2.1)(h9:s.1.1.2.2.2.1<9999):
 Fit (k+1) (o7m H s'.1 s.1.1.2.2.2.1 t) s' :=by
 rw[j1p t h.eng.mids hc];refine⟨⟨he,hl⟩,by rw[Ba,Aw];have:=h.few;omega,fun x hx=> ?_⟩;rcases Ay.mp hx with hx|hx
 .exact h.hist x hx
 .rw[Ax.mp hx];exact d6n ht hs h9
theorem Fit.commit(h:Fit k H s)(id:Int)(t0:u0e):Fit (k+1) (o7m H (u27 s id).1.1 s.1.1.2.2.2.1 (if u2q s.1.2 id<0 then t0 else u3c s.1 id)) (u27 s id).1:=by
 unfold u27 u4s;by_cases j1:s4s s.1 id=1
 .rw[Al j1,Ao (show ¬((1:Int)=0) by decide)];exact h.no _ (s' :=(s.1,s.2)) h.eng h.log rfl
 .rw[Ao j1];by_cases j0:s4s s.1 id=0
  .rw[Al j0,Al rfl];obtain⟨n,b1,b2,b3⟩:=q6d j0;rw[Ao n];obtain⟨j,hj,e1,e2,e3⟩:=u16 n;have ht:u3c s.1 id∈s.1.2:=by rw[e2];exact Ag hj
   obtain⟨t1,t2,t3⟩:=h.eng.open_ _ ht;split
   .rename_i d e;exact h.yes (s' :=(q59 s.1 (u3c s.1 id),d)) (o9u h.eng ht b3) (q73 e) rfl t1 t3 (p4p b3).2.2
   .exact h.no _ (s' :=(Ab.leaveE s.1 id,s.2)) (q6w h.eng id) h.log rfl
  .rw[Ao j0,Ao j0];exact h.no _ (s' :=(Ab.leaveE s.1 id,s.2)) (q6w h.eng id) h.log rfl
theorem Fit.prep(h:Fit k H s)(id:Int)(n:Hs):Fit (k+1) H (r4o s id n).1:=by
 have same:Fit (k+1) H s:=h.opens (e:=s.1) h.eng;unfold r4o s3x;by_cases c1:u2q s.1.2 id<0
 .rw[Al c1,Ao (show ¬((1:Int)=0) by decide)];exact same
 rw[Ao c1];cases hk:u81 n with
 |false=>rw[Al rfl,Ao (show ¬((2:Int)=0) by decide)];exact same|true=>
  rw[Ao (show ¬(true=false) by decide)];by_cases c2:0<=u0k s.1.1 n
  .rw[Al c2,Ao (show ¬((6:Int)=0) by decide)];exact same
  rw[Ao c2];by_cases c3:s6w s.1 id=0
  .rw[Al c3,Al rfl];obtain⟨j0,d0,l0⟩:=d1r c3;obtain⟨j,hj,e1,e2,e3⟩:=u16 c1;have ht:u3c s.1 id∈s.1.2:=by rw[e2];exact Ag hj
   split
   .rename_i d e;exact⟨⟨d1s h.eng ht hk l0 (d6m.mp (by omega)),q73 e⟩,by have:=h.few;omega,h.hist⟩
   .exact h.opens (q6w h.eng id)
  .rw[Ao c3,Ao c3];exact h.opens (q6w h.eng id)
theorem Fit.fin(h:Fit k H s)(n:Hs)(y:Bool)(t0:u0e):
 Fit (k+1) (o7m H (t1r s n y).1.1 s.1.1.2.2.2.1 (if u0k s.1.1 n<0 then t0 else rdL u0y s.1.1.2.2.1 (u0k s.1.1 n).toNat)) (t1r s n y).1:=by
 have same:∀t,Fit (k+1) (o7m H s.1 s.1.1.2.2.2.1 t) s:=fun t=>h.no t h.eng h.log rfl
 unfold t1r p0z;by_cases c1:u0k s.1.1 n<0
 .rw[Al c1,Ao (show ¬((1:Int)=0) by decide)];exact same _
 rw[Ao c1];by_cases c2:y=true/\s8i s.1.1=true
 .rw[Al c2,Ao (show ¬((3:Int)=0) by decide)];exact same _
 rw[Ao c2];obtain⟨j,hj,e1,e2⟩:=t8c c1;have e3:rdL u0y s.1.1.2.2.1 (u0k s.1.1 n).toNat=s.1.1.2.2.1[j] :=by rw[e1];exact y9a hj
 by_cases c3:y=true
 .rw[Al c3,Al rfl];have hf:s8i s.1.1=false:=by
   cases q:s8i s.1.1 with
   |false=>rfl|true=>exact absurd ⟨c3,q⟩ c2
  have ht:rdL u0y s.1.1.2.2.1 (u0k s.1.1 n).toNat∈s.1.1.2.2.1:=by rw[e3];exact Ag hj
  obtain⟨t1,t2,t3⟩:=h.eng.base.ready _ ht;split
  .rename_i d e;rw[Ao c1];exact h.yes (s' :=(c0w s.1 (rdL u0y s.1.1.2.2.1 (u0k s.1.1 n).toNat),d)) (d60 h.eng ht hf) (q73 e) rfl t1 t3 (p4p hf).2.2
  .exact same _
 .rw[Ao c3,Al rfl];split
  .rename_i d e;exact h.no _ (s' :=(Ab.noE s.1 n,d)) (c2u h.eng n) (q73 e) rfl
  .exact same _
theorem FitS.fit(h:FitS s):Fit 0 [] s:=⟨h,Cn _,fun t ht=>by cases ht⟩
theorem d24{b:u0m}(hb:BaseR b):EngR (b, []):=⟨hb,Cn _,fun t ht=>(by cases ht),List.Pairwise.nil,by simpa using hb.below,by simpa using hb.nodup⟩
end
def fig(n:Nat):Int:=if n<10 then 48+(n:Int) else 87+(n:Int)
theorem d9j{n:Nat}(h:n<200):u8.wrap (n:Int)=(n:Int):=d2h (by omega)
theorem d09(n:Nat)(h:n<16):s22 (n:Int)=some (fig n):=by
 rw[o0g];unfold q1p fig;by_cases hc:n<10
 .have:decide ((n:Int)<(10:Int))=true:=by simp;omega
  have e1:i64.wrap ((48:Int)+(n:Int))=((48+n:Nat):Int):=by rw[y5f (by omega) (by omega)];omega
  rw[this,Ad,Al hc,e1,d9j (by omega)];exact Dj some (by omega)
 .have:decide ((n:Int)<(10:Int))=false:=by simp;omega
  have e1:i64.wrap ((97:Int)+(n:Int))=(97:Int)+(n:Int):=y5f (by omega) (by omega);have e2:i64.wrap ((97:Int)+(n:Int) - 10)=((87+n:Nat):Int):=by rw[y5f (by omega) (by omega)];omega
  rw[this,Aa,Ao hc,e1,e2,d9j (by omega)];exact Dj some (by omega)
theorem c6b:∀k:Nat,k<10->y7s [fig k] =(⟨#[UInt8.ofNat (48+k)]⟩:Hs):=by decide
theorem o35(u:Nat):y6b (u:Int)=⟨(Lib.decDigits u).toArray⟩:=by unfold y6b;rw[Lib.itoa_nonneg]
theorem d27{u:Nat}(h: ¬u<10):y6b (u:Int)=y6b ((u / 10:Nat):Int)++⟨#[UInt8.ofNat (48+u % 10)]⟩:=by
 rw[o35,o35,Lib.decDigits,dif_neg h];apply Gf;simp[Ft]
theorem d06{u:Nat}(h:u<10):y6b (u:Int)=⟨#[UInt8.ofNat (48+u)]⟩:=by
 rw[o35,Lib.decDigits_one h]
theorem d07:∀(m:Nat) (u:Nat) (s:Hs),u<10^m->0<u->u<9223372036854775808->s.size+m<=1000->s2h ((u:Int),false,s)=some (.inl (false,y6b (u:Int)++s))
 |0,u,s,h1,h2,h3,h4=>by simp at h1;omega
 |m+1,u,s,h1,h2,h3,h4=>by
  have e1:Int.tmod (u:Int) 10=((u % 10:Nat):Int):=j47 u 10;have e2:Int.tdiv (u:Int) 10=((u / 10:Nat):Int):=d4d u 10;have d1:decide ((u:Int)=0)=false:=A7 (by omega);have d2:decide (((u % 10:Nat):Int)<0)=false:=A7 (by omega);have hl:(y7s [fig (u % 10)]).size+s.size<=140737488355328:=by rw[u6c];simp only[Aw];omega
  rw[q3l];simp only[s1u,d1,e1,e2,d2,Bh,Ad,Aa,d09 (u % 10) (by omega),zOb,hl,Ae,y8q (show u / 10<=4611686018427387904 by omega)];rw[c6b (u % 10) (by omega)];by_cases c:u<10
  .have z:u / 10=0:=by omega
   have z2:u % 10=u:=by omega
   rw[z,q3l,z2,←d06 c];simp[s1u]
  .have p:u / 10<10^m:=by rw[Gr]at h1;omega
   have:=d07 m (u / 10) (⟨#[UInt8.ofNat (48+u % 10)]⟩++s) p (by omega) (by omega) (by rw[Af];show 1+s.size+m<=1000;omega);rw[this,d27 c,ByteArray.append_assoc]
theorem j2e{n:Int}(h0:0<=n)(h1:n<=9223372036854775807):r54 n=some (y6b n):=by
 obtain⟨u,rfl⟩:∃u:Nat,n=(u:Int):=⟨n.toNat,by omega⟩;rw[o6e];unfold q9n;by_cases c:u=0
 .subst c;have:=d06 (u:=0) (by omega);simp only[this];rfl
 .have p:u<10^19:=by have:(10:Nat)^19=10000000000000000000:=by decide
                     omega
  have e:=d07 19 u (⟨#[]⟩:Hs) p (by omega) (by omega) (by decide);have d:decide ((u:Int)<0)=false:=A7 (by omega);have d0:decide ((u:Int)=0)=false:=A7 (by omega);have ez:y6b (u:Int)++(⟨#[]⟩:Hs)=y6b (u:Int):=ByteArray.append_empty;simp only[d0,Aa,d,e,zOb,ez]
def d03:Hs:=⟨#[44]⟩
def q38(p:PrT):Hs:=p.1++(⟨#[61]⟩:Hs)++p.2
def s4u(l:Hu PrT):Hs:=z6k (l.map q38) d03
theorem o36(s:Hs):z6k [] s=⟨#[]⟩:=by simp[z6k,Lib.join_nil]
theorem j4c(x s:Hs):z6k [x] s=x:=by
 apply Gf;simp[z6k,Lib.join_one]
theorem j9a(x:Hs)(r:Hu Hs)(y s:Hs):z6k ((x::r)++ [y]) s=z6k (x::r) s++s++y:=by
 apply Gf;apply Fj;simp[z6k,Lib.join_cons,Lib.joinTail,Ft]
theorem o8d(l:Hu Hs)(y s:Hs)(h:l≠ []):z6k (l++ [y]) s=z6k l s++s++y:=by
 cases l with
 |nil=>exact absurd rfl h|cons x r=>exact j9a x r y s
theorem o4j{l:Hu PrT}(hs:∀x∈l,x.1.size<=3/\x.2.size<=12):∀i:Nat,i<=l.length->(s4u (l.take i)).size<=17*i:=by
 intro i
 induction i with
 |zero=>
  intro _;show(z6k ((l.take 0).map q38) d03).size<=_;rw[List.take_zero,Eh,o36];exact Au _
 |succ i ih=>
  intro hi;have hlt:i<l.length:=by omega
  have:=ih (by omega);obtain⟨s1,s2⟩:=hs _ (Ag hlt);have z1:(⟨#[44]⟩:Hs).size=1:=rfl;have z2:(⟨#[61]⟩:Hs).size=1:=rfl;unfold s4u at this⊢;rw[B9 hlt,Dh,List.map_singleton];by_cases c:(l.take i).map q38= []
  .rw[c,Cf,j4c];simp only[q38,Af,z2];omega
  .have zc:d03.size=1:=rfl;rw[o8d _ _ _ c];simp only[q38,Af,zc,z2];omega
theorem d1m{l:Hu PrT}(hl:l.length<=200)(hs:∀x∈l,x.1.size<=3/\x.2.size<=12):∀(d i:Nat),i+d=l.length->t2g (l,s4u (l.take i),(i:Int))=some (.inl (s4u l)):=by
 intro d
 induction d with
 |zero=>
  intro i hi;rw[r87];simp only[t9f,u0b,show ¬i<l.length by omega,Ah,Aa];rw[List.take_of_length_le (by omega)]
 |succ d ih=>
  intro i hi;have hlt:i<l.length:=by omega
  obtain⟨s1,s2⟩:=hs _ (Ag hlt);have ha:=o4j hs i (by omega);have z1:(⟨#[44]⟩:Hs).size=1:=rfl;have z2:(⟨#[61]⟩:Hs).size=1:=rfl;have nx:=ih (i+1) (by omega);have st:s4u (l.take (i+1))=if i=0 then l[i].1++(⟨#[61]⟩:Hs)++l[i].2 else s4u (l.take i)++(⟨#[44]⟩:Hs)++l[i].1++(⟨#[61]⟩:Hs)++l[i].2:=by
   unfold s4u;rw[B9 hlt,Dh,List.map_singleton];split
   .rename_i c;subst c;simp[j4c,q38]
   .rename_i c;rw[o8d _ _ _ (by simp;exact⟨c,by intro q;rw[q]at hlt;simp at hlt⟩)];simp only[q38,d03,ByteArray.append_assoc]
  rw[r87];simp only[t9f,u0b,hlt,Ae,Ad,y8h hlt,zTn,y9a (t:=d20) hlt,Af,z1,z2];rw[y7x (by omega)];by_cases c:(i:Int) >0
  .rw[st,Ao (by omega)]at nx;simp only[c,Ae,Ad,show(s4u (l.take i)).size+1<=140737488355328 by omega,show(s4u (l.take i)).size+1+l[i].1.size<=140737488355328 by omega,show(s4u (l.take i)).size+1+l[i].1.size+1<=140737488355328 by omega,show(s4u (l.take i)).size+1+l[i].1.size+1+l[i].2.size<=140737488355328 by omega];exact nx
  .have c0:i=0:=by omega
   rw[st,Al c0]at nx;have e0:s4u (l.take i)=(⟨#[]⟩:Hs):=by rw[c0];simp[s4u,o36]
   have z0:(⟨#[]⟩:Hs).size=0:=rfl;rw[e0];simp only[c,Ah,Aa,Ae,Ad,z0,show 0+l[i].1.size<=140737488355328 by omega,show 0+l[i].1.size+1<=140737488355328 by omega,show 0+l[i].1.size+1+l[i].2.size<=140737488355328 by omega];have e1:(⟨#[]⟩:Hs)++l[i].1=l[i].1:=ByteArray.empty_append;rw[e1];exact nx
theorem j2m{l:Hu PrT}(hl:l.length<=200)(hs:∀x∈l,x.1.size<=3/\x.2.size<=12):r2i l=some (s4u l):=by
 have e:=d1m hl hs l.length 0 (by omega);have e0:s4u (l.take 0)=(⟨#[]⟩:Hs):=by simp[s4u,o36]
 rw[e0]at e;have e:t2g (l,(⟨#[]⟩:Hs),0)=some (.inl (s4u l)):=e;rw[o3u];unfold q55;simp only[e,zOb]
abbrev EvT:=j7h.den
def d88:Hs:=⟨#[45]⟩
def j6r:Hs:=⟨#[]⟩
def o3y(g:u3g×Hs×Bool×Int):Hs:=if g.2.2.2=0/\g.2.2.1=false then d88 else g.2.1
def s7u(s:u3g)(e:EvT):Int×Hs×u3g:=
 if e.1=1 then((t64 s).2.2,if(t64 s).2.2=0 then y6b (t64 s).2.1 else j6r,(t64 s).1)
 else if e.1=2 then((j03 s e.2.1 e.2.2.1).2.2.2,o3y (j03 s e.2.1 e.2.2.1),(j03 s e.2.1 e.2.2.1).1)
 else if e.1=3 then((p48 s e.2.1 (e.2.2.1,e.2.2.2.1)).2.2,s4u (p48 s e.2.1 (e.2.2.1,e.2.2.2.1)).2.1,(p48 s e.2.1 (e.2.2.1,e.2.2.2.1)).1)
 else if e.1=4 then((j1z s e.2.1 (e.2.2.1,e.2.2.2.1,false)).2,j6r,(j1z s e.2.1 (e.2.2.1,e.2.2.2.1,false)).1)
 else((j1z s e.2.1 (e.2.2.1,j6r,true)).2,j6r,(j1z s e.2.1 (e.2.2.1,j6r,true)).1)
def j30(s:u1a)(H:Hu u0e)(e:EvT):Int×Hu u0e×u1a:=
 if e.1=6 then((u27 s e.2.1).2,o7m H (u27 s e.2.1).1.1 s.1.1.2.2.2.1 (if u2q s.1.2 e.2.1<0 then u3i else u3c s.1 e.2.1),(u27 s e.2.1).1)
 else if e.1=7 then((s7t s.1 e.2.1).2,H,((s7t s.1 e.2.1).1,s.2))
 else if e.1=8 then((r4o s e.2.1 e.2.2.1).2,H,(r4o s e.2.1 e.2.2.1).1)
 else((t1r s e.2.2.1 (decide (e.1=9))).2,o7m H (t1r s e.2.2.1 (decide (e.1=9))).1.1 s.1.1.2.2.2.1 (if u0k s.1.1 e.2.2.1<0 then u3i else rdL u0y s.1.1.2.2.1 (u0k s.1.1 e.2.2.1).toNat),(t1r s e.2.2.1 (decide (e.1=9))).1)
def p4v(d:u0j)(e:EvT):u0j:=if o8q (u2v d (⟨#[120]⟩:Hs) 0 e.2.2.2.2 e.2.1) d=true then u2v d (⟨#[120]⟩:Hs) 0 e.2.2.2.2 e.2.1 else d
def doC(s:u1a)(H:Hu u0e)(e:EvT):Int×Hs×Hu u0e×u1a:=
 if e.1<=5 then((s7u s.1 e).1,(s7u s.1 e).2.1,H,((s7u s.1 e).2.2,s.2))
 else if e.1=11 then(if(j7r s).2=true then 0 else 3,j6r,H,(j7r s).1)
 else if e.1=12 then(if(q7c (p4v s.2 e)).2=true then(0,j6r,H,(q7c (p4v s.2 e)).1) else(1,j6r,H,s))
 else((j30 s H e).1,j6r,(j30 s H e).2.1,(j30 s H e).2.2)
theorem ev5{q:Int}(h1:1<=q)(h2:q<=5):q=1\/q=2\/q=3\/q=4\/q=5:=by omega
theorem j7y{e:u3g}(hE:EngR e):0<=(t64 e).2.1/\(t64 e).2.1<=9999:=by
 have:=hE.base.next;unfold t64;split
 .exact⟨by show 0<=e.1.2.2.2.2;omega,this.2⟩
 .exact⟨by show(0:Int)<=0;omega,by show(0:Int)<=9999;omega⟩
theorem d1i{s:u3g}(hE:EngR s){e:EvT}(h1:1<=e.1)(h5:e.1<=5):EngR (s7u s e).2.2:=by
 obtain⟨kd,at_,key,tx,kp⟩:=e;have hg:EngR (j03 s at_ key).1:=by rw[j04];exact d45 hE (fun q=>by rw[j1i];exact q)
 have hs:EngR (p48 s at_ (key,tx)).1:=by rw[o4t];exact d45 hE (fun q=>q)
 rcases ev5 h1 h5 with q|q|q|q|q<;>(have q:kd=_:=q;subst q)
 .exact d25 hE
 .exact hg
 .exact hs
 .exact d9d hE
 .exact d9d hE
theorem c2a{s:u1a}(hE:EngR s.1)(H:Hu u0e)(r:p51){e:EvT}(he:EvR e)(h5:e.1<=5):
 t1g ((s,H,r),e)=some ((s7u s.1 e).1,(s7u s.1 e).2.1,(((s7u s.1 e).2.2,s.2),H,r)):=by
 obtain⟨kd,at_,key,tx,kp⟩:=e;have k1:(1:Int)<=kd:=he.kind.1;have hk:key.size<=6:=he.key6;have ht5:tx.size<=20:=he.text;have h5:kd<=(5:Int):=h5;rw[o7b];unfold p0l;rcases ev5 k1 h5 with rfl|rfl|rfl|rfl|rfl
 .have hn:=j7y hE;have hd:=j2e (n:=(t64 s.1).2.1) hn.1 (by omega);simp only[Ae,Ad,j8l hE,zOb];by_cases c:(t64 s.1).2.2=0
  .simp only[c,Ae,Ap,Aa,hd,zOb,s7u,Bl]
  .simp only[c,Ah,Bh,Ad,s7u,Bl,Bk];rfl
 .simp only[show decide ((2:Int)=1)=false by decide,Aa,Ae,Ad,j5x hE at_ (show key.size<=1048576 by omega),zOb];have e0:s7u s.1 ((2:Int),at_,key,tx,kp)=((j03 s.1 at_ key).2.2.2,o3y (j03 s.1 at_ key),(j03 s.1 at_ key).1):=rfl;rw[e0];obtain⟨g,hg⟩:∃g,g=j03 s.1 at_ key:=⟨_,rfl⟩;rw[←hg];unfold o3y;by_cases c:g.2.2.2=0
  .cases c2:g.2.2.1
   .simp only[c,c2,Ae,Ad,zOb,Bh,and_self,Bl];rfl
   .simp only[c,c2,Ae,Ad,Aa,zOb,Ap,Fm,and_false,Bk]
  .simp only[c,Ah,Aa,zOb,false_and,Bk]
 .simp only[show decide ((3:Int)=1)=false by decide,show decide ((3:Int)=2)=false by decide,Aa,Ae,Ad,o9i hE at_ (r:=(key,tx)) ⟨by show key.size<=_;omega,by show tx.size<=_;omega⟩,j2m (p2h hE at_ (key,tx)).1 (p2h hE at_ (key,tx)).2,zOb];rfl
 .simp only[show decide ((4:Int)=1)=false by decide,show decide ((4:Int)=2)=false by decide,show decide ((4:Int)=3)=false by decide,Aa,Ae,Ad,o1d hE at_ (w:=(key,tx,false)) (by show key.size<=_;omega),zOb];rfl
 .simp only[show decide ((5:Int)=1)=false by decide,show decide ((5:Int)=2)=false by decide,show decide ((5:Int)=3)=false by decide,show decide ((5:Int)=4)=false by decide,Aa,o1d hE at_ (w:=(key,(⟨#[]⟩:Hs),true)) (by show key.size<=_;omega),zOb];rfl
theorem r22{n:Nat}(h:n<=100000000):Nat.ble n z7z=true:=Nat.ble_eq_true_of_le (A9 h (by decide))
theorem j8n{t:u0e}(h:s8c t):u05 t=some t:=by
 rw[p0x];unfold r5j;have h1:Nat.ble (([] :Hu s3z).length+t.2.2.2.2.1.length) z7z=true:=r22 (by have:=h.1;rw[Cc];omega);have h2:Nat.ble (([] :Hu WrT).length+t.2.2.2.2.2.1.length) z7z=true:=r22 (by have:=h.2;rw[Cc];omega);simp only[h1,h2,Ad,Cf]
theorem q7y(s:u1a)(H:Hu u0e)(r:p51)(c:Int){t:u0e}(ht:s8c t)(hn:H.length<=1000000):u46 ((s,H,r),c,t)=some (s,o7m H s.1 c t,r):=by
 have h1:Nat.ble (([] :Hu u0e).length+H.length) z7z=true:=r22 (by rw[Cc];omega);rw[p6x];unfold r66 o7m;by_cases q:s.1.1.2.2.2.1=i64.wrap (c+1)
 .rw[Al q];have h2:∀x:u0e,Nat.ble (H.length+ [x].length) z7z=true:=fun x=>r22 (by rw[Aw];omega)
  simp only[q,Ae,Ap,Aa,j8n ht,zOb,h1,h2,Ad,Cf];rfl
 .rw[Ao q];simp only[q,Ah,Bh,Ad]
theorem j5k:s8c u3i:=⟨by show 0<=1048576;omega,by show 0<=1048576;omega⟩
theorem d8v{q:Int}(h1:6<=q)(h2:q<=10):q=6\/q=7\/q=8\/q=9\/q=10:=by omega
theorem c50{k:Nat}{H:Hu u0e}{s:u1a}(h:Fit k H s)(hk:k<=1000)(r:p51){e:EvT}(he:EvR e)(h6:6<=e.1)(h10:e.1<=10):
 t4c ((s,H,r),e)=some ((j30 s H e).1,((j30 s H e).2.2,(j30 s H e).2.1,r)):=by
 have hE:=h.eng;have hd:=h.log;have hn:=h.few;obtain⟨kd,at_,key,tx,kp⟩:=e;have h6:(6:Int)<=kd:=h6;have h10:kd<=(10:Int):=h10;have key6:key.size<=6:=he.key6;have fo:∀t∈s.1.2,s8c t:=fun t ht=>(hE.fewO).2 t ht
 have fr:∀t∈s.1.1.2.2.1,s8c t:=fun t ht=>(hE.fewB).2.2.2 t ht
 have hzero:((0,0,0,0, [], [],false,(⟨#[]⟩:Hs)):u0e)=u3i:=rfl;rw[j02];unfold p3y
 have fin:∀y:Bool,((u2f (s.1.1,key)).bind fun y8=>(bif (decide (y8>=(0:Int))) then(bif (y4v y8 s.1.1.2.2.1.length) then((t0l ((s,H,r),(key,y))).bind fun y9=>((u46 (y9.2,(s.1.1.2.2.2.1,(rdL u0y s.1.1.2.2.1 (y8).toNat)))).bind fun y10=>(some (y9.1,y10)))) else none) else((t0l ((s,H,r),(key,y))).bind fun y11=>((u46 (y11.2,(s.1.1.2.2.2.1,u3i))).bind fun y12=>(some (y11.1,y12))))))=
  some ((t1r s key y).2,((t1r s key y).1,o7m H (t1r s key y).1.1 s.1.1.2.2.2.1 (if u0k s.1.1 key<0 then u3i else rdL u0y s.1.1.2.2.1 (u0k s.1.1 key).toNat),r)):=fun y=>by
  have e1:=s3i s.1.1 key (by have:=hE.base.rlen;omega);simp only[e1,zOb,o7h hE hd (H,r) (by omega:key.size<=100) y];by_cases c:u0k s.1.1 key<0
  .rw[Al c];have c1:decide (u0k s.1.1 key>=0)=false:=A7 (by omega);simp only[c1,Aa,q7y _ H r _ j5k (by omega),zOb]
  .rw[Ao c];have c1:decide (u0k s.1.1 key>=0)=true:=Bb (by omega);obtain⟨j,hj,e2,e3⟩:=t8c c;have e4:(u0k s.1.1 key).toNat=j:=by omega
   have hf:s8c (rdL u0y s.1.1.2.2.1 (u0k s.1.1 key).toNat):=by
    rw[e4,y9a (t:=u0y) hj];exact fr _ (Ag hj)
   have hg:y4v (u0k s.1.1 key) s.1.1.2.2.1.length=true:=by rw[e2];exact y8h hj
   simp only[c1,Ad,hg,q7y _ H r _ hf (by omega),zOb]
 rcases d8v h6 h10 with rfl|rfl|rfl|rfl|rfl
 .have e1:=t7g s.1 at_ (by have:=hE.olen;omega);simp only[Ae,Ad,e1,zOb,o7g hE hd (H,r) at_,hzero];have e0:j30 s H ((6:Int),at_,key,tx,kp)=((u27 s at_).2,o7m H (u27 s at_).1.1 s.1.1.2.2.2.1 (if u2q s.1.2 at_<0 then u3i else u3c s.1 at_),(u27 s at_).1):=rfl;rw[e0];by_cases c:u2q s.1.2 at_<0
  .rw[Al c];have c1:decide (u2q s.1.2 at_>=0)=false:=A7 (by omega);simp only[c1,Aa,q7y _ H r _ j5k (by omega),zOb]
  .rw[Ao c];have c1:decide (u2q s.1.2 at_>=0)=true:=Bb (by omega);obtain⟨j,hj,e2,e3,e5⟩:=u16 c;have hf:s8c (u3c s.1 at_):=by rw[e3];exact fo _ (Ag hj)
   have hg:y4v (u2q s.1.2 at_) s.1.2.length=true:=by rw[e2];exact y8h hj
   have ha:rdL u0y s.1.2 (u2q s.1.2 at_).toNat=u3c s.1 at_:=rfl;simp only[c1,Ad,hg,ha,q7y _ H r _ hf (by omega),zOb]
 .simp only[show decide ((7:Int)=6)=false by decide,Aa,Ae,Ad,j8q hE at_,zOb];rfl
 .simp only[show decide ((8:Int)=6)=false by decide,show decide ((8:Int)=7)=false by decide,Aa,Ae,Ad,o4a hE hd (H,r) at_ (by omega:key.size<=1048576),zOb];rfl
 .have:=fin true;have e0:j30 s H ((9:Int),at_,key,tx,kp)=((t1r s key true).2,o7m H (t1r s key true).1.1 s.1.1.2.2.2.1 (if u0k s.1.1 key<0 then u3i else rdL u0y s.1.1.2.2.1 (u0k s.1.1 key).toNat),(t1r s key true).1):=rfl;rw[e0];simpa only[show decide ((9:Int)=6)=false by decide,show decide ((9:Int)=7)=false by decide,show decide ((9:Int)=8)=false by decide,Ae,Aa,hzero]using this
 .have:=fin false;have e0:j30 s H ((10:Int),at_,key,tx,kp)=((t1r s key false).2,o7m H (t1r s key false).1.1 s.1.1.2.2.2.1 (if u0k s.1.1 key<0 then u3i else rdL u0y s.1.1.2.2.1 (u0k s.1.1 key).toNat),(t1r s key false).1):=rfl;rw[e0];simpa only[show decide ((10:Int)=6)=false by decide,show decide ((10:Int)=7)=false by decide,show decide ((10:Int)=8)=false by decide,show decide ((10:Int)=9)=false by decide,Aa,hzero]using this
theorem d3a{k:Nat}{H:Hu u0e}{s:u1a}(h:Fit k H s){e:EvT}(h6:6<=e.1)(h10:e.1<=10):Fit (k+1) (j30 s H e).2.1 (j30 s H e).2.2:=by
 obtain⟨kd,at_,key,tx,kp⟩:=e;rcases d8v h6 h10 with q|q|q|q|q<;>(have q:kd=_:=q;subst q)
 .exact h.commit at_ u3i
 .exact h.leave at_
 .exact h.prep at_ key
 .exact h.fin key true u3i
 .exact h.fin key false u3i
theorem p4w{d:u0j}(hd:u2k d=true)(e:EvT):u2k (p4v d e)=true:=by
 unfold p4v;split
 .cases ha:append_ d (⟨#[120]⟩:Hs) with
  |none=>rw[p0n ha];exact hd|some y=>exact((p0o ha 0 e.2.2.2.2 e.2.1).1 rfl).1
 .exact hd
theorem c19{d:u0j}(hd:u2k d=true)(e:EvT):t1f (d,e)=some (p4v d e):=by
 have hw:=u60 hd;have e1:=o5b (d:=d) (t:=(⟨#[120]⟩:Hs)) hw (by decide) 0 e.2.2.2.2 e.2.1;have w1:=p8c (d:=d) (t:=(⟨#[120]⟩:Hs)) hw 0 e.2.2.2.2 e.2.1;rw[o7a];unfold p0k p4v;simp only[e1,o5g (u2v d (⟨#[120]⟩:Hs) 0 e.2.2.2.2 e.2.1) d (by omega) (by omega),u9k d (by unfold u0i;omega),zOb];cases o8q (u2v d (⟨#[120]⟩:Hs) 0 e.2.2.2.2 e.2.1) d<;>rfl
theorem d34{k:Nat}{H:Hu u0e}{s:u1a}(h:Fit k H s){x:u0j}(hx:u2k x=true):Fit (k+1) H (q7c x).1\/(q7c x).2=false:=by
 unfold q7c p8j;cases hp:t1a (u0d x) with
 |none=>right;simp|some b=>left;rw[Al ⟨hx,rfl⟩];exact⟨⟨d24 (p8n hp),hx⟩,by have:=h.few;omega,h.hist⟩
theorem k11{q:Int}(h:q=11): ¬q<=5:=by omega
theorem k12{q:Int}(h:q=12): ¬q<=5/\ ¬q=11:=by omega
theorem k6{q:Int}(h1:6<=q)(h2:q<=10): ¬q<=5/\ ¬q=11/\ ¬q=12:=by omega
theorem d8w{q:Int}(h1:1<=q)(h2:q<=12):q<=5\/q=11\/q=12\/(6<=q/\q<=10):=by omega
theorem d53{k:Nat}{H:Hu u0e}{s:u1a}(h:Fit k H s){e:EvT}(he:EvR e):Fit (k+1) (doC s H e).2.2.1 (doC s H e).2.2.2:=by
 unfold doC;rcases d8w he.kind.1 he.kind.2 with c|c|c|⟨c1,c2⟩
 .rw[Al c];exact h.opens (d1i h.eng he.kind.1 c)
 .rw[Ao (k11 c),Al c];exact h.fix
 .rw[Ao (k12 c).1,Ao (k12 c).2,Al c];split
  .rename_i q;rcases d34 h (p4w h.log e)with z|z
   .exact z
   .rw[z]at q;cases q
  .exact h.opens (e:=s.1) h.eng
 .rw[Ao (k6 c1 c2).1,Ao (k6 c1 c2).2.1,Ao (k6 c1 c2).2.2];exact d3a h c1 c2
theorem DoW{k:Nat}{H:Hu u0e}{s:u1a}(h:Fit k H s)(hk:k<=1000)(r:p51){e:EvT}(he:EvR e):
 s73 ((s,H,r),e)=some ((doC s H e).1,(doC s H e).2.1,((doC s H e).2.2.2,(doC s H e).2.2.1,r)):=by
 have hE:=h.eng;have hd:=h.log;rw[j3y];unfold p75 doC;rcases d8w he.kind.1 he.kind.2 with c|c|c|⟨c1,c2⟩
 .rw[Al c];have e1:=c2a hE H r he c;rcases ev5 he.kind.1 c with q|q|q|q|q<;>simp[q,e1]
 .simp only[c,show ¬((11:Int)<=5) by omega,Bk,Bl,show decide ((11:Int)=1)=false by decide,show decide ((11:Int)=2)=false by decide,show decide ((11:Int)=3)=false by decide,show decide ((11:Int)=4)=false by decide,show decide ((11:Int)=5)=false by decide,Aa,Ae,Ad,d2v hE hd,zOb];cases (j7r s).2<;>rfl
 .simp only[c,show ¬((12:Int)<=5) by omega,show ¬((12:Int)=11) by omega,Bk,Bl,show decide ((12:Int)=1)=false by decide,show decide ((12:Int)=2)=false by decide,show decide ((12:Int)=3)=false by decide,show decide ((12:Int)=4)=false by decide,show decide ((12:Int)=5)=false by decide,show decide ((12:Int)=11)=false by decide,Aa,Ae,Ad,c19 hd e,d0r (p4v s.2 e) (u60 (p4w hd e)),zOb];cases (q7c (p4v s.2 e)).2<;>rfl
 .have n:∀q:Int,6<=q->q<=10->decide (q=1)=false/\decide (q=2)=false/\decide (q=3)=false/\decide (q=4)=false/\decide (q=5)=false/\decide (q=11)=false/\decide (q=12)=false/\ ¬q<=5/\ ¬q=11/\ ¬q=12:=fun q h1 h2=>by
   simp only[Bu];omega
  obtain⟨n1,n2,n3,n4,n5,n6,n7,n8,n9,n10⟩:=n e.1 c1 c2;simp only[n1,n2,n3,n4,n5,n6,n7,n8,n9,n10,Ah,Bk,Aa,c50 h hk r he c1 c2,zOb];rfl
theorem d0m{n:Int}(h0:0<=n)(h1:n<=9223372036854775807):r5v n=some (y6b n):=by
 rw[o5p];unfold q80;rw[o7c];unfold y7k;have d1:decide (-9223372036854775808<=n)=true:=Bb (by omega);have d2:decide (n<=9223372036854775807)=true:=Bb h1;rw[d1,d2];rfl
theorem d0b{e:j7h.den}(h:EvR e):s6x e=some true:=by
 have l1:u03 (e.1,1,12)=some true:=by
  rw[r9p];unfold s9s;have:=h.kind;simp[this.1,this.2]
 have a1:decide (e.2.1>=0)=true:=Bb h.at0;have a2:decide ((e.2.2.1.size:Int)<=6)=true:=Bb (by have:=h.key6;omega);have a3:decide ((e.2.2.2.1.size:Int)<=20)=true:=Bb (by have:=h.text;omega);have a4:decide ((e.2.2.2.2.length:Int)<=10)=true:=Bb (by have:=h.keep;omega);rw[p0q];unfold r5d;simp only[l1,a1,a2,a3,a4,zOb,Ad];by_cases c:e.1=12
 .simp only[c,Ae,Ad,zOb]
 .have:=h.nokeep c;simp[c,this]
theorem d6j{e:u3g}(h:EngR e)(id:Int)(n:Hs):EngR (s3x e id n).1:=by
 unfold s3x;by_cases c1:u2q e.2 id<0
 .rw[Al c1];exact h
 rw[Ao c1];cases hk:u81 n with
 |false=>rw[Al rfl];exact h|true=>
  rw[Ao (show ¬(true=false) by decide)];by_cases c2:0<=u0k e.1 n
  .rw[Al c2];exact h
  rw[Ao c2];by_cases c3:s6w e id=0
  .rw[Al c3];obtain⟨j0,d0,l0⟩:=d1r c3;obtain⟨j,hj,e1,e2,e3⟩:=u16 c1;have ht:u3c e id∈e.2:=by rw[e2];exact Ag hj
   exact d1s h ht hk l0 (d6m.mp (by omega))
  .rw[Ao c3];exact q6w h id
theorem d8x{e:u3g}(h:EngR e)(n:Hs)(y:Bool):EngR (p0z e n y).1:=by
 unfold p0z;by_cases c1:u0k e.1 n<0
 .rw[Al c1];exact h
 rw[Ao c1];by_cases c2:y=true/\s8i e.1=true
 .rw[Al c2];exact h
 rw[Ao c2];obtain⟨j,hj,e1,e2⟩:=t8c c1;have e3:rdL u0y e.1.2.2.1 (u0k e.1 n).toNat=e.1.2.2.1[j] :=by rw[e1];exact y9a hj
 by_cases c3:y=true
 .rw[Al c3];have hf:s8i e.1=false:=by
   cases q:s8i e.1 with
   |false=>rfl|true=>exact absurd ⟨c3,q⟩ c2
  exact d60 h (by rw[e3];exact Ag hj) hf
 .rw[Ao c3];exact c2u h n
theorem p52{s:u1a}(h:EngR s.1)(hd:u2k s.2=true)(id:Int){n:Hs}(hn:n.size<=1048576):s3b (s,id,n)=some (r4o s id n):=by
 have h1:=j2q h id hn;have h0:=r0e h.fewB h.fewO (u60 hd);have hR:=d6j h id n;have h2:=p5w ((s3x s.1 id n).1,s.2) (s3x s.1 id n).2.1 hR.fewB hR.fewO (u60 hd) (o8g h id n);have hL:=r6h h id;rw[p1y];unfold r0s;simp only[h1,zOb];rw[o2y];unfold p1w r4o;simp only[h0,zOb];by_cases c:(s3x s.1 id n).2.2=0
 .have hn: ¬u2q s.1.2 id<0:=fun q=>by
   unfold s3x at c;rw[Al q]at c;exact absurd c (show ¬((1:Int)=0) by decide)
  rw[p4u hn]at hL;simp only[c,Ae,Ap,Aa,Bl,h2,zOb];cases u9v s.2 (s3x s.1 id n).2.1 with
  |none=>simp only[Option.isSome_none,Aa,hL,zOb]|some d=>rfl
 .simp only[c,Ah,Bh,Ad,Bk,zOb]
theorem p80{s:u1a}(h:EngR s.1)(hd:u2k s.2=true){n:Hs}(hn:n.size<=100)(y:Bool):t67 (s,n,y)=some (t1r s n y):=by
 have h1:=o89 h n y;have h0:=r0e h.fewB h.fewO (u60 hd);have hR:=d8x h n y;have h2:=p5w ((p0z s.1 n y).1,s.2) (p0z s.1 n y).2.1 hR.fewB hR.fewO (u60 hd) (j36 n hn y);rw[p39];unfold r3c t1r;simp only[h1,h0,zOb];by_cases c:(p0z s.1 n y).2.2=0
 .simp only[c,Ae,Ap,Aa,Bl,h2,zOb];cases u9v s.2 (p0z s.1 n y).2.1 with
  |none=>rfl|some d=>rfl
 .simp only[c,Ah,Bh,Ad,Bk]
theorem j60{s:u1a}(h:EngR s.1)(id:Int):((u27 s id).2=0/\ ¬u2q s.1.2 id<0/\(u27 s id).1.1.1.2.2.2.1=s.1.1.2.2.2.1+1)\/((u27 s id).2≠0/\(u27 s id).1.1.1.2.2.2.1=s.1.1.2.2.2.1):=by
 unfold u27 u4s;by_cases j1:s4s s.1 id=1
 .rw[Al j1,Ao (show ¬((1:Int)=0) by decide)];exact .inr ⟨by show ¬((1:Int)=0);decide,rfl⟩
 .rw[Ao j1];by_cases j0:s4s s.1 id=0
  .rw[Al j0,Al rfl];split
   .exact .inl ⟨rfl,(q6d j0).1,rfl⟩
   .exact .inr ⟨by show ¬((3:Int)=0);decide,rfl⟩
  .rw[Ao j0,Ao j0];exact .inr ⟨j0,rfl⟩
theorem d4b{s:u1a}(h:EngR s.1)(n:Hs)(y:Bool):((t1r s n y).2=0/\y=true/\ ¬u0k s.1.1 n<0/\(t1r s n y).1.1.1.2.2.2.1=s.1.1.2.2.2.1+1)\/(¬((t1r s n y).2=0/\y=true)/\(t1r s n y).1.1.1.2.2.2.1=s.1.1.2.2.2.1):=by
 unfold t1r p0z;by_cases c1:u0k s.1.1 n<0
 .rw[Al c1,Ao (show ¬((1:Int)=0) by decide)];exact .inr ⟨fun q=>absurd q.1 (by show ¬((1:Int)=0);decide),rfl⟩
 rw[Ao c1];by_cases c2:y=true/\s8i s.1.1=true
 .rw[Al c2,Ao (show ¬((3:Int)=0) by decide)];exact .inr ⟨fun q=>absurd q.1 (by show ¬((3:Int)=0);decide),rfl⟩
 rw[Ao c2];by_cases c3:y=true
 .rw[Al c3,Al rfl];split
  .exact .inl ⟨rfl,c3,c1,rfl⟩
  .exact .inr ⟨fun q=>absurd q.1 (by show ¬((3:Int)=0);decide),rfl⟩
 .rw[Ao c3,Al rfl];split
  .exact .inr ⟨fun q=>c3 q.2,rfl⟩
  .exact .inr ⟨fun q=>c3 q.2,rfl⟩
theorem d58(w:u1a×(Hu u0e×p51))(c:Int){l:Hu PrT}(hl:l.length<=200)(hs:∀x∈l,x.1.size<=3/\x.2.size<=12):∀(d i:Nat),i+d=l.length->
 u7p (w,c,(l.take i).map q38,l,(l.length:Int),(i:Int))=some (.inl (w,c,l.map q38)):=by
 intro d
 induction d with
 |zero=>
  intro i hi;rw[s79];simp only[t0n,u0b,show ¬i<l.length by omega,Ah,Aa];rw[List.take_of_length_le (by omega)]
 |succ d ih=>
  intro i hi;have hlt:i<l.length:=by omega
  obtain⟨s1,s2⟩:=hs _ (Ag hlt);have z2:(⟨#[61]⟩:Hs).size=1:=rfl;have nx:=ih (i+1) (by omega);have hb:∀x:Hs,Nat.ble (((l.take i).map q38).length+ [x].length) z7z=true:=fun x=>r22 (by rw[Aw,Da,Ec];omega)
  rw[s79];simp only[t0n,u0b,hlt,Ae,Ad,y8h hlt,zTn,y9a (t:=d20) hlt,Af,z2,show l[i].1.size+1<=140737488355328 by omega,show l[i].1.size+1+l[i].2.size<=140737488355328 by omega,hb];rw[y7x (by omega)];have e:(l.take (i+1)).map q38=(l.take i).map q38++ [q38 l[i]] :=by rw[B9 hlt,Dh,List.map_singleton]
  rw[e]at nx;exact nx
theorem d3h(w:u1a×(Hu u0e×p51))(c:Int){l:Hu PrT}(hl:l.length<=200)(hs:∀x∈l,x.1.size<=3/\x.2.size<=12):
 u7p (w,c, [],l,(l.length:Int),(0:Int))=some (.inl (w,c,l.map q38)):=d58 w c hl hs l.length 0 (by omega)
theorem j8p{l:Hu PrT}(hl:l.length<=200)(hs:∀x∈l,x.1.size<=3/\x.2.size<=12):r6d (l.map q38,(⟨#[44]⟩:Hs))=some (s4u l):=by
 have h1:=o4j hs l.length (Au _);rw[List.take_of_length_le (Au _)]at h1;have a1:Nat.ble (l.map q38).length 140737488355328=true:=Nat.ble_eq_true_of_le (by rw[Da];omega);have a2:Nat.ble (z6k (l.map q38) (⟨#[44]⟩:Hs)).size 140737488355328=true:=Nat.ble_eq_true_of_le (A9 (show(z6k (l.map q38) (⟨#[44]⟩:Hs)).size<=17*l.length from h1) (by omega));rw[o7d];unfold y7l;simp only[a1,a2,Dt,Ad];rfl
theorem d4u{s:u1a}(hE:EngR s.1)(Q:Hu u0e×p51){e:EvT}(he:EvR e)(h:e.1=2\/e.1=3):
 t69 ((s,Q),e)=some ((s7u s.1 e).2.1,(s7u s.1 e).1,((s7u s.1 e).2.2,s.2),Q):=by
 obtain⟨kd,at_,key,tx,kp⟩:=e;have hk:key.size<=6:=he.key6;have ht5:tx.size<=20:=he.text;have h:kd=2\/kd=3:=h;rw[p4b];unfold r3e;rcases h with rfl|rfl
 .simp only[Ae,Ad,j5w hE at_ (show key.size<=1048576 by omega),zOb];have e0:s7u s.1 ((2:Int),at_,key,tx,kp)=((j03 s.1 at_ key).2.2.2,o3y (j03 s.1 at_ key),(j03 s.1 at_ key).1):=rfl;rw[e0];obtain⟨g,hg⟩:∃g,g=j03 s.1 at_ key:=⟨_,rfl⟩;rw[←hg];unfold o3y;by_cases c:g.2.2.2=0
  .cases c2:g.2.2.1
   .simp only[c,c2,Ae,Ad,zOb,Bh,and_self,Bl];rfl
   .simp only[c,c2,Ae,Ad,Aa,zOb,Ap,Fm,and_false,Bk]
  .simp only[c,Ah,Aa,zOb,false_and,Bk]
 .have sm:=p2h hE at_ (key,tx);simp only[show decide ((3:Int)=2)=false by decide,Aa,o9h hE at_ (r:=(key,tx)) ⟨by show key.size<=_;omega,by show tx.size<=_;omega⟩,d3h _ _ sm.1 sm.2,j8p sm.1 sm.2,zOb];rfl
theorem d0p(s:u1a)(H:Hu u0e)(r:p51){t:u0e}(ht:s8c t)(hn:H.length<=1000000):u9w ((s,H,r),t)=some (s,H++ [d33 s.1.1.2.2.2.1 t],r):=by
 have h1:∀x:u0e,Nat.ble (H.length+ [x].length) z7z=true:=fun x=>r22 (by rw[Aw];omega)
 rw[p1z];unfold r0t;simp only[s7i t ht,zOb,h1,Ad];rfl
theorem c17{k:Nat}{H:Hu u0e}{s:u1a}(h:Fit k H s)(hk:k<=1000)(r:p51){e:EvT}(he:EvR e)(h6:6<=e.1)(h10:e.1<=10):
 t93 ((s,H,r),e)=some ((j30 s H e).1,((j30 s H e).2.2,(j30 s H e).2.1,r)):=by
 have hE:=h.eng;have hd:=h.log;have hn:=h.few;obtain⟨kd,at_,key,tx,kp⟩:=e;have h6:(6:Int)<=kd:=h6;have h10:kd<=(10:Int):=h10;have key6:key.size<=6:=he.key6;have fo:∀t∈s.1.2,s8c t:=fun t ht=>(hE.fewO).2 t ht
 have fr:∀t∈s.1.1.2.2.1,s8c t:=fun t ht=>(hE.fewB).2.2.2 t ht
 have nz:∀ {n:Int},n≠0->decide (n=0)=false:=fun h=>A7 h
 rw[p6h];unfold r6q
 have fin:∀y:Bool,((u2e (s.1.1,key)).bind fun y6=>(t67 (s,key,y)).bind fun y7=>((bif decide (y7.2=(0:Int)) then some y else some false).bind fun j8=>bif j8 then(bif y4v y6 s.1.1.2.2.1.length then((u9w ((y7.1,H,r),rdL u0y s.1.1.2.2.1 y6.toNat)).bind fun y9=>some (y7.2,y9)) else none) else some (y7.2,(y7.1,H,r))))=
  some ((t1r s key y).2,((t1r s key y).1,o7m H (t1r s key y).1.1 s.1.1.2.2.2.1 (if u0k s.1.1 key<0 then u3i else rdL u0y s.1.1.2.2.1 (u0k s.1.1 key).toNat),r)):=fun y=>by
  have e1:=s3h s.1.1 key (by have:=hE.base.rlen;omega);simp only[e1,zOb,p80 hE hd (by omega:key.size<=100) y];rcases d4b hE key y with ⟨c1,c2,c3,c4⟩|⟨c1,c2⟩
  .obtain⟨j,hj,e2,e3⟩:=t8c c3;have e4:(u0k s.1.1 key).toNat=j:=by omega
   have hf:s8c (rdL u0y s.1.1.2.2.1 (u0k s.1.1 key).toNat):=by
    rw[e4,y9a (t:=u0y) hj];exact fr _ (Ag hj)
   have hg:y4v (u0k s.1.1 key) s.1.1.2.2.1.length=true:=by rw[e2];exact y8h hj
   rw[Ao c3,j1p _ hE.mids c4,←c4];subst c2;simp only[c1,Ae,Ad,zOb,hg,d0p _ H r hf (by omega)]
  .rw[j61 _ hE.mids c2];cases y with
   |false=>cases decide ((t1r s key false).2=0)<;>rfl
   |true=>
    have:(t1r s key true).2≠0:=fun q=>c1 ⟨q,rfl⟩
    simp only[nz this,Aa,zOb]
 rcases d8v h6 h10 with rfl|rfl|rfl|rfl|rfl
 .have e1:=s27 s.1 at_ (by have:=hE.olen;omega);simp only[Ae,Ad,e1,zOb,p8z hE hd at_];have e0:j30 s H ((6:Int),at_,key,tx,kp)=((u27 s at_).2,o7m H (u27 s at_).1.1 s.1.1.2.2.2.1 (if u2q s.1.2 at_<0 then u3i else u3c s.1 at_),(u27 s at_).1):=rfl;rw[e0];rcases j60 hE at_ with ⟨c1,c3,c4⟩|⟨c1,c2⟩
  .obtain⟨j,hj,e2,e3,e5⟩:=u16 c3;have hf:s8c (u3c s.1 at_):=by rw[e3];exact fo _ (Ag hj)
   have hg:y4v (u2q s.1.2 at_) s.1.2.length=true:=by rw[e2];exact y8h hj
   have ha:rdL u0y s.1.2 (u2q s.1.2 at_).toNat=u3c s.1 at_:=rfl;rw[Ao c3,j1p _ hE.mids c4,←c4];simp only[c1,Ae,Ad,zOb,hg,ha,d0p _ H r hf (by omega)]
  .rw[j61 _ hE.mids c2];simp only[nz c1,Aa]
 .simp only[show decide ((7:Int)=6)=false by decide,Aa,Ae,Ad,r6h hE at_,zOb];rfl
 .simp only[show decide ((8:Int)=6)=false by decide,show decide ((8:Int)=7)=false by decide,Aa,Ae,Ad,p52 hE hd at_ (by omega:key.size<=1048576),zOb];rfl
 .have:=fin true;have e0:j30 s H ((9:Int),at_,key,tx,kp)=((t1r s key true).2,o7m H (t1r s key true).1.1 s.1.1.2.2.2.1 (if u0k s.1.1 key<0 then u3i else rdL u0y s.1.1.2.2.1 (u0k s.1.1 key).toNat),(t1r s key true).1):=rfl;rw[e0];simpa only[show decide ((9:Int)=6)=false by decide,show decide ((9:Int)=7)=false by decide,show decide ((9:Int)=8)=false by decide,Ae,Aa]using this
 .have:=fin false;have e0:j30 s H ((10:Int),at_,key,tx,kp)=((t1r s key false).2,o7m H (t1r s key false).1.1 s.1.1.2.2.2.1 (if u0k s.1.1 key<0 then u3i else rdL u0y s.1.1.2.2.1 (u0k s.1.1 key).toNat),(t1r s key false).1):=rfl;rw[e0];simpa only[show decide ((10:Int)=6)=false by decide,show decide ((10:Int)=7)=false by decide,show decide ((10:Int)=8)=false by decide,show decide ((10:Int)=9)=false by decide,Aa]using this
theorem d8e{s:u1a}(hd:u2k s.2=true)(Q:Hu u0e×p51)(e:EvT):
 t68 ((s,Q),e)=some (if(q7c (p4v s.2 e)).2=true then((0:Int),(q7c (p4v s.2 e)).1,Q) else((1:Int),s,Q)):=by
 have hw:=u60 hd;have e1:=o5a (d:=s.2) (t:=(⟨#[120]⟩:Hs)) hw (by decide) 0 e.2.2.2.2 e.2.1;have w1:=p8c (d:=s.2) (t:=(⟨#[120]⟩:Hs)) hw 0 e.2.2.2.2 e.2.1;have hl:=p4w hd e;have r1:=j2u s.2 hw;rw[p4a];unfold r3d;unfold p4v at hl⊢;simp only[e1,o5f (u2v s.2 (⟨#[120]⟩:Hs) 0 e.2.2.2.2 e.2.1) s.2 (by omega) (by omega),zOb];cases c:o8q (u2v s.2 (⟨#[120]⟩:Hs) 0 e.2.2.2.2 e.2.1) s.2 with
 |false=>
  simp only[Bh,Ad,r1,zOb,Br,Bk];cases (q7c s.2).2<;>rfl
 |true=>
  rw[c,Al rfl]at hl;have r2:=j2u (u2v s.2 (⟨#[120]⟩:Hs) 0 e.2.2.2.2 e.2.1) (u60 hl);simp only[Ap,Aa,r2,zOb,Bl];cases (q7c (u2v s.2 (⟨#[120]⟩:Hs) 0 e.2.2.2.2 e.2.1)).2<;>rfl
def d6s(s:u1a)(H:Hu u0e)(r:p51)(e:EvT):c3j.den:=((doC s H e).2.2.2,(doC s H e).2.2.1,r.1++ [(doC s H e).1],r.2++ [(doC s H e).2.1])
theorem d4t{k:Nat}{H:Hu u0e}{s:u1a}(h:Fit k H s)(hk:k<=900){r:p51}(r1:r.1.length<=100000)(r2:r.2.length<=100000):s8o (s,H,r)=some (s,H,r):=by
 have h0:=r0e h.eng.fewB h.eng.fewO (u60 h.log);have hH:q4a H:=r2l (by have:=h.few;omega) fun t ht=>(h.hist t ht).tiny
 rw[p9r];unfold q01;simp only[h0,r9a H hH,zOb,r22 (show r.1.length<=100000000 by omega),r22 (show r.2.length<=100000000 by omega),Ad]
theorem c2c{k:Nat}{H:Hu u0e}{s:u1a}(h:Fit k H s)(hk:k<=900){r:p51}(r1:r.1.length<=100000)(r2:r.2.length<=100000){e:EvT}(he:EvR e):
 t5l ((s,H,r),e)=some (d6s s H r e):=by
 have hE:=h.eng;have hd:=h.log;have b1:∀x:Int,Nat.ble (r.1.length+ [x].length) z7z=true:=fun x=>r22 (by rw[Aw];omega)
 have b2:∀x:Hs,Nat.ble (r.2.length+ [x].length) z7z=true:=fun x=>r22 (by rw[Aw];omega)
 have key6:=he.key6;rw[q1u];unfold s8e;simp only[d4t h hk r1 r2,d0b he,zOb,Ap,Aa];unfold d6s doC;have d:∀a b:Int,a≠b->decide (a=b)=false:=fun a b q=>A7 q
 rcases d8w he.kind.1 he.kind.2 with c|c|c|⟨c1,c2⟩
 .rw[Al c];rcases ev5 he.kind.1 c with q|q|q|q|q
  .have hn:=j7y hE;have hD:=d0m (n:=(t64 s.1).2.1) hn.1 (by omega);have e0:s7u s.1 e=((t64 s.1).2.2,(if(t64 s.1).2.2=0 then y6b (t64 s.1).2.1 else j6r),(t64 s.1).1):=by unfold s7u;rw[Al q]
   rw[e0];simp only[q,Ae,Ad,j8k hE,zOb];by_cases z:(t64 s.1).2.2=0
   .simp only[z,Ae,Ad,hD,zOb,b1,b2,Bl]
   .simp only[z,Ah,Aa,b1,b2,Bk];rfl
  .simp only[q,d 2 1 (by decide),Ae,Ad,Aa,d4u hE (H,r) he (.inl q),zOb,b1,b2]
  .simp only[q,d 3 1 (by decide),d 3 2 (by decide),Ae,Ad,Aa,d4u hE (H,r) he (.inr q),zOb,b1,b2]
  .have e0:s7u s.1 e=((j1z s.1 e.2.1 (e.2.2.1,e.2.2.2.1,false)).2,j6r,(j1z s.1 e.2.1 (e.2.2.1,e.2.2.2.1,false)).1):=by unfold s7u;simp[q]
   rw[e0];simp only[q,d 4 1 (by decide),d 4 2 (by decide),d 4 3 (by decide),Ae,Ad,Aa,o1c hE e.2.1 (w:=(e.2.2.1,e.2.2.2.1,false)) (by show e.2.2.1.size<=_;omega),zOb,b1,b2];rfl
  .have e0:s7u s.1 e=((j1z s.1 e.2.1 (e.2.2.1,j6r,true)).2,j6r,(j1z s.1 e.2.1 (e.2.2.1,j6r,true)).1):=by unfold s7u;simp[q]
   have hp:=o1c hE e.2.1 (w:=(e.2.2.1,(⟨#[]⟩:Hs),true)) (by show e.2.2.1.size<=_;omega);rw[e0];simp only[q,d 5 1 (by decide),d 5 2 (by decide),d 5 3 (by decide),d 5 4 (by decide),Ae,Ad,Aa,hp,zOb,b1,b2];rfl
 .have hF:=d0c hE.fewB hE.fewO (u60 hd);simp only[c,show ¬((11:Int)<=5) by omega,Bk,Bl,d 11 1 (by decide),d 11 2 (by decide),d 11 3 (by decide),d 11 4 (by decide),d 11 5 (by decide),Aa,Ae,Ad,hF,zOb];cases (j7r s).2<;>simp only[Bh,Ap,Ad,Aa,b1,b2,Bl,Br,Bk] <;>rfl
 .have hF:=d8e hd (H,r) e;simp only[c,show ¬((12:Int)<=5) by omega,show ¬((12:Int)=11) by omega,Bk,Bl,d 12 1 (by decide),d 12 2 (by decide),d 12 3 (by decide),d 12 4 (by decide),d 12 5 (by decide),d 12 11 (by decide),Aa,Ae,Ad,hF,zOb];cases (q7c (p4v s.2 e)).2<;>simp only[Bl,Br,Bk,b1,b2,Ad] <;>rfl
 .have n:∀q:Int,6<=q->q<=10->decide (q=1)=false/\decide (q=2)=false/\decide (q=3)=false/\decide (q=4)=false/\decide (q=5)=false/\decide (q=11)=false/\decide (q=12)=false/\ ¬q<=5/\ ¬q=11/\ ¬q=12:=fun q h1 h2=>by
   simp only[Bu];omega
  obtain⟨n1,n2,n3,n4,n5,n6,n7,n8,n9,n10⟩:=n e.1 c1 c2;simp only[n1,n2,n3,n4,n5,n6,n7,n8,n9,n10,Ah,Bk,Aa,c17 h (by omega) r he c1 c2,zOb,b1,b2,Ad];rfl
theorem q4e{kd at_:Int}{key tx:Hs}(h1:1<=kd)(h2:kd<=11)(h0:0<=at_)(hk:key.size<=6)(ht:tx.size<=6):EvR ((kd,at_,key,tx,([] :Hu Int)):j7h.den):=
 ⟨⟨h1,by show kd<=12;omega⟩,h0,hk,by show tx.size<=20;omega,by show 0<=10;omega,fun _=>rfl⟩
def K3:Hu Hs:= [⟨#[97]⟩,⟨#[98]⟩,⟨#[99]⟩]
def T3:Hu Hs:= [⟨#[111,110,101]⟩,⟨#[116,119,111]⟩,⟨#[116,104,114,101,101]⟩]
def PQ3:Hu Hs:= [⟨#[112]⟩,⟨#[113]⟩,⟨#[114]⟩]
theorem d14{y a b c:Hs}(h:y∈ [a,b,c])(ha:a.size<=6)(hb:b.size<=6)(hc:c.size<=6):y.size<=6:=by
 simp only[A8,Ep,Em]at h;rcases h with rfl|rfl|rfl
 .exact ha
 .exact hb
 .exact hc
theorem o07{y:Hs}(h:y∈K3):y.size<=6:=d14 h (by decide) (by decide) (by decide)
theorem d5v{y:Hs}(h:y∈T3):y.size<=6:=d14 h (by decide) (by decide) (by decide)
theorem o9c{y:Hs}(h:y∈PQ3):y.size<=6:=d14 h (by decide) (by decide) (by decide)
theorem d6d(c:Src)(most:Int)(out:Hu j7h.den)(next:Int)(op:Hu Int)(id:Int)(ho:op.length<=4)(h0:∀x∈op,0<=x):
 ∀(d i:Nat) (l:Hu Int),i+d=op.length->l.length<=i->(∀x∈l,0<=x)-> ∃l' :Hu Int,u2r (c,most,out,next,op,id,l,(i:Int))=some (.inl (c,most,out,next,l'))/\l'.length<=4/\ ∀x∈l',0<=x:=by
 intro d
 induction d with
 |zero=>
  intro i l hi hl h;refine⟨l,?_,by omega,h⟩;rw[r2z];simp only[t3s,u0b,show ¬i<op.length by omega,Ah,Aa]
 |succ d ih=>
  intro i l hi hl h;have hlt:i<op.length:=by omega
  rw[r2z];have hb:∀x:Int,Nat.ble (l.length+ [x].length) z7z=true:=fun x=>r22 (by rw[Aw];omega)
  simp only[t3s,u0b,hlt,Ae,Ad,y8h hlt,zTn,y9a (t:=Ty.int .i64) hlt,hb];rw[y7x (by omega)];by_cases q:op[i] =id
  .simp only[q,Ae,Ap,Aa];exact ih (i+1) l (by omega) (by omega) h
  .simp only[q,Ah,Bh,Ad];refine ih (i+1) _ (by omega) (by rw[Ba,Aw];omega) fun x hx=> ?_
   rcases Ay.mp hx with hx|hx
   .exact h x hx
   .rw[Ax.mp hx];exact h0 _ (Ag hlt)
def c2b(most:Int)(out:Hu j7h.den)(F:Ht (Hu j7h.den⊕Unit))(next:Int):Prop:=
 ∃(c' :Src) (e:j7h.den) (next' :Int) (op' :Hu Int),F=u31 (c',most,out++ [e],next',op')/\c'.ok/\EvR e/\0<=next' /\next' <=next+1/\op'.length<=4/\ ∀x∈op',0<=x
theorem d54{c:Src}(hc:c.ok){most:Int}{out:Hu j7h.den}{next:Int}{op:Hu Int}(hlt:(out.length:Int)<most)(hm:most<=74)(n0:0<=next)(n1:next<=100)(ho:op.length<=4)(h0:∀x∈op,0<=x):
 c2b most out (u31 (c,most,out,next,op)) next:=by
 obtain⟨y2,c1,e2,k2,r2⟩:=r26 hc (n:=18) (by omega);have hb:∀x:j7h.den,Nat.ble (out.length+ [x].length) z7z=true:=fun x=>r22 (by rw[Aw];omega)
 have hb1:Nat.ble (([] :Hu Int).length+op.length) z7z=true:=r22 (by rw[Cc];omega);have hb2:∀x:Int,Nat.ble ((([] :Hu Int)++op).length+ [x].length) z7z=true:=fun x=>r22 (by rw[Aw,Cf];omega)
 have wn:i64.wrap (next+1)=next+1:=y5f (by omega) (by omega)
 have opn:∀x∈op++ [next],0<=x:=fun x hx=>by
  rcases Ay.mp hx with hx|hx
  .exact h0 x hx
  .rw[Ax.mp hx];exact n0
 have ev1:EvR ((1,0,(⟨#[]⟩:Hs),(⟨#[]⟩:Hs),([] :Hu Int)):j7h.den):=q4e (by omega) (by omega) (by omega) (by decide) (by decide);rw[r49];simp only[t6s,hlt,Ae,Ad,e2,zOb];cases op with
 |nil=>
  obtain⟨y4,c2,e4,k4,r4⟩:=o9d k2 (l:=K3) (by decide);have e4:u18 (c1, [(⟨#[97]⟩:Hs),(⟨#[98]⟩:Hs),(⟨#[99]⟩:Hs)])=some (y4,c2):=e4;simp only[Cc,show decide (((0:Nat):Int) >0)=false by decide,show decide (((0:Nat):Int)=0)=true by decide,Aa,Ad,e4,zOb,hb];simp only[Cc]at hb1 hb2;simp only[hb1,hb2,Ad,wn];exact⟨c2,_,next+1,_,rfl,k4,ev1,by omega,by omega,by simp,opn⟩
 |cons o os=>
  obtain⟨op,hop⟩:∃op,op=o::os:=⟨_,rfl⟩;rw[←hop]at ho h0 hb1 hb2 opn⊢;have hl0:0<op.length:=by rw[hop];simp
  have g1:decide ((op.length:Int) >0)=true:=Bb (by omega);have g2:decide ((op.length:Int)=0)=false:=A7 (by omega);obtain⟨y3,c3,e3,k3,r3⟩:=r26 k2 (n:=(op.length:Int)) (by omega);obtain⟨j,hj⟩:∃j:Nat,y3=(j:Int):=⟨y3.toNat,by omega⟩;subst hj;have hjl:j<op.length:=by omega
  obtain⟨y4,c4,e4,k4,r4⟩:=o9d k3 (l:=K3) (by decide);have e4:u18 (c3, [(⟨#[97]⟩:Hs),(⟨#[98]⟩:Hs),(⟨#[99]⟩:Hs)])=some (y4,c4):=e4;have hid:0<=op[j] :=h0 _ (Ag hjl);simp only[g1,g2,Ad,Aa,e3,y8h hjl,zTn,y9a (t:=Ty.int .i64) hjl,e4,zOb,hb,hb1,hb2,wn];obtain⟨id,hidd⟩:∃id,id=op[j] :=⟨_,rfl⟩;rw[←hidd]at hid⊢;obtain⟨bg,hbg⟩:∃bg,bg=(bif decide (y2<3) then some (decide ((op.length:Int)<4)) else some false:Ht Bool):=⟨_,rfl⟩;have hbg2:bg=some (decide (y2<3)&&decide ((op.length:Int)<4)):=by rw[hbg];cases decide (y2<3)<;>rfl
  rw[←hbg,hbg2];simp only[zOb];by_cases b1:(decide (y2<3)&&decide ((op.length:Int)<4))=true
  .simp only[b1,Ad];have:(op.length:Int)<4:=by simp at b1;omega
   exact⟨c4,_,next+1,_,rfl,k4,ev1,by omega,by omega,by simp;omega,opn⟩
  .have b1:(decide (y2<3)&&decide ((op.length:Int)<4))=false:=by simpa using b1
   simp only[b1,Aa];by_cases b2:y2<6
   .simp only[b2,Ae,Ad];exact⟨c4,_,next,op,rfl,k4,q4e (by omega) (by omega) hid (o07 r4) (by decide),n0,by omega,ho,h0⟩
   simp only[b2,Ah,Aa];by_cases b3:y2=6
   .simp only[b3,Ae,Ad];exact⟨c4,_,next,op,rfl,k4,q4e (by omega) (by omega) hid (by decide) (o07 r4),n0,by omega,ho,h0⟩
   simp only[b3,Ah,Aa];by_cases b4:y2<10
   .obtain⟨y6,c6,e6,k6,r6⟩:=o9d k4 (l:=T3) (by decide);have e6:u18 (c4, [(⟨#[111,110,101]⟩:Hs),(⟨#[116,119,111]⟩:Hs),(⟨#[116,104,114,101,101]⟩:Hs)])=some (y6,c6):=e6;simp only[b4,Ae,Ad,e6,zOb,hb];exact⟨c6,_,next,op,rfl,k6,q4e (by omega) (by omega) hid (o07 r4) (d5v r6),n0,by omega,ho,h0⟩
   simp only[b4,Ah,Aa];by_cases b5:y2=10
   .simp only[b5,Ae,Ad];exact⟨c4,_,next,op,rfl,k4,q4e (by omega) (by omega) hid (o07 r4) (by decide),n0,by omega,ho,h0⟩
   simp only[b5,Ah,Aa];have pq:∀ {s:Src},s.ok-> ∃(y:Hs) (s' :Src),u18 (s, [(⟨#[112]⟩:Hs),(⟨#[113]⟩:Hs),(⟨#[114]⟩:Hs)])=some (y,s')/\s'.ok/\y∈PQ3:=fun {s} hs=>by
    obtain⟨y,s',q1,q2,q3⟩:=o9d hs (l:=PQ3) (by decide);exact⟨y,s',q1,q2,q3⟩
   by_cases b6:y2<14
   .obtain⟨y7,c7,e7,k7,r7⟩:=pq k4;have lf:=fun(o:Hu j7h.den)=>d6d c7 most o next op id ho h0 op.length 0 [] (by omega) (by simp) (fun x hx=>by cases hx)
    simp only[b6,Ae,Ad,e7,zOb,hb];by_cases b7:y2=13
    .simp only[b7,Ae,Ad];obtain⟨l',q1,q2,q3⟩:=lf (out++ [((8:Int),id,y7,(⟨#[]⟩:Hs),([] :Hu Int))]);have q1:u2r (c7,most,out++ [((8:Int),id,y7,(⟨#[]⟩:Hs),([] :Hu Int))],next,op,id, [],(0:Int))=_:=q1;simp only[q1,zOb];exact⟨c7,_,next,l',rfl,k7,q4e (by omega) (by omega) hid (o9c r7) (by decide),n0,by omega,q2,q3⟩
    .simp only[b7,Ah,Aa];obtain⟨l',q1,q2,q3⟩:=lf (out++ [((6:Int),id,y7,(⟨#[]⟩:Hs),([] :Hu Int))]);have q1:u2r (c7,most,out++ [((6:Int),id,y7,(⟨#[]⟩:Hs),([] :Hu Int))],next,op,id, [],(0:Int))=_:=q1;simp only[q1,zOb];exact⟨c7,_,next,l',rfl,k7,q4e (by omega) (by omega) hid (o9c r7) (by decide),n0,by omega,q2,q3⟩
   simp only[b6,Ah,Aa];by_cases b8:y2=14
   .obtain⟨y15,c5,e5,k5,r5⟩:=j8t k4 [9,10,9] (by decide) (by decide);obtain⟨y16,c6,e6,k6,r6⟩:=pq k5;simp only[b8,Ae,Ad,e5,e6,zOb,hb];have hy:y15=9\/y15=10:=by
     simp only[A8,Ep,Em]at r5;omega
    exact⟨c6,_,next,op,rfl,k6,q4e (by omega) (by omega) (by omega) (o9c r6) (by decide),n0,by omega,ho,h0⟩
   simp only[b8,Ah,Aa];by_cases b9:y2=15
   .simp only[b9,Ae,Ad];exact⟨c4,_,next,op,rfl,k4,q4e (by omega) (by omega) (by omega) (by decide) (by decide),n0,by omega,ho,h0⟩
   simp only[b9,Ah,Aa];by_cases b10:y2=16
   .obtain⟨y17,c5,e5,k5,_⟩:=d0o k4 (n:=3) (by omega);simp only[b10,Ae,Ad,e5,zOb];cases y17
    .simp only[Aa];exact⟨c5,_,next,op,rfl,k5,q4e (by omega) (by omega) hid (by decide) (by decide),n0,by omega,ho,h0⟩
    .obtain⟨y18,c6,e6,k6,r6⟩:=r26 k5 (n:=70) (by omega);obtain⟨y19,c7,e7,k7,r7⟩:=r26 k6 (n:=2) (by omega);simp only[Ad,e6,e7,zOb,hb];refine⟨c7,_,next, [],rfl,k7,⟨⟨by show(1:Int)<=12;omega,by show(12:Int)<=12;omega⟩,r6.1,(by decide:(⟨#[]⟩:Hs).size<=6),(by decide:(⟨#[]⟩:Hs).size<=20),by show 2<=10;omega,fun q=>absurd rfl q⟩,n0,by omega,by simp,fun x hx=>by cases hx⟩
   simp only[b10,Ah,Aa];exact⟨c4,_,next,op,rfl,k4,q4e (by omega) (by omega) (by omega) (o07 r4) (by decide),n0,by omega,ho,h0⟩
theorem c2p{most:Int}(hm:most<=74):∀(d:Nat) {c:Src} {out:Hu j7h.den} {next:Int} {op:Hu Int},c.ok->(out.length:Int)+d=most->0<=next->next<=(out.length:Int)+1->op.length<=4->(∀x∈op,0<=x)->(∀e∈out,EvR e)->
 ∃out' :Hu j7h.den,u31 (c,most,out,next,op)=some (.inl out')/\(out'.length:Int)=most/\ ∀e∈out',EvR e:=by
 intro d
 induction d with
 |zero=>
  intro c out next op hc hd n0 n1 ho h0 he
  refine⟨out,?_,by omega,he⟩;rw[r49];simp only[t6s,show decide ((out.length:Int)<most)=false from A7 (by omega),Aa]
 |succ d ih=>
  intro c out next op hc hd n0 n1 ho h0 he
  obtain⟨c',e,next',op',q1,q2,q3,q4,q5,q6,q7⟩:=d54 hc (most:=most) (out:=out) (next:=next) (op:=op) (by omega) hm n0 (by omega) ho h0;rw[q1];refine ih q2 (by rw[Ba,Aw];omega) q4 (by rw[Ba,Aw];omega) q6 q7 fun x hx=> ?_
  rcases Ay.mp hx with hx|hx
  .exact he x hx
  .rw[Ax.mp hx];exact q3
theorem j5v{l:Hu Int}(hl:l.length<=1048576):∃es:Hu j7h.den,s8x l=some es/\16<=es.length/\es.length<=74/\ ∀e∈es,EvR e:=by
 obtain⟨c,e1,k1⟩:=d4v hl;have w0:Int.tdiv (l.length:Int) 3=(l.length:Int) / 3:=Int.tdiv_eq_ediv_of_nonneg (by omega);have w1:i64.wrap ((l.length:Int) / 3)=(l.length:Int) / 3:=y5f (by omega) (by omega);have w2:i64.wrap (16+(l.length:Int) / 3)=16+(l.length:Int) / 3:=y5f (by omega) (by omega);have run:∀most:Int,16<=most->most<=74-> ∃es:Hu j7h.den,u31 (c,most, [],1, [])=some (.inl es)/\(16<=es.length/\es.length<=74)/\ ∀e∈es,EvR e:=fun most h0 h1=>by
  obtain⟨es,q1,q2,q3⟩:=c2p h1 most.toNat (c:=c) (out:= []) (next:=1) (op:= []) k1 (by simp;omega) (by omega) (by simp) (by simp) (fun x hx=>by cases hx) (fun x hx=>by cases hx);exact⟨es,q1,by omega,q3⟩
 rw[o0k];unfold q1t;simp only[e1,w0,w1,w2,zOb];by_cases b:16+(l.length:Int) / 3 >74
 .obtain⟨es,q1,q2,q3⟩:=run 74 (by omega) (by omega);exact⟨es,by simp only[b,Ae,Ad,q1,zOb],q2.1,q2.2,q3⟩
 .obtain⟨es,q1,q2,q3⟩:=run (16+(l.length:Int) / 3) (by omega) (by omega);exact⟨es,by simp only[b,Ah,Aa,q1,zOb],q2.1,q2.2,q3⟩
section
set_option maxRecDepth 20000
def d4s:Hs:=y9l ⟨#[0]⟩ 64
theorem d7i:y7s (List.replicate 64 0)=d4s:=by rfl
theorem d8q:s7a ()=some d4s:=by
 have hset:∀i,(List.replicate 64 (0:Int)).set i 0=List.replicate 64 0:=fun i=>by
  apply Gw (by simp);intro j h1 h2;rw[List.getElem_set,List.getElem_replicate];split
  .rfl
  .rfl
 have key:∀(r i:Nat),i+r=64->u8k ((64:Int),0,List.replicate 64 0,(i:Int))=some (.inl (List.replicate 64 0)):=by
  intro r
  induction r with
  |zero=>
   intro i hi;have:i=64:=by omega
   subst this;rw[s25];rfl
  |succ r ih=>
   intro i hi;have hlt:decide ((i:Int)<64)=true:=by simp;omega
   have hg:y4v (i:Int) (List.replicate 64 (0:Int)).length=true:=y8h (by simp;omega);rw[s25];simp only[s17,hlt,Ad,hg,hset];rw[y7x (by omega)];exact ih (i+1) (by omega)
 have e1:u8k ((64:Int),0,List.replicate 64 0,0)=_:=key 64 0 rfl;rw[p0w];unfold r5i;rw[p0u];unfold r5h;have hc:(decide ((0:Int)<=64)&&decide ((64:Int)<=1099511627776))=true:=rfl;have hr:List.replicate ((64:Int)).toNat (Ty.int .u8).zero=List.replicate 64 (0:Int):=rfl;simp only[hc,Ad,hr,e1,zOb,d7i]
def d7t:u0j:=(List.replicate 97 d4s, [])
theorem o9b:s95 ()=some d7t:=by
 have key:∀(r i:Nat),i+r=97->u8i ((97:Int),([], []),(List.replicate i d4s, []),(i:Int))=some (.inl (([], []),d7t)):=by
  intro r
  induction r with
  |zero=>
   intro i hi;have:i=97:=by omega
   subst this;rw[s24];rfl
  |succ r ih=>
   intro i hi;have hlt:decide ((i:Int)<97)=true:=by simp;omega
   have hc:Nat.ble ((List.replicate i d4s).length+([d4s] :Hu Hs).length) z7z=true:=u0v (by simp;omega);rw[s24];simp only[s1v,hlt,Ad,d8q,zOb,hc];rw[y7x (by omega)];have e:List.replicate i d4s++ [d4s] =List.replicate (i+1) d4s:=by rw[List.replicate_succ']
   rw[e];exact ih (i+1) (by omega)
 have e1:u8i ((97:Int),([], []),([], []),0)=_:=key 97 0 rfl;have hs:u9p ()=some 97:=by rw[s5x];rfl
 have hi:u0q ((97:Int),(1:Int),(100:Int))=some true:=by rw[r3q];rfl
 rw[p4h];unfold r9k;simp only[hs,zOb];rw[p0s];unfold r5f;simp only[hi,zOb,Ap,Aa,e1]
end
theorem sr(t:Hs):z7q t t=true:=by simp[z7q]
theorem o4s(a:Hu WrT)(ha:a.length<=1048576):s53 (a,a)=some true:=by
 rw[p6n];unfold r6w
 have L:=s4c t3x a (fun i=>(a,a,i)) (fun _=>false) (.inr false) (.inl ())
  (by rw[r2s];simp only[t3m,u0b,Am,Ah,Aa])
  (fun i hi=>by
   rw[r2s];simp only[t3m,u0b,hi,Ae,Ad,y8h hi,zTn,y9a (t:=u2m) hi,sr,beq_self_eq_true,Cz,Ap,Aa];rw[y7x (by omega)])
 have hn:(a.any fun _=>false)=false:=by simp
 rw[hn]at L;simp only[Ae,Ap,Aa,L,zOb]
theorem p62(a:Hu u2u)(ha:a.length<=1048576):s3c (a,a)=some true:=by
 rw[p12];unfold r0w
 have L:=s4c t0t a (fun i=>(a,a,i)) (fun _=>false) (.inr false) (.inl ())
  (by rw[s8a];simp only[t0o,u0b,Am,Ah,Aa])
  (fun i hi=>by
   rw[s8a];simp only[t0o,u0b,hi,Ae,Ad,y8h hi,zTn,y9a (t:=u0g) hi,sr,beq_self_eq_true,Cz,Ap,Aa];rw[y7x (by omega)])
 have hn:(a.any fun _=>false)=false:=by simp
 rw[hn]at L;simp only[Ae,Ap,Aa,L,zOb]
theorem j40(t:u0e)(h:s8c t):r51 (t,t)=some true:=by
 have h1:=h.1
 have L:=s4c t4t t.2.2.2.2.1 (fun i=>(t,t,i)) (fun _=>false) (.inr false) (.inl ())
  (by rw[q3f];simp only[s1o,u0b,Am,Ah,Aa])
  (fun i hi=>by
   rw[q3f];simp only[s1o,u0b,hi,Ae,Ad,y8h hi,zTn,y9a (t:=t3d) hi,sr,Cz,Ap,Aa];rw[y7x (by omega)])
 have hn:(t.2.2.2.2.1.any fun _=>false)=false:=by simp
 rw[hn]at L;have L:t4t (t,t,0)=_:=L;rw[o6b];unfold q9k;simp only[Ae,Ap,Aa,beq_self_eq_true,sr,o4s _ h.2,L,zOb]
theorem q0d(a:Hu u0e)(h:q4a a):t79 (a,a)=some true:=by
 have h1:=h.1;rw[o24];unfold q5g
 have L:=s4c t9q a (fun i=>(a,a,i)) (fun _=>false) (.inr false) (.inl ())
  (by rw[r8s];simp only[t80,u0b,Am,Ah,Aa])
  (fun i hi=>by
   rw[r8s];simp only[t80,u0b,hi,Ae,Ad,y8h hi,zTn,y9a (t:=u0y) hi,j40 _ (h.2 _ (Ag hi)),zOb,Ap,Aa];rw[y7x (by omega)])
 have hn:(a.any fun _=>false)=false:=by simp
 rw[hn]at L;simp only[Ae,Ap,Aa,L,zOb]
theorem j1o(b:u0m)(h:tinyB b):r1x (b,b)=some true:=by
 have hf:=h.few;rw[o21];unfold q5d;simp only[p62 b.1 (by have:=h.vl;omega),q0d _ hf.2.1,q0d _ hf.2.2,zOb,Ad,Ae]
theorem o4r(e:u3g)(hb:tinyB e.1)(ho:q4a e.2):s52 (e,e)=some true:=by
 rw[p6m];unfold r6v;simp only[j1o _ hb,q0d _ ho,zOb,Ad]
theorem o7l(s:u1a)(hb:tinyB s.1.1)(ho:q4a s.1.2)(hd:c2e.wt s.2<=10000000):t5o (s,s)=some true:=by
 rw[p92];unfold q1b;simp only[o4r _ hb ho,p4t s.2 (by omega),zOb,Ad]
def q7g(w:c3j.den)(e:EvT):c3j.den:=d6s w.1 w.2.1 w.2.2 e
def w0:c3j.den:=(((j9f, []),d7t), [], [], [])
def j96(l:Hu EvT):c3j.den:=l.foldl q7g w0
structure FitW(k:Nat)(w:c3j.den):Prop where
 fit:Fit k w.2.1 w.1
 codes:w.2.2.1.length=k
 said:w.2.2.2.length=k
theorem FitW.step{k:Nat}{w:c3j.den}(h:FitW k w){e:EvT}(he:EvR e):FitW (k+1) (q7g w e):=
 ⟨d53 h.fit he,by show(w.2.2.1++ [_]).length=_;rw[Ba,h.codes];rfl,by show(w.2.2.2++ [_]).length=_;rw[Ba,h.said];rfl⟩
theorem d5b:FitW 0 w0:=by
 obtain⟨d,h1,h2,h3⟩:=o09;have hd:d=d7t:=by rw[o9b]at h1;simpa using h1.symm
 subst hd;have hE:EngR (j9f, []):=d8u.mp (by decide);exact⟨(FitS.mk hE h2).fit,rfl,rfl⟩
theorem c51:r2g ()=some w0:=by
 rw[o3l];unfold q5w;rw[o3j];unfold q5t;rw[p97];unfold q1g;rw[p0r];unfold r5e;simp only[zOb,o9b];rfl
theorem j1n(l:Hu EvT){i:Nat}(h:i<l.length):j96 (l.take (i+1))=q7g (j96 (l.take i)) l[i] :=by
 unfold j96;rw[B9 h,List.foldl_append];rfl
theorem d6p{l:Hu EvT}(he:∀e∈l,EvR e):∀i:Nat,i<=l.length->FitW i (j96 (l.take i)):=by
 intro i
 induction i with
 |zero=>intro _;exact d5b|succ i ih=>
  intro hi;rw[j1n l (by omega)];exact(ih (by omega)).step (he _ (Ag (by omega)))
theorem d5t{k:Nat}{w:c3j.den}(h:FitW k w)(hk:k<=900){e:EvT}(he:EvR e):t5l (w,e)=some (q7g w e):=
 c2c h.fit hk (by have:=h.codes;show w.2.2.1.length<=_;omega) (by have:=h.said;show w.2.2.2.length<=_;omega) he
abbrev z0:c3j.den:=(((([],([],([],(0,0)))), []),([], [])),([],([], [])))
theorem c2x{es:Hu EvT}(z:c3j.den)(hn:es.length<=90)(he:∀e∈es,EvR e):∀(d i:Nat),i+d=es.length->t2c (es,z,true,(i:Int))=some (.inl (es,z,true)):=by
 intro d
 induction d with
 |zero=>
  intro i hi;rw[r80];simp only[t88,u0b,show ¬i<es.length by omega,Ah,Aa,zOb]
 |succ d ih=>
  intro i hi;have hlt:i<es.length:=by omega
  rw[r80];simp only[t88,u0b,hlt,Ae,Ad,y8h hlt,zTn,y9a (t:=j7h) hlt,o7q (he _ (Ag hlt)),zOb];rw[y7x (by omega)];exact ih (i+1) (by omega)
theorem d6o{l:Hu EvT}(hn:l.length<=90)(he:∀e∈l,EvR e):∀(d i:Nat),i+d=l.length->t0w (l,z0,j96 (l.take i),(i:Int))=some (.inl (z0,j96 l)):=by
 intro d
 induction d with
 |zero=>
  intro i hi;rw[r47];simp only[t6q,u0b,show ¬i<l.length by omega,Ah,Aa];rw[List.take_of_length_le (by omega)]
 |succ d ih=>
  intro i hi;have hlt:i<l.length:=by omega
  have hf:=d6p he i (by omega);have e1:=he _ (Ag hlt);have e2:s73 (j96 (l.take i),l[i])=_:=DoW hf.fit (by omega) (j96 (l.take i)).2.2 e1;have b1:∀x:Int,Nat.ble ((j96 (l.take i)).2.2.1.length+ [x].length) z7z=true:=fun x=>r22 (by rw[Aw];have:=hf.codes;omega)
  have b2:∀x:Hs,Nat.ble ((j96 (l.take i)).2.2.2.length+ [x].length) z7z=true:=fun x=>r22 (by rw[Aw];have:=hf.said;omega)
  rw[r47];simp only[t6q,u0b,hlt,Ae,Ad,y8h hlt,zTn,y9a (t:=j7h) hlt,e2,zOb,b1,b2];rw[y7x (by omega)];have nx:=ih (i+1) (by omega);rw[j1n l hlt]at nx;exact nx
theorem c52{l:Hu EvT}(hn:l.length<=90)(he:∀e∈l,EvR e):s5a l=some (j96 l,true):=by
 have e1:=d6o hn he l.length 0 (by omega);have e1:t0w (l,z0,w0,(0:Int))=_:=e1;have e2:=c2x z0 hn he l.length 0 (by omega);have e2:t2c (l,z0,true,(0:Int))=_:=e2;have d:decide ((l.length:Int)<=90)=true:=Bb (by omega);rw[o3h];unfold q5r;simp only[d,e2,c51,e1,zOb,Ap,Aa]
theorem d5u{k:Nat}{w:c3j.den}(h:FitW k w)(hk:k<=900){e:EvT}(he:EvR e):s21 (w,e)=some (q7g w e):=by
 obtain⟨s,H,r⟩:=w;have hc:=h.codes;have hs:=h.said;have hc:r.1.length=k:=hc;have hs:r.2.length=k:=hs;have h0:=p5v h.fit.eng (u60 h.fit.log);have hH:q4a H:=r2l (by have:=h.fit.few;have:H.length<=k:=this;omega) fun t ht=>(h.fit.hist t ht).tiny
 have b1:∀x:Int,Nat.ble (r.1.length+ [x].length) z7z=true:=fun x=>r22 (by rw[Aw];omega)
 have b2:∀x:Hs,Nat.ble (r.2.length+ [x].length) z7z=true:=fun x=>r22 (by rw[Aw];omega)
 have b3:Nat.ble (([] :Hu Int).length+r.1.length) z7z=true:=r22 (by rw[Cc];omega);have b4:Nat.ble (([] :Hu Hs).length+r.2.length) z7z=true:=r22 (by rw[Cc];omega);have hcp:s7f (s,H,r)=some (s,H,r):=by
  rw[p0y];unfold r5k;simp only[h0,r0l H hH,b3,b4,Ad,zOb,Cf]
 rw[q1w];unfold s8g;simp only[hcp,o7q he,DoW h.fit (by omega) r he,zOb,Ap,Aa,b1,b2,Ad];rfl
theorem p47(l:Hu Int)(hl:l.length<=1000000):r1z (l,l)=some true:=by
 have key:∀(d i:Nat),i+d=l.length-> ∃o,t18 (l,l,(i:Int))=some (.inl o):=by
  intro d
  induction d with
  |zero=>
   intro i hi;rw[r8r];simp only[t8z,u0b,show ¬i<l.length by omega,Ah,Aa];exact⟨(),trivial⟩
  |succ d ih=>
   intro i hi;have hlt:i<l.length:=by omega
   have nx:=ih (i+1) (by omega);rw[r8r];simp only[t8z,u0b,hlt,Ae,Ad,y8h hlt,Ap,Aa];rw[y7x (by omega)];exact nx
 rw[o23];unfold q5f;obtain⟨o,k0⟩:=key l.length 0 (by omega);have k0:t18 (l,l,(0:Int))=_:=k0;simp only[Ae,Ap,Aa,k0,zOb]
theorem p1j(l:Hu Hs)(hl:l.length<=1000000):t5p (l,l)=some true:=by
 have key:∀(d i:Nat),i+d=l.length-> ∃o,u77 (l,l,(i:Int))=some (.inl o):=by
  intro d
  induction d with
  |zero=>
   intro i hi;rw[t7e];simp only[u74,u0b,show ¬i<l.length by omega,Ah,Aa];exact⟨(),trivial⟩
  |succ d ih=>
   intro i hi;have hlt:i<l.length:=by omega
   have nx:=ih (i+1) (by omega);rw[t7e];simp only[u74,u0b,hlt,Ae,Ad,y8h hlt,y6w,Ap,Aa];rw[y7x (by omega)];exact nx
 rw[q1v];unfold s8f;obtain⟨o,k0⟩:=key l.length 0 (by omega);have k0:u77 (l,l,(0:Int))=_:=k0;simp only[Ae,Ap,Aa,k0,zOb]
theorem o8p{k:Nat}{w:c3j.den}(h:FitW k w):t5o (w.1,w.1)=some true:=o7l w.1 h.fit.eng.base.tiny h.fit.eng.fewO (u60 h.fit.log)
theorem d57{n:Nat}{y:Int}(hn:0<n)(h0:0<=y):y4v (Int.tmod y (n:Int)) n=true:=by
 have e:Int.tmod y (n:Int)=y % (n:Int):=Int.tmod_eq_emod_of_nonneg h0;have h1:=Int.emod_nonneg y (show(n:Int)≠0 by omega);have h2:=Int.emod_lt_of_pos y (show(0:Int)<n by omega);rw[e];unfold y4v;rw[Bb h1,Bb h2];rfl
def seesB(a b:u0m):Prop:=b.2.2.2.1=a.2.2.2.1/\s5s b.1 j93 b.2.2.2.1=s5s a.1 j93 a.2.2.2.1
theorem seesB.refl(a:u0m):seesB a a:=⟨rfl,rfl⟩
theorem seesB.same{a b:u0m}(h1:b.1=a.1)(h2:b.2.2.2.1=a.2.2.2.1):seesB a b:=⟨h2,by rw[h1,h2]⟩
theorem seesB.tidy{a b:u0m}(hb:BaseR b)(o:Hu u0e)(h:seesB a b):seesB a (tidied b o):=⟨h.1,by
 show s5s (tidied b o).1 j93 b.2.2.2.1=_;rw[j62 hb];exact h.2⟩
theorem seesB.tidied{b:u0m}(hb:BaseR b)(o:Hu u0e):seesB b (Ab.tidied b o):=(seesB.refl b).tidy hb o
theorem j9e{s:u3g}{e:EvT}(h1:1<=e.1)(h5:e.1<=5):seesB s.1 (s7u s e).2.2.1:=by
 obtain⟨kd,at_,key,tx,kp⟩:=e;rcases ev5 h1 h5 with q|q|q|q|q<;>(have q:kd=_:=q;subst q)
 .show seesB s.1 (t64 s).1.1;unfold t64;split
  .exact seesB.same rfl rfl
  .exact .refl _
 .show seesB s.1 (j03 s at_ key).1.1;rw[j04,p4y];exact .refl _
 .show seesB s.1 (p48 s at_ (key,tx)).1.1;rw[o4t,p4y];exact .refl _
 .show seesB s.1 (j1z s at_ (key,tx,false)).1.1;rw[o0x];exact .refl _
 .show seesB s.1 (j1z s at_ (key,j6r,true)).1.1;rw[o0x];exact .refl _
theorem r1h{e:u3g}(h:EngR e)(id:Int):seesB e.1 (leaveE e id).1:=seesB.tidied h.base _
theorem j59{s:u1a}(h:EngR s.1)(id:Int)(c:(u27 s id).2≠0):seesB s.1.1 (u27 s id).1.1.1:=by
 unfold u27 u4s at c⊢;by_cases j1:s4s s.1 id=1
 .rw[Al j1,Ao (show ¬((1:Int)=0) by decide)];exact .refl _
 .rw[Ao j1]at c⊢;by_cases j0:s4s s.1 id=0
  .rw[Al j0,Al rfl]at c⊢;split
   .rename_i d e;rw[e]at c;exact absurd rfl c
   .exact r1h h id
  .rw[Ao j0,Ao j0];exact r1h h id
theorem d1t{s:u1a}(h:EngR s.1)(id:Int)(n:Hs):seesB s.1.1 (r4o s id n).1.1.1:=by
 unfold r4o s3x;by_cases c1:u2q s.1.2 id<0
 .rw[Al c1,Ao (show ¬((1:Int)=0) by decide)];exact .refl _
 rw[Ao c1];cases hk:u81 n with
 |false=>rw[Al rfl,Ao (show ¬((2:Int)=0) by decide)];exact .refl _|true=>
  rw[Ao (show ¬(true=false) by decide)];by_cases c2:0<=u0k s.1.1 n
  .rw[Al c2,Ao (show ¬((6:Int)=0) by decide)];exact .refl _
  rw[Ao c2];by_cases c3:s6w s.1 id=0
  .rw[Al c3,Al rfl];split
   .refine⟨rfl,?_⟩;show s5s (u2y s.1.1.1 _) j93 s.1.1.2.2.2.1=_;exact q0e h.base.asc (p4z _ _) _
   .exact r1h h id
  .rw[Ao c3,Ao c3];exact r1h h id
theorem j7q{s:u1a}(h:EngR s.1)(n:Hs)(y:Bool)(c:y=false\/(t1r s n y).2≠0):seesB s.1.1 (t1r s n y).1.1.1:=by
 unfold t1r p0z at c⊢;by_cases c1:u0k s.1.1 n<0
 .rw[Al c1,Ao (show ¬((1:Int)=0) by decide)];exact .refl _
 rw[Ao c1]at c⊢;by_cases c2:y=true/\s8i s.1.1=true
 .rw[Al c2,Ao (show ¬((3:Int)=0) by decide)];exact .refl _
 rw[Ao c2]at c⊢;by_cases c3:y=true
 .rw[Al c3,Al rfl]at c⊢;split
  .rename_i d e;rw[e]at c;rcases c with c|c
   .rw[c]at c3;cases c3
   .exact absurd rfl c
  .exact .refl _
 .rw[Ao c3,Al rfl];split
  .refine⟨rfl,?_⟩;show s5s (u2y s.1.1.1 _) j93 s.1.1.2.2.2.1=_;exact q0e h.base.asc (p4z _ _) _
  .exact .refl _
theorem d3c(s:u1a):seesB s.1.1 (j7r s).1.1.1:=by
 unfold j7r;split<;>exact .refl _
theorem j4z{s:u1a}{b:u0m}(h:Sync s b){d:u0j}(hd:u2k d=true)(ht:u0d d=u0d s.2):(q7c d)=((((b, []),d)),true)/\seesB s.1.1 b:=by
 have hp:t1a (u0d d)=some b:=by rw[ht];exact h.play
 refine⟨?_,h.like.cs,?_⟩
 .unfold q7c p8j;rw[hp,Al ⟨hd,rfl⟩]
 .rw[h.like.vs,h.like.cs];exact q0e h.eng.base.asc (Bv _) _
theorem j7v{d:u0j}(hd:u2k d=true)(e:EvT):u0d (p4v d e)=u0d d:=by
 unfold p4v;split
 .cases ha:append_ d (⟨#[120]⟩:Hs) with
  |none=>rw[p0n ha]|some y=>exact((p0o ha 0 e.2.2.2.2 e.2.1).1 rfl).tx
 .rfl
structure FitY(k:Nat)(w:c3j.den):Prop extends FitW k w where
 sync:∃b,Sync w.1 b
theorem d29{s:u1a}(h:∃b,Sync s b)(H:Hu u0e){e:EvT}(he:EvR e):∃b,Sync (doC s H e).2.2.2 b:=by
 obtain⟨b,h⟩:=h;unfold doC;rcases d8w he.kind.1 he.kind.2 with c|c|c|⟨c1,c2⟩
 .rw[Al c];refine⟨b,h.opens (d1i h.eng he.kind.1 c) ?_ ?_ ?_⟩
  all_goals
   obtain⟨kd,at_,key,tx,kp⟩:=e;rcases ev5 he.kind.1 c with q|q|q|q|q<;>(have q:kd=_:=q;subst q)
   .show _=_;simp only[s7u,t64,Bl];split<;>rfl
   .show _=_;simp only[s7u,show ¬((2:Int)=1) by decide,Bk,Bl,j04,p4y]
   .show _=_;simp only[s7u,show ¬((3:Int)=1) by decide,show ¬((3:Int)=2) by decide,Bk,Bl,o4t,p4y]
   .show _=_;simp only[s7u,show ¬((4:Int)=1) by decide,show ¬((4:Int)=2) by decide,show ¬((4:Int)=3) by decide,Bk,Bl,o0x]
   .show _=_;simp only[s7u,show ¬((5:Int)=1) by decide,show ¬((5:Int)=2) by decide,show ¬((5:Int)=3) by decide,show ¬((5:Int)=4) by decide,Bk,o0x]
 .rw[Ao (k11 c),Al c];exact⟨b,h.fix⟩
 .rw[Ao (k12 c).1,Ao (k12 c).2,Al c];have hl:=p4w h.log e;have ht:=j7v h.log e;have hY:Sync ((b, []),s.2) b:=(j9m h).2;obtain⟨r1,_⟩:=j4z h hl ht;rw[r1,Al rfl];exact⟨b,⟨hY.eng,hl,by rw[ht];exact h.play,hY.right,hY.like⟩⟩
 .rw[Ao (k6 c1 c2).1,Ao (k6 c1 c2).2.1,Ao (k6 c1 c2).2.2];obtain⟨kd,at_,key,tx,kp⟩:=e;rcases d8v c1 c2 with q|q|q|q|q<;>(have q:kd=_:=q;subst q)
  .obtain⟨b',k,_⟩:=h.commit at_;exact⟨b',k⟩
  .show ∃b,Sync ((s7t s.1 at_).1,s.2) b;unfold s7t;split
   .exact⟨b,h⟩
   .exact⟨b,h.leave at_⟩
  .obtain⟨b',k,_⟩:=h.prep at_ key;exact⟨b',k⟩
  .obtain⟨b',k,_⟩:=h.fin key true;exact⟨b',k⟩
  .obtain⟨b',k,_⟩:=h.fin key false;exact⟨b',k⟩
theorem FitY.step{k:Nat}{w:c3j.den}(h:FitY k w){e:EvT}(he:EvR e):FitY (k+1) (q7g w e):=⟨h.toFitW.step he,d29 h.sync _ he⟩
theorem d6x:FitY 0 w0:=by
 obtain⟨d,h1,h2,h3⟩:=o09;have hd:d=d7t:=by rw[o9b]at h1;simpa using h1.symm
 subst hd;have hE:EngR (j9f, []):=d8u.mp (by decide);have hp:t1a (u0d d7t)=some j9f:=by rw[h3];rfl
 exact⟨d5b,j9f,⟨hE,h2,hp,j4m,⟨by decide,rfl,rfl,rfl⟩⟩⟩
theorem c6g{l:Hu EvT}(he:∀e∈l,EvR e):∀i:Nat,i<=l.length->FitY i (j96 (l.take i)):=by
 intro i
 induction i with
 |zero=>intro _;exact d6x|succ i ih=>
  intro hi;rw[j1n l (by omega)];exact(ih (by omega)).step (he _ (Ag (by omega)))
theorem d28{s:u1a}(h:∃b,Sync s b)(H:Hu u0e){e:EvT}(he:EvR e)(hq:(doC s H e).1≠0\/(e.1≠6/\e.1≠9)):seesB s.1.1 (doC s H e).2.2.2.1.1:=by
 obtain⟨b,h⟩:=h;unfold doC at hq⊢;rcases d8w he.kind.1 he.kind.2 with c|c|c|⟨c1,c2⟩
 .rw[Al c];exact j9e he.kind.1 c
 .rw[Ao (k11 c),Al c];exact d3c s
 .rw[Ao (k12 c).1,Ao (k12 c).2,Al c];obtain⟨r1,r2⟩:=j4z h (p4w h.log e) (j7v h.log e);rw[r1,Al rfl];exact r2
 .rw[Ao (k6 c1 c2).1,Ao (k6 c1 c2).2.1,Ao (k6 c1 c2).2.2]at hq⊢;obtain⟨kd,at_,key,tx,kp⟩:=e;rcases d8v c1 c2 with q|q|q|q|q<;>(have q:kd=_:=q;subst q)
  .exact j59 h.eng at_ (hq.resolve_right fun z=>z.1 rfl)
  .show seesB s.1.1 (s7t s.1 at_).1.1;unfold s7t;split
   .exact .refl _
   .exact r1h h.eng at_
  .exact d1t h.eng at_ key
  .exact j7q h.eng key true (.inr (hq.resolve_right fun z=>z.2 rfl))
  .exact j7q h.eng key false (.inl rfl)
theorem d8d{k:Nat}{w:c3j.den}(h:FitW k w)(hk:k<=900):s7f w=some w:=by
 obtain⟨s,H,r⟩:=w;have hc:r.1.length=k:=h.codes;have hs:r.2.length=k:=h.said;have h0:=p5v h.fit.eng (u60 h.fit.log);have hH:q4a H:=r2l (by have:=h.fit.few;have:H.length<=k:=this;omega) fun t ht=>(h.fit.hist t ht).tiny
 have b3:Nat.ble (([] :Hu Int).length+r.1.length) z7z=true:=r22 (by rw[Cc];omega);have b4:Nat.ble (([] :Hu Hs).length+r.2.length) z7z=true:=r22 (by rw[Cc];omega);rw[p0y];unfold r5k;simp only[h0,r0l H hH,b3,b4,Ad,zOb,Cf]
theorem c2r{e:EvT}(h:e.1=0):s6x e=some false/\s03 e=some false:=by
 rw[p0q,p0t];unfold r5d r5g;rw[r9p,r3q];unfold s9s r3m;simp only[h];exact⟨rfl,rfl⟩
theorem d2x{s:Src}(h:s.ok):∃b s',t1e (s,(12:Int))=some (b,s'):=by
 obtain⟨b,s',e,_⟩:=d0o h (n:=12) (by omega);exact⟨b,s',e⟩
theorem d2u{l:Hu Int}(hl:l.length<=1048576):∃w e,s0l l=some (w,e)/\(∃k,k<=90/\FitY k w)/\(EvR e\/e.1=0):=by
 obtain⟨c,e1,k1⟩:=d4v hl;obtain⟨y,c2,e2,k2,r2⟩:=r26 k1 (n:=60) (by omega);obtain⟨es,e3,n1,n2,he⟩:=j5v hl;obtain⟨b,c4,e4⟩:=d2x k2;have g0:decide ((es.length:Int)=0)=false:=A7 (by omega);have g1:=d57 (n:=es.length) (y:=y) (by omega) (by omega);have c0:decide ((es.length:Int) >14)=true:=Bb (by omega);have c1:decide ((14:Int)<=(es.length:Int))=true:=Bb (by omega);have ht:∀e∈es.take 14,EvR e:=fun e h=>he e (List.mem_of_mem_take h)
 have hlt:(es.take 14).length=14:=by rw[Ec];omega
 have r1:=c52 (l:=es.take 14) (by omega) ht;have p:(es.drop ((0:Int)).toNat).take (((14:Int)).toNat - ((0:Int)).toNat)=es.take 14:=rfl;have hY:=c6g ht 14 (by omega);rw[List.take_of_length_le (by omega)]at hY;have hm:EvR (rdL j7h es (Int.tmod y (es.length:Int)).toNat):=by
  have g1:=g1;unfold y4v at g1;simp only[Ai,Ar]at g1;have hk:(Int.tmod y (es.length:Int)).toNat<es.length:=by omega
  rw[y9a (t:=j7h) hk];exact he _ (Ag hk)
 rw[q8l];unfold s87;simp only[e1,e2,e3,c0,c1,show decide ((0:Int)<=0)=true by decide,show decide ((0:Int)<=14)=true by decide,Dt,Ad,p,r1,g0,g1,Bh,e4,zOb];cases b with
 |true=>exact⟨_,_,rfl,⟨14,by omega,hY⟩, .inr rfl⟩|false=>exact⟨_,_,rfl,⟨14,by omega,hY⟩, .inl hm⟩
theorem j09(x:Hu Int)(hx:(Ty.sl (.int .u8)).fine x):q22 x=some true:=by
 rw[p90];unfold q09;rw[j84];unfold o7y;simp only[zOb];by_cases hb:(x.length:Int) >1048576
 .simp only[hb,Ae,Ad]
 simp only[hb,Ah,Aa];obtain⟨w,e,e1,⟨k,hk,hY⟩,he⟩:=d2u (l:=x) (by omega);have qa:r0g ()=some j93:=by rw[j83];rfl
 have hE:=hY.fit.eng;have vl:w.1.1.1.1.length<=10000:=hE.base.tiny.vl;have sc:∀(l:Hu u2u) (c:Int),l.length<=10000->t4b (l,j93,c)=some (s5s l j93 c):=fun l c h=>j52 l j93 c (show l.length<=500000000000 by omega)
 have sl:∀(l:Hu u2u) (c:Int),l.length<=10000->(s5s l j93 c).length<=1099511627776:=fun l c h=>by
  unfold s5s;rw[Da];refine A9 (Cs _ _) (A9 (r7c _) ?_);rw[Da];omega
 rcases he with he|he
 .have s1:=d5t hY.toFitW (by omega) he;have s2:=d5u hY.toFitW (by omega) he;have hS:=hY.step he;have t1:=p47 (q7g w e).2.2.1 (by rw[hS.codes];omega);have t2:=p1j (q7g w e).2.2.2 (by rw[hS.said];omega);have t3:=o8p hS.toFitW;have vl2:(q7g w e).1.1.1.1.length<=10000:=hS.fit.eng.base.tiny.vl;have hc:=hY.codes;have hc2:=hS.codes;have n0:decide (((q7g w e).2.2.1.length:Int) >0)=true:=Bb (by omega);have n1:decide (((q7g w e).2.2.1.length:Int) >(w.2.2.1.length:Int))=true:=Bb (by omega);have n2:i64.wrap (((q7g w e).2.2.1.length:Int) - 1)=(k:Int):=by rw[y5f (by omega) (by omega)];omega
  have n3:y4v (k:Int) (q7g w e).2.2.1.length=true:=y8h (by omega);have n4:rdL (Ty.int .i64) (q7g w e).2.2.1 ((k:Int)).toNat=(doC w.1 w.2.1 e).1:=by
   rw[zTn,y9a (t:=Ty.int .i64) (by omega:k<(q7g w e).2.2.1.length)];have:(q7g w e).2.2.1=w.2.2.1++ [(doC w.1 w.2.1 e).1] :=rfl;simp only[this];rw[Cv (by omega)];simp[hc]
  have see:((doC w.1 w.2.1 e).1≠0\/(e.1≠6/\e.1≠9))->seesB w.1.1.1 (q7g w e).1.1.1:=fun q=>d28 hY.sync w.2.1 he q
  simp only[e1,s1,s2,t1,t2,t3,n0,n1,n2,n3,n4,zOb,Ad];by_cases q1:(doC w.1 w.2.1 e).1=0
  .by_cases q2:e.1=6
   .simp only[q1,q2,Ae,Ah,Ap,Bh,Ad,Aa,zOb]
   .by_cases q3:e.1=9
    .simp only[q1,q3,show decide ((9:Int)=6)=false by decide,Ae,Ah,Ap,Bh,Ad,Aa,zOb]
    .obtain⟨z1,z2⟩:=see (.inr ⟨q2,q3⟩);rw[z1]at z2;simp only[q1,q2,q3,Ae,Ah,Ap,Bh,Ad,Aa,zOb,z1,qa,sc _ _ vl,sc _ _ vl2];rw[z2,q7d _ _ (sl _ _ vl)];simp only[Ae,zOb]
  .obtain⟨z1,z2⟩:=see (.inl q1);have j6:∃b:Bool,(bif !decide (e.1=6) then some (!decide (e.1=9)) else some false:Ht Bool)=some b:=by
    cases decide (e.1=6)<;>exact⟨_,rfl⟩
   obtain⟨b6,j6⟩:=j6;rw[z1]at z2;simp only[q1,j6,Ah,Bh,Ap,Ad,Aa,zOb,z1,Ae,qa,sc _ _ vl,sc _ _ vl2];rw[z2,q7d _ _ (sl _ _ vl)];simp only[Ae,zOb]
 .obtain⟨o1,o2⟩:=c2r he;obtain⟨s,H,r⟩:=w;have cI:=d4t hY.fit (by omega) (r:=r) (by have:=hY.codes;show r.1.length<=_;have:r.1.length=k:=this;omega) (by have:=hY.said;have:r.2.length=k:=this;omega);have s1:t5l ((s,H,r),e)=some (s,H,r):=by
   rw[q1u];unfold s8e;simp only[cI,o1,zOb,Bh,Ad]
  have cS:=d8d hY.toFitW (by omega);have s2:s21 ((s,H,r),e)=some (s,H,r):=by
   rw[q1w];unfold s8g;simp only[cS,o2,zOb,Bh,Ad]
  have hc:r.1.length=k:=hY.codes;have hs:r.2.length=k:=hY.said;have t1:=p47 r.1 (by omega);have t2:=p1j r.2 (by omega);have t3:t5o (s,s)=some true:=o8p hY.toFitW;have n1:decide ((r.1.length:Int) >(r.1.length:Int))=false:=A7 (by omega);have j5:∀X:Ht Bool,(bif decide ((r.1.length:Int) >0) then some false else some false:Ht Bool)=some false:=fun _=>by cases decide ((r.1.length:Int) >0)<;>rfl
  have q6:decide (e.1=6)=false:=by rw[he];rfl
  have q9:decide (e.1=9)=false:=by rw[he];rfl
  simp only[e1,s1,s2,t1,t2,t3,n1,Aa,j5 none,q6,q9,Bh,Ad,zOb,Ae,qa,sc _ _ vl,q7d _ _ (sl _ _ vl)];rfl
end Go.Proofs.YtkphhjdbdnoekaaGreatDoor.Ab
