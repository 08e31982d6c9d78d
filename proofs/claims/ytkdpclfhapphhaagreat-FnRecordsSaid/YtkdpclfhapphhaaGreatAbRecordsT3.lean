import Derived.Test.YtkdpclfhapphhaaGreatAbRecordsT2
import Derived.Test.YtkdpclfhapphhaaGreatAbK2
import Derived.Test.YtkdpclfhapphhaaGreatAbF4
import Derived.Test.YtkdpclfhapphhaaGreatAbS2
import Derived.Test.YtkdpclfhapphhaaGreatAbS3
namespace Go.Proofs.YtkdpclfhapphhaaGreat.Ab
open Go
set_option linter.unusedVariables false
set_option linter.unusedSimpArgs false
set_option linter.unnecessarySimpa false
section
section
theorem t71 (A:Hs) (ns:Hu Int) (hn:∀n∈ns,0≤n∧n<16384) (hl:ns.length≤10) (hA:A.size≤1000000):u3g (z7t A,ns)=some (z7t (A++s6d s8o ns)):=by
 have:=t2v u9y ns (fun(A:Hs) i=>(z7t A,ns,(ns.length:Int),i)) (fun A n=>A++s8o n) (fun A=> .inl (z7t A)) (fun i A=>A.size≤1000000+i*2)
  (fun A _=>by rw[s18];simp only[u9i,u0b,Am,Ah,Aa])
  (fun i hi A hP=>by
   have hm:=hn _ (Ag hi)
   have hv:=u1e (n:=ns[i]) hm.2
   refine⟨by rw[Af,C7];omega,?_⟩
   rw[s18];simp only[u9i,u0b,hi,Ae,Ad,y7t hi,zTn,y8k (t:=Ty.int .i64) hi,y7l (show i<4611686018427387904 by omega)]
   rw[q9h hm.1 (by omega)]
   simp only[zOb]
   rw[q0s (by rw[u58,u58];omega),t38]) A (by omega)
 rw[t44] at this
 rw[r84];unfold s6w
 simp only
 rw[this];rfl
theorem t5v (A:Hs) (ns:Hu Hs) (hn:∀n∈ns,n.size≤100) (hl:ns.length≤10) (hA:A.size≤1000000):u3y (z7t A,ns)=some (z7t (A++s6d u0s ns)):=by
 have:=t2v u8b ns (fun(A:Hs) i=>(z7t A,ns,(ns.length:Int),i)) (fun A n=>A++u0s n) (fun A=> .inl (z7t A)) (fun i A=>A.size≤1000000+i*102)
  (fun A _=>by rw[t9x];simp only[u71,u0b,Am,Ah,Aa])
  (fun i hi A hP=>by
   have hm:=hn _ (Ag hi)
   have hv:=u0u (s:=ns[i]) (by omega)
   refine⟨by rw[Af,C7];omega,?_⟩
   rw[t9x];simp only[u71,u0b,hi,Ae,Ad,y7t hi,zTn,y8k (t:=Ty.str) hi,y7l (show i<4611686018427387904 by omega)]
   rw[p0r (by omega)]
   simp only[zOb]
   rw[q0s (by rw[u58,u58];omega),t38]) A (by omega)
 rw[t44] at this
 rw[r7l];unfold s3v
 simp only
 rw[this];rfl
theorem t9n (A:Hs) (b:Bool) (hA:A.size≤1000000):u45 (z7t A,b)=some (z7t (A++q8m b)):=by
 rw[r7k];unfold s3u
 have e:z7t (q8m b)= [if b then 1 else 0] :=by cases b<;>rfl
 rw[t38,e]
 cases b
 ·simp only[Aa]
  rw[q0s (by rw[u58];simp;omega)];rfl
 ·simp only[Ad]
  rw[q0s (by rw[u58];simp;omega)];rfl
theorem r6z (ns:Hu Int) (hn:∀n∈ns,0≤n∧n<16384) (hl:ns.length≤10):u3g (([] :Hu Int),ns)=some (z7t (s6d s8o ns)):=by
 have:=t71 emp ns hn hl (by simp[emp,ByteArray.size])
 rw[q8q] at this
 exact this
theorem s20 {E:Type} (f:E→Hs) (a:E):s6d f [a] =f a:=by rw[t7q,q37,q8k]
theorem r8b {E:Type} (f:E→Hs) (a b:E):s6d f [a,b] =f a++f b:=by rw[t7q,s20]
theorem q2x {E:Type} (f:E→Hs) (a b c:E):s6d f [a,b,c] =f a++(f b++f c):=by rw[t7q,r8b]
theorem p2o {E:Type} (f:E→Hs) (a b c d e:E):s6d f [a,b,c,d,e] =f a++(f b++(f c++(f d++f e))):=by rw[t7q,t7q,q2x]
theorem s6k (t:u0j) (ht:u1b.wt t≤549755813888):t47 t=some (if u6h t=true then(u9b t,true) else(emp,false)):=by
 have hb:u0l=1099511627776:=rfl
 rw[q04];unfold s9s
 rw[s0q t (by omega)]
 simp only[zOb]
 cases hc:u6h t
 ·rfl
 ·have h:=r4r.mp hc
  obtain⟨z1,z2,z3,z4,z5⟩:=h.small
  have hi:=h.id;have hst:=h.st;have hsn:=h.snap;have hrl:=h.rlen
  have v1:=u1e (n:=t.1) (by omega)
  have v2:=u1e (n:=t.2.1) (by omega)
  have v3:=u1e (n:=t.2.2.1) (by omega)
  have v4:=u1e (n:=t.2.2.2.1) (by omega)
  have v5:=u1e (n:=(t.2.2.2.2.1.length:Int)) (by omega)
  have v6:=u1e (n:=(t.2.2.2.2.2.1.length:Int)) (by omega)
  have v7:=u0u (s:=t.2.2.2.2.2.2.2) (by omega)
  have L1:∀A:Hs,A.size≤1000→u7a (t,z7t A,t.2.2.2.2.1,(t.2.2.2.2.1.length:Int),0)=some (.inl (t,z7t (A++s6d q79 t.2.2.2.2.1))):=fun A hA=>by
   have:=t2v u7a t.2.2.2.2.1 (fun(A:Hs) i=>(t,z7t A,t.2.2.2.2.1,(t.2.2.2.2.1.length:Int),i)) (fun A r=>A++q79 r) (fun A=> .inl (t,z7t A)) (fun i A=>A.size≤1000+i*204)
    (fun A _=>by rw[s5k];simp only[t1a,u0b,Am,Ah,Aa])
    (fun i hi A hP=>by
     have hr:=z1 _ (Ag hi)
     have hs:=r4k (r:=t.2.2.2.2.1[i]) (by omega)
     refine⟨by rw[Af,C7];omega,?_⟩
     rw[s5k];simp only[t1a,u0b,hi,Ae,Ad,y7t hi,zTn,y8k (t:=u8f) hi,y7l (show i<4611686018427387904 by omega)]
     rw[t5v A [(t.2.2.2.2.1[i]).1,(t.2.2.2.2.1[i]).2] (by intro n hn;simp only[A8,Du,Em] at hn;rcases hn with rfl | rfl<;>omega) (by simp) (by omega)]
     simp only[zOb]
     rw[r8b];rfl) A (by omega)
   rw[t44] at this
   exact this
  have L2:∀A:Hs,A.size≤10000→u50 (t,z7t A,t.2.2.2.2.2.1,(t.2.2.2.2.2.1.length:Int),0)=some (.inl (t,z7t (A++s6d wrT t.2.2.2.2.2.1))):=fun A hA=>by
   have:=t2v u50 t.2.2.2.2.2.1 (fun(A:Hs) i=>(t,z7t A,t.2.2.2.2.2.1,(t.2.2.2.2.2.1.length:Int),i)) (fun A r=>A++wrT r) (fun A=> .inl (t,z7t A)) (fun i A=>A.size≤10000+i*304)
    (fun A _=>by rw[s16];simp only[u9g,u0b,Am,Ah,Aa])
    (fun i hi A hP=>by
     have hr:=z2 _ (Ag hi)
     have q1:=u0u (s:=(t.2.2.2.2.2.1[i]).1) (by omega)
     have q2:=u0u (s:=(t.2.2.2.2.2.1[i]).2.1) (by omega)
     have q3:=u2d (t.2.2.2.2.2.1[i]).2.2
     refine⟨by unfold wrT;simp only[Af,C7];omega,?_⟩
     rw[s16];simp only[u9g,u0b,hi,Ae,Ad,y7t hi,zTn,y8k (t:=u1x) hi,y7l (show i<4611686018427387904 by omega)]
     rw[t5v A [(t.2.2.2.2.2.1[i]).1,(t.2.2.2.2.2.1[i]).2.1] (by intro n hn;simp only[A8,Du,Em] at hn;rcases hn with rfl | rfl<;>omega) (by simp) (by omega)]
     simp only[zOb]
     rw[r8b,t9n _ _ (by simp only[Af];omega)]
     simp only[zOb]
     unfold wrT
     simp only[u5u]) A (by omega)
   rw[t44] at this
   exact this
  have n1:(s6d q79 t.2.2.2.2.1).size≤t.2.2.2.2.1.length*204:=t3g fun r hr=>r4k (by have:=z1 r hr;omega)
  have n2:(s6d wrT t.2.2.2.2.2.1).size≤t.2.2.2.2.2.1.length*304:=t3g fun w hw=>by
   have:=z2 w hw
   have q1:=u0u (s:=w.1) (by omega)
   have q2:=u0u (s:=w.2.1) (by omega)
   unfold wrT;rw[Af,Af,u2d];omega
  simp only[Ap,Aa,Bl]
  rw[r6z [t.1,t.2.1,t.2.2.1,t.2.2.2.1,(t.2.2.2.2.1.length:Int)] (by intro n hn;simp only[A8,Du,Em] at hn;rcases hn with rfl | rfl | rfl | rfl | rfl<;>omega) (by simp)]
  simp only[zOb]
  rw[p2o,L1 _ (by simp only[Af];omega)]
  simp only[zOb]
  rw[t71 _ [(t.2.2.2.2.2.1.length:Int)] (by intro n hn;simp only[A8,Du,Em] at hn;subst hn;omega) (by simp) (by simp only[Af];omega)]
  simp only[zOb]
  rw[s20,L2 _ (by simp only[Af];omega)]
  simp only[zOb]
  rw[t9n _ _ (by simp only[Af];omega)]
  simp only[zOb]
  rw[t5v _ [t.2.2.2.2.2.2.2] (by intro n hn;simp only[A8,Du,Em] at hn;subst hn;omega) (by simp) (by simp only[Af,u2d];omega)]
  simp only[zOb]
  rw[s20,t4k]
  unfold u9b
  simp only[u5u]
theorem r2p (b:u0i) (hw:p73.wt b≤549755813888):u83 b=some (if u4v b=true then(u7r b,true) else(emp,false)):=by
 have hb:u0l=1099511627776:=rfl
 have hbw:=r1v b
 rw[r8y];unfold s6q
 rw[r1s b (by omega)]
 simp only[zOb]
 cases hc:u4v b
 ·rfl
 ·have h:=q2w.mp hc
  obtain⟨w1,w2,w3⟩:=p3w.mp h.vs
  have hcs:=h.cs;have hx:=h.next;have hp:=h.plen;have hr:=h.rlen
  have q1:=u1e (n:=b.2.2.2.1) (by omega)
  have q2:=u1e (n:=b.2.2.2.2) (by omega)
  have q3:=u1e (n:=(b.1.length:Int)) (by omega)
  have q4:=t3g (f:=q74) (k:=22) (l:=b.1) (fun v hv=>r4v (w1 v hv))
  have q5:=t7b (l:=b.2.1) (by omega) (fun t ht=>(h.past t ht).1)
  have q6:=t7b (l:=b.2.2.1) (by omega) (fun t ht=>(h.ready t ht).1)
  have L:∀A:Hs,A.size≤1000→u5z (b,z7t A,b.1,(b.1.length:Int),0)=some (.inl (b,z7t (A++s6d q74 b.1))):=fun A hA=>by
   have:=t2v u5z b.1 (fun(A:Hs) i=>(b,z7t A,b.1,(b.1.length:Int),i)) (fun A r=>A++q74 r) (fun A=> .inl (b,z7t A)) (fun i A=>A.size≤1000+i*22)
    (fun A _=>by rw[s15];simp only[u9f,u0b,Am,Ah,Aa])
    (fun i hi A hP=>by
     have hm:=w1 _ (Ag hi)
     have hr:=r4v hm
     have hv:=t8l hm
     have s1:=u0u (s:=(b.1[i]).1) (by omega)
     have s2:=u0u (s:=(b.1[i]).2.1) (by omega)
     have s3:=u2d (b.1[i]).2.2.1
     refine⟨by rw[Af,C7];omega,?_⟩
     rw[s15];simp only[u9f,u0b,hi,Ae,Ad,y7t hi,zTn,y8k (t:=u0d) hi,y7l (show i<4611686018427387904 by omega)]
     rw[t5v A [(b.1[i]).1,(b.1[i]).2.1] (by intro n hn;simp only[A8,Du,Em] at hn;rcases hn with rfl | rfl<;>omega) (by simp) (by omega)]
     simp only[zOb]
     rw[r8b,t9n _ _ (by simp only[Af];omega)]
     simp only[zOb]
     rw[t71 _ [(b.1[i]).2.2.2] (by intro n hn;simp only[A8,Du,Em] at hn;subst hn;omega) (by simp) (by simp only[Af];omega)]
     simp only[zOb]
     rw[s20]
     unfold q74
     simp only[u5u]) A (by omega)
   rw[t44] at this
   exact this
  have IN:∀(A:Hs) (g:Hu (Hu u0j)) (n k:Int) (l:Hu u0j),A.size≤100000→l.length≤100→(Ty.sl u1b).wt l≤549755813888→(∀t∈l,TxnR t)→
   u5e (z7t A,g,n,k,l,(l.length:Int),0)=some (.inl (z7t (A++s6d u9b l),g,n,k)):=fun A g n k l hA hl hlw hok=>by
   have:=t2v u5e l (fun(A:Hs) i=>(z7t A,g,n,k,l,(l.length:Int),i)) (fun A r=>A++u9b r) (fun A=> .inl (z7t A,g,n,k)) (fun i A=>A.size≤100000+i*300)
    (fun A _=>by rw[t9v];simp only[u7z,u0b,Am,Ah,Aa])
    (fun i hi A hP=>by
     have hm:=Ag hi
     have hr:=t32 (hok _ hm)
     refine⟨by rw[Af,C7];omega,?_⟩
     rw[t9v];simp only[u7z,u0b,hi,Ae,Ad,y7t hi,zTn,y8k (t:=u1b) hi,y7l (show i<4611686018427387904 by omega)]
     rw[s6k _ (p3l hm hlw),Al (r4r.mpr (hok _ hm))]
     simp only[zOb]
     rw[q0s (by rw[u58,u58];omega),t38]) A (by omega)
   rw[t44] at this
   exact this
  have O:∀A:Hs,A.size≤10000→u79 (z7t A, [b.2.1,b.2.2.1],2,0)=some (.inl (z7t (A++s14 b.2.1++s14 b.2.2.1))):=fun A hA=>by
   have v1:=u1e (n:=(b.2.1.length:Int)) (by omega)
   have v2:=u1e (n:=(b.2.2.1.length:Int)) (by omega)
   have e0:y4q 0 [b.2.1,b.2.2.1].length=true:=rfl
   have e1:y4q 1 [b.2.1,b.2.2.1].length=true:=rfl
   have r0:rdL (Ty.sl u1b) [b.2.1,b.2.2.1] (0:Int).toNat=b.2.1:=rfl
   have r1:rdL (Ty.sl u1b) [b.2.1,b.2.2.1] (1:Int).toNat=b.2.2.1:=rfl
   have w0:IntKind.i64.wrap ((0:Int)+1)=1:=rfl
   have w1:IntKind.i64.wrap ((1:Int)+1)=2:=rfl
   rw[t34];simp only[u5b]
   rw[r01 (by omega),e0,r0,t71 A [(b.2.1.length:Int)] (by intro n hn;simp only[A8,Du,Em] at hn;subst hn;omega) (by simp) (by omega)]
   simp only[Ad,zOb]
   rw[s20,IN _ _ _ _ b.2.1 (by simp only[Af];omega) (by omega) (by omega) (fun t ht=>(h.past t ht).1)]
   simp only[zOb]
   rw[w0,t34];simp only[u5b]
   have n1:(A++s8o (b.2.1.length:Int)++s6d u9b b.2.1).size≤20000:=by
    have:A++s8o (b.2.1.length:Int)++s6d u9b b.2.1=A++s14 b.2.1:=by unfold s14;rw[u5u]
    rw[this,Af];omega
   rw[r01 (by omega),e1,r1,t71 _ [(b.2.2.1.length:Int)] (by intro n hn;simp only[A8,Du,Em] at hn;subst hn;omega) (by simp) (by omega)]
   simp only[Ad,zOb]
   rw[s20,IN _ _ _ _ b.2.2.1 (by rw[Af];omega) (by omega) (by omega) (fun t ht=>(h.ready t ht).1)]
   simp only[zOb]
   rw[w1,t34];simp only[u5b]
   unfold s14
   simp[u5u]
  simp only[Ap,Aa,Bl]
  rw[r6z [b.2.2.2.1,b.2.2.2.2,(b.1.length:Int)] (by intro n hn;simp only[A8,Du,Em] at hn;rcases hn with rfl | rfl | rfl<;>omega) (by simp)]
  simp only[zOb]
  rw[q2x,L _ (by simp only[Af];omega)]
  simp only[zOb]
  have e2:(([b.2.1,b.2.2.1] :Hu (Hu u0j)).length:Int)=2:=rfl
  rw[e2,O _ (by simp only[Af];omega)]
  simp only[zOb]
  rw[t4k]
  unfold u7r
  simp only[u5u]
end
section
theorem p0a {W:Int×Hs×Int×Int→Ht ((Int×Hs×Int)⊕Unit)}
 (hW:∀x,W x=(bif decide (x.2.2.2<(8:Int)) then(bif decide (Int.tmod x.1 (2:Int)=(1:Int)) then W (IntKind.u32.wrap ((BitVec.ofInt IntKind.u32.bits (IntKind.u32.wrap (Int.tdiv x.1 (2:Int)))^^^BitVec.ofInt IntKind.u32.bits (3558460437:Int)).toNat:Int),x.2.1,x.2.2.1,IntKind.i64.wrap (x.2.2.2+(1:Int)))
  else W (IntKind.u32.wrap (Int.tdiv x.1 (2:Int)),x.2.1,x.2.2.1,IntKind.i64.wrap (x.2.2.2+(1:Int)))) else some (.inl (x.1,x.2.1,x.2.2.1)))) (t:Hs) (k:Int):
 ∀(n:Nat) (x:Int) (i:Nat),i+n=8→W (x,t,k,(i:Int))=some (.inl (q0i n x,t,k)):=by
 intro n
 induction n with
 | zero=>
  intro x i hi
  have:i=8:=by omega
  subst this
  rw[hW];rfl
 | succ n ih=>
  intro x i hi
  rw[hW]
  simp only
  rw[r01 (by omega),y7l (by omega),ih _ (i+1) (by omega),ih _ (i+1) (by omega)]
  rw[show q0i (n+1) x=q0i n (p3k x) from rfl]
  unfold p3k p67
  cases decide (Int.tmod x 2=1)<;>rfl
theorem p0b (f:Int→UInt8→Int) (t:Hs) {W:Int×Hs×Int→Ht (Int⊕Unit)} (ht:t.size≤1099511627776)
 (hend:∀x,W (x,t,(t.size:Int))=some (.inl x))
 (hstep:∀(i:Nat),i<t.size→ ∀x,W (x,t,(i:Int))=W (f x (t.data.toList.getD i 0),t,((i+1:Nat):Int))) (x:Int):W (x,t,0)=some (.inl (t.data.toList.foldl f x)):=by
 have e:t.size=t.data.toList.length:=r1u t
 exact t2v W t.data.toList (fun x i=>(x,t,i)) f (fun x=> .inl x) (fun _ _=>True) (fun x _=>by rw[←e];exact hend x)
  (fun i hi x _=>⟨trivial,by
   rw[hstep i (by rw[e];exact hi) x]
   congr 2
   rw[A5,A4 hi];rfl⟩) x trivial
theorem q6d (x:Int) (t:Hs) (ht:t.size≤1099511627776):s0a (x,t)=some (t.data.toList.foldl q0j x):=by
 have L:=p0b q0j t (W:=t1y) ht
  (fun x=>by rw[s5j];simp only[t09,u0b,Am,Ah,Aa])
  (fun i hi x=>by
   rw[s5j];simp only[t09,u0b,hi,Ae,Ad,y7t hi,zTn]
   have:=p0a (W:=t1z) (fun x=>r73 x) t (i:Int) 8 (p67 x (IntKind.u32.wrap ((t.data.toList.getD i 0).toNat:Int))) 0 rfl
   unfold p67 at this
   rw[show((0:Nat):Int)=0 from rfl] at this
   rw[this]
   simp only[zOb,y7l (show i<4611686018427387904 by omega)]
   rfl) x
 rw[q03];unfold s9r
 simp only[L,zOb]
theorem r6a (x:Int) (t:Hs) (ht:t.size≤1099511627776):s0g (x,t)=some (t.data.toList.foldl q0j x):=by
 have L:=p0b q0j t (W:=t14) ht
  (fun x=>by rw[s5z];simp only[t1n,u0b,Am,Ah,Aa])
  (fun i hi x=>by
   rw[s5z];simp only[t1n,u0b,hi,Ae,Ad,y7t hi,zTn]
   have:=p0a (W:=t15) (fun x=>r75 x) t (i:Int) 8 (p67 x (IntKind.u32.wrap ((t.data.toList.getD i 0).toNat:Int))) 0 rfl
   unfold p67 at this
   rw[show((0:Nat):Int)=0 from rfl] at this
   rw[this]
   simp only[zOb,y7l (show i<4611686018427387904 by omega)]
   rfl) x
 rw[q1l];unfold s99
 simp only[L,zOb]
theorem t7d (t:Hs) (ht:t.size≤1099511627776):u98 t=some (r67 t):=by
 rw[q4c];unfold r2x r67
 have e1:decide ((t.size:Int) >20000)= !decide (t.size≤20000):=by by_cases h:t.size≤20000<;>simp[h] <;>omega
 rw[e1,q6w];unfold r6d
 rw[q6d _ _ ht]
 simp only[zOb]
 by_cases h:t.size≤20000
 ·rw[Bb h,Al h]
  simp only[Ap,Aa]
  rw[r01 (by rw[u21];simp;omega)]
  rfl
 ·rw[A7 h,Ao h];rfl
theorem t7e (t:Hs) (ht:t.size≤1099511627776):t0d t=some (r67 t):=by
 rw[q4r];unfold r3c r67
 have e1:decide ((t.size:Int) >20000)= !decide (t.size≤20000):=by by_cases h:t.size≤20000<;>simp[h] <;>omega
 rw[e1,r6v];unfold s7b
 rw[r6a _ _ ht]
 simp only[zOb]
 rw[r04];unfold r0j
 simp only[zOb]
 by_cases h:t.size≤20000
 ·rw[Bb h,Al h]
  simp only[Ap,Aa]
  rw[r01 (by rw[u21];simp;omega)]
  rfl
 ·rw[A7 h,Ao h];rfl
theorem u6y (k:Int):(y7g [k]).size=1:=u21 _
theorem s80 {k:Int} (h0:0≤k) (h1:k≤255): [IntKind.u8.wrap k] =z7t (y7g [IntKind.u8.wrap k]):=by
 obtain⟨n,rfl⟩:∃n:Nat,k=n:=⟨k.toNat,by omega⟩
 rw[q9i,show((n:Int) % 256)=n by omega]
 unfold z7t y7g
 simp
 omega
theorem u5y (r:t8z) (hw:o0g.wt r≤549755813888):u11 r=some (u0o r):=by
 have hr:=s8h r
 rw[r5k];unfold s01 u0o
 rw[s2u r hw]
 simp only[zOb]
 cases hc:u3s r
 ·rfl
 ·have h:=p50.mp hc
  have hz:=t7a h
  simp only[Ap,Aa,Bl]
  cases h with
  | thr t h hs=>
   have:=t32 h
   have ht:=s6l t (by have:u1b.wt t≤o0g.wt (1,t,emp,false,u2k):=by rw[hr];simp only;omega
                      omega)
   rw[Al (r4r.mpr h)] at ht
   simp only[Int.reduceEq,Ae,Ah,Ad,Aa]
   rw[ht]
   simp only[zOb]
   rw[r01 (by rw[u6y];omega),t7e _ (by rw[Af,u6y];omega)]
   rfl
  | rdy t h hs=>
   have:=t32 h
   have ht:=s6l t (by have:u1b.wt t≤o0g.wt (2,t,emp,false,u2k):=by rw[hr];simp only;omega
                      omega)
   rw[Al (r4r.mpr h)] at ht
   simp only[Int.reduceEq,Ae,Ah,Ad,Aa]
   rw[ht]
   simp only[zOb]
   rw[r01 (by rw[u6y];omega),t7e _ (by rw[Af,u6y];omega)]
   rfl
  | fin n y h=>
   have:=u2q h
   have q:=u0u (s:=n) (by omega)
   simp only[Int.reduceEq,Ae,Ah,Ad,Aa]
   rw[t2s (by omega)]
   simp only[zOb]
   rw[r01 (by rw[u6y];omega),r78]
   simp only[zOb]
   rw[r01 (by simp only[Af,u6y,u2d];omega),t7e _ (by simp only[Af,u6y,u2d];omega),u5u]
   rfl
  | bas b h=>
   have:=s8z h
   have a1:=(p3w.mp h.vs).2.2
   have a2:=h.plen
   have a3:=h.rlen
   have ht:=r2q b (by have:p73.wt b≤o0g.wt (4,u4e,emp,false,b):=by rw[hr];simp only;omega
                      omega)
   rw[Al (q2w.mpr h)] at ht
   simp only[Int.reduceEq,Ae,Ah,Ad,Aa]
   rw[ht]
   simp only[zOb]
   rw[r01 (by rw[u6y];omega),t7e _ (by rw[Af,u6y];omega)]
   rfl
theorem u8m (r:t8z) (hw:o0g.wt r≤549755813888):u29 r=some (u0o r):=by
 have hr:=s8h r
 rw[r5c];unfold s0t u0o
 rw[r2s r hw]
 simp only[zOb]
 cases hc:u3s r
 ·rfl
 ·have h:=p50.mp hc
  have hz:=t7a h
  simp only[Ap,Aa,Bl]
  cases h with
  | thr t h hs=>
   have:=t32 h
   have ht:=s6k t (by have:u1b.wt t≤o0g.wt (1,t,emp,false,u2k):=by rw[hr];simp only;omega
                      omega)
   rw[Al (r4r.mpr h)] at ht
   simp only[Int.reduceEq,Ae,Ah,Ad,Aa]
   rw[ht]
   simp only[zOb]
   rw[q0s (by rw[u58];simp;omega),s80 (k:=1) (by omega) (by omega),←t38,t4k,t7d _ (by rw[Af,u6y];omega)]
   rfl
  | rdy t h hs=>
   have:=t32 h
   have ht:=s6k t (by have:u1b.wt t≤o0g.wt (2,t,emp,false,u2k):=by rw[hr];simp only;omega
                      omega)
   rw[Al (r4r.mpr h)] at ht
   simp only[Int.reduceEq,Ae,Ah,Ad,Aa]
   rw[ht]
   simp only[zOb]
   rw[q0s (by rw[u58];simp;omega),s80 (k:=2) (by omega) (by omega),←t38,t4k,t7d _ (by rw[Af,u6y];omega)]
   rfl
  | fin n y h=>
   have:=u2q h
   have q:=u0u (s:=n) (by omega)
   simp only[Int.reduceEq,Ae,Ah,Ad,Aa]
   rw[s80 (k:=3) (by omega) (by omega),t5v _ [n] (by intro m hm;simp only[A8,Du,Em] at hm;subst hm;omega) (by simp) (by rw[u6y];omega)]
   simp only[zOb]
   rw[s20,t9n _ _ (by rw[Af,u6y];omega)]
   simp only[zOb]
   rw[t4k,t7d _ (by simp only[Af,u6y,u2d];omega),u5u]
   rfl
  | bas b h=>
   have:=s8z h
   have a1:=(p3w.mp h.vs).2.2
   have a2:=h.plen
   have a3:=h.rlen
   have ht:=r2p b (by have:p73.wt b≤o0g.wt (4,u4e,emp,false,b):=by rw[hr];simp only;omega
                      omega)
   rw[Al (q2w.mpr h)] at ht
   simp only[Int.reduceEq,Ae,Ah,Ad,Aa]
   rw[ht]
   simp only[zOb]
   rw[q0s (by rw[u58];simp;omega),s80 (k:=4) (by omega) (by omega),←t38,t4k,t7d _ (by rw[Af,u6y];omega)]
   rfl
end
section
def inT (s:Hs) (c:Cur):Prop:=0≤c.1∧c.1≤(s.size:Int)
def bad (c:Cur) (k:Int):Int:=if c.2=true then k else 0
theorem u1k {s:Hs} {c:Cur} (h:inT s c):inT s (u1u s c).2∧0≤(u1u s c).1∧(u1u s c).1≤1000000000∧c.1+1≤(u1u s c).2.1+bad (u1u s c).2 1:=by
 unfold u1u
 split
 ·refine⟨h,by simp,by simp,?_⟩
  simp only[bad,Bl];omega
 ·rename_i q
  simp only[Hr,Ey,Bool.not_eq_false] at q
  have:=t20 q.2
  refine⟨⟨?_,?_⟩,?_,?_,?_⟩
  ·simp only;omega
  ·simp only;omega
  ·simp only;omega
  ·simp only;omega
  ·simp only[bad,Br,Bk];omega
theorem q2k {t:Hs} {a:Int} (h:(u0p t a).2.2=true):a+1+((u0p t a).1.size:Int)≤(u0p t a).2.1∧0≤a:=by
 unfold u0p at h ⊢
 split at h
 ·rename_i hc
  rw[Al hc]
  have:=t20 hc.1
  simp only[Bd]
  omega
 ·cases h
theorem u5m {s:Hs} {c:Cur} (h:inT s c):inT s (u1y s c).2∧c.1+1+((u1y s c).1.size:Int)≤(u1y s c).2.1+bad (u1y s c).2 1:=by
 unfold u1y
 split
 ·refine⟨h,?_⟩
  simp only[bad,Bl,emp,ByteArray.size];simp
 ·rename_i q
  simp only[Hr,Ey,Bool.not_eq_false] at q
  have h1:=s8f q.2
  have h2:=q2k q.2
  refine⟨⟨?_,?_⟩,?_⟩
  ·simp only;omega
  ·simp only;omega
  ·simp only[bad,Br,Bk];omega
theorem q97 {s:Hs} {c:Cur} (h:inT s c):inT s (r41 s c).2∧c.1+1≤(r41 s c).2.1+bad (r41 s c).2 1:=by
 unfold r41
 split
 ·refine⟨h,?_⟩
  simp only[bad,Bl];omega
 ·rename_i q
  simp only[Hr,Decidable.not_not] at q
  unfold inT
  simp only[bad,Br,Bk];omega
theorem u57 (c:Cur) {k:Int} (hk:0≤k):0≤bad c k∧bad c k≤k:=by unfold bad;split<;>omega
theorem r3s {c c' :Cur} (h:c.2=true→c'.2=true) {k:Int} (hk:0≤k):bad c k≤bad c' k:=by
 unfold bad
 by_cases q:c.2=true
 ·rw[Al q,Al (h q)];omega
 ·rw[Ao q];split<;>omega
def p6h {E:Type} (w:E→Nat) (k:Int) (s:Hs) (f:Cur→E×Cur):Prop:= ∀c,inT s c→inT s (f c).2∧c.1+1+(w (f c).1:Int)≤(f c).2.1+bad (f c).2 k
theorem t05 {E:Type} {w:E→Nat} {k:Int} {s:Hs} {f:Cur→E×Cur} (hk:0≤k) (hf:p6h w k s f):∀(n:Nat) (c:Cur) (a:Hu E),inT s c→
 inT s (u10 f n c a).2∧c.1+((u10 f n c a).1.length+((u10 f n c a).1.map w).sum:Nat)≤(u10 f n c a).2.1+(a.length+(a.map w).sum:Nat)+bad (u10 f n c a).2 k
 | 0,c,a,h=>⟨h,by have:=u57 (u10 f 0 c a).2 hk;simp only[u10] at*;omega⟩
 | n+1,c,a,h=>by
  simp only[u10]
  split
  ·exact⟨h,by have:=u57 c hk;simp only;omega⟩
  ·obtain⟨h1,h2⟩:=hf c h
   obtain⟨h3,h4⟩:=t05 hk hf n (f c).2 (a++ [(f c).1]) h1
   refine⟨h3,?_⟩
   have e1:(a++ [(f c).1]).length=a.length+1:=by simp
   have e2:((a++ [(f c).1]).map w).sum=(a.map w).sum+w (f c).1:=by simp
   rw[e1,e2] at h4
   have hm:bad (f c).2 k≤bad (u10 f n (f c).2 (a++ [(f c).1])).2 k∧(bad (f c).2 k≠0→u10 f n (f c).2 (a++ [(f c).1])=(a++ [(f c).1],(f c).2)):=by
    by_cases q:(f c).2.2=true
    ·rw[t04 q];exact⟨Bv _,fun _=>rfl⟩
    ·have:bad (f c).2 k=0:=by unfold bad;rw[Ao q]
     rw[this];exact⟨(u57 _ hk).1,fun h=>absurd rfl h⟩
   by_cases z:bad (f c).2 k=0
   ·omega
   ·have e:=hm.2 z
    rw[e]
    simp only[e1,e2]
    omega
theorem s8c (s:Hs):p6h u8f.wt 2 s (q5g s):=fun c h=>by
 obtain⟨h1,h2⟩:=u5m h
 obtain⟨h3,h4⟩:=u5m h1
 have b1:=r3s (c:=(u1y s c).2) (c' :=(u1y s (u1y s c).2).2) s10 (k:=1) (by omega)
 have b2:bad (u1y s (u1y s c).2).2 2=2*bad (u1y s (u1y s c).2).2 1:=by unfold bad;split<;>omega
 refine⟨h3,?_⟩
 have e:u8f.wt (q5g s c).1=(u1y s c).1.size+(u1y s (u1y s c).2).1.size:=rfl
 have e2:(q5g s c).2=(u1y s (u1y s c).2).2:=rfl
 rw[e,e2];omega
theorem r4j (s:Hs):p6h u1x.wt 3 s (rWr s):=fun c h=>by
 obtain⟨h1,h2⟩:=u5m h
 obtain⟨h3,h4⟩:=u5m h1
 obtain⟨h5,h6⟩:=q97 h3
 have b1:=r3s (c:=(u1y s c).2) (c' :=(u1y s (u1y s c).2).2) s10 (k:=1) (by omega)
 have b2:=r3s (c:=(u1y s (u1y s c).2).2) (c' :=(r41 s (u1y s (u1y s c).2).2).2) r4i (k:=1) (by omega)
 have b3:bad (r41 s (u1y s (u1y s c).2).2).2 3=3*bad (r41 s (u1y s (u1y s c).2).2).2 1:=by unfold bad;split<;>omega
 refine⟨h5,?_⟩
 have e:u1x.wt (rWr s c).1=(u1y s c).1.size+((u1y s (u1y s c).2).1.size+0):=rfl
 have e2:(rWr s c).2=(r41 s (u1y s (u1y s c).2).2).2:=rfl
 rw[e,e2];omega
theorem s8e (s:Hs):p6h u0d.wt 4 s (q5i s):=fun c h=>by
 obtain⟨h1,h2⟩:=r4j s c h
 obtain⟨h3,h4,h5,h6⟩:=u1k h1
 have b1:=r3s (c:=(rWr s c).2) (c' :=(u1u s (rWr s c).2).2) u6z (k:=3) (by omega)
 have b3:bad (u1u s (rWr s c).2).2 4=bad (u1u s (rWr s c).2).2 1+bad (u1u s (rWr s c).2).2 3:=by unfold bad;split<;>omega
 refine⟨h3,?_⟩
 have e:u0d.wt (q5i s c).1=u1x.wt (rWr s c).1:=rfl
 have e2:(q5i s c).2=(u1u s (rWr s c).2).2:=rfl
 rw[e,e2];omega
theorem r99 (m:Nat) (s:Hs):p6h u1b.wt 20 s (r8e m s):=fun c h=>by
 unfold r8e
 simp only
 obtain⟨a1,a2,a3,a4⟩:=u1k h
 generalize hA:u1u s c=A at a1 a2 a3 a4 ⊢
 obtain⟨b1,b2,b3,b4⟩:=u1k a1
 have mB:A.2.2=true→(u1u s A.2).2.2=true:=u6z
 generalize hB:u1u s A.2=B at b1 b2 b3 b4 mB ⊢
 obtain⟨d1,d2,d3,d4⟩:=u1k b1
 have mD:B.2.2=true→(u1u s B.2).2.2=true:=u6z
 generalize hD:u1u s B.2=D at d1 d2 d3 d4 mD ⊢
 obtain⟨e1,e2,e3,e4⟩:=u1k d1
 have mE:D.2.2=true→(u1u s D.2).2.2=true:=u6z
 generalize hE:u1u s D.2=E at e1 e2 e3 e4 mE ⊢
 obtain⟨f1,f2,f3,f4⟩:=u1k e1
 have mF:E.2.2=true→(u1u s E.2).2.2=true:=u6z
 generalize hF:u1u s E.2=F at f1 f2 f3 f4 mF ⊢
 obtain⟨g1,g2⟩:=t05 (by omega) (s8c s) (min F.1.toNat m) F.2 [] f1
 have mG:F.2.2=true→(u10 (q5g s) (min F.1.toNat m) F.2 []).2.2=true:=fun q=>by rw[t04 q];exact q
 generalize hG:u10 (q5g s) (min F.1.toNat m) F.2 [] =G at g1 g2 mG ⊢
 obtain⟨k1,k2,k3,k4⟩:=u1k g1
 have mK:G.2.2=true→(u1u s G.2).2.2=true:=u6z
 generalize hK:u1u s G.2=K at k1 k2 k3 k4 mK ⊢
 obtain⟨l1,l2⟩:=t05 (by omega) (r4j s) (min K.1.toNat m) K.2 [] k1
 have mL:K.2.2=true→(u10 (rWr s) (min K.1.toNat m) K.2 []).2.2=true:=fun q=>by rw[t04 q];exact q
 generalize hL:u10 (rWr s) (min K.1.toNat m) K.2 [] =L at l1 l2 mL ⊢
 obtain⟨o1,o2⟩:=q97 l1
 have mO:L.2.2=true→(r41 s L.2).2.2=true:=r4i
 generalize hO:r41 s L.2=O at o1 o2 mO ⊢
 obtain⟨p1,p2⟩:=u5m o1
 have mP:O.2.2=true→(u1y s O.2).2.2=true:=s10
 generalize hP:u1y s O.2=P at p1 p2 mP ⊢
 refine⟨p1,?_⟩
 have e:u1b.wt (A.1,B.1,D.1,E.1,G.1,L.1,O.1,P.1)=0+(0+(0+(0+((Ty.sl u8f).wt G.1+((Ty.sl u1x).wt L.1+(0+P.1.size)))))):=rfl
 have eG:(Ty.sl u8f).wt G.1=G.1.length+(G.1.map u8f.wt).sum:=rfl
 have eL:(Ty.sl u1x).wt L.1=L.1.length+(L.1.map u1x.wt).sum:=rfl
 simp only[Cc,Eh,Gq] at g2 l2
 rw[e,eG,eL]
 by_cases q:P.2.2=true
 ·have:bad P.2 20=20:=by unfold bad;rw[Al q]
  rw[this]
  have t1:=(u57 A.2 (k:=1) (by omega)).2
  have t2:=(u57 B.2 (k:=1) (by omega)).2
  have t3:=(u57 D.2 (k:=1) (by omega)).2
  have t4:=(u57 E.2 (k:=1) (by omega)).2
  have t5:=(u57 F.2 (k:=1) (by omega)).2
  have t6:=(u57 G.2 (k:=2) (by omega)).2
  have t7:=(u57 K.2 (k:=1) (by omega)).2
  have t8:=(u57 L.2 (k:=3) (by omega)).2
  have t9:=(u57 O.2 (k:=1) (by omega)).2
  have t10:=(u57 P.2 (k:=1) (by omega)).2
  omega
 ·have zP:P.2.2=false:=by simpa using q
  have z:∀ {x y:Cur},(x.2=true→y.2=true)→y.2=false→x.2=false:=fun {x y} i j=>by
   cases w:x.2
   ·rfl
   ·rw[i w] at j;cases j
  have zO:=z mP zP
  have zL:=z mO zO
  have zK:=z mL zL
  have zG:=z mK zK
  have zF:=z mG zG
  have zE:=z mF zF
  have zD:=z mE zE
  have zB:=z mD zD
  have zA:=z mB zB
  simp only[bad,zP,zO,zL,zK,zG,zF,zE,zD,zB,zA,Br,Bk] at*
  omega
theorem s1z (m:Nat) (s:Hs):p6h u1b.wt 20 s (u4a m s):=fun c h=>by
 obtain⟨h1,h2⟩:=r99 m s c h
 refine⟨h1,?_⟩
 have:bad (r8e m s c).2 20≤bad (u4a m s c).2 20:=r3s (fun q=>by unfold u4a;simp only[q,Dx]) (by omega)
 have e1:(u4a m s c).1=(r8e m s c).1:=rfl
 have e2:(u4a m s c).2.1=(r8e m s c).2.1:=rfl
 rw[e1,e2];omega
end
section
theorem t19 {s:Hs} (c:Cur) (hs:s.size≤u0l):u02 (s,c)=some ((u1u s c).1,s,(u1u s c).2):=by
 rw[r5e];unfold s0v u1u
 simp only[r58 s c.1 hs,zOb]
 cases h1:c.2
 ·cases h2:(u0q s c.1).2.2<;>simp
 ·simp
theorem t5y {s:Hs} (c:Cur) (hs:s.size≤u0l):u1m (s,c)=some ((u1y s c).1,s,(u1y s c).2):=by
 rw[r30];unfold t84 u1y
 simp only[q0x s c.1 hs,zOb]
 cases h1:c.2
 ·cases h2:(u0p s c.1).2.2
  ·simp[emp]
  ·simp
 ·simp[emp]
theorem gt1 (n:Nat):decide ((n:Int) >1)=decide (1<n):=by simp;omega
theorem eq1 (n:Nat):decide ((n:Int)=1)=decide (n=1):=by simp;omega
theorem r38 {s:Hs} (c:Cur) (hs:s.size≤u0l):u3p (s,c)=some ((r41 s c).1,s,(r41 s c).2):=by
 have hb:u0l=1099511627776:=rfl
 rw[r3z];unfold t83 r41
 simp only[r4y]
 rw[y4y (n:=(s.size:Int) - 1) (by omega) (by omega)]
 cases h1:c.2
 ·by_cases h2:0≤c.1∧c.1<(s.size:Int)
  ·obtain⟨k,hk⟩:∃k:Nat,c.1=k:=⟨c.1.toNat,by omega⟩
   have e1:s82 c.1 0 ((s.size:Int) - 1)=true:=by rw[s7w];exact Bb (by omega)
   have e2:IntKind.i64.wrap (IntKind.i64.wrap (c.1+1) - 1)=c.1:=by rw[y4y (n:=c.1+1) (by omega) (by omega),y4y (by omega) (by omega)];omega
   have e3:IntKind.i64.wrap (c.1+1)=c.1+1:=y4y (by omega) (by omega)
   rw[hk] at e1 e2 e3 ⊢
   have e4:IntKind.i64.wrap (k:Int)=k:=y4y (by omega) (by omega)
   have e5:IntKind.i64.wrap ((k:Int)+1 - 1)=k:=by rw[y4y (by omega) (by omega)];omega
   simp only[e1,e2,e3,e5,Aa,zOb,Ap,y7t (show k<s.size by omega),Ad,zTn,gt1,eq1]
   rw[show(s.data.toList.getD k 0).toNat=u4w s k from rfl]
   by_cases h3:1<u4w s k
   ·simp[h3]
   ·have h3' :u4w s k≤1:=by omega
    have h4:((k:Int)<(s.size:Int)):=by omega
    simp[h3,h3',show k<s.size by omega,e4,y7t (show k<s.size by omega)]
  ·have e1:s82 c.1 0 ((s.size:Int) - 1)=false:=by rw[s7w];exact A7 (by omega)
   simp only[e1,Aa,zOb,Bh,Ad]
   rw[Al (.inr (.inl h2))]
 ·simp
theorem t5q {E X R U:Type} {s:Hs} (W:X→Ht (R⊕U)) (mk:Cur→Hu E→Int→X) (res:Cur→Hu E→R) (f:Cur→E×Cur) (N:Nat)
 (hf:∀c,inT s c→inT s (f c).2)
 (hend:∀c a (i:Nat),(N≤i∨c.2=true)→W (mk c a (i:Int))=some (.inl (res c a)))
 (hstep:∀c a (i:Nat),i<N→c.2=false→inT s c→a.length≤i→W (mk c a (i:Int))=W (mk (f c).2 (a++ [(f c).1]) ((i+1:Nat):Int))):
 ∀(k i:Nat) c a,i+k=N→inT s c→a.length≤i→W (mk c a (i:Int))=some (.inl (res (u10 f k c a).2 (u10 f k c a).1)):=by
 intro k
 induction k with
 | zero=>intro i c a hi hc ha;exact hend c a i (.inl (by omega))
 | succ k ih=>
  intro i c a hi hc ha
  simp only[u10]
  split
  ·rename_i q;exact hend c a i (.inr q)
  ·rename_i q
   rw[hstep c a i (by omega) (by simpa using q) hc ha,ih (i+1) _ _ (by omega) (hf c hc) (by simp;omega)]
theorem r3u {n:Int} {i:Nat} {c:Cur} (h:n.toNat≤i∨c.2=true):((bif decide ((i:Int)<n) then some (!c.2) else some false:Ht Bool))=some false:=by
 rcases h with h | h
 ·rw[A7 (by omega)];rfl
 ·rw[h];cases decide ((i:Int)<n)<;>rfl
theorem s7m {n:Int} {i:Nat} {c:Cur} (h:i<n.toNat) (hc:c.2=false):((bif decide ((i:Int)<n) then some (!c.2) else some false:Ht Bool))=some true:=by
 rw[Bb (by omega),hc];rfl
theorem s7u {E:Type} {w:E→Nat} {k:Int} {s:Hs} {f:Cur→E×Cur} (h:p6h w k s f):∀c,inT s c→inT s (f c).2:=fun c hc=>(h c hc).1
theorem p3e {s:Hs} (hs:s.size≤u0l) (t:u0j) (ht:t.2.2.2.2.1= []) {c:Cur} (hc:inT s c):
 u2g ((s,c),t,())=some ((s,(u10 (q5g s) (min (u1u s c).1.toNat 1000000000) (u1u s c).2 []).2),
  (t.1,t.2.1,t.2.2.1,t.2.2.2.1,(u10 (q5g s) (min (u1u s c).1.toNat 1000000000) (u1u s c).2 []).1,t.2.2.2.2.2),()):=by
 obtain⟨h1,h2,h3,h4⟩:=u1k hc
 rw[t0u];unfold u4f
 simp only
 rw[t19 c hs]
 simp only[zOb]
 generalize u1u s c=y at h1 h2 h3 h4 ⊢
 have L:=t5q (s:=s) u00 (fun(c:Cur) (a:Hu t80) i=>((s,c),(((t.1,t.2.1,t.2.2.1,t.2.2.2.1,a,t.2.2.2.2.2):u0j),()),y.1,i))
  (fun(c:Cur) (a:Hu t80)=>((s,c),((t.1,t.2.1,t.2.2.1,t.2.2.2.1,a,t.2.2.2.2.2):u0j),())) (q5g s) y.1.toNat (s7u (s8c s))
  (fun c a i h=>by rw[u3t];simp only[u1i];rw[r3u h];rfl)
  (fun c a i h hc2 hin ha=>by
   rw[u3t];simp only[u1i];rw[s7m h hc2]
   simp only[zOb,Ad]
   rw[r1x];unfold t7g
   simp only
   rw[t5y c hs]
   simp only[zOb]
   rw[t5y _ hs]
   simp only[zOb]
   rw[q0s (by simp;omega),y7l (by omega)]
   rfl) y.1.toNat 0 y.2 [] (by omega) h1 (by simp)
 rw[show min y.1.toNat 1000000000=y.1.toNat by omega]
 obtain⟨t1,t2,t3,t4,t5,t6⟩:=t
 simp only at ht
 subst ht
 have L' :u00 ((s,y.2),(((t1,t2,t3,t4, [],t6):u0j),()),y.1,0)=some (.inl ((s,(u10 (q5g s) y.1.toNat y.2 []).2),((t1,t2,t3,t4,(u10 (q5g s) y.1.toNat y.2 []).1,t6):u0j),())):=L
 rw[L'];rfl
theorem p5g {s:Hs} (hs:s.size≤u0l) (t:u0j) (ht:t.2.2.2.2.2.1= []) {c:Cur} (hc:inT s c):
 u2h ((s,c),(),t)=some ((s,(u10 (rWr s) (min (u1u s c).1.toNat 1000000000) (u1u s c).2 []).2),(),
  (t.1,t.2.1,t.2.2.1,t.2.2.2.1,t.2.2.2.2.1,(u10 (rWr s) (min (u1u s c).1.toNat 1000000000) (u1u s c).2 []).1,t.2.2.2.2.2.2)):=by
 obtain⟨h1,h2,h3,h4⟩:=u1k hc
 rw[t0v];unfold u4g
 simp only
 rw[t19 c hs]
 simp only[zOb]
 generalize u1u s c=y at h1 h2 h3 h4 ⊢
 have L:=t5q (s:=s) u01 (fun(c:Cur) (a:Hu WrT) i=>((s,c),((),((t.1,t.2.1,t.2.2.1,t.2.2.2.1,t.2.2.2.2.1,a,t.2.2.2.2.2.2):u0j)),y.1,i))
  (fun(c:Cur) (a:Hu WrT)=>((s,c),(),((t.1,t.2.1,t.2.2.1,t.2.2.2.1,t.2.2.2.2.1,a,t.2.2.2.2.2.2):u0j))) (rWr s) y.1.toNat (s7u (r4j s))
  (fun c a i h=>by rw[u3u];simp only[u1j];rw[r3u h];rfl)
  (fun c a i h hc2 hin ha=>by
   rw[u3u];simp only[u1j];rw[s7m h hc2]
   simp only[zOb,Ad]
   rw[r1y];unfold t7h
   simp only
   rw[t5y c hs]
   simp only[zOb]
   rw[t5y _ hs]
   simp only[zOb]
   rw[r38 _ hs]
   simp only[zOb]
   rw[q0s (by simp;omega),y7l (by omega)]
   rfl) y.1.toNat 0 y.2 [] (by omega) h1 (by simp)
 rw[show min y.1.toNat 1000000000=y.1.toNat by omega]
 obtain⟨t1,t2,t3,t4,t5,t6,t7⟩:=t
 simp only at ht
 subst ht
 have L' :u01 ((s,y.2),((),((t1,t2,t3,t4,t5, [],t7):u0j)),y.1,0)=some (.inl ((s,(u10 (rWr s) y.1.toNat y.2 []).2),(),((t1,t2,t3,t4,t5,(u10 (rWr s) y.1.toNat y.2 []).1,t7):u0j))):=L
 rw[L'];rfl
theorem q5r {s:Hs} (hs:s.size≤1048576) {c:Cur} (hc:inT s c):u6a (s,c)=some ((u4a 1000000000 s c).1,s,(u4a 1000000000 s c).2):=by
 have hb:u0l=1099511627776:=rfl
 have hs' :s.size≤u0l:=by omega
 have hw:=r99 1000000000 s c hc
 have hin:=hc
 unfold inT at hin
 have hwt:u1b.wt (r8e 1000000000 s c).1≤u0l:=by
  have h1:=hw.1
  unfold inT at h1
  have:=(u57 (r8e 1000000000 s c).2 (k:=20) (by omega)).2
  have:=hw.2
  omega
 have hk:=s0q _ hwt
 rw[r5f];unfold s0w
 unfold u4a
 unfold r8e at hk ⊢
 simp only at hk ⊢
 rw[t19 c hs']
 simp only[zOb]
 have i1:=(u1k hc).1
 rw[t19 _ hs']
 simp only[zOb]
 have i2:=(u1k i1).1
 rw[t19 _ hs']
 simp only[zOb]
 have i3:=(u1k i2).1
 rw[t19 _ hs']
 simp only[zOb]
 have i4:=(u1k i3).1
 rw[p3e hs' _ rfl i4]
 simp only[zOb]
 have i5:=(t05 (by omega) (s8c s) (min (u1u s (u1u s (u1u s (u1u s (u1u s c).2).2).2).2).1.toNat 1000000000) (u1u s (u1u s (u1u s (u1u s (u1u s c).2).2).2).2).2 [] (u1k i4).1).1
 rw[p5g hs' _ rfl i5]
 simp only[zOb]
 rw[r38 _ hs']
 simp only[zOb]
 rw[t5y _ hs']
 simp only[zOb]
 rw[hk]
 simp only[zOb]
 generalize u1y s _=z
 cases h:z.2.2
 ·simp
 ·simp
end
section
def p5w:Lim:=⟨1000000000,1000000000,1000000000,1000000000⟩
theorem q8x:p5w.ok:=⟨by decide,by decide,by decide,by decide⟩
theorem q5h {m k:Nat} {s:Hs} {c:Cur} (h:inT s c):inT s (u7t m k s c).2∧c.1+((Ty.sl u1b).wt (u7t m k s c).1:Nat)≤(u7t m k s c).2.1+20+1:=by
 obtain⟨h1,h2,h3,h4⟩:=u1k h
 obtain⟨g1,g2⟩:=t05 (by omega) (s1z m s) (min (u1u s c).1.toNat k) (u1u s c).2 [] h1
 refine⟨g1,?_⟩
 have e:(Ty.sl u1b).wt (u7t m k s c).1=(u7t m k s c).1.length+((u7t m k s c).1.map u1b.wt).sum:=rfl
 rw[e]
 have t1:=(u57 (u1u s c).2 (k:=1) (by omega)).2
 have t2:=(u57 (u10 (u4a m s) (min (u1u s c).1.toNat k) (u1u s c).2 []).2 (k:=20) (by omega)).2
 unfold u7t
 simp only[Cc,Eh,Gq] at g2
 omega
theorem q5f (m:Lim) {s:Hs} {c:Cur} (h:inT s c):inT s (t8e m s c).2∧(p73.wt (t8e m s c).1:Int)≤(s.size:Int)+100:=by
 unfold t8e
 simp only
 obtain⟨a1,a2,a3,a4⟩:=u1k h
 obtain⟨b1,b2,b3,b4⟩:=u1k a1
 obtain⟨d1,d2,d3,d4⟩:=u1k b1
 obtain⟨g1,g2⟩:=t05 (by omega) (s8e s) (min (u1u s (u1u s (u1u s c).2).2).1.toNat m.v) (u1u s (u1u s (u1u s c).2).2).2 [] d1
 obtain⟨p1,p2⟩:=q5h (m:=m.t) (k:=m.p) g1
 obtain⟨q1,q2⟩:=q5h (m:=m.t) (k:=m.r) p1
 refine⟨q1,?_⟩
 have t1:=(u57 (u10 (q5i s) (min (u1u s (u1u s (u1u s c).2).2).1.toNat m.v) (u1u s (u1u s (u1u s c).2).2).2 []).2 (k:=4) (by omega)).2
 have u1:=(u57 (u1u s c).2 (k:=1) (by omega)).2
 have u2:=(u57 (u1u s (u1u s c).2).2 (k:=1) (by omega)).2
 have u3:=(u57 (u1u s (u1u s (u1u s c).2).2).2 (k:=1) (by omega)).2
 generalize u10 (q5i s) (min (u1u s (u1u s (u1u s c).2).2).1.toNat m.v) (u1u s (u1u s (u1u s c).2).2).2 [] =vs at*
 simp only[Cc,Eh,Gq] at g2
 have e:=r1v (vs.1,(u7t m.t m.p s vs.2).1,(u7t m.t m.r s (u7t m.t m.p s vs.2).2).1,(u1u s c).1,(u1u s (u1u s c).2).1)
 simp only at e
 have eV:(Ty.sl u0d).wt vs.1=vs.1.length+(vs.1.map u0d.wt).sum:=rfl
 unfold inT at q1 h
 rw[e,eV]
 omega
theorem p3o {s:Hs} (hs:s.size≤u0l) (b:u0i) (ht:b.1= []) {c:Cur} (hc:inT s c):
 u15 ((s,c),(),b)=some ((s,(u10 (q5i s) (min (u1u s c).1.toNat 1000000000) (u1u s c).2 []).2),(),
  ((u10 (q5i s) (min (u1u s c).1.toNat 1000000000) (u1u s c).2 []).1,b.2)):=by
 obtain⟨h1,h2,h3,h4⟩:=u1k hc
 rw[t0m];unfold u36
 simp only
 rw[t19 c hs]
 simp only[zOb]
 generalize u1u s c=y at h1 h2 h3 h4 ⊢
 have L:=t5q (s:=s) u0v (fun(c:Cur) (a:Hu u2b) i=>((s,c),((),((a,b.2):u0i)),y.1,i))
  (fun(c:Cur) (a:Hu u2b)=>((s,c),(),((a,b.2):u0i))) (q5i s) y.1.toNat (s7u (s8e s))
  (fun c a i h=>by rw[u3i];simp only[u08];rw[r3u h];rfl)
  (fun c a i h hc2 hin ha=>by
   rw[u3i];simp only[u08];rw[s7m h hc2]
   simp only[zOb,Ad]
   rw[s9f];unfold t6i
   simp only
   rw[t5y c hs]
   simp only[zOb]
   rw[t5y _ hs]
   simp only[zOb]
   rw[r38 _ hs]
   simp only[zOb]
   rw[t19 _ hs]
   simp only[zOb]
   rw[q0s (by simp;omega),y7l (by omega)]
   rfl) y.1.toNat 0 y.2 [] (by omega) h1 (by simp)
 rw[show min y.1.toNat 1000000000=y.1.toNat by omega]
 obtain⟨b1,b2⟩:=b
 simp only at ht
 subst ht
 have L' :u0v ((s,y.2),((),(([],b2):u0i)),y.1,0)=some (.inl ((s,(u10 (q5i s) y.1.toNat y.2 []).2),(),(((u10 (q5i s) y.1.toNat y.2 []).1,b2):u0i))):=L
 rw[L'];rfl
theorem p23 {s:Hs} (hs:s.size≤1048576) (b:u0i) (ht:b.2.1= []) {c:Cur} (hc:inT s c):
 u16 ((s,c),b,())=some ((s,(u7t 1000000000 1000000000 s c).2),(b.1,(u7t 1000000000 1000000000 s c).1,b.2.2),()):=by
 have hb:u0l=1099511627776:=rfl
 obtain⟨h1,h2,h3,h4⟩:=u1k hc
 rw[t0n];unfold u37 u7t
 simp only
 rw[t19 c (by omega)]
 simp only[zOb]
 generalize u1u s c=y at h1 h2 h3 h4 ⊢
 have L:=t5q (s:=s) u0w (fun(c:Cur) (a:Hu u0j) i=>((s,c),(((b.1,a,b.2.2):u0i),()),y.1,i))
  (fun(c:Cur) (a:Hu u0j)=>((s,c),((b.1,a,b.2.2):u0i),())) (u4a 1000000000 s) y.1.toNat (s7u (s1z _ s))
  (fun c a i h=>by rw[u3j];simp only[u09];rw[r3u h];rfl)
  (fun c a i h hc2 hin ha=>by
   rw[u3j];simp only[u09];rw[s7m h hc2]
   simp only[zOb,Ad]
   rw[s9g];unfold t6j
   simp only
   rw[q5r hs hin]
   simp only[zOb]
   rw[q0s (by simp;omega),y7l (by omega)];rfl) y.1.toNat 0 y.2 [] (by omega) h1 (by simp)
 rw[show min y.1.toNat 1000000000=y.1.toNat by omega]
 obtain⟨b1,b2,b3⟩:=b
 simp only at ht
 subst ht
 have L' :u0w ((s,y.2),(((b1, [],b3):u0i),()),y.1,0)=some (.inl ((s,(u10 (u4a 1000000000 s) y.1.toNat y.2 []).2),((b1,(u10 (u4a 1000000000 s) y.1.toNat y.2 []).1,b3):u0i),())):=L
 rw[L'];rfl
theorem p1i {s:Hs} (hs:s.size≤1048576) (b:u0i) (ht:b.2.2.1= []) {c:Cur} (hc:inT s c):
 u17 ((s,c),b,())=some ((s,(u7t 1000000000 1000000000 s c).2),(b.1,b.2.1,(u7t 1000000000 1000000000 s c).1,b.2.2.2),()):=by
 have hb:u0l=1099511627776:=rfl
 obtain⟨h1,h2,h3,h4⟩:=u1k hc
 rw[t0o];unfold u38 u7t
 simp only
 rw[t19 c (by omega)]
 simp only[zOb]
 generalize u1u s c=y at h1 h2 h3 h4 ⊢
 have L:=t5q (s:=s) u0x (fun(c:Cur) (a:Hu u0j) i=>((s,c),(((b.1,b.2.1,a,b.2.2.2):u0i),()),y.1,i))
  (fun(c:Cur) (a:Hu u0j)=>((s,c),((b.1,b.2.1,a,b.2.2.2):u0i),())) (u4a 1000000000 s) y.1.toNat (s7u (s1z _ s))
  (fun c a i h=>by rw[u3k];simp only[u1a];rw[r3u h];rfl)
  (fun c a i h hc2 hin ha=>by
   rw[u3k];simp only[u1a];rw[s7m h hc2]
   simp only[zOb,Ad]
   rw[s9h];unfold t6k
   simp only
   rw[q5r hs hin]
   simp only[zOb]
   rw[q0s (by simp;omega),y7l (by omega)];rfl) y.1.toNat 0 y.2 [] (by omega) h1 (by simp)
 rw[show min y.1.toNat 1000000000=y.1.toNat by omega]
 obtain⟨b1,b2,b3,b4⟩:=b
 simp only at ht
 subst ht
 have L' :u0x ((s,y.2),(((b1,b2, [],b4):u0i),()),y.1,0)=some (.inl ((s,(u10 (u4a 1000000000 s) y.1.toNat y.2 []).2),((b1,b2,(u10 (u4a 1000000000 s) y.1.toNat y.2 []).1,b4):u0i),())):=L
 rw[L'];rfl
theorem q6m {s:Hs} (hs:s.size≤1048576) {c:Cur} (hc:inT s c):u8i (s,c)=some ((u4x p5w s c).1,s,(u4x p5w s c).2):=by
 have hb:u0l=1099511627776:=rfl
 have hs' :s.size≤u0l:=by omega
 have hw:=q5f p5w (s:=s) hc
 have hk:=r1s (t8e p5w s c).1 (by have:=hw.2;omega)
 rw[r3y];unfold t82
 unfold u4x
 unfold t8e at hk ⊢
 simp only at hk ⊢
 rw[t19 c hs']
 simp only[zOb]
 have i1:=(u1k hc).1
 rw[t19 _ hs']
 simp only[zOb]
 have i2:=(u1k i1).1
 rw[p3o hs' _ rfl i2]
 simp only[zOb]
 have i3:=(t05 (by omega) (s8e s) (min (u1u s (u1u s (u1u s c).2).2).1.toNat 1000000000) (u1u s (u1u s (u1u s c).2).2).2 [] (u1k i2).1).1
 rw[p23 hs _ rfl i3]
 simp only[zOb]
 have i4:=(q5h (m:=1000000000) (k:=1000000000) i3).1
 rw[p1i hs _ rfl i4]
 simp only[zOb]
 rw[show p5w.v=1000000000 from rfl,show p5w.t=1000000000 from rfl,show p5w.p=1000000000 from rfl,show p5w.r=1000000000 from rfl] at hk ⊢
 rw[hk]
 simp only[zOb]
 generalize u7t 1000000000 1000000000 s (u7t 1000000000 1000000000 s _).2=z
 cases h:z.2.2
 ·simp
 ·simp
end
section
theorem t3j {s:Hs} (c:Cur) (hs:s.size≤u0l):u12 (s,c)=some ((u1u s c).1,s,(u1u s c).2):=by
 rw[q42];unfold r3n u1u
 simp only[r59 s c.1 hs,zOb]
 cases h1:c.2
 ·cases h2:(u0q s c.1).2.2<;>simp
 ·simp
theorem t5z {s:Hs} (c:Cur) (hs:s.size≤u0l):u1h (s,c)=some ((u1y s c).1,s,(u1y s c).2):=by
 rw[r2a];unfold t7n u1y
 simp only[s9o s c.1 hs,zOb]
 cases h1:c.2
 ·cases h2:(u0p s c.1).2.2
  ·simp[emp]
  ·simp
 ·simp[emp]
theorem r39 {s:Hs} {c:Cur} (hc:inT s c) (hs:s.size≤u0l):u4q (s,c)=some ((r41 s c).1,s,(r41 s c).2):=by
 have hb:u0l=1099511627776:=rfl
 unfold inT at hc
 obtain⟨k,hk⟩:∃k:Nat,c.1=k:=⟨c.1.toNat,by omega⟩
 rw[r5o];unfold s05 r41
 simp only[hk]
 cases h1:c.2
 ·by_cases h2:k<s.size
  ·have e1:decide ((k:Int)≥(s.size:Int))=false:=A7 (by omega)
   have e3:IntKind.i64.wrap ((k:Int)+1)=(k:Int)+1:=y4y (by omega) (by omega)
   have e5:IntKind.i64.wrap ((k:Int)+1 - 1)=k:=by rw[y4y (by omega) (by omega)];omega
   rw[e1,e3,e5]
   simp only[Aa,zOb,y7t h2,Ad,zTn,gt1,eq1]
   rw[show(s.data.toList.getD k 0).toNat=u4w s k from rfl]
   by_cases h3:1<u4w s k
   ·simp[h3]
   ·have h3' :u4w s k≤1:=by omega
    simp[h3,h3',h2]
  ·have e1:decide ((k:Int)≥(s.size:Int))=true:=Bb (by omega)
   rw[e1]
   simp only[Aa,zOb,Ad]
   rw[Al (.inr (.inl (by omega)))]
 ·simp
theorem r8v {n k:Int} {i:Nat} {c:Cur} (h:min n.toNat k.toNat≤i∨c.2=true):((bif decide ((i:Int)<n) then(bif decide ((i:Int)<k) then some (!c.2) else some false) else some false:Ht Bool))=some false:=by
 rcases h with h | h
 ·by_cases q:(i:Int)<n
  ·rw[Bb q,A7 (show ¬(i:Int)<k by omega)];rfl
  ·rw[A7 q];rfl
 ·rw[h];cases decide ((i:Int)<n)<;>cases decide ((i:Int)<k)<;>rfl
theorem r48 {n k:Int} {i:Nat} {c:Cur} (h:i<min n.toNat k.toNat) (hc:c.2=false):((bif decide ((i:Int)<n) then(bif decide ((i:Int)<k) then some (!c.2) else some false) else some false:Ht Bool))=some true:=by
 rw[Bb (show(i:Int)<n by omega),Bb (show(i:Int)<k by omega),hc];rfl
theorem p3f {s:Hs} (hs:s.size≤u0l) (z t:u0j) (n:Int) {c:Cur} (hc:inT s c) (ht:t.2.2.2.2.1= []):
 u7i (z,(s,c),t,n,0)=some (.inl (z,(s,(u10 (q5g s) (min n.toNat 10) c []).2),(t.1,t.2.1,t.2.2.1,t.2.2.2.1,(u10 (q5g s) (min n.toNat 10) c []).1,t.2.2.2.2.2))):=by
 have L:=t5q (s:=s) u7i (fun(c:Cur) (a:Hu t80) i=>(z,(s,c),((t.1,t.2.1,t.2.2.1,t.2.2.2.1,a,t.2.2.2.2.2):u0j),n,i))
  (fun(c:Cur) (a:Hu t80)=>(z,(s,c),((t.1,t.2.1,t.2.2.1,t.2.2.2.1,a,t.2.2.2.2.2):u0j))) (q5g s) (min n.toNat 10) (s7u (s8c s))
  (fun c a i h=>by rw[s5w];simp only[t1l];rw[r8v (k:=10) h];rfl)
  (fun c a i h hc2 hin ha=>by
   rw[s5w];simp only[t1l];rw[r48 (k:=10) h hc2]
   simp only[zOb,Ad]
   rw[t5z c hs]
   simp only[zOb]
   rw[t5z _ hs]
   simp only[zOb]
   rw[q0s (by simp;omega),y7l (by omega)]
   rfl) (min n.toNat 10) 0 c [] (by omega) hc (by simp)
 obtain⟨t1,t2,t3,t4,t5,t6⟩:=t
 simp only at ht
 subst ht
 exact L
theorem p5h {s:Hs} (hs:s.size≤u0l) (z t:u0j) (n:Int) {c:Cur} (hc:inT s c) (ht:t.2.2.2.2.2.1= []):
 u53 (z,(s,c),t,n,0)=some (.inl (z,(s,(u10 (rWr s) (min n.toNat 10) c []).2),(t.1,t.2.1,t.2.2.1,t.2.2.2.1,t.2.2.2.2.1,(u10 (rWr s) (min n.toNat 10) c []).1,t.2.2.2.2.2.2))):=by
 have L:=t5q (s:=s) u53 (fun(c:Cur) (a:Hu WrT) i=>(z,(s,c),((t.1,t.2.1,t.2.2.1,t.2.2.2.1,t.2.2.2.2.1,a,t.2.2.2.2.2.2):u0j),n,i))
  (fun(c:Cur) (a:Hu WrT)=>(z,(s,c),((t.1,t.2.1,t.2.2.1,t.2.2.2.1,t.2.2.2.2.1,a,t.2.2.2.2.2.2):u0j))) (rWr s) (min n.toNat 10) (s7u (r4j s))
  (fun c a i h=>by rw[s2g];simp only[u9q];rw[r8v (k:=10) h];rfl)
  (fun c a i h hc2 hin ha=>by
   rw[s2g];simp only[u9q];rw[r48 (k:=10) h hc2]
   simp only[zOb,Ad]
   rw[t5z c hs]
   simp only[zOb]
   rw[t5z _ hs]
   simp only[zOb]
   rw[r39 (u5m (u5m hin).1).1 hs]
   simp only[zOb]
   rw[q0s (by simp;omega),y7l (by omega)]
   rfl) (min n.toNat 10) 0 c [] (by omega) hc (by simp)
 obtain⟨t1,t2,t3,t4,t5,t6,t7⟩:=t
 simp only at ht
 subst ht
 exact L
theorem p0c {s:Hs} (hs:s.size≤1048576) {a:Int} (hc:inT s (a,false)):
 t5d (s,a)=some (if(u4a 10 s (a,false)).2.2=true then(u4e,0,false) else((u4a 10 s (a,false)).1,(u4a 10 s (a,false)).2.1,true)):=by
 have hb:u0l=1099511627776:=rfl
 have hs' :s.size≤u0l:=by omega
 have hw:=r99 10 s (a,false) hc
 have hin:=hc
 unfold inT at hin
 simp only at hin
 have hwt:u1b.wt (r8e 10 s (a,false)).1≤u0l:=by
  have h1:=hw.1
  unfold inT at h1
  have:=(u57 (r8e 10 s (a,false)).2 (k:=20) (by omega)).2
  have:=hw.2
  simp only at this
  omega
 have hk:=t2t _ hwt
 rw[q1i];unfold s96
 unfold u4a
 unfold r8e at hk ⊢
 simp only at hk ⊢
 rw[t3j _ hs']
 simp only[zOb]
 have i1:=(u1k hc).1
 rw[t3j _ hs']
 simp only[zOb]
 have i2:=(u1k i1).1
 rw[t3j _ hs']
 simp only[zOb]
 have i3:=(u1k i2).1
 rw[t3j _ hs']
 simp only[zOb]
 have i4:=(u1k i3).1
 rw[t3j _ hs']
 simp only[zOb]
 have i5:=(u1k i4).1
 rw[p3f hs' _ _ _ i5 rfl]
 simp only[zOb]
 have i6:=(t05 (by omega) (s8c s) (min (u1u s (u1u s (u1u s (u1u s (u1u s (a,false)).2).2).2).2).1.toNat 10) (u1u s (u1u s (u1u s (u1u s (u1u s (a,false)).2).2).2).2).2 [] i5).1
 rw[t3j _ hs']
 simp only[zOb]
 have i7:=(u1k i6).1
 rw[p5h hs' _ _ _ i7 rfl]
 simp only[zOb]
 rw[r39 (t05 (by omega) (r4j s) _ _ [] i7).1 hs']
 simp only[zOb]
 rw[t5z _ hs']
 simp only[zOb]
 rw[hk]
 simp only[zOb]
 generalize u1y s _=z
 generalize u6h _=o
 cases h:z.2.2<;>cases o<;>simp[u4e,emp]
theorem q72 {s:Hs} (hs:s.size≤1048576) (m:Nat) (hm:m≤1000) {c:Cur} (hc:inT s c):
 ∃(l:Hu u0j) (c' :Cur),u8k ((s,c),(m:Int))=some (l,s,c')∧inT s c' ∧c'.2=(u7t 10 (m+1) s c).2.2∧c.1+((Ty.sl u1b).wt l:Nat)≤c'.1+22∧(c'.2=false→(l,c')=u7t 10 (m+1) s c):=by
 have hb:u0l=1099511627776:=rfl
 obtain⟨h1,h2,h3,h4⟩:=u1k hc
 rw[r37];unfold t89 u7t
 simp only
 rw[t3j c (by omega)]
 simp only[zOb]
 generalize u1u s c=y at h1 h2 h3 h4 ⊢
 have key:∀(k i:Nat) (d:Cur) (a:Hu u0j),i+k=min y.1.toNat (m+1)→inT s d→a.length≤i→y.2.1+((a.length+(a.map u1b.wt).sum:Nat):Int)≤d.1+bad d 20→
  ∃(r:((Hs×Cur)×Hu u0j)⊕((Hs×Cur)×Hu u0j)) (l:Hu u0j) (c' :Cur),u35 ((s,d),(m:Int),a,y.1,(i:Int))=some r∧(r= .inl ((s,c'),l)∨r= .inr ((s,c'),l))∧inT s c' ∧c'.2=(u10 (u4a 10 s) k d a).2.2∧
   y.2.1+((l.length+(l.map u1b.wt).sum:Nat):Int)≤c'.1+bad c' 20∧(c'.2=false→(l,c')=u10 (u4a 10 s) k d a):=by
  intro k
  induction k with
  | zero=>
   intro i d a hi hd ha hw
   refine⟨_,a,d,?_, .inl rfl,hd,rfl,hw,fun _=>rfl⟩
   rw[u5v];simp only[u23]
   have:(bif decide ((i:Int)<y.1) then(bif decide ((i:Int)≤(m:Int)) then some (!d.2) else some false) else some false:Ht Bool)=some false:=by
    by_cases q:(i:Int)<y.1
    ·rw[Bb q,A7 (show ¬(i:Int)≤m by omega)];rfl
    ·rw[A7 q];rfl
   rw[this];rfl
  | succ k ih=>
   intro i d a hi hd ha hw
   by_cases q:d.2=true
   ·refine⟨_,a,d,?_, .inl rfl,hd,by rw[t04 q],hw,fun z=>by rw[q] at z;cases z⟩
    rw[u5v];simp only[u23]
    have:(bif decide ((i:Int)<y.1) then(bif decide ((i:Int)≤(m:Int)) then some (!d.2) else some false) else some false:Ht Bool)=some false:=by
     rw[q];cases decide ((i:Int)<y.1)<;>cases decide ((i:Int)≤(m:Int))<;>rfl
    rw[this];rfl
   ·have q' :d.2=false:=by simpa using q
    have ed:d=(d.1,false):=by rw[←q']
    have hx:=p0c hs (a:=d.1) (by rw[←ed];exact hd)
    rw[←ed] at hx
    have he:=s1z 10 s d hd
    have hbd:bad d 20=0:=by unfold bad;rw[Ao q]
    have c1:(bif decide ((i:Int)<y.1) then(bif decide ((i:Int)≤(m:Int)) then some (!d.2) else some false) else some false:Ht Bool)=some true:=by
     rw[Bb (show(i:Int)<y.1 by omega),Bb (show(i:Int)≤m by omega),q'];rfl
    simp only[u10]
    rw[Ao q]
    cases z:(u4a 10 s d).2.2
    ·rw[Ao (by rw[z];simp)] at hx
     have hbz:bad (u4a 10 s d).2 20=0:=by unfold bad;rw[Ao (by rw[z];simp)]
     obtain⟨r,l,c',e1,e2,e3,e4,e5,e6⟩:=ih (i+1) (u4a 10 s d).2 (a++ [(u4a 10 s d).1]) (by omega) he.1 (by simp;omega) (by
      have:=he.2
      rw[hbd] at hw
      rw[hbz] at this ⊢
      simp only[Ba,Aw,Dh,C8,Eh,Fn,Ge,Gq]
      omega)
     refine⟨r,l,c',?_,e2,e3,e4,e5,e6⟩
     rw[←e1,u5v];simp only[u23]
     rw[c1]
     simp only[zOb,Ad]
     rw[hx]
     simp only[zOb,Ap,Aa]
     rw[q0s (by simp;omega),y7l (by omega),q']
     have:(u4a 10 s d).2=((u4a 10 s d).2.1,false):=by rw[←z]
     rw[this]
    ·rw[Al z] at hx
     refine⟨_,a,(d.1,true),?_, .inr rfl,hd,by rw[t04 z,z],?_,fun w=>by cases w⟩
     ·rw[u5v];simp only[u23]
      rw[c1]
      simp only[zOb,Ad]
      rw[hx]
      rfl
     ·rw[hbd] at hw
      have:bad ((d.1,true):Cur) 20=20:=rfl
      rw[this];simp only;omega
 have hb0:0≤bad y.2 20:=(u57 _ (by omega)).1
 obtain⟨r,l,c',e1,e2,e3,e4,e5,e6⟩:=key (min y.1.toNat (m+1)) 0 y.2 [] (by omega) h1 (by simp) (by simp only[Cc,Eh,Gq];omega)
 have e1' :u35 ((s,y.2),(m:Int), [],y.1,0)=some r:=e1
 refine⟨l,c',?_,e3,e4,?_,e6⟩
 ·rw[e1']
  rcases e2 with e2 | e2<;>rw[e2] <;>rfl
 ·have e:(Ty.sl u1b).wt l=l.length+(l.map u1b.wt).sum:=rfl
  rw[e]
  have t1:=(u57 y.2 (k:=1) (by omega)).2
  have t2:=(u57 c' (k:=20) (by omega)).2
  omega
def q5z:Lim:=⟨10,130,13,4⟩
theorem q5c:q5z.ok:=⟨by decide,by decide,by decide,by decide⟩
theorem p3p {s:Hs} (hs:s.size≤u0l) (z b:u0i) (n:Int) {c:Cur} (hc:inT s c) (ht:b.1= []):
 u52 (z,(s,c),b,n,0)=some (.inl (z,(s,(u10 (q5i s) (min n.toNat 130) c []).2),((u10 (q5i s) (min n.toNat 130) c []).1,b.2))):=by
 have L:=t5q (s:=s) u52 (fun(c:Cur) (a:Hu u2b) i=>(z,(s,c),((a,b.2):u0i),n,i))
  (fun(c:Cur) (a:Hu u2b)=>(z,(s,c),((a,b.2):u0i))) (q5i s) (min n.toNat 130) (s7u (s8e s))
  (fun c a i h=>by rw[s2f];simp only[u9p];rw[r8v (k:=130) h];rfl)
  (fun c a i h hc2 hin ha=>by
   rw[s2f];simp only[u9p];rw[r48 (k:=130) h hc2]
   simp only[zOb,Ad]
   rw[t5z c hs]
   simp only[zOb]
   rw[t5z _ hs]
   simp only[zOb]
   rw[r39 (u5m (u5m hin).1).1 hs]
   simp only[zOb]
   rw[t3j _ hs]
   simp only[zOb]
   rw[q0s (by simp;omega),y7l (by omega)]
   rfl) (min n.toNat 130) 0 c [] (by omega) hc (by simp)
 obtain⟨b1,b2⟩:=b
 simp only at ht
 subst ht
 exact L
theorem q6n {s:Hs} (hs:s.size≤1048576) {a:Int} (hc:inT s (a,false)):
 u88 (s,a)=some (if(u4x q5z s (a,false)).2.2=true then(u2k,0,false) else((u4x q5z s (a,false)).1,(u4x q5z s (a,false)).2.1,true)):=by
 have hb:u0l=1099511627776:=rfl
 have hs' :s.size≤u0l:=by omega
 have hw:=q5f q5z (s:=s) hc
 have hk:=t2h (t8e q5z s (a,false)).1 (by have:=hw.2;omega)
 rw[r9f];unfold s67
 unfold u4x
 unfold t8e at hk ⊢
 simp only at hk ⊢
 rw[t3j _ hs']
 simp only[zOb]
 have i1:=(u1k hc).1
 rw[t3j _ hs']
 simp only[zOb]
 have i2:=(u1k i1).1
 rw[t3j _ hs']
 simp only[zOb]
 have i3:=(u1k i2).1
 rw[p3p hs' _ _ _ i3 rfl]
 simp only[zOb]
 have i4f:=t05 (by omega) (s8e s) (min (u1u s (u1u s (u1u s (a,false)).2).2).1.toNat 130) (u1u s (u1u s (u1u s (a,false)).2).2).2 [] i3
 rw[show q5z.v=130 from rfl,show q5z.t=10 from rfl,show q5z.p=12+1 from rfl,show q5z.r=3+1 from rfl] at hk ⊢
 generalize hvs:u10 (q5i s) (min (u1u s (u1u s (u1u s (a,false)).2).2).1.toNat 130) (u1u s (u1u s (u1u s (a,false)).2).2).2 [] =vs at hk i4f ⊢
 obtain⟨i4,i4w⟩:=i4f
 obtain⟨l1,d1,e1,e2,e3,e4,e5⟩:=q72 hs 12 (by omega) i4
 obtain⟨l2,d2,f1,f2,f3,f4,f5⟩:=q72 hs 3 (by omega) e2
 rw[show((12:Nat):Int)=12 from rfl] at e1
 rw[show((3:Nat):Int)=3 from rfl] at f1
 rw[e1]
 simp only[zOb]
 rw[f1]
 simp only[zOb]
 cases z:d2.2
 ·have z1:d1.2=false:=by
   cases w:d1.2
   ·rfl
   ·have:(u7t 10 (3+1) s d1).2.2=true:=s8d w
    rw[←f3,z] at this;cases this
  have g1:=e5 z1
  have g2:=f5 z
  rw[←g1]
  rw[←g1] at hk
  simp only at hk ⊢
  rw[←g2]
  rw[←g2] at hk
  simp only at hk ⊢
  rw[hk]
  simp only[zOb,z,Aa,Ci]
  generalize u4v _=o
  cases o<;>simp[u2k]
 ·have zz:(u7t 10 (3+1) s (u7t 10 (12+1) s vs.2).2).2.2=true:=by
   cases w:d1.2
   ·have g1:=e5 w
    rw[←g1]
    show(u7t 10 (3+1) s d1).2.2=true
    rw[←f3];exact z
   ·exact s8d (by rw[←e3];exact w)
  rw[zz]
  simp[u2k]
theorem q3y (t:Hs) (ht:t.size≤u0l):t73 t=some (match u62 t with
 | some s=>(s,true)
 | none=>(emp,false)):=by
 have hb:u0l=1099511627776:=rfl
 rw[r81];unfold s6t u62
 by_cases h4:t.size<4
 ·rw[Bb (by omega),Ao (by omega)];rfl
 ·rw[A7 (by omega),y4y (n:=(t.size:Int) - 4) (by omega) (by omega)]
  have c1:(decide ((0:Int)≤0)&&decide ((0:Int)≤(t.size:Int) - 4)&&decide ((t.size:Int) - 4≤(t.size:Int)))=true:=by simp;omega
  have e1:((t.size:Int) - 4).toNat=t.size - 4:=by omega
  rw[c1,e1,show((0:Int)).toNat=0 from rfl]
  have hz:(t.extract 0 (t.size - 4)).size=t.size - 4:=by simp
  simp only[Aa,Ad]
  rw[t7d _ (by rw[hz];omega)]
  simp only[zOb]
  unfold r67
  rw[hz]
  by_cases h5:t.size - 4≤20000
  ·rw[Al h5]
   simp only[Ap,Aa,zOb]
   by_cases h6:s11 (t.extract 0 (t.size - 4))=t
   ·rw[Al ⟨by omega,h5,h6⟩,y7f.mpr h6];rfl
   ·rw[Ao (fun q=>h6 q.2.2),q89.mpr h6];rfl
  ·rw[Ao h5,Ao (fun q=>h5 q.2.1)];rfl
theorem q7w {t:Hs} (h:4≤t.size):s11 (t.extract 0 (t.size - 4))=t↔t.extract (t.size - 4) t.size=p9j (p61 (t.extract 0 (t.size - 4))):=by
 have e:t.extract 0 (t.size - 4)++t.extract (t.size - 4) t.size=t:=by
  rw[ByteArray.extract_append_extract,Nat.zero_min,Nat.max_eq_right (by omega)]
  exact Fu
 unfold s11
 constructor
 ·intro q
  have:=e.trans q.symm
  exact ByteArray.append_right_inj (t.extract 0 (t.size - 4)) |>.mp this
 ·intro q;rw[←q,e]
theorem p0s (t:Hs) (ht:t.size≤1099511627776):t9r t=some (p61 t):=by
 rw[r6v];unfold s7b
 rw[r6a _ _ ht];rfl
theorem p11 (x:Int):t5g x=some (p9j x):=by
 rw[r04];rfl
theorem r2u (t:Hs) (ht:t.size≤u0l):t3s t=some (match u62 t with
 | some s=>(s,true)
 | none=>(emp,false)):=by
 have hb:u0l=1099511627776:=rfl
 rw[r9j];unfold s7c u62
 rw[y4y (n:=(t.size:Int) - 4) (by omega) (by omega)]
 by_cases h4:t.size<4
 ·rw[Bb (show(t.size:Int) - 4<0 by omega),Ao (by omega)];rfl
 ·rw[A7 (show ¬(t.size:Int) - 4<0 by omega)]
  have c1:(decide ((0:Int)≤0)&&decide ((0:Int)≤(t.size:Int) - 4)&&decide ((t.size:Int) - 4≤(t.size:Int)))=true:=by simp;omega
  have c2:(decide ((0:Int)≤(t.size:Int) - 4)&&decide ((t.size:Int) - 4≤(t.size:Int))&&decide ((t.size:Int)≤(t.size:Int)))=true:=by simp;omega
  have e1:((t.size:Int) - 4).toNat=t.size - 4:=by omega
  rw[c1,c2,e1,show((0:Int)).toNat=0 from rfl,zTn]
  have hz:(t.extract 0 (t.size - 4)).size=t.size - 4:=by simp
  simp only[Aa,Ad]
  by_cases h5:t.size - 4≤20000
  ·rw[A7 (show ¬(t.size:Int) - 4 >20000 by omega),p0s _ (by rw[hz];omega)]
   simp only[zOb,Aa]
   rw[p11]
   simp only[zOb]
   by_cases h6:s11 (t.extract 0 (t.size - 4))=t
   ·rw[Al ⟨by omega,h5,h6⟩,(q7w (by omega)).mp h6,y6l];rfl
   ·rw[Ao (fun q=>h6 q.2.2),q89.mpr (mt (q7w (t:=t) (by omega)).mpr h6)];rfl
  ·rw[Bb (show(t.size:Int) - 4 >20000 by omega),Ao (fun q=>h5 q.2.1)];rfl
end
section
def noR:t8z:=(0,u4e,emp,false,u2k)
def t2p (t:Hs):t8z×Bool:=match u2r t with
 | some r=>(r,true)
 | none=>(noR,false)
theorem p43 {t:Hs} {r:t8z} (h:u0o r=(t,true)):u2r t=some r:=by
 have hr:u3s r=true:=by
  cases q:u3s r with
  | true=>rfl
  | false=>
   unfold u0o at h
   rw[Ao (by simp[q])] at h
   simp at h
 have hR:=p50.mp hr
 rw[u4m hR] at h
 rw[←(Dv h).1]
 exact t9t hR
theorem p42 {t s:Hs} {r:t8z} (hu:u62 t=some s) (h:u2r t=some r):RecR r∧s=s3d r∧u0o r=(t,true):=by
 obtain⟨h1,h2⟩:=s3c h
 have hs:=t7a h1
 have:=r4s (t:=s3d r) (by omega)
 rw[←h2,hu] at this
 exact⟨h1,Ds this,by rw[u4m h1,←h2]⟩
theorem s81 {t s:Hs} {r' :t8z} {b:Bool} (hu:u62 t=some s) (hr:∀r,RecR r→s=s3d r→r' =r∧b=false):
 (((bif b then some true else(bif (!(u0o r').2) then some true else some (!z7o (u0o r').1 t))):Ht Bool).bind fun j=>bif j then some (noR,false) else some (r',true))=some (t2p t):=by
 unfold t2p
 cases h:u2r t with
 | some r=>
  obtain⟨h1,h2,h3⟩:=p42 hu h
  obtain⟨e1,e2⟩:=hr r h1 h2
  subst e1
  rw[e2,h3]
  simp only[Aa,Ap,y6l,zOb]
 | none=>
  cases b
  ·cases h2:(u0o r').2
   ·rfl
   ·have:z7o (u0o r').1 t=false:=by
     rw[q89]
     intro e
     have:=p43 (t:=t) (r:=r') (by rw[←e,←h2])
     rw[h] at this;cases this
    rw[this];rfl
  ·rfl
theorem q9u (s:Hs):((s.data.toList.getD 0 0).toNat:Int)=(u4w s 0:Int):=rfl
theorem q6p (s:Hs) (i:Nat):u4w s i<256:=by unfold u4w;exact Fw _
theorem s3i {t s:Hs} (h:u62 t=some s):s.size≤20000:=by
 unfold u62 at h
 split at h
 ·rename_i q
  have:=Ds h
  rw[←this];simp;omega
 ·cases h
theorem o2v (k:Nat):decide ((k:Int)=3)=decide (k=3):=by simp;omega
theorem o2w (k:Nat):decide ((k:Int)=4)=decide (k=4):=by simp;omega
theorem r40:u1b.wt u4e=0:=rfl
theorem r4z:p73.wt u2k=0:=rfl
theorem q90 (m:Nat) {s:Hs} (hs:s.size≤20000) (h1:1≤s.size):u1b.wt (u4a m s (1,false)).1≤30000:=by
 have h:=s1z m s (1,false) ⟨by simp,by simp;omega⟩
 have h2:=h.1
 unfold inT at h2
 have:=(u57 (u4a m s (1,false)).2 (k:=20) (by omega)).2
 have:=h.2
 simp only at this
 omega
theorem q7m (m:Lim) {s:Hs} (hs:s.size≤20000) (h1:1≤s.size):p73.wt (u4x m s (1,false)).1≤30000:=by
 have h:=q5f m (s:=s) (c:=(1,false)) ⟨by simp,by simp;omega⟩
 have e:(u4x m s (1,false)).1=(t8e m s (1,false)).1:=rfl
 rw[e];have:=h.2;omega
theorem s6h (t:Hs) (ht:t.size≤u0l):u97 t=some (t2p t):=by
 have hb:u0l=1099511627776:=rfl
 rw[r5b];unfold s0s
 rw[q3y t ht]
 simp only[zOb]
 cases hu:u62 t with
 | none=>
  unfold t2p u2r
  rw[hu];rfl
 | some s=>
  have hs:=s3i hu
  simp only[u96]
  by_cases h0:s.size=0
  ·unfold t2p u2r
   rw[hu]
   simp only
   rw[Al h0,Bb h0];rfl
  ·have hin:inT s (1,false):=⟨by simp,by simp;omega⟩
   rw[A7 h0]
   simp only[Ap,Aa,zOb]
   rw[show y4q (0:Int) s.size=true from y7t (i:=0) (by omega)]
   simp only[Ad,show((0:Int)).toNat=0 from rfl,q9u]
   rw[y4y (n:=(u4w s 0:Int)) (by omega) (by have:=q6p s 0;omega),o2v,o2w]
   by_cases h3:u4w s 0=3
   ·rw[Bb h3,t5y _ (by omega)]
    simp only[Ad,zOb]
    rw[r38 _ (by omega)]
    simp only[zOb]
    have hf:=(u5m hin).2
    have hg:=(u5m hin).1
    unfold inT at hg
    have:=(u57 (u1y s (1,false)).2 (k:=1) (by omega)).2
    simp only at hf
    have hk:=u8m ((u4w s 0:Int),u4e,(u1y s (1,false)).1,(r41 s (u1y s (1,false)).2).1,u2k) (by rw[s8h];simp only[r40,r4z];omega)
    rw[show((0:Int),(0:Int),(0:Int),(0:Int),([] :Hu t80),([] :Hu WrT),false,(⟨#[]⟩:Hs))=u4e from rfl]
    rw[show(([] :Hu u2b),([] :Hu u0j),([] :Hu u0j),(0:Int),(0:Int))=u2k from rfl]
    rw[hk]
    simp only[zOb]
    refine s81 hu (b:=(r41 s (u1y s (1,false)).2).2.2) fun r h1 h2=> ?_
    have:=t4j h1
    rw[←h2] at this
    unfold u8l at this
    rw[Al h3] at this
    rw[h3]
    exact⟨(Dv this).1,(Dv this).2⟩
   ·rw[A7 h3]
    by_cases h4:u4w s 0=4
    ·rw[Bb h4,q6m (by omega) hin]
     simp only[Ad,Aa,zOb]
     have hk:=u8m ((u4w s 0:Int),u4e,emp,false,(u4x p5w s (1,false)).1) (by rw[s8h];simp only[r40];have:=q7m p5w hs (by omega);simp only[emp,ByteArray.size];simp;omega)
     rw[show((0:Int),(0:Int),(0:Int),(0:Int),([] :Hu t80),([] :Hu WrT),false,(⟨#[]⟩:Hs))=u4e from rfl]
     rw[show(([] :Hu u2b),([] :Hu u0j),([] :Hu u0j),(0:Int),(0:Int))=u2k from rfl]
     rw[show((⟨#[]⟩:Hs))=emp from rfl]
     rw[hk]
     simp only[zOb]
     refine s81 hu (b:=(u4x p5w s (1,false)).2.2) fun r h1 h2=> ?_
     have:=t4j h1
     rw[←h2] at this
     unfold u8l at this
     rw[Ao h3,Al h4] at this
     have hl:=s85 q8w q8x (Dv this).2
     rw[h4,hl]
     exact⟨(Dv this).1,(Dv this).2⟩
    ·rw[A7 h4,q5r (by omega) hin]
     simp only[Ad,Aa,zOb]
     have hk:=u8m ((u4w s 0:Int),(u4a 1000000000 s (1,false)).1,emp,false,u2k) (by rw[s8h];simp only[r4z];have:=q90 1000000000 hs (by omega);simp only[emp,ByteArray.size];simp;omega)
     rw[show((0:Int),(0:Int),(0:Int),(0:Int),([] :Hu t80),([] :Hu WrT),false,(⟨#[]⟩:Hs))=u4e from rfl]
     rw[show(([] :Hu u2b),([] :Hu u0j),([] :Hu u0j),(0:Int),(0:Int))=u2k from rfl]
     rw[show((⟨#[]⟩:Hs))=emp from rfl]
     rw[hk]
     simp only[zOb]
     refine s81 hu (b:=(u4a 1000000000 s (1,false)).2.2) fun r h1 h2=> ?_
     have:=t4j h1
     rw[←h2] at this
     unfold u8l at this
     rw[Ao h3,Ao h4] at this
     have hl:=r95 (m:=9) (m' :=1000000000) (by omega) (by omega) (Dv this).2
     rw[hl]
     exact⟨(Dv this).1,(Dv this).2⟩
theorem s6i (t:Hs) (ht:t.size≤u0l):t0c t=some (t2p t):=by
 have hb:u0l=1099511627776:=rfl
 rw[r5i];unfold s0z
 rw[r2u t ht]
 simp only[zOb]
 cases hu:u62 t with
 | none=>
  unfold t2p u2r
  rw[hu];rfl
 | some s=>
  have hs:=s3i hu
  simp only[u96]
  by_cases h0:s.size=0
  ·unfold t2p u2r
   rw[hu]
   simp only
   rw[Al h0,Bb h0];rfl
  ·have hin:inT s (1,false):=⟨by simp,by simp;omega⟩
   rw[A7 h0]
   simp only[Ap,Aa,zOb]
   rw[show y4q (0:Int) s.size=true from y7t (i:=0) (by omega)]
   simp only[Ad,show((0:Int)).toNat=0 from rfl,q9u]
   rw[y4y (n:=(u4w s 0:Int)) (by omega) (by have:=q6p s 0;omega),o2v,o2w]
   by_cases h3:u4w s 0=3
   ·rw[Bb h3,t5z _ (by omega)]
    simp only[Ad,zOb]
    rw[r39 (u5m hin).1 (by omega)]
    simp only[zOb]
    have hf:=(u5m hin).2
    have hg:=(u5m hin).1
    unfold inT at hg
    have:=(u57 (u1y s (1,false)).2 (k:=1) (by omega)).2
    simp only at hf
    have hk:=u5y ((u4w s 0:Int),u4e,(u1y s (1,false)).1,(r41 s (u1y s (1,false)).2).1,u2k) (by rw[s8h];simp only[r40,r4z];omega)
    rw[show((0:Int),(0:Int),(0:Int),(0:Int),([] :Hu t80),([] :Hu WrT),false,(⟨#[]⟩:Hs))=u4e from rfl]
    rw[show(([] :Hu u2b),([] :Hu u0j),([] :Hu u0j),(0:Int),(0:Int))=u2k from rfl]
    rw[hk]
    simp only[zOb]
    refine s81 hu (b:=false) fun r h1 h2=> ?_
    have:=t4j h1
    rw[←h2] at this
    unfold u8l at this
    rw[Al h3] at this
    rw[h3]
    exact⟨(Dv this).1,rfl⟩
   ·rw[A7 h3]
    by_cases h4:u4w s 0=4
    ·rw[Bb h4,q6n (by omega) hin]
     simp only[Ad,Aa,zOb]
     generalize hy:(if(u4x q5z s (1,false)).2.2=true then(u2k,(0:Int),false) else((u4x q5z s (1,false)).1,(u4x q5z s (1,false)).2.1,true))=y
     have hyw:p73.wt y.1≤30000:=by
      rw[←hy]
      split
      ·rw[r4z];omega
      ·exact q7m q5z hs (by omega)
     have hk:=u5y ((u4w s 0:Int),u4e,emp,false,y.1) (by rw[s8h];simp only[r40];simp only[emp,ByteArray.size];simp;omega)
     rw[show((0:Int),(0:Int),(0:Int),(0:Int),([] :Hu t80),([] :Hu WrT),false,(⟨#[]⟩:Hs))=u4e from rfl]
     rw[show(([] :Hu u2b),([] :Hu u0j),([] :Hu u0j),(0:Int),(0:Int))=u2k from rfl]
     rw[show((⟨#[]⟩:Hs))=emp from rfl]
     rw[hk]
     simp only[zOb]
     refine s81 hu (b:=false) fun r h1 h2=> ?_
     have:=t4j h1
     rw[←h2] at this
     unfold u8l at this
     rw[Ao h3,Al h4] at this
     have hl:=s85 q8w q5c (Dv this).2
     rw[hl,Ao (by rw[(Dv this).2];simp)] at hy
     rw[h4,←hy]
     exact⟨(Dv this).1,rfl⟩
    ·rw[A7 h4,p0c (by omega) hin]
     simp only[Ad,Aa,zOb]
     generalize hy:(if(u4a 10 s (1,false)).2.2=true then(u4e,(0:Int),false) else((u4a 10 s (1,false)).1,(u4a 10 s (1,false)).2.1,true))=y
     have hyw:u1b.wt y.1≤30000:=by
      rw[←hy]
      split
      ·rw[r40];omega
      ·exact q90 10 hs (by omega)
     have hk:=u5y ((u4w s 0:Int),y.1,emp,false,u2k) (by rw[s8h];simp only[r4z];simp only[emp,ByteArray.size];simp;omega)
     rw[show((0:Int),(0:Int),(0:Int),(0:Int),([] :Hu t80),([] :Hu WrT),false,(⟨#[]⟩:Hs))=u4e from rfl]
     rw[show(([] :Hu u2b),([] :Hu u0j),([] :Hu u0j),(0:Int),(0:Int))=u2k from rfl]
     rw[show((⟨#[]⟩:Hs))=emp from rfl]
     rw[hk]
     simp only[zOb]
     refine s81 hu (b:=false) fun r h1 h2=> ?_
     have:=t4j h1
     rw[←h2] at this
     unfold u8l at this
     rw[Ao h3,Ao h4] at this
     have hl:=r95 (m:=9) (m' :=10) (by omega) (by omega) (Dv this).2
     rw[hl,Ao (by rw[(Dv this).2];simp)] at hy
     rw[←hy]
     exact⟨(Dv this).1,rfl⟩
end
section
theorem r56 (b:u0i) (n:Hs) (hb:fewB b):t5a (b,n)=some (t98 b n):=by
 obtain⟨hb1,hb2,hb3⟩:=hb
 have L:=s6n u7g b.2.2.1 (fun(a:Hu u0j) i=>(n,b,u2k,((b.1,b.2.1,a,b.2.2.2):u0i),i)) (fun x:u0j=> !z7o x.2.2.2.2.2.2.2 n) (fun x=>x) (fun a=> .inl (u2k,((b.1,b.2.1,a,b.2.2.2):u0i))) (by have:=hb3.1;omega)
  (fun a _=>by rw[s5s];simp only[t1h,u0b,Am,Ah,Aa])
  (fun i hi a ha=>by
   have hm:=Ag hi
   have:=hb3.1
   rw[s5s];simp only[t1h,u0b,hi,Ae,Ad,y7t hi,zTn,y8k (t:=u1b) hi,y7l (show i<4611686018427387904 by omega)]
   rw[u63 _ (hb3.2 _ hm)]
   simp only[zOb]
   rw[q0s (by simp;omega)])
 rw[Er] at L
 rw[q1c];unfold s90
 simp only
 rw[t2q b ⟨hb1,hb2,hb3⟩]
 simp only[zOb]
 have L' :u7g (n,b,(([], [], [],0,0):u0i),((b.1,b.2.1, [],b.2.2.2):u0i),0)=_:=L
 rw[L']
 rfl
theorem p4t (p q:u0j→Bool) (l:Hu u0j) (d:u0j) (hl:l.length≤4194304):(l.filter p).length+ [d].length≤1099511627776∧(l.filter p++ [d]).length+(l.filter q).length≤1099511627776∧(l.filter p++ [d]).length≤8000000:=by
 have f1:=t7r p l
 have f2:=t7r q l
 rw[Ba,Aw]
 omega
theorem q0c (b z:u0i) (t d:u0j) (n:Hs) (hb:fewB b):u3m (n,b,t,z,((b.1,b.2.1, [],b.2.2.2):u0i),d,0)=
 some (.inl (n,b,t,z,((b.1,b.2.1,b.2.2.1.filter (fun x=>y3c x.2.2.2.2.2.2.2 n),b.2.2.2):u0i),d)):=by
 have hl:=hb.2.2.1
 have L:=s6n u3m b.2.2.1 (fun(a:Hu u0j) i=>(n,b,t,z,((b.1,b.2.1,a,b.2.2.2):u0i),d,i)) (fun x:u0j=>y3c x.2.2.2.2.2.2.2 n) (fun x=>x) (fun a=> .inl (n,b,t,z,((b.1,b.2.1,a,b.2.2.2):u0i),d)) (by omega)
  (fun a _=>by rw[t91];simp only[u75,u0b,Am,Ah,Aa])
  (fun i hi a ha=>by
   have hm:=Ag hi
   rw[t91];simp only[u75,u0b,hi,Ae,Ad,y7t hi,zTn,y8k (t:=u1b) hi,y7l (show i<4611686018427387904 by omega)]
   rw[u63 _ (hb.2.2.2 _ hm)]
   simp only[zOb]
   rw[q0s (by simp;omega)])
 rw[Er] at L
 exact L
theorem r65 (b z:u0i) (t:u0j) (n:Hs) (hb:fewB b) (pre:Hu u0j) (hp:pre.length≤8000000):u26 (n,b,t,z,((b.1,b.2.1,pre,b.2.2.2):u0i),0)=
 some (.inl (t,z,((b.1,b.2.1,pre++b.2.2.1.filter (fun x=> !y3c x.2.2.2.2.2.2.2 n),b.2.2.2):u0i))):=by
 have hl:=hb.2.2.1
 have L:=s6n u26 b.2.2.1 (fun(a:Hu u0j) i=>(n,b,t,z,((b.1,b.2.1,pre++a,b.2.2.2):u0i),i)) (fun x:u0j=> !y3c x.2.2.2.2.2.2.2 n) (fun x=>x) (fun a=> .inl (t,z,((b.1,b.2.1,pre++a,b.2.2.2):u0i))) (by omega)
  (fun a _=>by rw[t8o];simp only[u6n,u0b,Am,Ah,Aa])
  (fun i hi a ha=>by
   have hm:=Ag hi
   rw[t8o];simp only[u6n,u0b,hi,Ae,Ad,y7t hi,zTn,y8k (t:=u1b) hi,y7l (show i<4611686018427387904 by omega)]
   rw[u63 _ (hb.2.2.2 _ hm)]
   simp only[zOb]
   rw[q0s (by simp;omega),Bi])
 rw[Er,Bw] at L
 exact L
theorem s9m (b:u0i) (t:u0j) (n:Hs) (hb:fewB b) (ht:q2c t) (hi:p4n t.1):u3z (b,t,n)=some (u2e b t n):=by
 have hl:=hb.2.2.1
 have pl:=fun d=>p4t (fun x:u0j=>y3c x.2.2.2.2.2.2.2 n) (fun x:u0j=> !y3c x.2.2.2.2.2.2.2 n) b.2.2.1 d hl
 rw[r7r];unfold s31
 simp only
 rw[t2q b hb]
 simp only[zOb]
 rw[u63 t ht]
 simp only[zOb]
 rw[r44 t b.2.1 ht hb.2.1]
 simp only[zOb]
 rw[q0c _ _ _ _ _ hb,q0c _ _ _ _ _ hb]
 simp only[zOb]
 rw[q0s (pl _).1,q0s (pl _).1,r65 _ _ _ _ hb _ (pl _).2.2,r65 _ _ _ _ hb _ (pl _).2.2]
 simp only[zOb,s3k hi]
 have key:∀(o:Bool),(bif decide (t.1≥b.2.2.2.2) then some ((b.1,b.2.1,(b.2.2.1.filter fun x=>y3c x.2.2.2.2.2.2.2 n)++ [((t.1,(2:Int),t.2.2.1,t.2.2.2.1,t.2.2.2.2.1,t.2.2.2.2.2.1,o,n):u0j)] ++(b.2.2.1.filter fun x=> !y3c x.2.2.2.2.2.2.2 n),b.2.2.2.1,t.1+1):u0i)
  else some (b.1,b.2.1,(b.2.2.1.filter fun x=>y3c x.2.2.2.2.2.2.2 n)++ [((t.1,(2:Int),t.2.2.1,t.2.2.2.1,t.2.2.2.2.1,t.2.2.2.2.2.1,o,n):u0j)] ++(b.2.2.1.filter fun x=> !y3c x.2.2.2.2.2.2.2 n),b.2.2.2))=
  some (b.1,b.2.1,(b.2.2.1.filter fun x=>y3c x.2.2.2.2.2.2.2 n)++ [((t.1,(2:Int),t.2.2.1,t.2.2.2.1,t.2.2.2.2.1,t.2.2.2.2.2.1,o,n):u0j)] ++(b.2.2.1.filter fun x=> !y3c x.2.2.2.2.2.2.2 n),b.2.2.2.1,u1l b.2.2.2.2 t.1):=fun o=>by
  unfold u1l
  by_cases h:t.1<b.2.2.2.2
  ·rw[A7 (by omega),Al h];rfl
  ·rw[Bb (by omega),Ao h];rfl
 unfold u2e u3r
 cases t.2.2.2.2.2.2.1
 ·exact key _
 ·exact key _
end
section
def p2d (d e:u0k):Prop:=u25 e=true∧u0z e=u0z d∧u0c e 0=u0c d 0∧u0c e 1=u0c d 1
theorem u59 {a:Int} (ha:a=0∨a=1):u0e a=1+a*48∧(s1e a:Int)=2+a*48:=by
 have hfa:u0e a=1+a*48:=by unfold u0e;rw[Al (p4g.mpr ha)]
 refine⟨hfa,?_⟩
 unfold s1e
 rcases ha with rfl | rfl<;>omega
theorem r4e {e:u0k} (h1:u1q e=true) (h2:e.1.length=97) (h3:e.2= []) (h4:(u0c e 0).2.2=true) (h5:(u0c e 1).2.2=true):u25 e=true:=by
 unfold u25
 rw[h1,h4,h5]
 simp[h2,h3]
theorem t97 {d e:u0k} (h:u0h e 0=u0h d 0):u0z e=u0z d:=by
 unfold u0z u3b
 rw[h]
theorem p6s {d e:u0k} (hl:u25 d=true) {a:Int} (ha:a=0∨a=1) (h1:u1q e=true) (h2:e.1.length=97) (h3:e.2= [])
 (h4:∀k:Nat,k<97→ ¬(s1e a≤k∧k<s1e a+47)→u0h e (k:Int)=u0h d (k:Int))
 (h5:∀j:Nat,(j:Int)<(u0c d a).2.1→j<3008→s22 (s2y e a) j=s22 (s2y d a) j):p2d d e:=by
 obtain⟨d1,d2,d3,d4,d5⟩:=u4t hl
 have fd:=s21 d1 d2
 have fe:=s21 h1 h2
 obtain⟨f1,f2⟩:=u59 ha
 have hact:u0z e=u0z d:=t97 (h4 0 (by omega) (by omega))
 have hcnt:u05 e a=u05 d a:=by
  unfold u05 u3b
  have hk:u0e a=(((u0e a).toNat:Nat):Int):=by rcases ha with rfl | rfl<;>omega
  have:=h4 (u0e a).toNat (by rcases ha with rfl | rfl<;>omega) (by rcases ha with rfl | rfl<;>omega)
  rw[←hk] at this
  rw[this]
 have hra:u0c e a=u0c d a:=by
  have hda:=u60 fd ha
  have hok:(u0c d a).2.2=true:=by rcases ha with rfl | rfl<;>assumption
  rw[u60 fe ha,hcnt]
  obtain⟨l,E,r⟩:∃l E,u0c d a=(l,E,true):=⟨_,_,by rw[←hok]⟩
  rw[r] at h5 ⊢
  rw[r] at hda
  have hsz:(s2y e a).size=(s2y d a).size:=by rw[(u44 fe ha).2.1,(u44 fd ha).2.1]
  have hat:=r8q (s2y d a) (u05 d a).toNat 0 [] (by simp)
  rw[←hda] at hat
  refine s7l hsz hda.symm (fun q hq=>h5 q hq ?_)
  have:=(u44 fd ha).2.1
  simp only at hat
  omega
 have hro:u0c e (1 - a)=u0c d (1 - a):=by
  refine u7w (fun q hq=> ?_)
  have ho:=(u59 (a:=1 - a) (by omega)).1
  obtain⟨j,hj⟩:∃j:Nat,u0e (1 - a)+(q:Int)=(j:Int):=⟨(u0e (1 - a)+(q:Int)).toNat,by rcases ha with rfl | rfl<;>omega⟩
  rw[hj]
  exact h4 j (by rcases ha with rfl | rfl<;>omega) (by rcases ha with rfl | rfl<;>omega)
 have both:u0c e 0=u0c d 0∧u0c e 1=u0c d 1:=by
  rcases ha with rfl | rfl
  ·exact⟨hra,by simpa using hro⟩
  ·exact⟨by simpa using hro,hra⟩
 exact⟨r4e h1 h2 h3 (by rw[both.1];exact d4) (by rw[both.2];exact d5),hact,both.1,both.2⟩
theorem q34 {d x:u0k} {a:Int} {t:Hs} (h:t3f d a t=some x):∃E:Nat,(u0c d a).2.1=(E:Int)∧E+(u0s t).size≤3008∧q50 ((u0s t).size+1) d (s1e a+E / 64) (E % 64) (u0s t)=some x∧t.size≠0∧t.size≤3008∧u05 d a<255:=by
 have hat:=r2i d a
 unfold t3f at h
 split at h
 ·cases h
 ·rename_i hc
  simp only[Hr] at hc
  unfold u4s at h
  split at h
  ·exact⟨(u0c d a).2.1.toNat,by omega,by omega,h,hc.2.1,by omega,by omega⟩
  ·cases h
theorem q87 {d:u0k} (h:d.2= []) {k:Nat} (hk:k<d.1.length):u0h d (k:Int)=(rdL Ty.str d.1 k,true):=by
 unfold u0h
 rw[Al (by omega),h,zTn]
 rfl
end
section
theorem q8s {d x:u0k} {a:Int} {t:Hs} (hl:u25 d=true) (ha:a=0∨a=1) (h:t3f d a t=some x):
 p2d d (flush x)∧ ∀E:Nat,(u0c d a).2.1=(E:Int)→ ∀q,q<(u0s t).size→s22 (s2y (flush x) a) (E+q)=s22 (u0s t) q:=by
 obtain⟨d1,d2,d3,d4,d5⟩:=u4t hl
 obtain⟨_,x1,x2,_⟩:=s2z h
 obtain⟨E,e1,e2,e3,_⟩:=q34 h
 obtain⟨c1,c2,c3⟩:=t43 x1
 have hxl:x.1.length=97:=by rw[x2];exact d2
 have hcl:(flush x).1.length=97:=by rw[c3];exact hxl
 obtain⟨f1,f2⟩:=u59 ha
 have fd:=s21 d1 d2
 have fe:=s21 c1 hcl
 have hb97:s1e a+47≤97:=by rcases ha with rfl | rfl<;>omega
 have hbytes:=fun j i (hi:i<64) (hj:j<97)=>q3m e3 (by omega) (Ev _ (by omega)) j i hi (by omega)
 refine⟨p6s hl ha c1 hcl c2 (fun k hk hn=> ?_) (fun j hj hj2=> ?_),fun E' hE' q hq=> ?_⟩
 ·rw[u80 x1]
  exact s9b e3 (Ev _ (by omega)) k (fun z=>hn ⟨by omega,by omega⟩)
 ·rw[(u44 fe ha).2.2 j hj2,(u44 fd ha).2.2 j hj2,u80 x1,hbytes _ _ (Ev _ (by omega)) (by omega),Ao (by omega)]
 ·have hEE:E' =E:=by omega
  subst hEE
  rw[(u44 fe ha).2.2 (E' +q) (by omega),u80 x1,hbytes _ _ (Ev _ (by omega)) (by omega),Al (by omega)]
  congr 1
  omega
theorem r47 (t:Hs):r7f t=((s22 t 0).toNat:Int):=rfl
theorem r8w (n:Int) (r:Hs) (h0:0≤n) (h1:n<256):r7f (t37 n++r)=n:=by
 rw[r47,u6w,Al (by rw[u2y];omega)]
 unfold t37 s22
 rw[t8i]
 have w:IntKind.u8.wrap n=n:=by rw[q9i];omega
 rw[w]
 simp only[u8s,C8,Eh,List.getD_cons_zero]
 rw[Gg]
 omega
theorem p3a {d y:u0k} {a:Int} {t:Hs} (hl:u25 d=true) (ha:a=0∨a=1) (h:q27 d a t=some y):
 u25 y=true∧u0z y=u0z d∧u0c y (1 - a)=u0c d (1 - a)∧u05 y a=u05 d a+1∧u0c y a=((u0c d a).1++ [t],(u0c d a).2.1+((u0s t).size:Int),true):=by
 obtain⟨d1,d2,d3,d4,d5⟩:=u4t hl
 obtain⟨x,hx,x1,y1,y2,y3,hy⟩:=p3b d2 h
 obtain⟨s1,s2⟩:=q8s hl ha hx
 obtain⟨E,e1,e2,e3,e4,e5,e6⟩:=q34 hx
 obtain⟨c1,c2,c3⟩:=t43 x1
 have hxl:(flush x).1.length=97:=(u4t s1.1).2.1
 obtain⟨f1,f2⟩:=u59 ha
 have hcl:=r49 d a
 have hc1:s4c d a=u05 d a+1:=by unfold s4c;exact y4y (by omega) (by omega)
 have hob:=r2f (s:=u0e a) c1 c2 (by omega) (by rw[hxl];rcases ha with rfl | rfl<;>omega) (u2y (s4c d a))
 have hcz:s7n (flush x) a (s4c d a)=some ((flush x).1, [(u0e a,t37 (s4c d a)++(rdL Ty.str (flush x).1 (u0e a).toNat).extract 1 64)]):=hob
 have hz1:=(u5n hob).2.1
 rw[hcz] at hy
 simp only[orD] at hy
 have hrd:∀j:Int,u0h y j=if j=u0e a then(t37 (s4c d a)++(rdL Ty.str (flush x).1 (u0e a).toNat).extract 1 64,true) else u0h (flush x) j:=fun j=>by
  rw[hy,u80 hz1]
  by_cases e:j=u0e a
  ·rw[Al e,e]
   unfold u0h
   rw[Al (by show _∧_<((flush x).1.length:Int);rw[hxl];rcases ha with rfl | rfl<;>omega)]
   simp[u82]
  ·rw[Ao e]
   have hne: ¬u0e a=j:=fun z=>e z.symm
   unfold u0h
   simp only[u82,Bs,List.foldl_nil,hne,Bk,c2]
 have fy:=s21 y1 y3
 have fx:=s21 c1 hxl
 have fd:=s21 d1 d2
 have hcnt:u05 y a=u05 d a+1:=by
  unfold u05 at hc1 ⊢
  rw[p4g.mpr ha,Al rfl] at*
  unfold u3b at*
  rw[hrd,Al rfl]
  simp only
  have:u05 d a=r7f (u0h d (u0e a)).1:=by unfold u05 u3b;rw[p4g.mpr ha,Al rfl]
  rw[hc1]
  exact r8w _ _ (by omega) (by omega)
 have hareaT:∀j,j<3008→s22 (s2y y a) j=s22 (s2y (flush x) a) j:=fun j hj=>by
  rw[(u44 fy ha).2.2 j hj,(u44 fx ha).2.2 j hj,hrd,Ao (by rcases ha with rfl | rfl<;>omega)]
 have hother:u0c y (1 - a)=u0c (flush x) (1 - a):=by
  refine u7w (fun q hq=> ?_)
  have ho:=(u59 (a:=1 - a) (by omega)).1
  rw[hrd,Ao (by rcases ha with rfl | rfl<;>omega)]
 have hother2:u0c (flush x) (1 - a)=u0c d (1 - a):=by
  rcases ha with rfl | rfl
  ·exact s1.2.2.2
  ·exact s1.2.2.1
 have hact:u0z y=u0z d:=by
  rw[←s1.2.1]
  exact t97 (by rw[hrd,Ao (by rcases ha with rfl | rfl<;>omega)])
 have hok:(u0c d a).2.2=true:=by rcases ha with rfl | rfl<;>assumption
 have hda:u5j (s2y d a) (u05 d a).toNat 0 [] =((u0c d a).1,(E:Int),true):=by
  rw[←u60 fd ha,←e1,←hok]
 have hfx:u5j (s2y (flush x) a) (u05 (flush x) a).toNat 0 [] =((u0c d a).1,(E:Int),true):=by
  have:u0c (flush x) a=u0c d a:=by
   rcases ha with rfl | rfl
   ·exact s1.2.2.1
   ·exact s1.2.2.2
  rw[←u60 fx ha,this,←e1,←hok]
 have hcx:u05 (flush x) a=u05 d a:=by
  unfold u05 u3b
  have hk:u0e a=(((u0e a).toNat:Nat):Int):=by rcases ha with rfl | rfl<;>omega
  have h2:=s9b e3 (Ev _ (by omega)) (u0e a).toNat (by rcases ha with rfl | rfl<;>omega)
  rw[←hk] at h2
  rw[u80 x1,h2]
 have hsz:(s2y y a).size=(s2y (flush x) a).size:=by rw[(u44 fy ha).2.1,(u44 fx ha).2.1]
 have hra:u0c y a=((u0c d a).1++ [t],(u0c d a).2.1+((u0s t).size:Int),true):=by
  rw[u60 fy ha,hcnt,e1]
  have hm:(u05 d a+1).toNat=(u05 d a).toNat+1:=by omega
  rw[hm]
  have hloc:=s7l hsz hfx (fun q hq=>hareaT q (by omega))
  rw[hcx] at hloc
  have hrs:=r5x (T:=s2y y a) (E:=E) e4 e5 (by rw[(u44 fy ha).2.1];exact e2) (fun q hq=>by rw[hareaT _ (by omega)];exact s2 E e1 q hq)
  have:=r8r hloc hrs e4
  rw[this]
  congr 2
 have hlog:u25 y=true:=by
  rw[hother2] at hother
  refine r4e y1 y3 y2 ?_ ?_
  ·rcases ha with rfl | rfl
   ·rw[hra]
   ·have:u0c y 0=u0c d 0:=by simpa using hother
    rw[this];exact d4
  ·rcases ha with rfl | rfl
   ·have:u0c y 1=u0c d 1:=by simpa using hother
    rw[this];exact d5
   ·rw[hra]
 exact⟨hlog,hact,hother.trans hother2,hcnt,hra⟩
end
section
theorem p3c {d:u0k} (hk:u1q d=true) {k:Nat} (hlt:k<d.1.length):(u0h d (k:Int)).2=true∧(u0h d (k:Int)).1.size=64:=by
 obtain⟨k1,k2,k3,k4⟩:=q20.mp hk
 have hc:(0:Int)≤(k:Int)∧(k:Int)<(d.1.length:Int):=by omega
 unfold u0h
 rw[Al hc]
 refine⟨rfl,?_⟩
 cases hp:u82 d.2 (k:Int) with
 | none=>
  have e:rdL Ty.str d.1 k=d.1[k] :=y8k (t:=Ty.str) hlt
  simp only[Eo,zTn]
  rw[e]
  exact k3 _ (Ag hlt)
 | some s=>
  obtain⟨p,hp1,hp2⟩:=r2d hp
  simp only[Eb]
  rw[←hp2]
  exact(k4 p hp1).2
theorem q75:∀(f:Nat) {d:u0k} {k at_:Nat} {t:Hs},u1q d=true→at_<64→k*64+at_+t.size≤d.1.length*64→d.2.length+(at_+t.size+63) / 64≤60→ ∃x,q50 f d k at_ t=some x
 | 0,d,k,at_,t,_,_,_,_=>⟨d,rfl⟩
 | f+1,d,k,at_,t,hk,hat,h1,h2=>by
  rw[q50]
  by_cases hz:t.size=0
  ·exact⟨d,by rw[Al hz]⟩
  ·have hr:=p3c hk (k:=k) (by omega)
   rw[Ao hz,Al hr]
   have hsz:((u0h d (k:Int)).1.extract 0 at_++t.extract 0 (min t.size (64 - at_))++(u0h d (k:Int)).1.extract (at_+min t.size (64 - at_)) 64).size=64:=by
    simp only[Af,Bd,hr.2];omega
   have hin:s82 (k:Int) 0 ((d.1.length:Int) - 1)=true:=by simp[s82];omega
   have hok:u1q (d.1,d.2++ [((k:Int),(u0h d (k:Int)).1.extract 0 at_++t.extract 0 (min t.size (64 - at_))++(u0h d (k:Int)).1.extract (at_+min t.size (64 - at_)) 64)])=true:=by
    rw[r1w,hk,hin,hsz]
    simp;omega
   have hw:u5w d (k:Int) ((u0h d (k:Int)).1.extract 0 at_++t.extract 0 (min t.size (64 - at_))++(u0h d (k:Int)).1.extract (at_+min t.size (64 - at_)) 64)=some (d.1,d.2++ [((k:Int),(u0h d (k:Int)).1.extract 0 at_++t.extract 0 (min t.size (64 - at_))++(u0h d (k:Int)).1.extract (at_+min t.size (64 - at_)) 64)]):=by
    unfold u5w
    rw[Al hok]
   rw[hw]
   simp only[zOb]
   have hs2:(t.extract (min t.size (64 - at_)) t.size).size=t.size - min t.size (64 - at_):=by rw[Bd];omega
   refine q75 f hok (by omega) ?_ ?_
   ·rw[hs2];show _≤d.1.length*64;omega
   ·rw[hs2];simp only[Ba,Aw];omega
theorem p0y {d:u0k} {a:Int} {t:Hs} (hl:u25 d=true) (ha:a=0∨a=1) (h0:t.size≠0) (h1:t.size≤3008) (h2:u05 d a<255) (h3:(u0c d a).2.1+((u0s t).size:Int)≤3008):∃x,t3f d a t=some x:=by
 obtain⟨d1,d2,d3,d4,d5⟩:=u4t hl
 obtain⟨f1,f2⟩:=u59 ha
 have hat:=r2i d a
 have hok:(u0c d a).2.2=true:=by rcases ha with rfl | rfl<;>assumption
 have hsp:=s8j t
 unfold t3f
 rw[Ao (by rw[hok];simp only[Fm,false_or];omega)]
 unfold u4s
 have hc:(s82 (u0c d a).2.1 0 6400&&s82 (u0e a+1) 0 ((d.1.length:Int) - 1)&&u1q d)=true:=by
  rw[d1,d2]
  simp only[s82,Ai,Ar,and_true]
  rcases ha with rfl | rfl<;>omega
 rw[Al hc]
 refine q75 _ d1 (Ev _ (by omega)) ?_ ?_
 ·rw[d2]
  rcases ha with rfl | rfl<;>omega
 ·rw[d3]
  simp only[Cc]
  omega
theorem p4z {d:u0k} {a:Int} {t:Hs} (hl:u25 d=true) (ha:a=0∨a=1) (h0:t.size≠0) (h1:t.size≤3008) (h2:u05 d a<255) (h3:(u0c d a).2.1+((u0s t).size:Int)≤3008):∃y,q27 d a t=some y:=by
 obtain⟨x,hx⟩:=p0y hl ha h0 h1 h2 h3
 unfold q27
 rw[hx]
 exact⟨_,rfl⟩
def p1j (l:Hu Hs):Nat:=(l.map fun t=>(u0s t).size).sum
theorem q7a {a:Int} (ha:a=0∨a=1):∀ {l:Hu Hs} {x:u0k},u25 x=true→u05 x a+(l.length:Int)≤255→(u0c x a).2.1+(p1j l:Int)≤3008→(∀t∈l,t.size≠0∧t.size≤3008)→
 ∃y,r06 a l x=some y∧u25 y=true∧u0z y=u0z x∧u0c y (1 - a)=u0c x (1 - a)∧(u0c y a).1=(u0c x a).1++l
 | [],x,hl,_,_,_=>⟨x,rfl,hl,rfl,rfl,by simp⟩
 | t::l,x,hl,hc,hr,ht=>by
  have h0:=ht t (C9 ..)
  have hs:p1j (t::l)=(u0s t).size+p1j l:=by simp[p1j]
  simp only[Bc] at hc
  obtain⟨y,hy⟩:=p4z hl ha h0.1 h0.2 (by omega) (by omega)
  obtain⟨p1,p2,p3,p4,p5⟩:=p3a hl ha hy
  obtain⟨z,z1,z2,z3,z4,z5⟩:=q7a ha (l:=l) p1 (by omega) (by rw[p5];simp only;omega) (fun t h=>ht t (Bm _ h))
  refine⟨z,?_,z2,z3.trans p2,z4.trans p3,?_⟩
  ·unfold r06;rw[hy];exact z1
  ·rw[z5,p5];simp
theorem p0z {d:u0k} (hl:u25 d=true) {a n:Int} (ha:a=0∨a=1):∃z r,s7n d a n=some z∧u1q z=true∧z.1=d.1∧z.2= [(u0e a,t37 n++r)] ∧ ∀j:Int,u0h (flush z) j=if j=u0e a then(t37 n++r,true) else u0h d j:=by
 obtain⟨d1,d2,d3,d4,d5⟩:=u4t hl
 obtain⟨f1,f2⟩:=u59 ha
 have hob:=r2f (s:=u0e a) d1 d3 (by omega) (by rw[d2];rcases ha with rfl | rfl<;>omega) (u2y n)
 have hz1:=(u5n hob).2.1
 refine⟨_,_,hob,hz1,rfl,rfl,fun j=> ?_⟩
 rw[u80 hz1]
 by_cases e:j=u0e a
 ·rw[Al e,e]
  unfold u0h
  rw[Al (by show _∧_<(d.1.length:Int);rw[d2];rcases ha with rfl | rfl<;>omega)]
  simp[u82]
 ·rw[Ao e]
  have hne: ¬u0e a=j:=fun z=>e z.symm
  unfold u0h
  simp only[u82,Bs,List.foldl_nil,hne,Bk,d3]
theorem r9s {d:u0k} (hl:u25 d=true):u25 (s1d d)=true∧u0z (s1d d)=u0z d∧u0c (s1d d) (u0z d)=u0c d (u0z d)∧u0c (s1d d) (u4b d)=([],0,true)∧u05 (s1d d) (u4b d)=0:=by
 obtain⟨a1,a2⟩:=t4a d
 obtain⟨z,r,hz,hz1,hz2,hz3,hrd⟩:=p0z hl (n:=0) a1
 obtain⟨d1,d2,d3,d4,d5⟩:=u4t hl
 have e:s1d d=flush z:=by unfold s1d;rw[hz];rfl
 obtain⟨c1,c2,c3⟩:=t43 hz1
 have hlen:(flush z).1.length=97:=by rw[c3,hz2];exact d2
 obtain⟨f1,f2⟩:=u59 a1
 rw[e]
 have hcnt:u05 (flush z) (u4b d)=0:=by
  unfold u05 u3b
  rw[p4g.mpr a1,Al rfl,hrd,Al rfl]
  exact r8w 0 r (by omega) (by omega)
 have ho:u0c (flush z) (u4b d)=([],0,true):=by
  rw[u60 (s21 c1 hlen) a1,hcnt]
  rfl
 have hother:u0c (flush z) (1 - u4b d)=u0c d (1 - u4b d):=by
  refine u7w (fun q hq=> ?_)
  have ho:=(u59 (a:=1 - u4b d) (by omega)).1
  rw[hrd,Ao (by omega)]
 rw[←a2] at hother
 have hact:u0z (flush z)=u0z d:=t97 (by rw[hrd,Ao (by omega)])
 have hok:(u0c d (u0z d)).2.2=true:=by rcases t2k d with q | q<;>rw[q] <;>assumption
 refine⟨r4e c1 hlen c2 ?_ ?_,hact,hother,ho,hcnt⟩
 ·rcases a1 with q | q
  ·rw[q] at ho;rw[ho]
  ·have q2:u0z d=0:=by omega
   rw[q2] at hother hok
   rw[hother];exact hok
 ·rcases a1 with q | q
  ·have q2:u0z d=1:=by omega
   rw[q2] at hother hok
   rw[hother];exact hok
  ·rw[q] at ho;rw[ho]
end
section
theorem q6t {z:u0k} {s:Int} {b:Hs} (hk:u1q z=true) (hz:z.2= [(s,b++(rdL Ty.str z.1 s.toNat).extract 1 64)]) (hb:b.size=1) (keep:Hu Int) (tear:Int):
 (q8t keep 0=false→t8v z keep tear=(z.1, []))∧(q8t keep 0=true→1≤t8j tear→t8v z keep tear=flush z)∧(t8v z keep tear=(z.1, [])∨t8v z keep tear=flush z):=by
 obtain⟨k1,k2,k3,k4⟩:=q20.mp hk
 have hs:=(k4 (s,b++(rdL Ty.str z.1 s.toNat).extract 1 64) (by rw[hz];simp)).1
 have hlt:s.toNat<z.1.length:=by
  have h1:0≤s:=hs.1
  have h2:s<(z.1.length:Int):=hs.2
  omega
 have ht:=(p48 tear).1
 have eo:rdL Ty.str z.1 s.toNat=z.1[s.toNat] :=y8k (t:=Ty.str) hlt
 have hold:(rdL Ty.str z.1 s.toNat).size=64:=by rw[eo];exact k3 _ (Ag hlt)
 have hlen:z.2.length=1:=by rw[hz];rfl
 have h0:rdL p3v z.2 0=(s,b++(rdL Ty.str z.1 s.toNat).extract 1 64):=by rw[hz];rfl
 have hc:t8v z keep tear=(r3v z keep (r4d keep 1) (t8j tear) z.1 0, []):=by
  unfold t8v
  rw[Al hk,hlen]
  rfl
 have hfl:flush z=(t8g z.1 (s,b++(rdL Ty.str z.1 s.toNat).extract 1 64), []):=by
  unfold flush
  rw[Al hk,hz]
  rfl
 have hno:q8t keep 0=false→t8v z keep tear=(z.1, []):=fun h=>by
  rw[hc]
  unfold r3v
  rw[h,Ao (by simp)]
 have hyes:q8t keep 0=true→t8v z keep tear=(t8g z.1 (s,(b++(rdL Ty.str z.1 s.toNat).extract 1 64).extract 0 (t8j tear)++(rdL Ty.str z.1 s.toNat).extract (t8j tear) 64), []):=fun h=>by
  have hlast:r4d keep 1=0:=by
   show(if q8t keep 0 then((0:Nat):Int) else r4d keep 0)=0
   rw[Al h];rfl
  rw[hc]
  unfold r3v
  rw[h,Al rfl,hlast,Al (by rfl),h0]
  simp only[hold]
 have hfull:q8t keep 0=true→1≤t8j tear→t8v z keep tear=flush z:=fun h h1=>by
  rw[hyes h,hfl]
  congr 2
  congr 1
  apply r8c
  ·simp only[Af,Bd,hold,hb];omega
  ·intro i hi
   simp only[Af,Bd,hold,hb] at hi
   rw[u6w,u3c,u3c]
   simp only[Af,Bd,hold,hb]
   by_cases h2:i<t8j tear
   ·rw[Al (by omega),Al (by omega),Co]
   ·rw[Ao (by omega),Al (by omega),u6w,Ao (by omega),u3c,hb,hold,Al (by omega)]
    congr 1
    omega
 refine⟨hno,hfull,?_⟩
 cases h:q8t keep 0 with
 | false=>exact .inl (hno h)
 | true=>
  by_cases h1:1≤t8j tear
  ·exact .inr (hfull h h1)
  ·left
   have ht0:t8j tear=0:=by omega
   rw[hyes h,ht0]
   congr 1
   have e1:(b++(rdL Ty.str z.1 s.toNat).extract 1 64).extract 0 0++(rdL Ty.str z.1 s.toNat).extract 0 64=rdL Ty.str z.1 s.toNat:=by
    apply r8c
    ·simp only[Af,Bd,hold,hb];omega
    ·intro i hi
     simp only[Af,Bd,hold,hb] at hi
     rw[u6w,Ao (by rw[Bd];omega),u3c,hold,Al (by rw[Bd];omega)]
     congr 1
     rw[Bd]
     omega
   rw[e1]
   unfold t8g
   show z.1.set s.toNat (rdL Ty.str z.1 s.toNat)=z.1
   rw[eo]
   exact List.set_getElem_self hlt
theorem q8n {d:u0k} (hl:u25 d=true) {a n:Int} (ha:a=0∨a=1) (keep:Hu Int) (tear:Int):∃z,s7n d a n=some z∧
 (q8t keep 0=false→t8v z keep tear=d)∧(q8t keep 0=true→1≤t8j tear→t8v z keep tear=flush z)∧(t8v z keep tear=d∨t8v z keep tear=flush z):=by
 obtain⟨d1,d2,d3,d4,d5⟩:=u4t hl
 obtain⟨f1,f2⟩:=u59 ha
 have hob:=r2f (s:=u0e a) d1 d3 (by omega) (by rw[d2];rcases ha with rfl | rfl<;>omega) (u2y n)
 have hz1:=(u5n hob).2.1
 have hd:(d.1,([] :Hu (Int×Hs)))=d:=by rw[←d3]
 obtain⟨c1,c2,c3⟩:=q6t hz1 rfl (u2y n) keep tear
 rw[hd] at c1 c3
 exact⟨_,hob,c1,c2,c3⟩
theorem q2z {x:u0k} (hl:u25 x=true) (keep:Hu Int) (tear:Int):∃z,p1n x=some z∧u1q z=true∧(∀j:Int,u0h (flush z) j=if j=0 then(t37 (IntKind.i64.wrap (u3b x 0+1))++(rdL Ty.str x.1 0).extract 1 64,true) else u0h x j)∧(flush z).1.length=97∧
 (q8t keep 0=false→t8v z keep tear=x)∧(q8t keep 0=true→1≤t8j tear→t8v z keep tear=flush z)∧(t8v z keep tear=x∨t8v z keep tear=flush z):=by
 obtain⟨d1,d2,d3,d4,d5⟩:=u4t hl
 have hob:=r2f (s:=0) d1 d3 (by omega) (by rw[d2];omega) (u2y (IntKind.i64.wrap (u3b x 0+1)))
 have hz1:=(u5n hob).2.1
 have hd:(x.1,([] :Hu (Int×Hs)))=x:=by rw[←d3]
 obtain⟨c1,c2,c3⟩:=q6t hz1 rfl (u2y (IntKind.i64.wrap (u3b x 0+1))) keep tear
 rw[hd] at c1 c3
 refine⟨_,hob,hz1,fun j=> ?_,by rw[(t43 hz1).2.2];exact d2,c1,c2,c3⟩
 rw[u80 hz1]
 by_cases e:j=0
 ·rw[Al e,e]
  unfold u0h
  rw[Al (by show _∧_<(x.1.length:Int);rw[d2];omega)]
  simp[u82]
 ·rw[Ao e]
  have hne: ¬(0:Int)=j:=fun z=>e z.symm
  unfold u0h
  simp only[u82,Bs,List.foldl_nil,hne,Bk,d3]
theorem p5b {x z:u0k} (hl:u25 x=true) (hz1:u1q z=true) (hlen:(flush z).1.length=97) (hrd:∀j:Int,u0h (flush z) j=if j=0 then(t37 (IntKind.i64.wrap (u3b x 0+1))++(rdL Ty.str x.1 0).extract 1 64,true) else u0h x j):
 u25 (flush z)=true∧u0z (flush z)=1 - u0z x∧u0c (flush z) 0=u0c x 0∧u0c (flush z) 1=u0c x 1:=by
 obtain⟨d1,d2,d3,d4,d5⟩:=u4t hl
 obtain⟨c1,c2,c3⟩:=t43 hz1
 have r0:u0c (flush z) 0=u0c x 0:=u7w (fun q hq=>by
  have:=(u59 (a:=0) (.inl rfl)).1
  rw[hrd,Ao (by omega)])
 have r1:u0c (flush z) 1=u0c x 1:=u7w (fun q hq=>by
  have:=(u59 (a:=1) (.inr rfl)).1
  rw[hrd,Ao (by omega)])
 have hb:=q35 (u0h x 0).1
 refine⟨r4e c1 hlen c2 (by rw[r0];exact d4) (by rw[r1];exact d5),?_,r0,r1⟩
 unfold u0z u3b
 rw[hrd,Al rfl]
 have w:IntKind.i64.wrap (u3b x 0+1)=u3b x 0+1:=by unfold u3b;exact y4y (by omega) (by omega)
 have e:r7f (t37 (IntKind.i64.wrap (u3b x 0+1))++(rdL Ty.str x.1 0).extract 1 64)=(u3b x 0+1) % 256:=by
  rw[w,r47,u6w,Al (by rw[u2y];omega)]
  unfold t37 s22
  rw[t8i,q9i]
  simp only[u8s,C8,Eh,List.getD_cons_zero]
  rw[Gg]
  omega
 show Int.tmod (r7f _) 2=_
 rw[e]
 have hf:u3b x 0=r7f (u0h x 0).1:=rfl
 rw[hf]
 generalize r7f (u0h x 0).1=n at*
 obtain⟨m,rfl⟩:∃m:Nat,n=(m:Int):=⟨n.toNat,by omega⟩
 have t1:Int.tmod (m:Int) 2=((m % 2:Nat):Int):=p1k m 2
 have t2:Int.tmod (((m:Int)+1) % 256) 2=((((m+1) % 256) % 2:Nat):Int):=by
  have:((m:Int)+1) % 256=(((m+1) % 256:Nat):Int):=by omega
  rw[this]
  exact p1k ((m+1) % 256) 2
 rw[t1,t2]
 omega
end
section
theorem p0v {d y:u0k} {t:Hs} (h:append_ d t=some y):u25 d=true∧u25 y=true∧u0m y=u0m d++ [t] :=by
 unfold append_ at h
 split at h
 ·rename_i hl
  obtain⟨p1,p2,p3,p4,p5⟩:=p3a hl (t2k d) h
  refine⟨hl,p1,?_⟩
  unfold u0m
  rw[p2,p5]
 ·cases h
theorem p4b {d:u0k} {l:Hu Hs} (hl:u25 d=true) (hn:l.length≤255) (hr:p1j l≤3008) (ht:∀t∈l,t.size≠0∧t.size≤3008):
 ∃x,s9i d l=some x∧u25 x=true∧u0z x=u0z d∧u0m x=u0m d∧(u0c x (u4b d)).1=l:=by
 obtain⟨a1,a2⟩:=t4a d
 obtain⟨f1,f2,f3,f4,f5⟩:=r9s hl
 obtain⟨y,y1,y2,y3,y4,y5⟩:=q7a a1 (l:=l) f1 (by rw[f5];omega) (by rw[f4];simp only;omega) ht
 rw[←a2] at y4
 refine⟨y,by unfold s9i;rw[hl,Al rfl];exact y1,y2,y3.trans f2,?_,by rw[y5,f4];simp⟩
 unfold u0m
 rw[y3.trans f2,y4,f3]
theorem p02 {d x:u0k} {l:Hu Hs} (hx:s9i d l=some x) (h1:u25 x=true) (h2:u0z x=u0z d) (h3:u0m x=u0m d) (h4:(u0c x (u4b d)).1=l) (hl:u25 d=true):
 ∃y,s8l d l=some y∧u25 y=true∧u0m y=l∧ ∀(step:Int) (keep:Hu Int) (tear:Int),
  (step=0→u25 (u8y d l step keep tear)=true∧u0m (u8y d l step keep tear)=u0m d)∧(step=1→u8y d l step keep tear=x)∧
  (step≠0→step≠1→step≠2→u8y d l step keep tear=y)∧
  (step=2→(q8t keep 0=false→u8y d l step keep tear=x)∧(q8t keep 0=true→1≤t8j tear→u8y d l step keep tear=y)∧(u8y d l step keep tear=x∨u8y d l step keep tear=y)):=by
 obtain⟨a1,a2⟩:=t4a d
 obtain⟨z,hz,hz1,hrd,hlen,_⟩:=q2z h1 [] 0
 obtain⟨t1,t2,t3,t4⟩:=p5b h1 hz1 hlen hrd
 have hsw:s8l d l=some (flush z):=by unfold s8l;rw[hx];simp only[Dc,hz,orD]
 have htx:u0m (flush z)=l:=by
  have ho:u0z (flush z)=u4b d:=by rw[t2,h2];rfl
  unfold u0m
  rw[ho,←h4]
  rcases a1 with q | q<;>rw[q]
  ·rw[t3]
  ·rw[t4]
 refine⟨flush z,hsw,t1,htx,fun step keep tear=> ?_⟩
 obtain⟨c,hc,c1,c2,c3⟩:=q8n hl (n:=0) a1 keep tear
 obtain⟨z',hz',_,_,_,g1,g2,g3⟩:=q2z h1 keep tear
 rw[hz] at hz'
 cases hz'
 have e0:∀st,u8y d l st keep tear=(if st=0 then t8v c keep tear else if st=1 then x else if st=2 then t8v z keep tear else flush z):=fun st=>by
  unfold u8y
  rw[hx]
  simp only[hc,orD,hz]
 have hf0:flush c=s1d d:=by unfold s1d;rw[hc];rfl
 obtain⟨f1,f2,f3,f4,f5⟩:=r9s hl
 have htx0:u0m (s1d d)=u0m d:=by unfold u0m;rw[f2,f3]
 refine⟨fun s0=> ?_,fun s1=> ?_,fun n0 n1 n2=> ?_,fun s2=> ?_⟩
 ·rw[e0,Al s0]
  rcases c3 with q | q
  ·rw[q];exact⟨hl,rfl⟩
  ·rw[q,hf0];exact⟨f1,htx0⟩
 ·rw[e0,Ao (by omega),Al s1]
 ·rw[e0,Ao n0,Ao n1,Ao n2]
 ·have e:u8y d l step keep tear=t8v z keep tear:=by rw[e0,Ao (by omega),Ao (by omega),Al s2]
  rw[e]
  exact⟨g1,g2,g3⟩
end
section
structure Like0 (b e:u0i):Prop where
 vs:b.1=u2p e.1 e.2.2.2.1
 past:b.2.1= []
 ready:b.2.2.1=e.2.2.1
 cs:b.2.2.2.1=e.2.2.2.1
theorem p21 (b:u0i):∀(o:Hu u0j),t7z b o≤b.2.2.2.1:=by
 intro o
 have key:∀(o:Hu u0j) (m:Int),o.foldl (fun m t=>if t.2.2.1<m then t.2.2.1 else m) m≤m:=by
  intro o
  induction o with
  | nil=>intro m;exact Bv _
  | cons t o ih=>
   intro m
   rw[Bs]
   refine Int.le_trans (ih _) ?_
   split<;>omega
 exact key o _
theorem p1a (b:u0i):t7z b [] =b.2.2.2.1:=rfl
theorem Like0.tidy {b e:u0i} (h:Like0 b e) (he:BaseR e) (o:Hu u0j):Like0 b (u4y e o):=
 ⟨by rw[h.vs];exact(r4q (p3w.mp he.vs).2.1 (p21 e o)).symm,h.past,h.ready,h.cs⟩
theorem s89 {x:u0i} (hp:∀t∈x.2.1,t.2.2.2.1≤x.2.2.2.1):u4y x [] =(u2p x.1 x.2.2.2.1, [],x.2.2):=by
 unfold u4y
 rw[p1a]
 congr 2
 rw[List.filter_eq_nil_iff]
 intro t ht
 simp[hp t ht]
theorem Like0.self {b e:u0i} (h:Like0 b e) (he:BaseR e):u4y b [] =b:=by
 rw[s89 (by rw[h.past];intro t ht;cases ht)]
 obtain⟨b1,b2,b3⟩:=b
 have h1:=h.vs
 have h2:=h.past
 have h4:=h.cs
 simp only at h1 h2 h4
 rw[h4,h1,h2,r4q (p3w.mp he.vs).2.1 (Bv _)]
theorem p05 {d d' x:u0j} (h1:d.1=d'.1) (h2:d.2.1=d'.2.1) (h3:d.2.2.1=d'.2.2.1) (h4:d.2.2.2.1=d'.2.2.2.1) (h5:d.2.2.2.2.2.1=d'.2.2.2.2.2.1):p04 d x=p04 d' x:=by
 have:ahead x d=ahead x d' :=by unfold ahead q6o q91;rw[h1,h2,h3,h4,h5]
 unfold p04;rw[this]
theorem Like0.vlen {b e:u0i} (h:Like0 b e):b.1.length≤e.1.length:=by rw[h.vs];exact(u61 _ _).length_le
theorem r7a {b e:u0i} {t u:u0j} (h:Like0 b e) (he:BaseR e) (hb:BaseR b) (hc:e.2.2.2.1<9999) (hv:e.1.length≤100) (hu:TxnR u) (h9:u.1<9999) (hs:u.2.2.1≤e.2.2.2.1)
 (h1:u.1=t.1) (h3:u.2.2.1=t.2.2.1) (h5:u.2.2.2.2.2.1=t.2.2.2.2.2.1):
 u4v (u4y (u1n b u) [])=true∧Like0 (u4y (u1n b u) []) (u1n e t):=by
 have hR:BaseR (u1n b u):=q71 hb hu (by rw[h.cs];exact hs) (by rw[h.cs];exact hc) (by rw[h.past];simp) (by have:=h.vlen;omega) (by rw[h.past];intro x hx;cases hx) h9
 refine⟨q2w.mpr (t5l hR _),?_⟩
 rw[s89 (fun x hx=>(hR.past x hx).2.2)]
 obtain⟨v1,v2,v3⟩:=p3w.mp he.vs
 refine⟨?_,rfl,?_,?_⟩
 ·show u2p (t4b b.1 u.2.2.2.2.2.1 (b.2.2.2.1+1)) (b.2.2.2.1+1)=u2p (t4b e.1 t.2.2.2.2.2.1 (e.2.2.2.1+1)) (e.2.2.2.1+1)
  rw[h.cs,h.vs,h5]
  exact p5a v2 (h5 ▸ q76 hu.ws) fun x hx=>by have:=he.vcs x hx;unfold vCs;omega
 ·show(b.2.2.1.filter fun x=> !decide (x.1=u.1)).map (p04 (t6y b u))=(e.2.2.1.filter fun x=> !decide (x.1=t.1)).map (p04 (t6y e t))
  rw[h.ready,h1]
  refine Ff fun x _=>p05 h1 rfl h3 ?_ h5
  show b.2.2.2.1+1=e.2.2.2.1+1
  rw[h.cs]
 ·show b.2.2.2.1+1=e.2.2.2.1+1
  rw[h.cs]
theorem p6x {b:u0i} {n:Hs} :u07 b n<0↔ ∀x∈b.2.2.1,x.2.2.2.2.2.2.2≠n:=by
 unfold u07
 constructor
 ·intro h x hx e
  obtain⟨i,hi,rfl⟩:=B7 hx
  obtain⟨k,hk,hr⟩:=p1h b hi e
  unfold u07 at hr
  rw[hr] at h;omega
 ·intro h
  split
  ·rename_i q
   have:=u8z q
   exact absurd (y7f.mp this) (h _ (Ag q))
  ·omega
theorem t4i {b:u0i} {n:Hs} (h: ¬u07 b n<0):∃(k:Nat) (hk:k<b.2.2.1.length),u07 b n=(k:Int)∧b.2.2.1[k].2.2.2.2.2.2.2=n:=by
 unfold u07 at h ⊢
 split at h
 ·rename_i q
  rw[Al q]
  exact⟨_,q,rfl,y7f.mp (u8z q)⟩
 ·omega
theorem s8g {b e:u0i} (h:b.2.2.1=e.2.2.1) (n:Hs):u07 b n=u07 e n:=by unfold u07;rw[h]
theorem q2i {b e:u0i} {t:u0j} (h:Like0 b e) (he:BaseR e) (hb:BaseR b) (hc:e.2.2.2.1<9999) (hv:e.1.length≤100) (ht:TxnR t) (h9:t.1<9999) (hs:t.2.2.1≤e.2.2.2.1):
 ∃x,u6i b (1,t6y e t,emp,false,u2k)=some x∧BaseR x∧Like0 x (u1n e t):=by
 have hD:=q8o (b:=e) ht hs hc
 obtain⟨k1,k2⟩:=r7a (t:=t) (u:=t6y e t) h he hb hc hv hD h9 hs rfl rfl rfl
 refine⟨_,?_,q2w.mp k1,k2⟩
 unfold u6i
 rw[Al ⟨q2w.mpr hb,p50.mpr (.thr _ hD rfl)⟩]
 have e1:u2f b (1,t6y e t,emp,false,u2k)=some (u1n b (t6y e t)):=by
  unfold u2f
  rw[Al rfl,Al (by show e.2.2.2.1+1=b.2.2.2.1+1;rw[h.cs])]
 rw[e1]
 simp only
 rw[Al k1]
theorem p1d {b e:u0i} {n:Hs} {k:Nat} (h:Like0 b e) (he:BaseR e) (hb:BaseR b) (hc:e.2.2.2.1<9999) (hv:e.1.length≤100) (hn:u4z n=true) (hk:k<e.2.2.1.length) (hr:u07 e n=(k:Int)):
 ∃x,u6i b (3,u4e,n,true,u2k)=some x∧BaseR x∧Like0 x (u1n e e.2.2.1[k]):=by
 obtain⟨q1,q2,q3⟩:=he.ready _ (Ag hk)
 have h9:e.2.2.1[k].1<9999:=by
  have:=t7p.mp he.below _ (Az e.2.1 (Ag hk))
  have:=he.next.2;omega
 obtain⟨k1,k2⟩:=r7a (t:=e.2.2.1[k]) (u:=e.2.2.1[k]) h he hb hc hv q1 h9 q3 rfl rfl rfl
 refine⟨_,?_,q2w.mp k1,k2⟩
 unfold u6i
 rw[Al ⟨q2w.mpr hb,p50.mpr (.fin _ _ hn)⟩]
 have e1:u2f b (3,u4e,n,true,u2k)=some (u1n b e.2.2.1[k]):=by
  unfold u2f
  simp only
  rw[Ao (by decide),Ao (by decide),Al trivial,s8g h.ready,hr,Ao (by omega),Al trivial,zTn]
  congr 2
  rw[h.ready]
  exact y8k (t:=u1b) hk
 rw[e1]
 simp only
 rw[Al k1]
theorem p25 {b e:u0i} {n:Hs} {k:Nat} (h:Like0 b e) (he:BaseR e) (hb:BaseR b) (hn:u4z n=true) (hk:k<e.2.2.1.length) (hr:u07 e n=(k:Int)):
 ∃x,u6i b (3,u4e,n,false,u2k)=some x∧BaseR x∧Like0 x (t98 e n):=by
 have hR:=r9v hb n
 refine⟨u4y (t98 b n) [],?_,t5l hR _,?_⟩
 ·unfold u6i
  rw[Al ⟨q2w.mpr hb,p50.mpr (.fin _ _ hn)⟩]
  have e1:u2f b (3,u4e,n,false,u2k)=some (t98 b n):=by
   unfold u2f
   simp only
   rw[Ao (by decide),Ao (by decide),Al trivial,s8g h.ready,hr,Ao (by omega),Ao (by decide)]
  rw[e1]
  simp only
  rw[Al (q2w.mpr (t5l hR _))]
 ·rw[s89 (fun x hx=>(hR.past x hx).2.2)]
  refine⟨?_,rfl,?_,h.cs⟩
  ·show u2p b.1 b.2.2.2.1=u2p e.1 e.2.2.2.1
   rw[h.cs,h.vs]
   exact r4q (p3w.mp he.vs).2.1 (Bv _)
  ·show b.2.2.1.filter _=e.2.2.1.filter _
   rw[h.ready]
theorem q7p {b e:u0i} {t:u0j} {n:Hs} (h:Like0 b e) (he:BaseR e) (hb:BaseR b) (ht:TxnR t) (h3:t.2.1≠3) (hn:u4z n=true) (hs:t.2.2.1≤e.2.2.2.1) (hl:e.2.2.1.length<3)
 (hx:∀x∈e.2.2.1,x.2.2.2.2.2.2.2≠n) (hid:∀x∈e.2.2.1,x.1≠t.1) (h9:t.1<9999):
 ∃x,u6i b (2,u3r e t n,emp,false,u2k)=some x∧BaseR x∧Like0 x (u2e e t n):=by
 have hD:=q5l (b:=e) ht h3 hn
 have hrr:u3r b (u3r e t n) n=u3r e t n:=by
  have:q2h (u3r e t n) b.2.1=false:=by rw[h.past];rfl
  unfold u3r at this ⊢
  rw[this,Fp]
 have hR:BaseR (u2e b (u3r e t n) n):=r2e hb hD (by show(2:Int)≠3;omega) (by rw[h.cs];exact hs) hn (by rw[h.ready];exact hl) (by rw[h.ready];exact hx) (by
  rw[h.past,h.ready];exact hid) h9
 refine⟨u4y (u2e b (u3r e t n) n) [],?_,t5l hR _,?_⟩
 ·unfold u6i
  rw[Al ⟨q2w.mpr hb,p50.mpr (.rdy _ hD rfl)⟩]
  have e1:u2f b (2,u3r e t n,emp,false,u2k)=some (u2e b (u3r e t n) n):=by
   unfold u2f
   simp only
   have hcond:b.2.2.1.length<3∧u07 b (u3r e t n).2.2.2.2.2.2.2<0:=⟨by rw[h.ready];exact hl,by rw[s8g h.ready];exact p6x.mpr hx⟩
   rw[Ao (by decide),Al trivial,Al hcond]
   rfl
  rw[e1]
  simp only
  rw[Al (q2w.mpr (t5l hR _))]
 ·rw[s89 (fun x hx=>(hR.past x hx).2.2)]
  refine⟨?_,rfl,?_,h.cs⟩
  ·show u2p b.1 b.2.2.2.1=u2p e.1 e.2.2.2.1
   rw[h.cs,h.vs]
   exact r4q (p3w.mp he.vs).2.1 (Bv _)
  ·show(b.2.2.1.filter _)++ [u3r b (u3r e t n) n] ++(b.2.2.1.filter _)=(e.2.2.1.filter _)++ [u3r e t n] ++(e.2.2.1.filter _)
   rw[h.ready,hrr]
theorem q9z:BaseR q78:=by
 refine⟨rfl,fun v h=>(by cases h),⟨Bv _,by decide⟩,⟨by decide,by decide⟩,by decide,fun t h=>(by cases h),List.Pairwise.nil,by decide,fun t h=>(by cases h),List.Pairwise.nil,fun x h=>(by cases h),List.Pairwise.nil⟩
theorem q82 {b:u0i} (hb:BaseR b) (hs:u4y b [] =b):u6i q78 (4,u4e,emp,false,b)=some b:=by
 unfold u6i
 rw[Al ⟨q2w.mpr q9z,p50.mpr (.bas b hb)⟩]
 have e1:u2f q78 (4,u4e,emp,false,b)=some b:=by
  unfold u2f
  simp only
  rw[Ao (by decide),Ao (by decide),Ao (by decide)]
 rw[e1]
 simp only
 rw[hs,Al (q2w.mpr hb)]
theorem q3h {d y:u0k} {t:Hs} (h:s8l d [t] =some y):u25 d=true∧u25 y=true∧u0m y= [t] :=by
 obtain⟨x,hx⟩:∃x,s9i d [t] =some x:=by
  cases q:s9i d [t] with
  | none=>unfold s8l at h;rw[q] at h;cases h
  | some x=>exact⟨x,rfl⟩
 have hl:u25 d=true:=by
  unfold s9i at hx
  split at hx
  ·assumption
  ·cases hx
 obtain⟨a1,a2⟩:=t4a d
 obtain⟨f1,f2,f3,f4,f5⟩:=r9s hl
 have hp:∃z,q27 (s1d d) (u4b d) t=some z:=by
  unfold s9i at hx
  rw[Al hl] at hx
  cases q:q27 (s1d d) (u4b d) t with
  | none=>simp only[r06,q] at hx;cases hx
  | some z=>exact⟨z,rfl⟩
 obtain⟨z,hz⟩:=hp
 obtain⟨w,hw,_⟩:=p3b (u4t f1).2.1 hz
 obtain⟨E,hE,g1,g2,g3,g4,g5⟩:=q34 hw
 obtain⟨x',x1,x2,x3,x4,x5⟩:=p4b (l:= [t]) hl (by simp) (by simp[p1j];omega) (fun u hu=>by simp at hu;subst hu;exact⟨g3,g4⟩)
 rw[hx] at x1
 cases x1
 obtain⟨y',y1,y2,y3,_⟩:=p02 hx x2 x3 x4 x5 hl
 rw[h] at y1
 cases y1
 exact⟨hl,y2,y3⟩
def p1u (d:u0k):Ht u0k:=match t0p (u0m d) with
 | none=>none
 | some b=>if(u0o (4,u4e,emp,false,b)).2=true then s8l d [(u0o (4,u4e,emp,false,b)).1] else none
def t2l (d:u0k) (r:t8z):Ht u0k:=
 if(u0o r).2=true then(match append_ d (u0o r).1 with
  | some y=>some y
  | none=>match p1u d with
   | none=>none
   | some z=>append_ z (u0o r).1)
 else none
theorem q9r {d y:u0k} {b:u0i} (hp:t0p (u0m d)=some b) (hb:BaseR b) (hs:u4y b [] =b) (h:p1u d=some y):u25 d=true∧u25 y=true∧t0p (u0m y)=some b:=by
 unfold p1u at h
 rw[hp] at h
 simp only at h
 rw[u4m (.bas b hb),Al rfl] at h
 obtain⟨h1,h2,h3⟩:=q3h h
 refine⟨h1,h2,?_⟩
 rw[h3]
 unfold t0p
 simp only[t72]
 rw[t9t (.bas b hb)]
 simp only
 rw[q82 hb hs]
theorem r8d {d y:u0k} {b x:u0i} {r:t8z} (hp:t0p (u0m d)=some b) (hb:BaseR b) (hs:u4y b [] =b) (hr:RecR r) (hx:u6i b r=some x) (h:t2l d r=some y):u25 y=true∧t0p (u0m y)=some x:=by
 have step:∀ {d y:u0k},t0p (u0m d)=some b→append_ d (s11 (s3d r))=some y→u25 y=true∧t0p (u0m y)=some x:=by
  intro d y hp h
  obtain⟨h1,h2,h3⟩:=p0v h
  refine⟨h2,?_⟩
  rw[h3]
  unfold t0p at hp ⊢
  rw[p1c,hp]
  simp only[zOb,t72]
  rw[t9t hr]
  simp only
  rw[hx]
 unfold t2l at h
 rw[u4m hr,Al rfl] at h
 simp only at h
 cases q:append_ d (s11 (s3d r)) with
 | some z=>
  rw[q] at h
  cases h
  exact step hp q
 | none=>
  rw[q] at h
  simp only at h
  cases a:p1u d with
  | none=>rw[a] at h;cases h
  | some z=>
   rw[a] at h
   obtain⟨_,_,z3⟩:=q9r hp hb hs a
   exact step z3 h
end
section
def p6r (x:u0j):Bool:=decide (x.2.1=2) || decide (x.2.1=3)
def p1v (t:u0j) (l:Hu u0j):Bool:=l.any fun x=>p6r x&&ahead x t
def r8t (t:u0j) (l:Hu u0j):Bool:=l.any fun x=> !decide (x.1=t.1)&&((decide (x.2.1=2) || (decide (x.2.1=3)&&decide (x.2.2.2.1 >t.2.2.1)))&&r93 x.2.2.2.2.2.1 t.2.2.2.2.2.1)
def q4a (f:u0j→Bool) (t:u0j) (l:Hu u0j):Bool:=
 (p1v t l&&q2h t l) || (l.any (fun x=>p6r x&&(x.2.2.2.2.2.2.1&&ahead t x)) ||
  l.any fun p=>decide (p.2.1=2)&&(ahead p t&&(ahead t p || l.any fun x=>decide (x.2.1=2)&&(f x&&ahead x p))))
def r6u (t:u0j) (l:Hu u0j):Bool:=q4a (fun x=> !decide (x.1=t.1)) t l
def r64 (f:u0j→Bool) (t:u0j) (l:Hu u0j):Bool:=
 q4a f t l || ((p1v t l&&l.any fun x=>decide (x.2.1=2)&&ahead t x) || l.any fun x=>(decide (x.2.1=2)&&ahead t x)&&l.any fun y=>decide (y.2.1=2)&&(!decide (y.1=t.1)&&ahead x y))
def t8f (t:u0j) (l:Hu u0j):Bool:=r64 (fun x=> !decide (x.1=t.1)) t l
structure SameC (x y:u0j):Prop where
 id:x.1=y.1
 st:x.2.1=y.2.1
 snap:x.2.2.1=y.2.2.1
 cs:x.2.2.2.1=y.2.2.2.1
 rs:x.2.2.2.2.1=y.2.2.2.2.1
 ws:x.2.2.2.2.2.1=y.2.2.2.2.2.1
structure Ser (H:Hu u0j) (e:u2s):Prop where
 eng:EngR e
 st:∀x∈H,x.2.1=3
 snap:∀x∈H,x.2.2.1<x.2.2.2.1∧x.2.2.2.1≤e.1.2.2.2.1
 asc:H.Pairwise fun x y=>x.2.2.2.1<y.2.2.2.1
 uqh:uq (H++(e.1.2.2.1++e.2))
 bel:∀x∈H,x.1<e.1.2.2.2.2
 pin:∀x∈e.1.2.1,∃y∈H,SameC x y
 cov:∀y∈H,∀o∈e.2,o.2.2.1<y.2.2.2.1→ ∃x∈e.1.2.1,SameC x y
 outp:∀x∈e.1.2.1,∀y∈H,ahead x y=true→y.2.2.2.1<x.2.2.2.1→x.2.2.2.2.2.2.1=true
 outr:∀p∈e.1.2.2.1,∀y∈H,ahead p y=true→p.2.2.2.2.2.2.1=true
 no3:∀x∈H,∀y∈H,∀z∈H,ahead x y=true→ahead y z=true→z.2.2.2.1<y.2.2.2.1→z.2.2.2.1≤x.2.2.2.1→False
 noA:∀x∈H,∀p∈e.1.2.2.1,∀z∈H,ahead x p=true→ahead p z=true→z.2.2.2.1≤x.2.2.2.1→False
 noB:∀p∈e.1.2.2.1,∀y∈H,∀z∈H,ahead p y=true→ahead y z=true→z.2.2.2.1<y.2.2.2.1→False
 noD:∀p∈e.1.2.2.1,∀q∈e.1.2.2.1,∀z∈H,ahead p q=true→ahead q z=true→False
 noE:∀p∈e.1.2.2.1,∀q∈e.1.2.2.1,∀r∈e.1.2.2.1,ahead p q=true→ahead q r=true→False
 ww:∀x∈H,∀y∈H,x.2.2.2.1<y.2.2.2.1→r93 x.2.2.2.2.2.1 y.2.2.2.2.2.1=true→x.2.2.2.1≤y.2.2.1
 wr:∀p∈e.1.2.2.1,∀y∈H,r93 y.2.2.2.2.2.1 p.2.2.2.2.2.1=true→y.2.2.2.1≤p.2.2.1
 rr:∀p∈e.1.2.2.1,∀q∈e.1.2.2.1,p.1≠q.1→r93 p.2.2.2.2.2.1 q.2.2.2.2.2.1=true→False
def o3k (c:Int) (t:u0j):u0j:=(t.1,(3:Int),t.2.2.1,c,t.2.2.2.2.1,t.2.2.2.2.2.1,t.2.2.2.2.2.2.1,(⟨#[]⟩:Hs))
structure Passed (t:u0j) (P R:Hu u0j):Prop where
 nb:∀x∈P++R,x.1≠t.1→(x.2.1=2∨(x.2.1=3∧x.2.2.2.1 >t.2.2.1))→r93 x.2.2.2.2.2.1 t.2.2.2.2.2.1=true→False
 d1:∀x∈P++R,∀y∈P,ahead x t=true→ahead t y=true→False
 d2:∀x∈P++R,x.2.2.2.2.2.2.1=true→ahead t x=true→False
 d3:∀p∈R,ahead p t=true→ahead t p=true→False
 d4:∀p∈R,∀x∈R,ahead p t=true→ahead x p=true→x.1≠t.1→False
end
section
abbrev u1s:=u2s×u0k
def q5y:t8z:=(0,u4e,emp,false,u2k)
def t0w (o:Hu u0j) (id:Int):Int:=if u1o (fun x:u0j=>decide (x.1=id)) o<o.length then((u1o (fun x:u0j=>decide (x.1=id)) o:Nat):Int) else -1
def u2x (e:u2s) (id:Int):u0j:=rdL u1b e.2 (t0w e.2 id).toNat
def t70 (e:u2s):Hu u0j:=e.1.2.1++e.1.2.2.1
def r2c (e:u2s) (id:Int):Int:=
 if t0w e.2 id<0 then 1 else if r8t (u2x e id) (t70 e)=true then 4 else if r6u (u2x e id) (t70 e)=true then 5 else if r5r e.1=true then 3 else 0
def u39 (e:u2s) (id:Int):u2s×t8z×Int:=
 if r2c e id=1 then(e,q5y,1) else if r2c e id=0 then(r8u e (u2x e id),(1,t6y e.1 (u2x e id),emp,false,u2k),0) else(s1y e id,q5y,r2c e id)
def s86 (e:u2s) (id:Int):Int:=
 if r2c e id≠0 then r2c e id else if t8f (u2x e id) (t70 e)=true then 5 else if 3≤e.1.2.2.1.length then 3 else 0
def t56 (e:u2s) (id:Int) (n:Hs):u2s×t8z×Int:=
 if t0w e.2 id<0 then(e,q5y,1) else if u4z n=false then(e,q5y,2) else if 0≤u07 e.1 n then(e,q5y,6)
 else if s86 e id=0 then(p26 e (u2x e id) n,(2,u3r e.1 (u2x e id) n,emp,false,u2k),0) else(s1y e id,q5y,s86 e id)
def r5q (e:u2s) (n:Hs) (yes:Bool):u2s×t8z×Int:=
 if u07 e.1 n<0 then(e,q5y,1) else if yes=true∧r5r e.1=true then(e,q5y,3)
 else if yes=true then(o0t e (rdL u1b e.1.2.2.1 (u07 e.1 n).toNat),(3,u4e,n,true,u2k),0) else(noE e n,(3,u4e,n,false,u2k),0)
def r92 (e:u2s) (id:Int):u2s×Int:=if t0w e.2 id<0 then(e,1) else(s1y e id,0)
def s08 (e:u2s):u2s×Int×Int:=if e.2.length<4∧e.1.2.2.2.2<9999 then(p5r e,e.1.2.2.2.2,0) else(e,0,3)
def p9l (l:Hu t80) (r:t80):Bool:=l.any fun x=>z7o x.1 r.1&&z7o x.2 r.2
def o2u (t:u0j) (r:t80):u0j:=(t.1,t.2.1,t.2.2.1,t.2.2.2.1,t.2.2.2.2.1++ [r],t.2.2.2.2.2)
def t8x (t:u0j) (r:t80):u0j×Bool:=if p9l t.2.2.2.2.1 r=true then(t,true) else if t.2.2.2.2.1.length<8 then(o2u t r,true) else(t,false)
def o0p (t:u0j) (l:Hu WrT):u0j:=(t.1,t.2.1,t.2.2.1,t.2.2.2.1,t.2.2.2.2.1,l,t.2.2.2.2.2.2)
def s6a (t:u0j) (w:WrT):u0j×Bool:=if(q0t t.2.2.2.2.2.1 w).length≤8 then(o0p t (q0t t.2.2.2.2.2.1 w),true) else(t,false)
def t8w (e:u2s) (id:Int) (r:t80) (right:Bool):u2s×Int:=
 if t0w e.2 id<0 then(e,1) else if right=false then(e,2) else if(t8x (u2x e id) r).2=true then(q88 e (t0w e.2 id).toNat (t8x (u2x e id) r).1,0) else(e,3)
def q95 (e:u2s) (id:Int) (w:WrT):u2s×Int:=
 if t0w e.2 id<0 then(e,1) else if u19 w=false then(e,2) else if(s6a (u2x e id) w).2=true then(q88 e (t0w e.2 id).toNat (s6a (u2x e id) w).1,0) else(e,3)
theorem u1v {e:u2s} {id:Int} (h: ¬t0w e.2 id<0):∃(k:Nat) (hk:k<e.2.length),t0w e.2 id=(k:Int)∧u2x e id=e.2[k] ∧e.2[k].1=id:=by
 unfold u2x
 unfold t0w at h ⊢
 split at h
 ·rename_i q
  rw[Al q]
  refine⟨_,q,rfl,?_,?_⟩
  ·rw[zTn];exact y8k (t:=u1b) q
  ·simpa using u8z q
 ·omega
theorem r5t {e:u2s} {id:Int} (h:r2c e id=0): ¬t0w e.2 id<0∧r8t (u2x e id) (t70 e)=false∧r6u (u2x e id) (t70 e)=false∧r5r e.1=false:=by
 unfold r2c at h
 split at h
 ·omega
 ·rename_i h1
  split at h
  ·omega
  ·rename_i h2
   split at h
   ·omega
   ·rename_i h3
    split at h
    ·omega
    ·rename_i h4
     exact⟨h1,by simpa using h2,by simpa using h3,by simpa using h4⟩
theorem p76 {t:u0j} {r:t80} (h:TxnR t) (hr:u18 r=true) (hl:t.2.2.2.2.1.length<8):TxnR (o2u t r):=
 ⟨h.id,h.st,h.snap,by show(t.2.2.2.2.1++ [r]).length≤8;simp only[Ba,Aw];omega,h.ws,fun x hx=>by
   rcases Ay.mp hx with hx | hx
   ·exact h.rs x hx
   ·rw[Ax] at hx;subst hx;exact hr,h.done,h.nocs,h.name,h.noname,h.out⟩
theorem p6w {t:u0j} {r:t80} (h:TxnR t) (hr:u18 r=true):TxnR (t8x t r).1∧(t8x t r).1.1=t.1∧(t8x t r).1.2.1=t.2.1∧(t8x t r).1.2.2.1=t.2.2.1∧(t8x t r).1.2.2.2.2.2.1=t.2.2.2.2.2.1:=by
 unfold t8x
 split
 ·exact⟨h,rfl,rfl,rfl,rfl⟩
 ·split
  ·rename_i q;exact⟨p76 h hr q,rfl,rfl,rfl,rfl⟩
  ·exact⟨h,rfl,rfl,rfl,rfl⟩
theorem q83 {l:Hu WrT} {w:WrT} (h:u22 l=true) (hw:u19 w=true) (hl:(q0t l w).length≤8):u22 (q0t l w)=true:=by
 obtain⟨h1,h2,h3⟩:=p52.mp h
 refine p52.mpr ⟨fun x hx=> ?_,?_,hl⟩
 ·rcases r4h hx with hx | rfl
  ·exact h1 x hx
  ·exact hw
 ·unfold q0t
  rw[Bi,Cg]
  refine⟨Dz _ h2,?_,?_⟩
  ·rw[Fs,Ch]
   refine⟨fun y hy=> ?_,Dz _ h2⟩
   have:=(A6.mp hy).2
   rw[q7d] at this
   exact this
  ·intro x hx y hy
   have h4:=(A6.mp hx).2
   rcases Ay.mp hy with hy | hy
   ·rw[Ax] at hy;subst hy;exact h4
   ·have h5:=(A6.mp hy).2
    rw[q7d] at h5
    exact r4l h4 h5
theorem p8s {t:u0j} {l:Hu WrT} (h:TxnR t) (hl:u22 l=true):TxnR (o0p t l):=
 ⟨h.id,h.st,h.snap,h.rlen,hl,h.rs,h.done,h.nocs,h.name,h.noname,h.out⟩
theorem p5f {t:u0j} {w:WrT} (h:TxnR t) (hw:u19 w=true):TxnR (s6a t w).1∧(s6a t w).1.1=t.1∧(s6a t w).1.2.1=t.2.1∧(s6a t w).1.2.2.1=t.2.2.1∧(s6a t w).1.2.2.2.2.1=t.2.2.2.2.1:=by
 unfold s6a
 split
 ·rename_i q;exact⟨p8s h (q83 h.ws hw q),rfl,rfl,rfl,rfl⟩
 ·exact⟨h,rfl,rfl,rfl,rfl⟩
theorem p8g {e:u2s} (h:EngR e) {id:Int} {r:t80} {right:Bool} (hr:right=true→u18 r=true):EngR (t8w e id r right).1:=by
 unfold t8w
 split
 ·exact h
 ·rename_i q
  split
  ·exact h
  ·rename_i hb
   split
   ·obtain⟨k,hk,e1,e2,e3⟩:=u1v q
    obtain⟨o1,o2,o3⟩:=h.open_ _ (Ag hk)
    rw[e1,zTn,e2]
    obtain⟨r1,r2,r3,r4,r5⟩:=p6w o1 (hr (by simpa using hb))
    exact q7x h hk r1 r2 (r3.trans o2) r4
   ·exact h
theorem o0o {e:u2s} (h:EngR e) {id:Int} {w:WrT} :EngR (q95 e id w).1:=by
 unfold q95
 split
 ·exact h
 ·rename_i q
  split
  ·exact h
  ·rename_i hb
   split
   ·obtain⟨k,hk,e1,e2,e3⟩:=u1v q
    obtain⟨o1,o2,o3⟩:=h.open_ _ (Ag hk)
    rw[e1,zTn,e2]
    obtain⟨r1,r2,r3,r4,r5⟩:=p5f (w:=w) o1 (by simpa using hb)
    exact q7x h hk r1 r2 (r3.trans o2) r4
   ·exact h
theorem p37 {e:u2s} (h:EngR e):EngR (s08 e).1:=by
 unfold s08
 split
 ·rename_i q;exact p6n h q.1 q.2
 ·exact h
structure Sync (s:u1s) (b:u0i):Prop where
 eng:EngR s.1
 log:u25 s.2=true
 play:t0p (u0m s.2)=some b
 right:BaseR b
 like:Like0 b s.1.1
theorem Like0.of {b e e' :u0i} (h:Like0 b e) (h1:e'.1=e.1) (h2:e'.2.2.1=e.2.2.1) (h3:e'.2.2.2.1=e.2.2.2.1):Like0 b e' :=
 ⟨by rw[h1,h3];exact h.vs,h.past,by rw[h2];exact h.ready,by rw[h3];exact h.cs⟩
theorem Sync.opens {s:u1s} {b:u0i} {e:u2s} (h:Sync s b) (he:EngR e) (h1:e.1.1=s.1.1.1) (h2:e.1.2.2.1=s.1.1.2.2.1) (h3:e.1.2.2.2.1=s.1.1.2.2.2.1):Sync (e,s.2) b:=
 ⟨he,h.log,h.play,h.right,h.like.of h1 h2 h3⟩
theorem Sync.leave {s:u1s} {b:u0i} (h:Sync s b) (id:Int):Sync (s1y s.1 id,s.2) b:=
 ⟨p6u h.eng id,h.log,h.play,h.right,h.like.tidy h.eng.base _⟩
theorem Sync.own {s:u1s} {b:u0i} (h:Sync s b):u4y b [] =b:=h.like.self h.eng.base
def t31 (s:u1s) (id:Int):u1s×Int:=
 if(u39 s.1 id).2.2=0 then(match t2l s.2 (u39 s.1 id).2.1 with
  | some d=>(((u39 s.1 id).1,d),0)
  | none=>((s1y s.1 id,s.2),3))
 else(((u39 s.1 id).1,s.2),(u39 s.1 id).2.2)
def s8k (s:u1s) (id:Int) (n:Hs):u1s×Int:=
 if(t56 s.1 id n).2.2=0 then(match t2l s.2 (t56 s.1 id n).2.1 with
  | some d=>(((t56 s.1 id n).1,d),0)
  | none=>((s1y s.1 id,s.2),3))
 else(((t56 s.1 id n).1,s.2),(t56 s.1 id n).2.2)
def q0h (s:u1s) (n:Hs) (yes:Bool):u1s×Int:=
 if(r5q s.1 n yes).2.2=0 then(match t2l s.2 (r5q s.1 n yes).2.1 with
  | some d=>(((r5q s.1 n yes).1,d),0)
  | none=>(s,3))
 else(s,(r5q s.1 n yes).2.2)
def p4c (s:u1s):u1s×Bool:=match p1u s.2 with
 | some d=>((s.1,d),true)
 | none=>(s,false)
theorem Sync.commit {s:u1s} {b:u0i} (h:Sync s b) (id:Int):∃b',Sync (t31 s id).1 b' ∧(b' =b∨((t31 s id).2=0∧r2c s.1 id=0∧u6i b (1,t6y s.1.1 (u2x s.1 id),emp,false,u2k)=some b')):=by
 have hE:=h.eng
 unfold t31
 by_cases c0:(u39 s.1 id).2.2=0
 ·rw[Al c0]
  have j0:r2c s.1 id=0:=by
   unfold u39 at c0
   split at c0
   ·cases c0
   ·split at c0
    ·assumption
    ·exact c0
  have ec:u39 s.1 id=(r8u s.1 (u2x s.1 id),(1,t6y s.1.1 (u2x s.1 id),emp,false,u2k),0):=by
   unfold u39;rw[Ao (by omega),Al j0]
  obtain⟨h1,h2,h3,h4⟩:=r5t j0
  obtain⟨k,hk,e1,e2,e3⟩:=u1v h1
  have ht:u2x s.1 id∈s.1.2:=by rw[e2];exact Ag hk
  obtain⟨f1,f2,f3⟩:=q47 h4
  obtain⟨tR,t1,ts⟩:=hE.open_ _ ht
  have h9:(u2x s.1 id).1<9999:=by have:=hE.bel _ (Az _ ht);have:=hE.base.next.2;omega
  obtain⟨x,p1,p2,p3⟩:=q2i (t:=u2x s.1 id) h.like hE.base h.right f3 f2 tR h9 ts
  rw[ec]
  simp only
  cases hk2:t2l s.2 (1,t6y s.1.1 (u2x s.1 id),emp,false,u2k) with
  | none=>exact⟨b,h.leave id, .inl rfl⟩
  | some d=>
   obtain⟨l1,l2⟩:=r8d h.play h.right h.own (.thr _ (q8o tR ts f3) rfl) p1 hk2
   have hR:=p38 hE ht h4
   exact⟨x,⟨hR,l1,l2,p2,p3.tidy (s88 hE (.inl ht) h4) _⟩, .inr ⟨rfl,j0,p1⟩⟩
 ·rw[Ao c0]
  refine⟨b,?_, .inl rfl⟩
  unfold u39
  split
  ·exact h
  ·split
   ·rename_i q1 q2
    exfalso;apply c0
    unfold u39;rw[Ao q1,Al q2]
   ·exact h.leave id
theorem p8p {e:u2s} {id:Int} (h:s86 e id=0):r2c e id=0∧t8f (u2x e id) (t70 e)=false∧e.1.2.2.1.length<3:=by
 unfold s86 at h
 split at h
 ·rename_i q;exact absurd h q
 ·rename_i q
  split at h
  ·omega
  ·rename_i q2
   split at h
   ·omega
   ·exact⟨by omega,by simpa using q2,by omega⟩
theorem p27 {e:u2s} {id:Int} {n:Hs} (h:(t56 e id n).2.2=0): ¬t0w e.2 id<0∧u4z n=true∧u07 e.1 n<0∧s86 e id=0∧t56 e id n=(p26 e (u2x e id) n,(2,u3r e.1 (u2x e id) n,emp,false,u2k),0):=by
 unfold t56 at h ⊢
 split at h
 ·cases h
 ·rename_i q1
  split at h
  ·cases h
  ·rename_i q2
   split at h
   ·cases h
   ·rename_i q3
    split at h
    ·rename_i q4
     exact⟨q1,by simpa using q2,by omega,q4,by rw[Ao q1,Ao q2,Ao q3,Al q4]⟩
    ·rename_i q4
     exact absurd h q4
theorem Sync.prep {s:u1s} {b:u0i} (h:Sync s b) (id:Int) (n:Hs):∃b',Sync (s8k s id n).1 b' ∧(b' =b∨((s8k s id n).2=0∧(t56 s.1 id n).2.2=0∧u6i b (2,u3r s.1.1 (u2x s.1 id) n,emp,false,u2k)=some b')):=by
 have hE:=h.eng
 unfold s8k
 by_cases c0:(t56 s.1 id n).2.2=0
 ·rw[Al c0]
  obtain⟨h1,hn,hr,hc,ec⟩:=p27 c0
  obtain⟨j0,rd,rl⟩:=p8p hc
  obtain⟨k,hk,e1,e2,e3⟩:=u1v h1
  have ht:u2x s.1 id∈s.1.2:=by rw[e2];exact Ag hk
  obtain⟨tR,t1,ts⟩:=hE.open_ _ ht
  have h9:(u2x s.1 id).1<9999:=by have:=hE.bel _ (Az _ ht);have:=hE.base.next.2;omega
  have hnn:=p6x.mp hr
  obtain⟨x,p1,p2,p3⟩:=q7p (t:=u2x s.1 id) (n:=n) h.like hE.base h.right tR (by omega) hn ts rl hnn (fun x hx=>hE.apart x (Az _ hx) _ ht) h9
  rw[ec]
  simp only
  cases hk2:t2l s.2 (2,u3r s.1.1 (u2x s.1 id) n,emp,false,u2k) with
  | none=>exact⟨b,h.leave id, .inl rfl⟩
  | some d=>
   obtain⟨l1,l2⟩:=r8d h.play h.right h.own (.rdy _ (q5l tR (by omega) hn) rfl) p1 hk2
   have hB:BaseR (u2e s.1.1 (u2x s.1 id) n):=r2e hE.base tR (by omega) ts hn rl hnn (fun x hx=>hE.apart x hx _ ht) h9
   exact⟨x,⟨p8q hE ht hn rl hnn,l1,l2,p2,p3.tidy hB _⟩, .inr ⟨by trivial,by trivial,p1⟩⟩
 ·rw[Ao c0]
  refine⟨b,?_, .inl rfl⟩
  unfold t56
  split
  ·exact h
  ·split
   ·exact h
   ·split
    ·exact h
    ·split
     ·rename_i q1 q2 q3 q4
      exfalso;apply c0
      unfold t56;rw[Ao q1,Ao q2,Ao q3,Al q4]
     ·exact h.leave id
theorem Sync.fin {s:u1s} {b:u0i} (h:Sync s b) (n:Hs) (yes:Bool):∃b',Sync (q0h s n yes).1 b' ∧(b' =b∨((q0h s n yes).2=0∧(r5q s.1 n yes).2.2=0∧u6i b (3,u4e,n,yes,u2k)=some b')):=by
 have hE:=h.eng
 unfold q0h
 by_cases c0:(r5q s.1 n yes).2.2=0
 ·rw[Al c0]
  unfold r5q at c0
  split at c0
  ·cases c0
  ·rename_i q1
   split at c0
   ·cases c0
   ·rename_i q2
    obtain⟨k,hk,r1,r2⟩:=t4i q1
    obtain⟨tR,t2,ts⟩:=hE.base.ready _ (Ag hk)
    have hn:u4z n=true:=by rw[←r2];exact tR.name t2
    cases yes with
    | true=>
     have hf:r5r s.1.1=false:=by simpa using q2
     obtain⟨f1,f2,f3⟩:=q47 hf
     have ec:r5q s.1 n true=(o0t s.1 s.1.1.2.2.1[k],(3,u4e,n,true,u2k),0):=by
      unfold r5q;rw[Ao q1,Ao q2,Al rfl,r1,zTn,y8k (t:=u1b) hk]
     obtain⟨x,p1,p2,p3⟩:=p1d h.like hE.base h.right f3 f2 hn hk r1
     rw[ec]
     simp only
     cases hk2:t2l s.2 (3,u4e,n,true,u2k) with
     | none=>exact⟨b,h, .inl rfl⟩
     | some d=>
      obtain⟨l1,l2⟩:=r8d h.play h.right h.own (.fin n true hn) p1 hk2
      exact⟨x,⟨o0u hE (Ag hk) hf,l1,l2,p2,p3.tidy (s88 hE (.inr (Ag hk)) hf) _⟩, .inr ⟨by trivial,by trivial,p1⟩⟩
    | false=>
     have ec:r5q s.1 n false=(noE s.1 n,(3,u4e,n,false,u2k),0):=by
      unfold r5q;rw[Ao q1,Ao q2,Ao (by decide)]
     obtain⟨x,p1,p2,p3⟩:=p25 h.like hE.base h.right hn hk r1
     rw[ec]
     simp only
     cases hk2:t2l s.2 (3,u4e,n,false,u2k) with
     | none=>exact⟨b,h, .inl rfl⟩
     | some d=>
      obtain⟨l1,l2⟩:=r8d h.play h.right h.own (.fin n false hn) p1 hk2
      exact⟨x,⟨o3i hE n,l1,l2,p2,p3.tidy (r9v hE.base n) _⟩, .inr ⟨by trivial,by trivial,p1⟩⟩
 ·rw[Ao c0]
  exact⟨b,h, .inl rfl⟩
theorem Sync.fix {s:u1s} {b:u0i} (h:Sync s b):Sync (p4c s).1 b:=by
 unfold p4c
 cases ha:p1u s.2 with
 | none=>exact h
 | some d=>
  obtain⟨_,l1,l2⟩:=q9r h.play h.right h.own ha
  exact⟨h.eng,l1,l2,h.right,h.like⟩
end
section
structure PassedR (t:u0j) (P R:Hu u0j):Prop extends Passed t P R where
 e1:∀x∈P++R,∀y∈R,ahead x t=true→ahead t y=true→False
 e2:∀x∈R,∀y∈R,ahead t x=true→ahead x y=true→y.1≠t.1→False
end
section
def K5:Hu Hs:= [⟨#[97]⟩,⟨#[98]⟩,⟨#[99]⟩,⟨#[100]⟩,⟨#[97,98]⟩]
structure DomT (t:u0j):Prop where
 ws:∀w∈t.2.2.2.2.2.1,w.1∈K5
 rs:∀r∈t.2.2.2.2.1,r.1∈K5∧r.2∈K5
structure DomB (b:u0i):Prop where
 vs:∀v∈b.1,v.1∈K5
 ready:∀t∈b.2.2.1,DomT t
structure DomE (e:u2s):Prop where
 base:DomB e.1
 open_:∀t∈e.2,DomT t
theorem DomB.tidy {b:u0i} (h:DomB b) (o:Hu u0j):DomB (u4y b o):=⟨fun v hv=>h.vs v ((u61 _ _).subset hv),h.ready⟩
theorem DomB.through {b:u0i} {t:u0j} (h:DomB b) (ht:DomT t):DomB (u1n b t):=by
 refine⟨fun v hv=> ?_,fun x hx=> ?_⟩
 ·rcases(t3i _ _ _).mp hv with hv | ⟨w,hw,rfl⟩
  ·exact h.vs v hv
  ·exact ht.ws w hw
 ·obtain⟨q,hq,rfl⟩:=Bx.mp hx
  have:=h.ready q (A6.mp hq).1
  exact⟨this.ws,this.rs⟩
theorem DomB.made {b:u0i} {t:u0j} {n:Hs} (h:DomB b) (ht:DomT t):DomB (u2e b t n):=by
 refine⟨h.vs,fun x hx=> ?_⟩
 rcases Ay.mp hx with hx | hx
 ·rcases Ay.mp hx with hx | hx
  ·exact h.ready x (A6.mp hx).1
  ·rw[Ax] at hx;subst hx;exact⟨ht.ws,ht.rs⟩
 ·exact h.ready x (A6.mp hx).1
theorem DomB.given {b:u0i} (h:DomB b) (n:Hs):DomB (t98 b n):=⟨h.vs,fun x hx=>h.ready x (A6.mp hx).1⟩
theorem DomE.rest {e:u2s} (h:DomE e) (id:Int):∀t∈s8i e id,DomT t:=fun t ht=>h.open_ t ((s3e e id).subset ht)
theorem DomE.leave {e:u2s} (h:DomE e) (id:Int):DomE (s1y e id):=⟨h.base.tidy _,h.rest id⟩
theorem DomE.begin {e:u2s} (h:DomE e):DomE (s08 e).1:=by
 unfold s08
 split
 ·refine⟨⟨h.base.vs,h.base.ready⟩,fun t ht=> ?_⟩
  rcases Ay.mp ht with ht | ht
  ·exact h.open_ t ht
  ·rw[Ax] at ht;subst ht
   exact⟨fun w hw=>(by cases hw),fun r hr=>(by cases hr)⟩
 ·exact h
theorem DomE.commit {e:u2s} (h:DomE e) (id:Int):DomE (u39 e id).1:=by
 unfold u39
 split
 ·exact h
 ·split
  ·rename_i _ q
   obtain⟨k,hk,e1,e2,e3⟩:=u1v (r5t q).1
   rw[e2]
   exact⟨(h.base.through (h.open_ _ (Ag hk))).tidy _,h.rest _⟩
  ·exact h.leave id
theorem DomE.prep {e:u2s} (h:DomE e) (id:Int) (n:Hs):DomE (t56 e id n).1:=by
 unfold t56
 split
 ·exact h
 ·rename_i q
  split
  ·exact h
  ·split
   ·exact h
   ·split
    ·obtain⟨k,hk,e1,e2,e3⟩:=u1v q
     rw[e2]
     exact⟨(h.base.made (h.open_ _ (Ag hk))).tidy _,h.rest _⟩
    ·exact h.leave id
theorem DomE.fin {e:u2s} (h:DomE e) (n:Hs) (y:Bool):DomE (r5q e n y).1:=by
 unfold r5q
 split
 ·exact h
 ·rename_i q
  split
  ·exact h
  ·split
   ·obtain⟨k,hk,r1,r2⟩:=t4i q
    rw[r1,zTn,y8k (t:=u1b) hk]
    exact⟨(h.base.through (h.base.ready _ (Ag hk))).tidy _,h.open_⟩
   ·exact⟨(h.base.given n).tidy _,h.open_⟩
theorem DomE.look {e:u2s} (h:DomE e) {id:Int} {r:t80} {right:Bool} (hr:r.1∈K5∧r.2∈K5):DomE (t8w e id r right).1:=by
 unfold t8w
 split
 ·exact h
 ·rename_i q
  split
  ·exact h
  ·split
   ·obtain⟨k,hk,e1,e2,e3⟩:=u1v q
    rw[e2]
    have ho:=h.open_ _ (Ag hk)
    refine⟨h.base,fun t ht=> ?_⟩
    rcases q5n ht with ht | rfl
    ·exact h.open_ t ht
    ·unfold t8x
     split
     ·exact ho
     ·split
      ·refine⟨ho.ws,fun x hx=> ?_⟩
       rcases Ay.mp hx with hx | hx
       ·exact ho.rs x hx
       ·rw[Ax] at hx;subst hx;exact hr
      ·exact ho
   ·exact h
theorem DomE.put {e:u2s} (h:DomE e) {id:Int} {w:WrT} (hw:w.1∈K5):DomE (q95 e id w).1:=by
 unfold q95
 split
 ·exact h
 ·rename_i q
  split
  ·exact h
  ·split
   ·obtain⟨k,hk,e1,e2,e3⟩:=u1v q
    rw[e2]
    have ho:=h.open_ _ (Ag hk)
    refine⟨h.base,fun t ht=> ?_⟩
    rcases q5n ht with ht | rfl
    ·exact h.open_ t ht
    ·unfold s6a
     split
     ·refine⟨fun x hx=> ?_,ho.rs⟩
      rcases r4h hx with hx | rfl
      ·exact ho.ws x hx
      ·exact hw
     ·exact ho
   ·exact h
def Num (k:Nat) (e:u2s):Prop:=e.1.2.2.2.1≤(k:Int)∧e.1.2.2.2.2≤(k:Int)+1
theorem Num.mono {k m:Nat} {e:u2s} (h:Num k e) (hk:k≤m):Num m e:=⟨by have:=h.1;omega,by have:=h.2;omega⟩
theorem r5v {e:u2s} (h:EngR e) {t:u0j} (ht:t∈e.2∨t∈e.1.2.2.1):u1l e.1.2.2.2.2 t.1=e.1.2.2.2.2:=by
 refine q7l ?_
 rcases ht with ht | ht
 ·exact h.bel t (Az _ ht)
 ·exact h.bel t (Bf _ (Az _ ht))
theorem Num.begin {k:Nat} {e:u2s} (h:Num k e):Num (k+1) (s08 e).1:=by
 unfold s08
 split
 ·exact⟨by show e.1.2.2.2.1≤_;have:=h.1;omega,by show e.1.2.2.2.2+1≤_;have:=h.2;omega⟩
 ·exact h.mono (by omega)
theorem Num.commit {k:Nat} {e:u2s} (hE:EngR e) (h:Num k e) (id:Int):Num (k+1) (u39 e id).1:=by
 unfold u39
 split
 ·exact h.mono (by omega)
 ·split
  ·rename_i _ q
   obtain⟨j,hj,e1,e2,e3⟩:=u1v (r5t q).1
   refine⟨by show e.1.2.2.2.1+1≤_;have:=h.1;omega,?_⟩
   show u1l e.1.2.2.2.2 (u2x e id).1≤_
   rw[e2,r5v hE (.inl (Ag hj))]
   have:=h.2;omega
  ·exact h.mono (by omega)
theorem Num.prep {k:Nat} {e:u2s} (hE:EngR e) (h:Num k e) (id:Int) (n:Hs):Num (k+1) (t56 e id n).1:=by
 unfold t56
 split
 ·exact h.mono (by omega)
 ·rename_i q
  split
  ·exact h.mono (by omega)
  ·split
   ·exact h.mono (by omega)
   ·split
    ·obtain⟨j,hj,e1,e2,e3⟩:=u1v q
     refine⟨by show e.1.2.2.2.1≤_;have:=h.1;omega,?_⟩
     show u1l e.1.2.2.2.2 (u2x e id).1≤_
     rw[e2,r5v hE (.inl (Ag hj))]
     have:=h.2;omega
    ·exact h.mono (by omega)
theorem Num.fin {k:Nat} {e:u2s} (hE:EngR e) (h:Num k e) (n:Hs) (y:Bool):Num (k+1) (r5q e n y).1:=by
 unfold r5q
 split
 ·exact h.mono (by omega)
 ·rename_i q
  split
  ·exact h.mono (by omega)
  ·split
   ·obtain⟨j,hj,r1,r2⟩:=t4i q
    rw[r1,zTn,y8k (t:=u1b) hj]
    refine⟨by show e.1.2.2.2.1+1≤_;have:=h.1;omega,?_⟩
    show u1l e.1.2.2.2.2 e.1.2.2.1[j].1≤_
    rw[r5v hE (.inr (Ag hj))]
    have:=h.2;omega
   ·exact h.mono (by omega)
theorem Num.look {k:Nat} {e:u2s} (h:Num k e) {id:Int} {r:t80} {right:Bool} :Num k (t8w e id r right).1:=by
 unfold t8w
 split
 ·exact h
 ·split
  ·exact h
  ·split<;>exact h
theorem Num.put {k:Nat} {e:u2s} (h:Num k e) {id:Int} {w:WrT} :Num k (q95 e id w).1:=by
 unfold q95
 split
 ·exact h
 ·split
  ·exact h
  ·split<;>exact h
structure Stt (k:Nat) (s:u1s):Prop where
 sync:∃b,Sync s b∧b.2.2.2.2≤(k:Int)+1
 dom:DomE s.1
 num:Num k s.1
theorem Stt.eng {k:Nat} {s:u1s} (h:Stt k s):EngR s.1:=by obtain⟨b,h1,_⟩:=h.sync;exact h1.eng
theorem r2g {b x:u0i} {r:t8z} (h:u6i b r=some x):∃y,u2f b r=some y∧x=u4y y [] :=by
 unfold u6i at h
 split at h
 ·cases q:u2f b r with
  | none=>rw[q] at h;cases h
  | some y=>
   rw[q] at h
   simp only at h
   split at h
   ·exact⟨y,rfl,(Ds h).symm⟩
   ·cases h
 ·cases h
theorem q8z {n i m:Int} (h1:n≤m) (h2:i<m):u1l n i≤m:=by unfold u1l;split<;>omega
theorem Stt.commit {k:Nat} {s:u1s} (h:Stt k s) (id:Int):Stt (k+1) (t31 s id).1:=by
 obtain⟨b,hs,hb⟩:=h.sync
 obtain⟨b',hs',hd⟩:=hs.commit id
 have hE:=hs.eng
 have h1:=h.num.commit hE id
 have hl:=h.dom.leave id
 refine⟨⟨b',hs',?_⟩,?_,?_⟩
 ·rcases hd with rfl | ⟨_,j0,hp⟩
  ·omega
  ·obtain⟨y,hy,rfl⟩:=r2g hp
   unfold u2f at hy
   rw[Al rfl] at hy
   split at hy
   ·cases hy
    show u1l b.2.2.2.2 (u2x s.1 id).1≤_
    obtain⟨j,hj,e1,e2,e3⟩:=u1v (r5t j0).1
    have:=hE.bel _ (Az _ (Ag hj))
    rw[e2]
    have:=h.num.2
    exact q8z (by omega) (by omega)
   ·cases hy
 ·have h2:=h.dom.commit id
  unfold t31
  split
  ·split
   ·exact h2
   ·exact hl
  ·exact h2
 ·unfold t31
  split
  ·split
   ·exact h1
   ·exact h.num.mono (by omega)
  ·exact h1
theorem Stt.prep {k:Nat} {s:u1s} (h:Stt k s) (id:Int) (n:Hs):Stt (k+1) (s8k s id n).1:=by
 obtain⟨b,hs,hb⟩:=h.sync
 obtain⟨b',hs',hd⟩:=hs.prep id n
 have hE:=hs.eng
 have h1:=h.num.prep hE id n
 have hl:=h.dom.leave id
 refine⟨⟨b',hs',?_⟩,?_,?_⟩
 ·rcases hd with rfl | ⟨_,j0,hp⟩
  ·omega
  ·obtain⟨y,hy,rfl⟩:=r2g hp
   unfold u2f at hy
   simp only at hy
   rw[Ao (by decide),Al trivial] at hy
   split at hy
   ·cases hy
    show u1l b.2.2.2.2 (u2x s.1 id).1≤_
    obtain⟨j,hj,e1,e2,e3⟩:=u1v (p27 j0).1
    have:=hE.bel _ (Az _ (Ag hj))
    rw[e2]
    have:=h.num.2
    exact q8z (by omega) (by omega)
   ·cases hy
 ·have h2:=h.dom.prep id n
  unfold s8k
  split
  ·split
   ·exact h2
   ·exact hl
  ·exact h2
 ·unfold s8k
  split
  ·split
   ·exact h1
   ·exact h.num.mono (by omega)
  ·exact h1
theorem Stt.fin {k:Nat} {s:u1s} (h:Stt k s) (n:Hs) (y:Bool):Stt (k+1) (q0h s n y).1:=by
 obtain⟨b,hs,hb⟩:=h.sync
 obtain⟨b',hs',hd⟩:=hs.fin n y
 have hE:=hs.eng
 have h1:=h.num.fin hE n y
 refine⟨⟨b',hs',?_⟩,?_,?_⟩
 ·rcases hd with rfl | ⟨_,j0,hp⟩
  ·omega
  ·obtain⟨z,hz,rfl⟩:=r2g hp
   unfold u2f at hz
   simp only at hz
   rw[Ao (by decide),Ao (by decide),Al trivial] at hz
   split at hz
   ·cases hz
   ·rename_i q
    obtain⟨j,hj,r1,r2⟩:=t4i q
    split at hz
    ·cases hz
     show u1l b.2.2.2.2 (rdL u1b b.2.2.1 (u07 b n).toNat).1≤_
     rw[r1,zTn,y8k (t:=u1b) hj]
     have:b.2.2.1[j] ∈s.1.1.2.2.1:=by rw[←hs.like.ready];exact Ag hj
     have:=hE.bel _ (Bf _ (Az _ this))
     have:=h.num.2
     exact q8z (by omega) (by omega)
    ·cases hz
     show b.2.2.2.2≤_
     omega
 ·have h2:=h.dom.fin n y
  unfold q0h
  split
  ·split
   ·exact h2
   ·exact h.dom
  ·exact h.dom
 ·unfold q0h
  split
  ·split
   ·exact h1
   ·exact h.num.mono (by omega)
  ·exact h.num.mono (by omega)
theorem Stt.fix {k:Nat} {s:u1s} (h:Stt k s):Stt (k+1) (p4c s).1:=by
 obtain⟨b,hs,hb⟩:=h.sync
 refine⟨⟨b,hs.fix,by omega⟩,?_,?_⟩
 ·unfold p4c;split<;>exact h.dom
 ·unfold p4c;split<;>exact h.num.mono (by omega)
theorem Stt.leave {k:Nat} {s:u1s} (h:Stt k s) (id:Int):Stt (k+1) ((r92 s.1 id).1,s.2):=by
 obtain⟨b,hs,hb⟩:=h.sync
 unfold r92
 split
 ·exact⟨⟨b,hs,by omega⟩,h.dom,h.num.mono (by omega)⟩
 ·exact⟨⟨b,hs.leave id,by omega⟩,h.dom.leave id,h.num.mono (by omega)⟩
theorem Stt.begin {k:Nat} {s:u1s} (h:Stt k s):Stt (k+1) ((s08 s.1).1,s.2):=by
 obtain⟨b,hs,hb⟩:=h.sync
 refine⟨⟨b,hs.opens (p37 hs.eng) ?_ ?_ ?_,by omega⟩,h.dom.begin,h.num.begin⟩<;>(unfold s08;split<;>rfl)
theorem Stt.look {k:Nat} {s:u1s} (h:Stt k s) {id:Int} {r:t80} {right:Bool} (hr:right=true→u18 r=true) (hk:r.1∈K5∧r.2∈K5):Stt (k+1) ((t8w s.1 id r right).1,s.2):=by
 obtain⟨b,hs,hb⟩:=h.sync
 have e:(t8w s.1 id r right).1.1=s.1.1:=by
  unfold t8w
  split
  ·rfl
  ·split
   ·rfl
   ·split<;>rfl
 exact⟨⟨b,hs.opens (p8g hs.eng hr) (by rw[e]) (by rw[e]) (by rw[e]),by omega⟩,h.dom.look hk,h.num.look.mono (by omega)⟩
theorem Stt.put {k:Nat} {s:u1s} (h:Stt k s) {id:Int} {w:WrT} (hk:w.1∈K5):Stt (k+1) ((q95 s.1 id w).1,s.2):=by
 obtain⟨b,hs,hb⟩:=h.sync
 have e:(q95 s.1 id w).1.1=s.1.1:=by
  unfold q95
  split
  ·rfl
  ·split
   ·rfl
   ·split<;>rfl
 exact⟨⟨b,hs.opens (o0o hs.eng) (by rw[e]) (by rw[e]) (by rw[e]),by omega⟩,h.dom.put hk,h.num.put.mono (by omega)⟩
end
section
structure tinyT (t:u0j):Prop where
 rl:t.2.2.2.2.1.length≤100
 rs:∀r∈t.2.2.2.2.1,r.1.size≤100∧r.2.size≤100
 wl:t.2.2.2.2.2.1.length≤100
 ws:∀w∈t.2.2.2.2.2.1,w.1.size≤100∧w.2.1.size≤100
 nm:t.2.2.2.2.2.2.2.size≤100
structure tinyB (b:u0i):Prop where
 vl:b.1.length≤10000
 vs:∀v∈b.1,v.1.size≤100∧v.2.1.size≤100
 pl:b.2.1.length≤1000
 ps:∀t∈b.2.1,tinyT t
 rl:b.2.2.1.length≤1000
 rs:∀t∈b.2.2.1,tinyT t
theorem s12 {α:Type} {f:α→Nat} {k:Nat} :∀ {l:Hu α},(∀x∈l,f x≤k)→(l.map f).sum≤l.length*k
 | [],_=>by simp
 | x::l,h=>by
  rw[C8,Ge,Bc,C7]
  have h1:=h x (by simp)
  have h2:=s12 (l:=l) (fun y hy=>h y (by simp[hy]))
  omega
theorem tinyT.wt {t:u0j} (h:tinyT t):u1b.wt t≤50000:=by
 have e1:(Ty.sl u8f).wt t.2.2.2.2.1=t.2.2.2.2.1.length+(t.2.2.2.2.1.map u8f.wt).sum:=rfl
 have e2:(Ty.sl u1x).wt t.2.2.2.2.2.1=t.2.2.2.2.2.1.length+(t.2.2.2.2.2.1.map u1x.wt).sum:=rfl
 have s1:(t.2.2.2.2.1.map u8f.wt).sum≤t.2.2.2.2.1.length*200:=s12 fun r hr=>by
  have:=h.rs r hr
  have e:u8f.wt r=r.1.size+r.2.size:=rfl
  omega
 have s2:(t.2.2.2.2.2.1.map u1x.wt).sum≤t.2.2.2.2.2.1.length*200:=s12 fun w hw=>by
  have:=h.ws w hw
  have e:u1x.wt w=w.1.size+(w.2.1.size+0):=rfl
  omega
 have:=h.rl;have:=h.wl;have:=h.nm
 rw[p3m,e1,e2]
 omega
theorem tinyT.few {t:u0j} (h:tinyT t):q2c t:=⟨by have:=h.rl;omega,by have:=h.wl;omega⟩
theorem TxnR.tiny {t:u0j} (h:TxnR t):tinyT t:=by
 obtain⟨z1,z2,z3,z4,z5⟩:=h.small
 exact⟨by have:=h.rlen;omega,fun r hr=>by have:=z1 r hr;omega,by omega,fun w hw=>by have:=z2 w hw;omega,by omega⟩
theorem tinyT.like {t u:u0j} (h:tinyT t) (e1:u.2.2.2.2.1=t.2.2.2.2.1) (e2:u.2.2.2.2.2.1=t.2.2.2.2.2.1) (e3:u.2.2.2.2.2.2.2.size≤100):tinyT u:=
 ⟨by rw[e1];exact h.rl,by rw[e1];exact h.rs,by rw[e2];exact h.wl,by rw[e2];exact h.ws,e3⟩
theorem q5o {l:Hu u0j} (hl:l.length≤1000) (h:∀t∈l,tinyT t):(Ty.sl u1b).wt l≤60000000:=by
 have e:(Ty.sl u1b).wt l=l.length+(l.map u1b.wt).sum:=rfl
 have s:(l.map u1b.wt).sum≤l.length*50000:=s12 fun t ht=>(h t ht).wt
 rw[e];omega
theorem tinyB.wt {b:u0i} (h:tinyB b):p73.wt b≤200000000:=by
 have e:(Ty.sl u0d).wt b.1=b.1.length+(b.1.map u0d.wt).sum:=rfl
 have s:(b.1.map u0d.wt).sum≤b.1.length*200:=s12 fun v hv=>by
  have:=h.vs v hv
  have e:u0d.wt v=v.1.size+(v.2.1.size+(0+0)):=rfl
  omega
 have h1:=q5o h.pl h.ps
 have h2:=q5o h.rl h.rs
 have:=h.vl
 rw[r1v,e];omega
theorem r4o {l:Hu u0j} (hl:l.length≤1000) (h:∀t∈l,tinyT t):p01 l:=⟨by omega,fun t ht=>(h t ht).few⟩
theorem tinyB.few {b:u0i} (h:tinyB b):fewB b:=⟨by have:=h.vl;omega,r4o h.pl h.ps,r4o h.rl h.rs⟩
theorem BaseR.tiny {b:u0i} (h:BaseR b):tinyB b:=by
 obtain⟨w1,w2,w3⟩:=p3w.mp h.vs
 exact⟨by omega,fun v hv=>by have:=t8l (w1 v hv);omega,by have:=h.plen;omega,fun t ht=>(h.past t ht).1.tiny,by have:=h.rlen;omega,fun t ht=>(h.ready t ht).1.tiny⟩
theorem q9b {b:u0i} (h:tinyB b) (o:Hu u0j):tinyB (u4y b o):=
 ⟨A9 (q9e _ _) h.vl,fun v hv=>h.vs v ((u61 _ _).subset hv),A9 (t7r _ _) h.pl,fun t ht=>h.ps t (A6.mp ht).1,h.rl,h.rs⟩
theorem s8m {b:u0i} {t:u0j} (h:BaseR b) (ht:tinyT t):tinyB (u1n b t):=by
 obtain⟨w1,w2,w3⟩:=p3w.mp h.vs
 have hb:=h.tiny
 refine⟨?_,fun v hv=> ?_,?_,fun x hx=> ?_,?_,fun x hx=> ?_⟩
 ·show(t4b b.1 t.2.2.2.2.2.1 (b.2.2.2.1+1)).length≤10000
  rw[r4g];have:=ht.wl
  have e:(t.2.2.2.2.2.1:Hu u1x.den).length=t.2.2.2.2.2.1.length:=rfl
  omega
 ·rcases(t3i _ _ _).mp hv with q | ⟨w,hw,rfl⟩
  ·exact hb.vs v q
  ·exact ht.ws w hw
 ·show(b.2.1++ [t6y b t]).length≤1000
  have:=h.plen
  rw[Ba,Aw];omega
 ·rcases Ay.mp hx with q | q
  ·exact hb.ps x q
  ·rw[Ax.mp q]
   exact ht.like rfl rfl (Cn _)
 ·show((b.2.2.1.filter fun x=> !decide (x.1=t.1)).map (p04 (t6y b t))).length≤1000
  rw[Da]
  exact A9 (t7r _ _) hb.rl
 ·obtain⟨y,hy,rfl⟩:=Bx.mp hx
  have:=hb.rs y (A6.mp hy).1
  exact this.like rfl rfl this.nm
theorem q3b {b:u0i} {t:u0j} {n:Hs} (h:BaseR b) (ht:tinyT t) (hn:n.size≤100):tinyB (u2e b t n):=by
 have hb:=h.tiny
 refine⟨hb.vl,hb.vs,hb.pl,hb.ps,?_,fun x hx=> ?_⟩
 ·show((b.2.2.1.filter fun x=>y3c x.2.2.2.2.2.2.2 n)++ [u3r b t n] ++(b.2.2.1.filter fun x=> !y3c x.2.2.2.2.2.2.2 n)).length≤1000
  have f1:=t7r (fun x:u0j=>y3c x.2.2.2.2.2.2.2 n) b.2.2.1
  have f2:=t7r (fun x:u0j=> !y3c x.2.2.2.2.2.2.2 n) b.2.2.1
  have:=h.rlen
  rw[Ba,Ba,Aw];omega
 ·rcases Ay.mp hx with q | q
  ·rcases Ay.mp q with q | q
   ·exact hb.rs x (A6.mp q).1
   ·rw[Ax.mp q]
    exact ht.like rfl rfl hn
  ·exact hb.rs x (A6.mp q).1
theorem q24 {b:u0i} {n:Hs} (hb:tinyB b):tinyB (t98 b n):=
 ⟨hb.vl,hb.vs,hb.pl,hb.ps,A9 (t7r _ _) hb.rl,fun x hx=>hb.rs x (A6.mp hx).1⟩
structure tinyR (r:t8z):Prop where
 t:tinyT r.2.1
 n:r.2.2.1.size≤100
 b:tinyB r.2.2.2.2
theorem tinyR.wt {r:t8z} (h:tinyR r):o0g.wt r≤549755813888:=by
 have:=h.t.wt;have:=h.n;have:=h.b.wt
 rw[s8h];omega
theorem t0i:tinyT u4e:=⟨by decide,fun r hr=>(by cases hr),by decide,fun r hr=>(by cases hr),by decide⟩
theorem u3v:tinyB u2k:=⟨by decide,fun r hr=>(by cases hr),by decide,fun r hr=>(by cases hr),by decide,fun r hr=>(by cases hr)⟩
theorem p4q:tinyR noR:=⟨t0i,by decide,u3v⟩
theorem RecR.tiny {r:t8z} (h:RecR r):tinyR r:=by
 cases h with
 | thr t h hs=>exact⟨h.tiny,Cn 100,u3v⟩
 | rdy t h hs=>exact⟨h.tiny,Cn 100,u3v⟩
 | fin n y h=>exact⟨t0i,by have:=u2q h;show n.size≤100;omega,u3v⟩
 | bas b h=>exact⟨t0i,Cn 100,h.tiny⟩
def r5w (b:u0i) (r:t8z):u0i×Bool:=match u6i b r with
 | some x=>(x,true)
 | none=>(b,false)
theorem q8y {n:Int} (h:0≤n∧n≤9999):p4n n:=⟨by omega,by omega⟩
theorem r94 {n:Int} (h:1≤n∧n≤9999):p4n n:=⟨by omega,by omega⟩
end
section
theorem p2f {s:Src} (h:s.ok) {n:Nat} (hn:n≤5000):Dr (u4l (s,(n:Int))) (fun t=>t.size=n):=by
 have key:∀(r i:Nat) (s:Src) (a:Hu Int),s.ok→a.length=i→i+r=n→ ∃(s' :Src) (a' :Hu Int),u43 (s,(n:Int),a,(i:Int))=some (.inl (s',a'))∧s'.ok∧a'.length=n:=by
  intro r
  induction r with
  | zero=>
   intro i s a hs ha hi
   have:i=n:=by omega
   subst this
   rw[s54]
   simp only[t1s,u0b,Am,Ah,Aa]
   exact⟨s,a,rfl,hs,ha⟩
  | succ r ih=>
   intro i s a hs ha hi
   obtain⟨y,s1,e1,k1,r1⟩:=r42 hs
   have hlt:i<n:=by omega
   have hc:Nat.ble (a.length+([IntKind.u8.wrap y] :Hu Int).length) z7w=true:=u1c (by simp;omega)
   rw[s54]
   simp only[t1s,u0b,hlt,Ae,Ad,e1,zOb]
   rw[hc,y7l (by omega)]
   exact ih (i+1) s1 (a++ [IntKind.u8.wrap y]) k1 (by simp[ha]) (by omega)
 obtain⟨s',a',e1,k1,r1⟩:=key n 0 s [] h rfl (by omega)
 have e1:u43 (s,(n:Int), [],0)=_:=e1
 rw[q1u];unfold r0i
 have h5:decide ((n:Int) >5000)=false:=by simp;omega
 simp only[h5,Aa,e1,zOb]
 exact⟨_,_,rfl,k1,by show(y7g a').size=n;rw[u21];exact r1⟩
theorem p6l:∃t,s0j ()=some t∧t.size=64∧s22 t 0=0:=by
 have hset:∀i,(List.replicate 64 (0:Int)).set i 0=List.replicate 64 0:=fun i=>by
  apply Gw (by simp)
  intro j h1 h2
  rw[List.getElem_set,List.getElem_replicate]
  split
  ·rfl
  ·rfl
 have key:∀(r i:Nat),i+r=64→u3x ((64:Int),0,List.replicate 64 0,(i:Int))=some (.inl (List.replicate 64 0)):=by
  intro r
  induction r with
  | zero=>
   intro i hi
   have:i=64:=by omega
   subst this
   rw[t2g]
   rfl
  | succ r ih=>
   intro i hi
   have hlt:decide ((i:Int)<64)=true:=by simp;omega
   have hg:y4q (i:Int) (List.replicate 64 (0:Int)).length=true:=y7t (by simp;omega)
   rw[t2g]
   simp only[u66,hlt,Ad,hg,hset]
   rw[y7l (by omega)]
   exact ih (i+1) (by omega)
 have e1:u3x ((64:Int),0,List.replicate 64 0,0)=_:=key 64 0 rfl
 refine⟨y7g (List.replicate 64 0),?_,by rw[u21];simp,by unfold s22;rw[t8i];rfl⟩
 rw[q1w];unfold r0l
 rw[r03];unfold t95
 have hc:(decide ((0:Int)≤64)&&decide ((64:Int)≤1099511627776))=true:=rfl
 have hr:List.replicate ((64:Int)).toNat (Ty.int .u8).zero=List.replicate 64 (0:Int):=rfl
 simp only[hc,Ad,hr,e1,zOb]
theorem q8d:∃d,s27 ()=some d∧u25 d=true∧u0m d= [] :=by
 obtain⟨z,hz,hz1,hz2⟩:=p6l
 have key:∀(r i:Nat),i+r=97→u7f ((97:Int),([], []),(List.replicate i z, []),(i:Int))=some (.inl (([], []),(List.replicate 97 z, []))):=by
  intro r
  induction r with
  | zero=>
   intro i hi
   have:i=97:=by omega
   subst this
   rw[s5r]
   rfl
  | succ r ih=>
   intro i hi
   have hlt:decide ((i:Int)<97)=true:=by simp;omega
   have hc:Nat.ble ((List.replicate i z).length+([z] :Hu Hs).length) z7w=true:=u1c (by simp;omega)
   rw[s5r]
   simp only[t52,hlt,Ad,hz,zOb,hc]
   rw[y7l (by omega)]
   have e:List.replicate i z++ [z] =List.replicate (i+1) z:=by rw[List.replicate_succ']
   rw[e]
   exact ih (i+1) (by omega)
 have e1:u7f ((97:Int),([], []),([], []),0)=_:=key 97 0 rfl
 have hs:u6f ()=some 97:=by rw[s1b];rfl
 refine⟨(List.replicate 97 z, []),?_,?_⟩
 ·rw[q4m];unfold r27
  simp only[hs,zOb]
  rw[q1b];unfold s9z
  have hi:s82 97 1 100=true:=rfl
  simp only[t45,hi,zOb,Ap,Aa,e1]
 ·have hk:u1q (List.replicate 97 z,([] :Hu (Int×Hs)))=true:=q20.mpr ⟨by simp,by simp,fun s hs=>by rw[List.eq_of_mem_replicate hs];exact hz1,fun p hp=>by cases hp⟩
  have hl:(List.replicate 97 z,([] :Hu (Int×Hs))).1.length=97:=by simp
  have hf:=s21 hk hl
  have hc:∀a:Int,a=0∨a=1→u05 (List.replicate 97 z, []) a=0:=fun a ha=>by
   obtain⟨f1,_⟩:=u59 ha
   unfold u05 u3b
   rw[p4g.mpr ha,Al rfl]
   have hk2:u0e a=(((u0e a).toNat:Nat):Int):=by rcases ha with rfl | rfl<;>omega
   rw[hk2,q87 rfl (by rw[hl];rcases ha with rfl | rfl<;>omega)]
   have hlt:(u0e a).toNat<(List.replicate 97 z).length:=by simp;rcases ha with rfl | rfl<;>omega
   have e:rdL Ty.str (List.replicate 97 z) (u0e a).toNat=(List.replicate 97 z)[(u0e a).toNat] :=y8k (t:=Ty.str) hlt
   simp only[e,List.getElem_replicate]
   rw[r47,hz2]
   rfl
  refine⟨r4e hk hl rfl ?_ ?_,?_⟩
  ·rw[u60 hf (.inl rfl),hc 0 (.inl rfl)];rfl
  ·rw[u60 hf (.inr rfl),hc 1 (.inr rfl)];rfl
  ·unfold u0m
   rw[u60 hf (t2k _),hc _ (t2k _)];rfl
end
section
theorem s84 {d:u0k} (h:u25 d=true):o3d.wt d≤10000000:=A9 (t3h (u4t h).1) (by omega)
end
section
theorem q3u (d:u0k) (hd:o3d.wt d≤1073741824):t79 d=some (u0m d):=by
 rw[r9b];unfold s63
 simp only[s2o d (show o3d.wt d≤u0l by unfold u0l;omega),s2t d _ hd,zOb];rfl
end
end
end Go.Proofs.YtkdpclfhapphhaaGreat.Ab
