import Derived.Test.YtkphhjdbdnoekaaGreatAbWatchesT4
import Derived.Test.YtkphhjdbdnoekaaGreatAbK2
import Derived.Test.YtkphhjdbdnoekaaGreatAbF4
import Derived.Test.YtkphhjdbdnoekaaGreatAbS2
namespace Go.Proofs.YtkphhjdbdnoekaaGreat.Ab
open Go Go.IntKind
set_option linter.unusedVariables false
set_option linter.unusedSimpArgs false
set_option linter.unnecessarySimpa false
set_option linter.unusedSectionVars false
theorem j9k (b:u0j) (r:r03) (hB:BaseR b) (hR:RecR r):r4c (b,r)=some (match u2h b r with
 | some x=>(x,true) | none=>(b,false)):=by
 have hb:=hB.tiny;have thr:∀t:u0i,TxnR t->u8a (b,t)=some (u1v b t):=fun t ht=>by
  rw[q2r b t hb.few ht.tiny.few,o3q (o23 hB.cs) (p01 ht.id)]
 rw[o5v];unfold q8z u2h;cases hR with
 | thr t h hs=>
  simp only[Ae,Ad,Bl];rw[s3o (o23 hB.cs),thr t h];by_cases q:t.2.2.2.1=b.2.2.2.1+1
  .rw[Bb q,Al q];rfl
  .rw[A7 q,Ao q];rfl
 | rdy t h hs=>
  simp only[show decide ((2:Int)=1)=false from rfl,show((2:Int)=1)=False by simp,Ae,Ah,Ad,Aa,Bl,Bk];rw[t5g b _ (by have:=hB.rlen;omega)];simp only[zOb];rw[q7c b t _ hb.few h.tiny.few (p01 h.id)];simp only[zOb];by_cases q:b.2.2.1.length<3
  .rw[A7 (show ¬(b.2.2.1.length:Int)>=3 by omega)];simp only[Aa,zOb];by_cases q2:u0o b t.2.2.2.2.2.2.2<0
   .rw[A7 (show ¬u0o b t.2.2.2.2.2.2.2>=0 by omega),Al ⟨q,q2⟩];rfl
   .rw[Bb (show u0o b t.2.2.2.2.2.2.2>=0 by omega),Ao (fun z=>q2 z.2)];rfl
  .rw[Bb (show(b.2.2.1.length:Int)>=3 by omega),Ao (fun z=>q z.1)];rfl
 | fin n y h=>
  simp only[show decide ((3:Int)=1)=false from rfl,show decide ((3:Int)=2)=false from rfl,show((3:Int)=1)=False by simp,show((3:Int)=2)=False by simp,Ae,Ah,Ad,Aa,Bl,Bk];rw[t5g b _ (by have:=hB.rlen;omega)];simp only[zOb];by_cases q:u0o b n<0
  .rw[Bb q,Al q];rfl
  .rw[A7 q,Ao q];simp only[Aa];rw[p6l b n hb.few];simp only[zOb];have hk:(u0o b n).toNat<b.2.2.1.length:=by
    unfold u0o at q ⊢;split
    .rename_i z;rw[zTn];exact z
    .rename_i z;rw[Ao z] at q;omega
   obtain⟨k,hkk⟩:∃k:Nat,u0o b n=k:=⟨(u0o b n).toNat,by omega⟩;have hg:y4o (u0o b n) b.2.2.1.length=true:=by rw[hkk];exact y7p (by rw[hkk] at hk;simpa using hk)
   have hT:TxnR (rdL u0v b.2.2.1 (u0o b n).toNat):=by
    rw[y8f hk];exact(hB.ready _ (Ag hk)).1
   rw[hg,thr _ hT];cases y
   .rfl
   .rfl
 | bas c h=>
  simp only[show decide ((4:Int)=1)=false from rfl,show decide ((4:Int)=2)=false from rfl,show decide ((4:Int)=3)=false from rfl,show((4:Int)=1)=False by simp,show((4:Int)=2)=False by simp,show((4:Int)=3)=False by simp,Ah,Aa,Bk];rw[s1g c h.tiny.few];rfl
theorem d2x {b:u0j} {r:r03} {x:u0j} (hB:BaseR b) (hR:RecR r) (h:u2h b r=some x):tinyB x:=by
 unfold u2h at h;cases hR with
 | thr t ht hs=>
  simp only[Bl] at h;split at h
  .rw[←Ds h];exact r2t hB ht.tiny
  .cases h
 | rdy t ht hs=>
  simp only[show((2:Int)=1)=False by simp,Bl,Bk] at h;split at h
  .rw[←Ds h];exact p6c hB ht.tiny (by have:=u27 (ht.name hs);omega)
  .cases h
 | fin n y hn=>
  simp only[show((3:Int)=1)=False by simp,show((3:Int)=2)=False by simp,Bl,Bk] at h;split at h
  .cases h
  .rename_i q;have hk:(u0o b n).toNat<b.2.2.1.length:=by
    unfold u0o at q ⊢;split
    .rename_i z;rw[zTn];exact z
    .rename_i z;rw[Ao z] at q;omega
   split at h
   .rw[←Ds h];refine r2t hB ?_;rw[y8f hk];exact(hB.ready _ (Ag hk)).1.tiny
   .rw[←Ds h];exact p51 hB.tiny
 | bas c hc=>
  simp only[show((4:Int)=1)=False by simp,show((4:Int)=2)=False by simp,show((4:Int)=3)=False by simp,Bk] at h;rw[←Ds h];exact hc.tiny
theorem j4w (b:u0j) (r:r03) (hb:tinyB b) (hr:tinyR r):r74 (b,r)=some (s8j b r):=by
 have hq:u0m=1099511627776:=rfl;rw[o9c];unfold p2d;simp only;rw[s3y b (by have:=hb.wt;omega),p1j r hr.wt,s1g b hb.few];simp only[zOb];cases h1:u8t b
 .unfold s8j u8v;rw[Ao (by simp[h1])];rfl
 .cases h2:u70 r
  .unfold s8j u8v;rw[Ao (by simp[h2])];rfl
  .have hB:=o6q.mp h1;have hR:=d34.mp h2;simp only[Ap,Aa,zOb];rw[j9k b r hB hR];simp only[zOb];unfold s8j u8v;rw[Al ⟨h1,h2⟩];cases hx:u2h b r with
   | none=>rfl | some x=>
    have h3:=d2x hB hR hx;simp only[Ap,Aa];rw[s1b _ _ h3.few (by simp)];simp only[zOb];rw[s3y _ (by have:=(t2n h3 []).wt;omega)];simp only[zOb];cases u8t (u4k x [])<;>rfl
theorem o98 {b x:u0j} {r:r03} (h:u8v b r=some x):BaseR x/\RecR r:=by
 unfold u8v at h;split at h
 .rename_i q;split at h
  .cases h
  .split at h
   .rename_i z;rw[←Ds h];exact⟨o6q.mp z,d34.mp q.2⟩
   .cases h
 .cases h
theorem o7h (t:Hs):tinyR (t9b t).1:=by
 unfold t9b;cases h:u5f t with
 | none=>exact d2o | some r=>exact(p4b h).1.tiny
theorem j6h (b:u0j) (t:Hs) (l:Hu Hs):s55 b (t::l)=bif !(t9b t).2 || !(s8j b (t9b t).1).2 then none else s55 (s8j b (t9b t).1).1 l:=by
 unfold t9b s8j;simp only[s55];cases u5f t with
 | none=>rfl | some r=>
  simp only;cases u8v b r with
  | none=>rfl | some x=>rfl
def logR (l:Hu Hs):u0j×Bool:=match t2f l with
 | some b=>(b,true) | none=>(u2t,false)
theorem j09 (d:u0k) (hd:c08.wt d<=1073741824) (ht:∀t∈u0e d,t.size<=u0m) (hl:(u0e d).length<=1000000):t8y d=some (logR (u0e d)):=by
 have L:=s86 u69 (u0e d).length (fun(b:u0j) i=>(u2t,b,u0e d,((u0e d).length:Int),i)) (fun i b=>match s55 b ((u0e d).drop i) with
  | some x=> .inl (u2t,x) | none=> .inr (u2t,false)) (fun _ b=>BaseR b)
  (fun b hb=>by
   rw[q09];simp only[t9f,u0b,Am,Ah,Aa];rw[F5];rfl)
  (fun i b hi hb=>by
   have hm:=Ag hi;have hd:(u0e d).drop i=(u0e d)[i] ::(u0e d).drop (i+1):=Ce hi;have hw:u69 (u2t,b,u0e d,((u0e d).length:Int),(i:Int))=bif !(t9b (u0e d)[i]).2 || !(s8j b (t9b (u0e d)[i]).1).2 then some (.inr (u2t,false)) else u69 (u2t,(s8j b (t9b (u0e d)[i]).1).1,u0e d,((u0e d).length:Int),((i+1:Nat):Int)):=by
    rw[q09];simp only[t9f,u0b,hi,Ae,Ad,y7p hi,zTn,y8f (t:=Ty.str) hi,y7h (show i<4611686018427387904 by omega)];rw[o0c _ (ht _ hm)];simp only[zOb];rw[j4v b _ hb.tiny (o7h _)];simp only[zOb];cases (t9b (u0e d)[i]).2<;>cases (s8j b (t9b (u0e d)[i]).1).2<;>rfl
   rw[hw,hd,j6h];cases hc:(!(t9b (u0e d)[i]).2 || !(s8j b (t9b (u0e d)[i]).1).2)
   .refine .inr ⟨(s8j b (t9b (u0e d)[i]).1).1,?_,?_,rfl⟩
    .unfold s8j at hc ⊢;cases hp:u8v b (t9b (u0e d)[i]).1 with
     | none=>rw[hp] at hc;simp at hc | some x=>exact(o98 hp).1
    .simp only[Aa]
   .exact .inl rfl) 0 p35 (Cn _) o64
 rw[o4j];unfold q7m;rw[q9a];unfold r3h;rw[o70 d hd];simp only[zOb];have L' :u69 ((([], [], [],0,0):u0j),(([], [], [],0,1):u0j),u0e d,((u0e d).length:Int),0)=_:=L;rw[L',Fh];unfold logR t2f;cases s55 p35 (u0e d)<;>rfl
theorem j1a (d:u0k) (hd:c08.wt d<=1073741824) (ht:∀t∈u0e d,t.size<=u0m) (hl:(u0e d).length<=1000000):t38 d=some (logR (u0e d)):=by
 have L:=s86 u7b (u0e d).length (fun(b:u0j) i=>(u2t,b,u0e d,i)) (fun i b=>match s55 b ((u0e d).drop i) with
  | some x=> .inl (u2t,x) | none=> .inr (u2t,false)) (fun _ b=>BaseR b)
  (fun b hb=>by
   rw[q1r];simp only[t9y,u0b,Am,Ah,Aa];rw[F5];rfl)
  (fun i b hi hb=>by
   have hm:=Ag hi;have hd:(u0e d).drop i=(u0e d)[i] ::(u0e d).drop (i+1):=Ce hi;have hw:u7b (u2t,b,u0e d,(i:Int))=bif !(t9b (u0e d)[i]).2 || !(s8j b (t9b (u0e d)[i]).1).2 then some (.inr (u2t,false)) else u7b (u2t,(s8j b (t9b (u0e d)[i]).1).1,u0e d,((i+1:Nat):Int)):=by
    rw[q1r];simp only[t9y,u0b,hi,Ae,Ad,y7p hi,zTn,y8f (t:=Ty.str) hi,y7h (show i<4611686018427387904 by omega)];rw[o0d _ (ht _ hm)];simp only[zOb];rw[j4w b _ hb.tiny (o7h _)];simp only[zOb];cases (t9b (u0e d)[i]).2<;>cases (s8j b (t9b (u0e d)[i]).1).2<;>rfl
   rw[hw,hd,j6h];cases hc:(!(t9b (u0e d)[i]).2 || !(s8j b (t9b (u0e d)[i]).1).2)
   .refine .inr ⟨(s8j b (t9b (u0e d)[i]).1).1,?_,?_,rfl⟩
    .unfold s8j at hc ⊢;cases hp:u8v b (t9b (u0e d)[i]).1 with
     | none=>rw[hp] at hc;simp at hc | some x=>exact(o98 hp).1
    .simp only[Aa]
   .exact .inl rfl) 0 p35 (Cn _) o64
 rw[o45];unfold q78;rw[r3q];unfold q70;rw[r7a d hd];simp only[zOb];have L' :u7b ((([], [], [],0,0):u0j),(([], [], [],0,1):u0j),u0e d,0)=_:=L;rw[L',Fh];unfold logR t2f;cases s55 p35 (u0e d)<;>rfl
def txP (t:u0i):Hs×Bool:=if u71 t=true then(t1g t,true) else(emp,false)
def t8k (l m:Hu u0i):Bool:=decide (l.map txP=m.map txP)
theorem j6n (a b:Hs×Bool):(bif a.2==b.2 then z7n a.1 b.1 else false)=decide (a=b):=by
 obtain⟨a1,a2⟩:=a;obtain⟨b1,b2⟩:=b;rw[Cd,Ar,Ak];cases a2<;>cases b2<;>simp[y7b]
theorem j2z {l m:Hu u0i} (h:l.length=m.length):((List.range l.length).all fun i=>decide (txP (rdL u0v l i)=txP (rdL u0v m i)))=t8k l m:=by
 unfold t8k;rw[Cd,Bg,Ar];constructor
 .intro k;apply Gw (by simp[h]);intro i h1 h2;rw[F6,F6];rw[Da] at h1 h2;have:=k i (Bq.mpr h1);rw[Ar,y8f h1,y8f h2] at this;exact this
 .intro k i hi;have h1:=Bq.mp hi;have h2:i<m.length:=by omega
  rw[Ar,y8f h1,y8f h2];have e:(l.map txP)[i]'(by simpa using h1)=(m.map txP)[i]'(by simpa using h2):=by simp only[k]
  rwa [F6,F6] at e
theorem o3g {l m:Hu u0i} (h:l.length≠m.length):t8k l m=false:=by
 unfold t8k;rw[Bu];intro e;have:=Dj List.length e;rw[Da,Da] at this;exact h this
theorem o6j (l m:Hu u0i) (hl:l.length<=1000) (h1:∀t∈l,tinyT t) (h2:∀t∈m,tinyT t):u1z (l,m,())=some (t8k l m):=by
 rw[t4b];unfold u5y;simp only;by_cases h:l.length=m.length
 .have L:=t2v u1s l.length (fun i=>(m,(),l,(l.length:Int),i)) (fun i=>decide (txP (rdL u0v l i)=txP (rdL u0v m i))) (.inl ()) (.inr false)
   (by rw[u5a];simp only[u1r,u0b,Am,Ah,Aa])
   (fun i hi=>by
    have hm1:rdL u0v l i∈l:=by rw[y8f hi];exact Ag hi
    have hi2:i<m.length:=by omega
    have hm2:rdL u0v m i∈m:=by rw[y8f hi2];exact Ag hi2
    have k1:=s5m (rdL u0v l i) (by have:=(h1 _ hm1).wt;omega);have k2:=s5m (rdL u0v m i) (by have:=(h2 _ hm2).wt;omega);rw[u5a];simp only[u1r,u0b,hi,Ae,Ad,y7p hi,y7p hi2,zTn,y7h (show i<4611686018427387904 by omega)];rw[o1k];unfold q3h;simp only;rw[k1,k2];simp only[zOb];rw[←j6n];unfold txP;generalize (if u71 (rdL u0v l i)=true then(t1g (rdL u0v l i),true) else(emp,false))=a;generalize (if u71 (rdL u0v m i)=true then(t1g (rdL u0v m i),true) else(emp,false))=b;cases a.2==b.2
    .rfl
    .simp only[Ad,zOb];cases z7n a.1 b.1<;>rfl)
  rw[j2z h] at L;rw[L,Bb (show(l.length:Int)=(m.length:Int) by omega)];cases t8k l m<;>rfl
 .rw[A7 (show ¬(l.length:Int)=(m.length:Int) by omega),o3g h];rfl
theorem o6k (l m:Hu u0i) (hl:l.length<=1000) (h1:∀t∈l,tinyT t) (h2:∀t∈m,tinyT t):s3k (l,m)=some (t8k l m):=by
 rw[o2k];unfold q39;simp only;by_cases h:l.length=m.length
 .have L:=t2v t7s l.length (fun i=>(l,m,i)) (fun i=>decide (txP (rdL u0v l i)=txP (rdL u0v m i))) (.inl ()) (.inr false)
   (by rw[r66];simp only[t7b,u0b,Am,Ah,Aa])
   (fun i hi=>by
    have hm1:rdL u0v l i∈l:=by rw[y8f hi];exact Ag hi
    have hi2:i<m.length:=by omega
    have hm2:rdL u0v m i∈m:=by rw[y8f hi2];exact Ag hi2
    have k1:=s5n (rdL u0v l i) (by have:=(h1 _ hm1).wt;omega);have k2:=s5n (rdL u0v m i) (by have:=(h2 _ hm2).wt;omega);rw[r66];simp only[t7b,u0b,hi,Ae,Ad,y7p hi,y7p hi2,zTn,y7h (show i<4611686018427387904 by omega)];rw[k1,k2];simp only[zOb];rw[←j6n];unfold txP;generalize (if u71 (rdL u0v l i)=true then(t1g (rdL u0v l i),true) else(emp,false))=a;generalize (if u71 (rdL u0v m i)=true then(t1g (rdL u0v m i),true) else(emp,false))=b;cases a.2==b.2
    .rfl
    .simp only[Ad,zOb,Ap,Aa];cases z7n a.1 b.1<;>rfl)
  rw[j2z h] at L;rw[L,Bb (show(l.length:Int)=(m.length:Int) by omega)];cases t8k l m<;>rfl
 .rw[A7 (show ¬(l.length:Int)=(m.length:Int) by omega),o3g h];rfl
theorem d1w (n:Nat) (hn:n<=1099511627776):u8w ((),(n:Int))=some [] :=by
 rw[r05];unfold t77;have e0:i64.wrap ((0:Int) - (0:Int))=0:=by rw[y4x (by omega) (by omega)];rfl
 have e1:i64.wrap ((n:Int) - 0)=(n:Int):=by rw[y4x (by omega) (by omega)];omega
 have e2:decide ((n:Int)<0)=false:=A7 (by omega);simp only[e0,e1,e2,Aa];by_cases h:n=0
 .subst h;simp
 .have e3:decide ((n:Int) >0)=true:=by simp;omega
  have e4:(decide ((1:Int)<=(n:Int))&&decide ((n:Int)<=1099511627776))=true:=by simp;omega
  simp only[e3,e4,Ad];simp
theorem j68 (ls:Hu (Hu u17)) (h:ls.flatten.length<=1099511627776) (hn:ls.length<=1099511627776):u7y ls=some ls.flatten:=by
 have fl:∀(i:Nat),i<=ls.length->(ls.take i).flatten.length<=ls.flatten.length:=fun i _=>by
  have:=En i ls;have h2:ls.flatten=(ls.take i).flatten++(ls.drop i).flatten:=by rw[←Ga,this]
  rw[h2,Ba];omega
 have st:∀(i:Nat) (hi:i<ls.length),(ls.take (i+1)).flatten=(ls.take i).flatten++ls[i] :=fun i hi=>by
  rw[Gm,A4 hi,Ga];simp
 have L1:=s86 u2k ls.length (fun(n:Nat) i=>(ls,(n:Int),ls,(ls.length:Int),i)) (fun _ _=> .inl (ls,(ls.flatten.length:Int))) (fun i n=>n=(ls.take i).flatten.length)
  (fun n hP=>by
   rw[Cq] at hP;subst hP;rw[t1p];simp only[u3j,u0b,Am,Ah,Aa])
  (fun i n hi hP=> .inr ⟨(ls.take (i+1)).flatten.length,rfl,rfl,by
   have h1:=fl (i+1) (by omega);have h2:(ls.take (i+1)).flatten.length=n+ls[i].length:=by rw[st i hi,Ba,hP]
   have e1:i64.wrap ((n:Int)+((ls[i].length:Nat):Int))=((n+ls[i].length:Nat):Int):=by rw[y4x (by omega) (by omega)];omega
   have e2:decide (((n+ls[i].length:Nat):Int)<0)=false:=by simp;omega
   rw[t1p];simp only[u3j,u0b,hi,Ae,Ad,y7p hi,zTn,y8f (t:=Ty.sl u0c) hi,y7h (show i<4611686018427387904 by omega),h2];rw[e1,e2];rfl⟩) 0 0 (by omega) rfl
 have L2:=s86 u2f ls.length (fun(a:Hu u17) i=>(a,ls,(ls.length:Int),i)) (fun _ _=> .inl ls.flatten) (fun i a=>a=(ls.take i).flatten)
  (fun a hP=>by
   rw[Cq] at hP;subst hP;rw[t1b];simp only[u26,u0b,Am,Ah,Aa])
  (fun i a hi hP=> .inr ⟨(ls.take (i+1)).flatten,rfl,rfl,by
   have h1:=fl (i+1) (by omega);have h2:(ls.take (i+1)).flatten.length=a.length+ls[i].length:=by rw[st i hi,Ba,hP]
   rw[t1b];simp only[u26,u0b,hi,Ae,Ad,y7p hi,zTn,y8f (t:=Ty.sl u0c) hi,y7h (show i<4611686018427387904 by omega)];rw[u0q (show a.length+ls[i].length<=1099511627776 by omega),st i hi,hP];rfl⟩) 0 [] (by omega) rfl
 rw[s8g];unfold t45;have L1' :u2k (ls,(0:Int),ls,(ls.length:Int),0)=some (.inl (ls,(ls.flatten.length:Int))):=L1;have L2' :u2f ([],ls,(ls.length:Int),0)=some (.inl ls.flatten):=L2;simp only[L1',zOb,d1w _ h,L2']
def p7b:s6l:=((⟨#[97]⟩:Hs),(⟨#[122,122,122]⟩:Hs))
def r0l (a b:Hu u17) (s:Int):Bool:=decide (s3w a p7b s=s3w b p7b s)
def r8f (a b:Hu u17) (s:Int):Bool:=r0l a b s&&(a++b).all fun v=>decide (v.2.2.2<=s) || r0l a b v.2.2.2
def likeP (a b:u0j):Bool:=decide (a.2.2.2.1=b.2.2.2.1)&&(t8k a.2.1 b.2.1&&(t8k a.2.2.1 b.2.2.1&&r8f a.1 b.1 a.2.2.2.1))
theorem o3e (a b:Hu u17) (s:Int) (ha:a.length<=10000) (hb:b.length<=10000):t7v (s,(a,b))=some (r0l a b s):=by
 rw[p5i];unfold r4l;rw[q9b];unfold r3i;simp only[zOb];rw[r7e a _ s (by omega),r7e b _ s (by omega)];simp only[zOb];rw[p43 _ _ (by have:=o7i a ((⟨#[97]⟩:Hs),(⟨#[122,122,122]⟩:Hs)) s;omega)];rfl
theorem o3f (a b:Hu u17) (s:Int) (ha:a.length<=10000) (hb:b.length<=10000):u34 (a,(p7b,s))=some (s3w a p7b s)/\u34 (b,(p7b,s))=some (s3w b p7b s)/\u6q (s3w a p7b s,s3w b p7b s)=some (r0l a b s):=
 ⟨r7f a _ s (by omega),r7f b _ s (by omega),p44 _ _ (by have:=o7i a p7b s;omega)⟩
theorem o72 (a b:Hu u17) (s:Int) (ha:a.length<=10000) (hb:b.length<=10000):s93 (a,b,s)=some (r8f a b s):=by
 have hC:=j68 [a,b] (by simp only[List.flatten_cons,List.flatten_nil,Bw,Ba];omega) (by simp);rw[show[a,b].flatten=a++b by simp] at hC;have hl:(a++b).length<=20000:=by rw[Ba];omega
 generalize hg:a++b=g at hC hl
 have L:=t2v t7g g.length (fun i=>(s,(a,b),g,(g.length:Int),i)) (fun i=>(fun v:u17=>decide (v.2.2.2<=s) || r0l a b v.2.2.2) (rdL u0c g i)) (.inl (s,(a,b))) (.inr false)
  (by rw[r6j];simp only[t6o,u0b,Am,Ah,Aa])
  (fun i hi=>by
   rw[r6j];simp only[t6o,u0b,hi,Ae,Ad,y7p hi,zTn,y7h (show i<4611686018427387904 by omega),q4n (rdL u0c g i).2.2.2 s];rw[o3e a b _ ha hb];cases decide ((rdL u0c g i).2.2.2<=s)
   .cases r0l a b (rdL u0c g i).2.2.2<;>rfl
   .rfl)
 rw[s2p (t:=u0c) g (fun v:u17=>decide (v.2.2.2<=s) || r0l a b v.2.2.2)] at L;rw[o09];unfold q27;simp only;rw[hC];simp only[zOb];rw[L];unfold r8f;rw[hg];cases g.all fun v:u17=>decide (v.2.2.2<=s) || r0l a b v.2.2.2
 .simp
 .simp only[Ad,zOb,Cz];rw[o3e a b _ ha hb];rfl
theorem o73 (a b:Hu u17) (s:Int) (ha:a.length<=10000) (hb:b.length<=10000):r0e (a,b,s)=some (r8f a b s):=by
 have hl:(a++b).length=a.length+b.length:=Ba
 have L:=t2v t7o (a++b).length (fun i=>(a,b,s,p7b,i)) (fun i=>(fun v:u17=>decide (v.2.2.2<=s) || r0l a b v.2.2.2) (rdL u0c (a++b) i)) (.inl ()) (.inr false)
  (by
   rw[r6y];simp only[t63];rw[y4x (n:=(a.length:Int)+(b.length:Int)) (by omega) (by omega),A7 (show ¬((a++b).length:Int)<(a.length:Int)+(b.length:Int) by omega)];rfl)
  (fun i hi=>by
   obtain⟨k1,k2,k3⟩:=o3f a b (rdL u0c (a++b) i).2.2.2 ha hb;rw[r6y];simp only[t63];rw[y4x (n:=(a.length:Int)+(b.length:Int)) (by omega) (by omega),Bb (show(i:Int)<(a.length:Int)+(b.length:Int) by omega)];simp only[Ad,y7h (show i<4611686018427387904 by omega)];by_cases h:i<a.length
   .have e:rdL u0c (a++b) i=rdL u0c a i:=by
     rw[y8f hi,y8f h];exact Ck h
    rw[e] at k1 k2 k3 ⊢;rw[Bb (show(i:Int)<(a.length:Int) by omega)];simp only[Ad,y7p h,zTn,q4n (rdL u0c a i).2.2.2 s];rw[k1,k2];simp only[zOb];rw[k3];cases decide ((rdL u0c a i).2.2.2<=s)
    .cases r0l a b (rdL u0c a i).2.2.2<;>rfl
    .rfl
   .have h2:i - a.length<b.length:=by omega
    have e:rdL u0c (a++b) i=rdL u0c b (i - a.length):=by
     rw[y8f hi,y8f h2];exact Cv (by omega)
    have ew:i64.wrap ((i:Int) - (a.length:Int))=((i - a.length:Nat):Int):=by rw[y4x (by omega) (by omega)];omega
    rw[e] at k1 k2 k3 ⊢;rw[A7 (show ¬(i:Int)<(a.length:Int) by omega),ew];simp only[Aa,Ad,y7p h2,zTn,q4n (rdL u0c b (i - a.length)).2.2.2 s];rw[k1,k2];simp only[zOb];rw[k3];cases decide ((rdL u0c b (i - a.length)).2.2.2<=s)
    .cases r0l a b (rdL u0c b (i - a.length)).2.2.2<;>rfl
    .rfl)
 rw[s2p (t:=u0c) (a++b) (fun v:u17=>decide (v.2.2.2<=s) || r0l a b v.2.2.2)] at L;obtain⟨k1,k2,k3⟩:=o3f a b s ha hb;rw[o1x];unfold q3u;rw[p3q];unfold r7m;simp only[zOb];rw[show((⟨#[97]⟩:Hs),(⟨#[122,122,122]⟩:Hs))=p7b from rfl,k1,k2];simp only[zOb];rw[k3];simp only[zOb];rw[L];unfold r8f;cases r0l a b s
 .rfl
 .cases (a++b).all fun v:u17=>decide (v.2.2.2<=s) || r0l a b v.2.2.2<;>rfl
theorem j06 (a b:u0j) (ha:tinyB a) (hb:tinyB b):s2x (a,b)=some (likeP a b):=by
 rw[o04];unfold q22 likeP;simp only;rw[o6j _ _ ha.pl ha.ps hb.ps,o6j _ _ ha.rl ha.rs hb.rs,o72 _ _ _ ha.vl hb.vl];simp only[zOb];cases decide (a.2.2.2.1=b.2.2.2.1)<;>cases t8k a.2.1 b.2.1<;>cases t8k a.2.2.1 b.2.2.1<;>rfl
theorem j07 (a b:u0j) (ha:tinyB a) (hb:tinyB b):s27 (a,b)=some (likeP a b):=by
 rw[o1p];unfold q3m likeP;simp only;rw[o6k _ _ ha.pl ha.ps hb.ps,o6k _ _ ha.rl ha.rs hb.rs,o73 _ _ _ ha.vl hb.vl];simp only[zOb];cases decide (a.2.2.2.1=b.2.2.2.1)<;>cases t8k a.2.1 b.2.1<;>cases t8k a.2.2.1 b.2.2.1<;>rfl
theorem j3m (t:Hs) (a:Int):(u0s t a).1.size<=20000:=by
 unfold u0s;split
 .rename_i hc;have:=s1u hc.1;simp only[Bd];omega
 .exact Cn _
theorem p7c (t:Hs):∀(m:Nat) (a:Int) (acc:Hu Hs),(∀s∈acc,s.size<=20000)-> ∀s∈(u76 t m a acc).1,s.size<=20000
 | 0,a,acc,h=>h | m+1,a,acc,h=>by
  unfold u76;split
  .refine p7c t m _ _ fun s hs=> ?_
   rcases Ay.mp hs with q | q
   .exact h s q
   .rw[Ax.mp q];exact j3m _ _
  .intro s hs;cases hs
theorem o59 (d:u0k) (a:Int):∀s∈(u0f d a).1,s.size<=20000:=by
 unfold u0f;split
 .exact p7c _ _ _ _ fun s hs=>by cases hs
 .intro s hs;cases hs
theorem q9w (d:u0k):∀s∈u0e d,s.size<=20000:=o59 d _
theorem p7o (d:u0k):(u0e d).length<256:=p7u d _
theorem j1b (d:u0k) (hd:c08.wt d<=1073741824):t8y d=some (logR (u0e d)):=
 j09 d hd (fun t ht=>by have:=q9w d t ht;unfold u0m;omega) (by have:=p7o d;omega)
theorem p45 (d:u0k) (hd:c08.wt d<=1073741824):t38 d=some (logR (u0e d)):=
 j1a d hd (fun t ht=>by have:=q9w d t ht;unfold u0m;omega) (by have:=p7o d;omega)
theorem j6q:∀ {l:Hu Hs} {b x:u0j},BaseR b->s55 b l=some x->BaseR x
 | [],b,x,hb,h=>by rw[←Ds h];exact hb
 | t::l,b,x,hb,h=>by
  simp only[s55] at h;split at h
  .cases h
  .split at h
   .cases h
   .rename_i r _ y hy;exact j6q (o98 hy).1 h
theorem p7r {l:Hu Hs} {x:u0j} (h:t2f l=some x):BaseR x:=j6q o64 h
theorem p34 (l:Hu Hs):tinyB (logR l).1:=by
 unfold logR;cases h:t2f l with
 | none=>exact t1e | some b=>exact(p7r h).tiny
def storeOk (s:u21×u0k):Bool:=o55 s.1&&(u2e s.2&&((logR (u0e s.2)).2&&likeP (logR (u0e s.2)).1 (u4k s.1.1 [])))
theorem d1x {y:Hs} (h:y∈K5):u7u y=true:=by
 simp only[K5,A8,Ep,Em] at h;rcases h with rfl | rfl | rfl | rfl | rfl<;>decide
theorem o0a {s:Src} (h:s.ok):Dr (u3a s) (fun y=>y∈K5):=by
 rw[p3p];unfold r7l;obtain⟨y,s1,e1,k1,r1⟩:=s30 h (l:=K5) (by decide);have e1:u0n (s, [(⟨#[97]⟩:Hs),(⟨#[98]⟩:Hs),(⟨#[99]⟩:Hs),(⟨#[100]⟩:Hs),(⟨#[97,98]⟩:Hs)])=_:=e1;simp only[e1,zOb];exact⟨_,_,rfl,k1,r1⟩
def c5e (r:s6l):Prop:=r.1∈K5/\r.2∈K5/\u2p r=true
theorem j5g {a b:Hs} (ha:a∈K5) (hb:b∈K5) (h:y3b b a=false):c5e (a,b):=by
 refine⟨ha,hb,?_⟩;unfold u2p;simp only[d1x ha,d1x hb,Bz,Cr];rcases p08 a b with q | rfl | q
 .exact .inl q
 .exact .inr (by simp[z7n])
 .rw[q] at h;cases h
theorem j1c {s:Src} (h:s.ok):Dr (u3x s) c5e:=by
 rw[q4j];unfold s9b;obtain⟨y1,s1,e1,k1,r1⟩:=o0a h;obtain⟨y2,s2,e2,k2,r2⟩:=s6m k1 (n:=2) (by omega);obtain⟨y3,s3,e3,k3,r3⟩:=o0a k2;simp only[e1,e2,e3,zOb];cases y2 with
 | true=>exact⟨_,_,rfl,k2,j5g r1 r1 (t4f _)⟩ | false=>
  simp only[Aa];cases hc:y3b y3 y1 with
  | true=>exact⟨_,_,rfl,k3,j5g r3 r1 (r8e hc)⟩ | false=>exact⟨_,_,rfl,k3,j5g r1 r3 hc⟩
def c52 (w:WrT):Prop:=w.1∈K5/\u3i w=true
theorem o0l {s:Src} (h:s.ok):Dr (u2z s) c52:=by
 rw[q4k];unfold s9c;obtain⟨y1,s1,e1,k1,r1⟩:=o0a h;obtain⟨y2,s2,e2,k2,r2⟩:=s30 k1 (l:= [(⟨#[111,110,101]⟩:Hs),(⟨#[116,119,111]⟩:Hs),(⟨#[]⟩:Hs),(⟨#[120,0]⟩:Hs)]) (by decide);obtain⟨y3,s3,e3,k3,r3⟩:=s6m k2 (n:=5) (by omega);simp only[e1,e2,e3,zOb];have hz:y2.size<=12:=by
  simp only[A8,Ep,Em] at r2;rcases r2 with rfl | rfl | rfl | rfl<;>decide
 have hk:=d1x r1;cases y3 with
 | true=>exact⟨_,_,rfl,k3,r1,by simp[u3i,hk,emp,ByteArray.size]⟩ | false=>exact⟨_,_,rfl,k3,r1,by simp[u3i,hk,hz]⟩
theorem j7p {s:Src} (h:s.ok):Dr (u7h s) (fun y=>u5b y=true/\ ∀w∈y,w.1∈K5):=by
 have key:∀(d i:Nat) (s:Src) (a:Hu WrT),s.ok->a.length<=i->4<=i+d->i<=3->u5b a=true->(∀w∈a,w.1∈K5)->
  ∃(s' :Src) (a' :Hu WrT),u41 (s,a,(i:Int))=some (.inl (s',a'))/\s'.ok/\u5b a' =true/\ ∀w∈a',w.1∈K5:=by
  intro d
  induction d with
  | zero=>intro i s a _ _ h1 h2;omega | succ d ih=>
   intro i s a hs ha hd hi hr hk;obtain⟨y,s1,e1,k1,r1⟩:=u1m hs (n:=4) (by omega);rw[r3d];simp only[t4w,e1,zOb];by_cases hy:(i:Int)<y
   .obtain⟨y2,s2,e2,k2,r2,r3⟩:=o0l k1;have hl:=j0a a y2;simp only[hy,Ae,Ad,e2,zOb,r7c a y2 (by omega)];rw[y7h (by omega)];exact ih (i+1) s2 (o3z a y2) k2 (by omega) (by omega) (by omega) (j5k hr r3 (by omega)) (fun w hw=>by
     rcases p37 hw with q | q
     .exact hk w q
     .rw[q];exact r2)
   .simp only[hy,Ah,Aa];exact⟨_,_,rfl,k1,hr,hk⟩
 obtain⟨s',a',e1,k1,r1,r2⟩:=key 4 0 s [] h (by simp) (by omega) (by omega) (by decide) (fun w hw=>by cases hw);rw[r9r];unfold s6t;have e1:u41 (s, [],0)=_:=e1;simp only[e1,zOb];exact⟨_,_,rfl,k1,r1,r2⟩
theorem u53 (b:u0j) (o:Hu u0i) (hb:fewB b) (ho:o3y o):u0p (b,o)=some (b,o):=by
 have h1:=s1g b hb;have h2:=p0f o ho;rw[o5x];unfold q81;simp only[h1,h2,zOb]
theorem j7b (b:u0j) (o:Hu u0i) (hb:fewB b) (ho:o3y o):s38 (b,o)=some (b,o):=by
 have h1:=s3z b hb;have h2:=p0e o ho;rw[p5m];unfold r4p;simp only[h1,h2,zOb]
theorem j4r (b:u0j) (o:Hu u0i) (n:Hs) (hb:smallB b) (ho:o3y o) {k:Nat} (hk:k<b.2.2.1.length) (hr:u0o b n=(k:Int)):
 ∃e r code,t2i ((b,o),n,true)=some (e,r,code)/\(code=(0:Int)\/code=3):=by
 have h1:=u53 b o hb.few ho;have h2:=t5g b n (by have:=hb.2.2.1;omega);have h3:=o2r b;have ht:=hb.2.2.2 _ (Ag hk);have h4:=q2r b b.2.2.1[k] hb.few ht;have h5:=s1b (q6x b b.2.2.1[k]) o (j3x hb ht) ho.1;have c1:decide ((k:Int)<0)=false:=by simp
 rw[hr] at h2;rw[p3i];unfold r7j;simp only[h1,h2,h3,zOb,c1,Aa,Ad];cases r49 b with
 | true=>exact⟨_,_,_,rfl, .inr rfl⟩ | false=>
  simp only[Aa,y7p hk,Ad,zTn,y8f (t:=u0v) hk,h4,h5,zOb];exact⟨_,_,_,rfl, .inl rfl⟩
theorem j4q (b:u0j) (o:Hu u0i) (n:Hs) (hb:smallB b) (ho:o3y o) {k:Nat} (hk:k<b.2.2.1.length) (hr:u0o b n=(k:Int)):
 ∃e r code,r7w ((b,o),n,true)=some (e,r,code)/\(code=(0:Int)\/code=3):=by
 have h1:=j7b b o hb.few ho;have h2:=q2p b n (by have:=hb.2.2.1;omega);have h3:=j97 b;have ht:=hb.2.2.2 _ (Ag hk);have h4:=p6s b b.2.2.1[k] hb.few ht;have h5:=t5k (t0m b b.2.2.1[k]) o (p7z hb ht) ho.1;have c1:decide ((k:Int)<0)=false:=by simp
 rw[hr] at h2;rw[o8r];unfold p1q;simp only[h1,h2,h3,zOb,c1,Aa,Ad];cases r49 b with
 | true=>exact⟨_,_,_,rfl, .inr rfl⟩ | false=>
  simp only[Aa,y7p hk,Ad,zTn,y8f (t:=u0v) hk,h4,h5,zOb];exact⟨_,_,_,rfl, .inl rfl⟩
theorem EngR.ot {e:u21} (h:EngR e) {t:u0i} (ht:t∈e.2):tinyT t:=(h.open_ t ht).1.tiny
theorem EngR.fewO {e:u21} (h:EngR e):o3y e.2:=q5y (by have:=h.olen;omega) fun t ht=>h.ot ht
theorem EngR.tinyO {e:u21} (h:EngR e):tinyB e.1:=h.base.tiny
theorem EngR.fewB {e:u21} (h:EngR e):Ab.fewB e.1:=h.base.tiny.few
theorem EngR.oth {e:u21} (h:EngR e):∀t∈s9v e,tinyT t:=fun t ht=>by
 rcases Ay.mp ht with q | q
 .exact(h.base.past t q).1.tiny
 .exact(h.base.ready t q).1.tiny
theorem EngR.fewOth {e:u21} (h:EngR e):o3y (s9v e):=q5y (by have:=h.base.plen;have:=h.base.rlen;simp only[s9v,Ba];omega) h.oth
theorem t5f (e:u21) (id:Int) (h:e.2.length<=4194304):u6c (e,id)=some (u9o e.2 id):=by
 have L:=s86 t5p (u0y (fun x:u0i=>decide (x.1=id)) e.2) (fun(_:Unit) i=>(id,e,i)) (fun _ _=>if u0y (fun x:u0i=>decide (x.1=id)) e.2<e.2.length then .inr ((u0y (fun x:u0i=>decide (x.1=id)) e.2:Nat):Int) else .inl ()) (fun _ _=>True)
  (fun a _=>by
   have hle:=s1p (fun x:u0i=>decide (x.1=id)) e.2;rw[q6d];by_cases hk:u0y (fun x:u0i=>decide (x.1=id)) e.2<e.2.length
   .have hy:=u9z hk;simp only[t5h,u0b,hk,Ae,Ad,y7p hk,zTn,y8f (t:=u0v) hk,hy,Bl]
   .simp only[t5h,u0b,hk,Ah,Aa,Bk])
  (fun i a hi _=> .inr ⟨(),trivial,rfl,by
   have hle:=s1p (fun x:u0i=>decide (x.1=id)) e.2;have hil:i<e.2.length:=by omega
   have hn:=t32 hil hi;rw[q6d];simp only[t5h,u0b,hil,Ae,Ad,y7p hil,zTn,y8f (t:=u0v) hil,hn,Aa];rw[y7h (by omega)]⟩) 0 () (Cn _) trivial
 have L:t5p (id,e,0)=_:=L;rw[o9a];unfold p2b u9o;simp only[L,zOb];by_cases hk:u0y (fun x:u0i=>decide (x.1=id)) e.2<e.2.length
 .simp only[Al hk]
 .simp only[Ao hk]
theorem j9v {e:u21} :(decide ((e.2.length:Int)>=4)= !decide (e.2.length<4))/\(decide (e.1.2.2.2.2>=9999)= !decide (e.1.2.2.2.2<9999)):=by
 constructor
 .by_cases h:e.2.length<4<;>simp[h] <;>omega
 .by_cases h:e.1.2.2.2.2<9999<;>simp[h] <;>omega
theorem q6k {e:u21} (h:EngR e):u78 e=some (s2q e):=by
 have ho:=h.olen;have hn:=h.base.next;have h1:=u53 e.1 e.2 h.fewB h.fewO;have h2:=p1f e (by have:=h.tinyO.wt;have:=p91 (l:=e.2) (by omega) (fun t ht=>h.ot ht);have:=j6c e;omega);have h1:u0p e=some e:=h1;have hk:=d7u.mpr h;rw[j2c];unfold p61 s2q;simp only[h1,h2,hk,zOb,Ap,Aa,j9v.1,j9v.2,Aw,u0q (show e.2.length+1<=1099511627776 by omega),Ad];by_cases c1:e.2.length<4
 .by_cases c2:e.1.2.2.2.2<9999
  .simp only[c1,c2,Ae,Ap,Aa,zOb,and_self,Bl,s3o (n:=e.1.2.2.2.2) (p01 hn)];rfl
  .simp only[c1,c2,Ae,Ah,Ap,Bh,Aa,Ad,zOb,and_false,Bk]
 .simp only[c1,Ah,Bh,Ad,zOb,false_and,Bk]
theorem c5z (l:Hu s6l) (r:s6l):(l.any fun x=>z7n x.1 r.1&&(z7n x.2 r.2&&true))=d9r l r:=by
 unfold d9r;simp only[Cz]
theorem q7d {t:u0i} {r:s6l} (ht:TxnR t) (h1:t.2.1=1) (hr:u2p r=true):s04 (t,r)=some (r06 t r):=by
 have hy:=ht.tiny;have hw:=hy.wt;have hl:=ht.rlen;have c0:=t2q t hy.few;have c1:=s1j t (by unfold u0m;omega);have k:=u27 (s:=r.1) (by unfold u2p at hr;simp only[Ai] at hr;exact hr.1);have k' :=u27 (s:=r.2) (by unfold u2p at hr;simp only[Ai] at hr;exact hr.2.1);have c2:=q2n r (by unfold u0m;omega) (by unfold u0m;omega);have ok:=p4g.mpr ht
 have L:=s6r u9i t.2.2.2.2.1 (fun i=>(t,r,(u5u:u0i),t,i)) (fun x=>z7n x.1 r.1&&(z7n x.2 r.2&&true)) (.inr (t,true)) (.inl (t,r,u5u,t))
  (by rw[r3a];simp only[t4t,u0b,Am,Ah,Aa])
  (fun i hi=>by
   rw[r3a];simp only[t4t,u0b,hi,Ae,Ad,y7p hi,zTn,y8f (t:=t3k) hi];rw[y7h (by omega)])
 rw[c5z] at L;have L:u9i (t,r,((0,0,0,0, [], [],false,(⟨#[]⟩:Hs)):u0i),t,0)=_:=L;rw[p82];unfold r9d r06;simp only[c0,c1,c2,ok,hr,h1,zOb,Ae,Ap,Aa,L];cases d9r t.2.2.2.2.1 r
 .have e8:decide ((t.2.2.2.2.1.length:Int)>=8)= !decide (t.2.2.2.2.1.length<8):=by by_cases c:t.2.2.2.2.1.length<8<;>simp[c] <;>omega
  simp only[Aa,e8,Br,Bk];by_cases c:t.2.2.2.2.1.length<8
  .simp only[c,Ae,Ap,Aa,Aw,u0q (show t.2.2.2.2.1.length+1<=1099511627776 by omega),Ad,Bl];rfl
  .simp only[c,Ah,Bh,Ad,Bk]
 .rfl
theorem j0r {l:Hu WrT} {w:WrT} (h:u5b l=true) (hw:u3i w=true):u5b (o3z l w)=decide ((o3z l w).length<=8):=by
 by_cases c:(o3z l w).length<=8
 .rw[j5k h hw c,Bb c]
 .rw[A7 c];cases q:u5b (o3z l w)
  .rfl
  .exact absurd (d37.mp q).2.2 c
theorem p4o {w:WrT} (h:u3i w=true):w.1.size<=3/\w.2.1.size<=12:=by
 unfold u3i at h;simp only[Ai,Ar] at h;exact⟨(u27 h.1).2,h.2.1⟩
theorem d1f {l:Hu WrT} (hn:l.length<=1000) (h:∀w∈l,u3i w=true):(Ty.sl u2l).wt l<=20000:=by
 have e:(Ty.sl u2l).wt l=l.length+(l.map u2l.wt).sum:=rfl;have s:=s6b (f:=u2l.wt) (k:=15) (l:=l) fun w hw=>by
  have:=p4o (h w hw);have e:u2l.wt w=w.1.size+(w.2.1.size+0):=rfl;omega
 omega
theorem d0w {l:Hu WrT} {w:WrT} (h:u5b l=true) (hw:u3i w=true):∀x∈o3z l w,u3i x=true:=fun x hx=>by
 rcases p37 hx with q | q
 .exact(d37.mp h).1 x q
 .rw[q];exact hw
theorem o8b {t:u0i} {w:WrT} (ht:TxnR t) (h1:t.2.1=1) (hw:u3i w=true):r0h (t,w)=some (q19 t w):=by
 have hy:=ht.tiny;have ht8:=(d37.mp ht.ws).2.2;have hl:=j0a t.2.2.2.2.2.1 w;have c0:=t2q t hy.few;have c1:=s1j t (by have:=hy.wt;unfold u0m;omega);have c2:=q2w w (by have:=p4o hw;unfold u0m;omega);have c3:=r7c t.2.2.2.2.2.1 w (by omega);have c4:=p1l (o3z t.2.2.2.2.2.1 w) (by have:=d1f (l:=o3z t.2.2.2.2.2.1 w) (by omega) (d0w ht.ws hw);unfold u0m;omega);have ok:=p4g.mpr ht;rw[o2b];unfold q3z q19;simp only[c0,c1,c2,c3,c4,ok,hw,h1,zOb,Ae,Ap,Aa,j0r ht.ws hw];by_cases c:(o3z t.2.2.2.2.2.1 w).length<=8
 .simp only[c,Ae,Ap,Aa,Bl];unfold c1n;rw[h1]
 .simp only[c,Ah,Bh,Ad,Bk]
def r56 (t:u0i) (l:Hu u17) (k:Hs):Hs×Bool:=
 if u0y (fun w:WrT=>z7n w.1 k) t.2.2.2.2.2.1<t.2.2.2.2.2.1.length then
  (if(rdL u2l t.2.2.2.2.2.1 (u0y (fun w:WrT=>z7n w.1 k) t.2.2.2.2.2.1)).2.2=true then(emp,false) else((rdL u2l t.2.2.2.2.2.1 (u0y (fun w:WrT=>z7n w.1 k) t.2.2.2.2.2.1)).2.1,true))
 else r2r l k t.2.2.1
def q5g (t:u0i) (l:Hu u17) (r:s6l):Hu PrT:=
 ((p0w (l.map (fun v=>v.1)++t.2.2.2.2.2.1.map fun w=>w.1)).filter fun k=>(r56 t l k).2&&inR r k).map fun k=>(k,(r56 t l k).1)
theorem o0b (t:u0i) (l:Hu u17) (k:Hs) (ht:q2e t) (hl:l.length<=4194304):s8q (t,l,k)=some (r56 t l k):=by
 have h8:=ht.2
 have L:=s86 t5q (u0y (fun w:WrT=>z7n w.1 k) t.2.2.2.2.2.1) (fun(_:Unit) i=>(l,k,t,i)) (fun _ _=>if u0y (fun w:WrT=>z7n w.1 k) t.2.2.2.2.2.1<t.2.2.2.2.2.1.length then .inr (if(rdL u2l t.2.2.2.2.2.1 (u0y (fun w:WrT=>z7n w.1 k) t.2.2.2.2.2.1)).2.2=true then(emp,false) else((rdL u2l t.2.2.2.2.2.1 (u0y (fun w:WrT=>z7n w.1 k) t.2.2.2.2.2.1)).2.1,true)) else .inl (l,k,t)) (fun _ _=>True)
  (fun a _=>by
   have hle:=s1p (fun w:WrT=>z7n w.1 k) t.2.2.2.2.2.1;rw[q6e];by_cases hk:u0y (fun w:WrT=>z7n w.1 k) t.2.2.2.2.2.1<t.2.2.2.2.2.1.length
   .have hy:=u9z hk;simp only[t5i,u0b,hk,Ae,Ad,y7p hk,zTn,y8f (t:=u2l) hk,hy,Bl];cases (t.2.2.2.2.2.1[u0y (fun w:WrT=>z7n w.1 k) t.2.2.2.2.2.1]).2.2<;>rfl
   .simp only[t5i,u0b,hk,Ah,Aa,Bk])
  (fun i a hi _=> .inr ⟨(),trivial,rfl,by
   have hle:=s1p (fun w:WrT=>z7n w.1 k) t.2.2.2.2.2.1;have hil:i<t.2.2.2.2.2.1.length:=by omega
   have hn:=t32 hil hi;rw[q6e];simp only[t5i,u0b,hil,Ae,Ad,y7p hil,zTn,y8f (t:=u2l) hil,hn,Aa];rw[y7h (by omega)]⟩) 0 () (Cn _) trivial
 have L:t5q (l,k,t,0)=_:=L;rw[o9b];unfold p2c r56;simp only[L,zOb];by_cases hk:u0y (fun w:WrT=>z7n w.1 k) t.2.2.2.2.2.1<t.2.2.2.2.2.1.length
 .simp only[Al hk]
 .simp only[Ao hk,o0g l k _ (show l.length<=1099511627776 by omega),zOb]
theorem j08 (t:u0i) (l:Hu u17) (r:s6l) (ht:q2e t) (hl:l.length<=4194304):r35 (t,l,r)=some (q5g t l r):=by
 have h8:=ht.2
 have L:=u8m t28 t.2.2.2.2.2.1 (fun(a:Hu u17) i=>(l,t,r,a,i)) (fun a (w:WrT)=>a++ [((w.1,emp,false,(0:Int)):u17)]) (fun a=> .inl (l,t,r,a)) (fun i a=>a.length=l.length+i)
  (fun a _=>by rw[q1p];simp only[t9w,u0b,Am,Ah,Aa])
  (fun i hi a ha=>⟨by simp[ha];omega,by
   rw[q1p];simp only[t9w,u0b,hi,Ae,Ad,y7p hi,zTn,y8f (t:=u2l) hi,Aw,u0q (show a.length+1<=1099511627776 by omega)];rw[y7h (by omega)];rfl⟩) l rfl
 have fo:∀(ws:Hu WrT) (a:Hu u17),ws.foldl (fun a (w:WrT)=>a++ [((w.1,emp,false,(0:Int)):u17)]) a=a++ws.map fun w=>((w.1,emp,false,(0:Int)):u17):=by
  intro ws
  induction ws with
  | nil=>intro a;simp | cons w ws ih=>intro a;rw[Bs,ih,C8,Bi];rfl
 rw[fo] at L;obtain⟨all,ha⟩:∃all,all=l++t.2.2.2.2.2.1.map fun w:WrT=>((w.1,emp,false,(0:Int)):u17):=⟨_,rfl⟩
 rw[←ha] at L;have hal:all.length<=6000000:=by rw[ha];simp;omega
 have hmap:all.map (fun v=>v.1)=l.map (fun v=>v.1)++t.2.2.2.2.2.1.map fun w=>w.1:=by
  rw[ha,Dh,List.map_map];rfl
 obtain⟨ks,hks⟩:∃ks,ks=(p0w (all.map fun v=>v.1)).filter fun k=>inR r k:=⟨_,rfl⟩
 have hkl:ks.length<=all.length:=by
  rw[hks];refine A9 (Cs _ _) (A9 (q4q _) (by simp))
 have L2:=s1k s0n ks (fun a i=>(l,t,a,ks,i)) (fun k=>(r56 t l k).2) (fun k=>(k,(r56 t l k).1)) (fun a=> .inl a) (by omega)
  (fun a _=>by rw[q1q];simp only[t9x,u0b,Am,Ah,Aa])
  (fun i hi a ha=>by
   rw[q1q];simp only[t9x,u0b,hi,Ae,Ad,y7p hi,zTn,y8f (t:=Ty.str) hi,o0b t l _ ht hl,zOb,Aw,u0q (show a.length+1<=1099511627776 by omega)];rw[y7h (by omega)])
 have L:t28 (l,t,r,l,0)=_:=L;rw[o44];unfold q77;simp only[Cc,Co,Cf,u0q (show l.length<=1099511627776 by omega),Ad,L,zOb,j05 all r (show all.length<=500000000000 by omega)];rw[←hks];simp only[L2,zOb];rw[hks,List.filter_filter,hmap];rfl
theorem p9z {k:Hs} :u2p (k,k)=u7u k:=by
 unfold u2p;have:z7n k k=true:=by simp[z7n]
 rw[this,Ew,Cz,Dt]
def d5a (e:u21) (id:Int) (k:Hs):u21×Hs×Bool×Int:=
 if(s3q e id (k,k) (u7u k)).2=0 then((s3q e id (k,k) (u7u k)).1,(r56 (u25 e id) e.1.1 k).1,(r56 (u25 e id) e.1.1 k).2,0)
 else((s3q e id (k,k) (u7u k)).1,emp,false,(s3q e id (k,k) (u7u k)).2)
def j0j (e:u21) (id:Int) (r:s6l):u21×Hu PrT×Int:=
 if(s3q e id r (u2p r)).2=0 then((s3q e id r (u2p r)).1,q5g (u25 e id) e.1.1 r,0) else((s3q e id r (u2p r)).1, [],(s3q e id r (u2p r)).2)
theorem o3b {t:u0i} {r:s6l} :(r06 t r).1.2.2.1=t.2.2.1/\(r06 t r).1.2.2.2.2.2.1=t.2.2.2.2.2.1:=by
 unfold r06;split
 .exact⟨rfl,rfl⟩
 .split<;>exact⟨rfl,rfl⟩
theorem o26 (t:u0i) (r:s6l) (l:Hu u17) (k:Hs):r56 (r06 t r).1 l k=r56 t l k:=by
 unfold r56;rw[o3b.1,o3b.2]
theorem j3b (t:u0i) (r q:s6l) (l:Hu u17):q5g (r06 t r).1 l q=q5g t l q:=by
 unfold q5g;rw[o3b.2];simp only[o26]
theorem j3l {t:u0i} {r:s6l} (h:tinyT t):q2e (r06 t r).1:=by
 unfold r06;split
 .exact h.few
 .split
  .refine⟨?_,h.few.2⟩;show(t.2.2.2.2.1++ [r]).length<=1048576;have:=h.rl;simp;omega
  .exact h.few
theorem p0g {e:u21} (h:EngR e) (id:Int) {k:Hs} (hk:k.size<=1048576):u7z (e,id,k)=some (d5a e id k):=by
 have ho:=h.olen;have h1:u0p e=some e:=u53 e.1 e.2 h.fewB h.fewO;have h2:=t5f e id (by omega);have h3:=s1h k (by unfold u0m;omega);rw[o89];unfold p2a d5a s3q;simp only[h1,h2,h3,zOb];by_cases hn:u9o e.2 id<0
 .simp only[hn,Ae,Ad,Bl];rfl
 .obtain⟨j,hj,e1,e2,e3⟩:=u2c hn;have hR:=h.open_ _ (Ag hj);simp only[hn,Ah,Aa,Bk];cases hok:u7u k with
  | false=>rfl | true=>
   have c:=q7d (r:=(k,k)) hR.1 hR.2.1 (by rw[p9z];exact hok);simp only[Ap,Aa,e1,y7p hj,Ad,zTn,y8f (t:=u0v) hj,c,zOb,e2,Fm,Bk];cases hr:(r06 e.2[j] (k,k)).2 with
   | false=>rfl | true=>
    have g:=o0b (r06 e.2[j] (k,k)).1 e.1.1 k (j3l hR.1.tiny) (by have:=h.tinyO.vl;omega);simp only[Ap,Aa,g,zOb,Bl,o26];rfl
theorem r7g {e:u21} (h:EngR e) (id:Int) {r:s6l} (hk:r.1.size<=1048576/\r.2.size<=1048576):u49 (e,id,r)=some (j0j e id r):=by
 have ho:=h.olen;have h1:u0p e=some e:=u53 e.1 e.2 h.fewB h.fewO;have h2:=t5f e id (by omega);have h3:=q2n r (by unfold u0m;omega) (by unfold u0m;omega);rw[o1y];unfold q3v j0j s3q;simp only[h1,h2,h3,zOb];by_cases hn:u9o e.2 id<0
 .simp only[hn,Ae,Ad,Bl];rfl
 .obtain⟨j,hj,e1,e2,e3⟩:=u2c hn;have hR:=h.open_ _ (Ag hj);simp only[hn,Ah,Aa,Bk];cases hok:u2p r with
  | false=>rfl | true=>
   have c:=q7d (r:=r) hR.1 hR.2.1 hok;simp only[Ap,Aa,e1,y7p hj,Ad,zTn,y8f (t:=u0v) hj,c,zOb,e2,Fm,Bk];cases hr:(r06 e.2[j] r).2 with
   | false=>rfl | true=>
    have g:=j08 (r06 e.2[j] r).1 e.1.1 r (j3l hR.1.tiny) (by have:=h.tinyO.vl;omega);simp only[Ap,Aa,g,zOb,Bl,j3b];rfl
theorem r7b {e:u21} (h:EngR e) (id:Int) {w:WrT} (hw:w.1.size<=1048576):u6d (e,id,w)=some (j4e e id w):=by
 have ho:=h.olen;have h1:u0p e=some e:=u53 e.1 e.2 h.fewB h.fewO;have h2:=t5f e id (by omega);have h3:=q2w w (by unfold u0m;omega);rw[o9d];unfold p2e j4e;simp only[h1,h2,h3,zOb];by_cases hn:u9o e.2 id<0
 .simp only[hn,Ae,Ad,Bl]
 .obtain⟨j,hj,e1,e2,e3⟩:=u2c hn;have hR:=h.open_ _ (Ag hj);simp only[hn,Ah,Aa,Bk];cases hok:u3i w with
  | false=>rfl | true=>
   have c:=o8b (w:=w) hR.1 hR.2.1 hok;simp only[Ap,Aa,e1,y7p hj,Ad,zTn,y8f (t:=u0v) hj,c,zOb,e2,Fm,Bk];cases hr:(q19 e.2[j] w).2 with
   | false=>rfl | true=>rfl
theorem s8b (b:u0j) (o:Hu u0i) (id:Int) (hb:fewB b) (ho:o.length<=1000):u01 ((b,o),id)=some ((u4k b (o.filter fun x=> !decide (x.1=id))),o.filter fun x=> !decide (x.1=id)):=by
 have L:=s1k t5t o (fun a i=>((b,o),id,a,i)) (fun x:u0i=> !decide (x.1=id)) (fun x=>x) (fun a=> .inl ((b,o),a)) (by omega)
  (fun a _=>by rw[q6i];simp only[s2c,u0b,Am,Ah,Aa])
  (fun i hi a ha=>by
   rw[q6i];simp only[s2c,u0b,hi,Ae,Ad,y7p hi,zTn,y8f (t:=u0v) hi,Aw,u0q (show a.length+1<=1099511627776 by omega)];rw[y7h (by omega)])
 rw[Er] at L;have L:t5t ((b,o),id, [],0)=_:=L;have hl:=Cs (fun x:u0i=> !decide (x.1=id)) o;rw[o9y];unfold p20;simp only[L,zOb,s1b b (o.filter fun x=> !decide (x.1=id)) hb (by omega)]
theorem p41 {e:u21} (h:EngR e) (id:Int):u9t (e,id)=some (q5e e id):=by
 have ho:=h.olen;have h1:u0p e=some e:=u53 e.1 e.2 h.fewB h.fewO;have h2:=t5f e id (by omega);have h3:u01 (e,id)=some (leaveE e id):=s8b e.1 e.2 id h.fewB (by omega);rw[j2f];unfold p64 q5e;simp only[h1,h2,h3,zOb];by_cases hn:u9o e.2 id<0
 .simp only[hn,Ae,Ad,Bl]
 .simp only[hn,Ah,Aa,Bk]
theorem d7t {E:Type} (l:Hu E) (f g:E->Bool):l.any (fun x=>f x || g x)=(l.any f || l.any g):=by
 induction l with
 | nil=>rfl | cons x l ih=>
  simp only[Gd,ih];cases f x<;>cases g x<;>cases l.any f<;>cases l.any g<;>rfl
theorem d16 {E:Type} (l:Hu E) (f g:E->Bool) (i:Bool):l.any (fun x=>f x&&(i || g x))=((i&&l.any f) || l.any fun x=>f x&&g x):=by
 cases i
 .simp
 .simp only[Dx,Cz,Bz];cases h:l.any f with
  | true=>rfl | false=>
   rw[Ct] at h;symm;rw[Ci,Ct];intro x hx;have:=h x hx;simp[this]
theorem j0y (t:u0i) (l:Hu u0i) (ht:q2e t) (hl:o3y l):r32 (t,l)=some (o0u t l):=by
 obtain⟨l1,l2⟩:=hl
 have L:=s6r t26 l (fun i=>(l,t,i)) (fun x=> !decide (x.1=t.1)&&((decide (x.2.1=2) || (decide (x.2.1=3)&&decide (x.2.2.2.1 >t.2.2.1)))&&p00 x.2.2.2.2.2.1 t.2.2.2.2.2.1)) (.inr true) (.inl ())
  (by rw[q1n];simp only[t9t,u0b,Am,Ah,Aa])
  (fun i hi=>by
   have h1:=o6h l[i].2.2.2.2.2.1 t.2.2.2.2.2.1 (s8i (l2 _ (Ag hi)).2) (s8i ht.2);rw[q1n];simp only[t9t,u0b,hi,Ae,Ad,y7p hi,zTn,y8f (t:=u0v) hi,h1,zOb];rw[y7h (by omega)];cases decide (l[i].1=t.1)<;>cases decide (l[i].2.1=2)<;>cases decide (l[i].2.1=3)<;>cases decide (l[i].2.2.2.1 >t.2.2.1)<;>cases p00 l[i].2.2.2.2.2.1 t.2.2.2.2.2.1<;>rfl)
 rw[o4y];unfold q71 o0u;have L:t26 (l,t,0)=_:=L;simp only[L,zOb];cases l.any fun x:u0i=> !decide (x.1=t.1)&&((decide (x.2.1=2) || (decide (x.2.1=3)&&decide (x.2.2.2.1 >t.2.2.1)))&&p00 x.2.2.2.2.2.1 t.2.2.2.2.2.1)<;>rfl
theorem j03 (t:u0i) (l:Hu u0i) (ht:q2e t) (hl:o3y l):r72 (t,l)=some (j8y t l):=by
 obtain⟨l1,l2⟩:=hl
 have L:=s6r s2k l (fun i=>(l,t,i)) (fun x=>d5b x&&ahead x t) (.inr true) (.inl ())
  (by rw[p4m];simp only[s8c,u0b,Am,Ah,Aa])
  (fun i hi=>by
   have h1:=t6i l[i] t (s8i (l2 _ (Ag hi)).1) (s8i ht.2);rw[p4m];simp only[s8c,u0b,hi,Ae,Ad,y7p hi,zTn,y8f (t:=u0v) hi,h1,zOb,d5b];rw[y7h (by omega)];cases decide (l[i].2.1=2)<;>cases decide (l[i].2.1=3)<;>cases ahead l[i] t<;>rfl)
 rw[j46];unfold o0p j8y;have L:s2k (l,t,0)=_:=L;simp only[L,zOb];cases l.any fun x=>d5b x&&ahead x t<;>rfl
def o8l (t:u0i) (l:Hu u0i) (p:u0i):Bool:=
 (d5b p&&(p.2.2.2.2.2.2.1&&ahead t p)) || (decide (p.2.1=2)&&(ahead p t&&(ahead t p || l.any fun x=>decide (x.2.1=2)&&(!decide (x.1=t.1)&&ahead x p))))
theorem d18 (t:u0i) (l:Hu u0i):p7h t l=((j8y t l&&p59 t l) || l.any (o8l t l)):=by
 unfold p7h o8m;rw[←d7t];rfl
theorem p96 (t:u0i) (l:Hu u0i) (ht:q2e t) (hl:o3y l):s8p (t,l)=some (p7h t l):=by
 obtain⟨l1,l2⟩:=hl;have inner:∀(i:Nat) (hi:i<l.length),u81 (l,t,(i:Int),l[i],0)=some (bif (decide (l[i].2.1=2)&&ahead l[i] t)&&(l.any fun x=>decide (x.2.1=2)&&(!decide (x.1=t.1)&&ahead x l[i])) then .inr true else .inl (l,t,(i:Int))):=fun i hi=>by
  have g1:=t6i l[i] t (s8i (l2 _ (Ag hi)).1) (s8i ht.2);cases hg:(decide (l[i].2.1=2)&&ahead l[i] t) with
  | false=>
   have e0:u81 (l,t,(i:Int),l[i],0)=_:=s66 _;rw[e0];simp only[t2r,g1,zOb,Fx,Aa];cases decide ((0:Int)<(l.length:Int))
   .rfl
   .revert hg
    cases decide (l[i].2.1=2)<;>cases ahead l[i] t<;>simp
  | true=>
   rw[Ai,Ar] at hg;obtain⟨q1,q2⟩:=hg
   have L:=s6r u81 l (fun k=>(l,t,(i:Int),l[i],k)) (fun x=>decide (x.2.1=2)&&(!decide (x.1=t.1)&&ahead x l[i])) (.inr true) (.inl (l,t,(i:Int)))
    (by rw[s66];simp only[t2r,u0b,Am,Ah,Aa,zOb])
    (fun k hk=>by
     have g2:=t6i l[k] l[i] (s8i (l2 _ (Ag hk)).1) (s8i (l2 _ (Ag hi)).2);rw[s66];simp only[t2r,u0b,hk,Ae,Ad,q1,g1,q2,g2,y7p hk,zTn,y8f (t:=u0v) hk,zOb];rw[y7h (by omega)];cases decide (l[k].2.1=2)<;>cases decide (l[k].1=t.1)<;>cases ahead l[k] l[i] <;>rfl)
   rw[Bz];exact L
 have L:=s6r t5o l (fun i=>(l,t,i)) (o8l t l) (.inr true) (.inl ())
  (by rw[q6a];simp only[s15,u0b,Am,Ah,Aa])
  (fun i hi=>by
   have g1:=t6i l[i] t (s8i (l2 _ (Ag hi)).1) (s8i ht.2);have g2:=t6i t l[i] (s8i ht.1) (s8i (l2 _ (Ag hi)).2);rw[q6a];simp only[s15,u0b,hi,Ae,Ad,y7p hi,zTn,y8f (t:=u0v) hi,g1,g2,inner i hi,zOb,o8l,d5b];have ws:=y7h (i:=i) (by omega);cases decide (l[i].2.1=2)<;>cases decide (l[i].2.1=3)<;>cases l[i].2.2.2.2.2.2.1<;>cases ahead l[i] t<;>cases ahead t l[i] <;>cases (l.any fun x=>decide (x.2.1=2)&&(!decide (x.1=t.1)&&ahead x l[i]))<;>first | rfl | (simp only[Dt,Fy,Fx,Bz,Fp,Ew,Ci,Ad,Aa,zOb,ws]))
 rw[o87];unfold p18;have L:t5o (l,t,0)=_:=L;simp only[j03 t l ht ⟨l1,l2⟩,p42 t l ht ⟨l1,l2⟩,L,zOb];rw[d18];cases j8y t l<;>cases p59 t l<;>cases l.any (o8l t l)<;>rfl
theorem p72 (t:u0i) (l:Hu u0i) (ht:q2e t) (hl:o3y l):s29 (t,l)=some (r0k t l):=by
 obtain⟨l1,l2⟩:=hl;have inner:∀(i:Nat) (hi:i<l.length) (b:Bool),u6i (l,t,b,(i:Int),l[i],0)=some (bif (l.any fun y=>decide (y.2.1=2)&&(!decide (y.1=t.1)&&ahead l[i] y)) then .inr true else .inl (l,t,b,(i:Int))):=fun i hi b=>
  s6r u6i l (fun k=>(l,t,b,(i:Int),l[i],k)) (fun y=>decide (y.2.1=2)&&(!decide (y.1=t.1)&&ahead l[i] y)) (.inr true) (.inl (l,t,b,(i:Int)))
   (by rw[s6h];simp only[u9d,u0b,Am,Ah,Aa,zOb])
   (fun k hk=>by
    have g2:=t6i l[i] l[k] (s8i (l2 _ (Ag hi)).1) (s8i (l2 _ (Ag hk)).2);rw[s6h];simp only[u9d,u0b,hk,Ae,Ad,g2,y7p hk,zTn,y8f (t:=u0v) hk,zOb];rw[y7h (by omega)];cases decide (l[k].2.1=2)<;>cases decide (l[k].1=t.1)<;>cases ahead l[i] l[k] <;>rfl)
 have L:=s6r u7n l (fun i=>(l,t,j8y t l,i)) (fun x=>(decide (x.2.1=2)&&ahead t x)&&(j8y t l || l.any fun y=>decide (y.2.1=2)&&(!decide (y.1=t.1)&&ahead x y))) (.inr true) (.inl ())
  (by rw[s75];simp only[t0d,u0b,Am,Ah,Aa])
  (fun i hi=>by
   have g2:=t6i t l[i] (s8i ht.1) (s8i (l2 _ (Ag hi)).2);rw[s75];simp only[t0d,u0b,hi,Ae,Ad,y7p hi,zTn,y8f (t:=u0v) hi,g2,inner i hi (j8y t l),zOb];have ws:=y7h (i:=i) (by omega);cases decide (l[i].2.1=2)<;>cases ahead t l[i] <;>cases j8y t l<;>cases (l.any fun y=>decide (y.2.1=2)&&(!decide (y.1=t.1)&&ahead l[i] y))<;>first | rfl | (simp only[Dt,Fy,Fx,Bz,Fp,Ew,Ci,Ap,Bh,Ad,Aa,zOb,ws]))
 rw[d16] at L;rw[p3l];unfold r1f r0k p7v;have L:u7n (l,t,j8y t l,0)=_:=L;simp only[p96 t l ht ⟨l1,l2⟩,j03 t l ht ⟨l1,l2⟩,L,zOb];have e:o8m (fun x:u0i=> !decide (x.1=t.1)) t l=p7h t l:=rfl;rw[e];cases p7h t l<;>cases ((j8y t l&&l.any fun x=>decide (x.2.1=2)&&ahead t x) || l.any fun x=>(decide (x.2.1=2)&&ahead t x)&&l.any fun y=>decide (y.2.1=2)&&(!decide (y.1=t.1)&&ahead x y))<;>rfl
theorem j5y (b:u0j) (hb:fewB b):t73 b=some (b.2.1++b.2.2.1):=by
 have h1:=hb.2.1.1;have h2:=hb.2.2.1;rw[o9w];unfold p2y;simp only[Cc,Co,Cf,u0q (show b.2.1.length<=1099511627776 by omega),u0q (show b.2.1.length+b.2.2.1.length<=1099511627776 by omega),Ad]
theorem o6f {e:u21} (h:EngR e) (id:Int):r2o (e,id)=some (q4p e id):=by
 have ho:=h.olen;have h2:=t5f e id (by omega);have h3:=j5y e.1 h.fewB;have h3:t73 e.1=some (s9v e):=h3;have h4:=o2r e.1;rw[j2d];unfold p62 q4p;simp only[h2,h3,zOb];by_cases hn:u9o e.2 id<0
 .simp only[hn,Ae,Ad,Bl]
 .obtain⟨j,hj,e1,e2,e3⟩:=u2c hn;have hT:=(h.ot (Ag hj)).few;simp only[hn,Ah,Aa,Bk,e1,y7p hj,Ad,zTn,y8f (t:=u0v) hj,j0y _ _ hT h.fewOth,p96 _ _ hT h.fewOth,h4,zOb,e2];have hn' : ¬((j:Int)<0):=by omega
  simp only[hn',Ah,Aa,Bk];cases o0u e.2[j] (s9v e)<;>cases p7h e.2[j] (s9v e)<;>cases r49 e.1<;>rfl
theorem j3n {b:u0j} {t:u0i} {n:Hs} (h: ¬(0<=u0o b n)):∃(k:Nat) (hk:k<(u2y b t n).2.2.1.length),u0o (u2y b t n) n=(k:Int)/\(u2y b t n).2.2.1[k] =u6r b t n:=by
 have hb:=d5p.mp (show u0o b n<0 by omega);have hm:u6r b t n∈(u2y b t n).2.2.1:=by
  show u6r b t n∈(b.2.2.1.filter fun x=>y3b x.2.2.2.2.2.2.2 n)++ [u6r b t n] ++(b.2.2.1.filter fun x=> !y3b x.2.2.2.2.2.2.2 n);simp
 have hn: ¬u0o (u2y b t n) n<0:=fun q=>d5p.mp q _ hm rfl
 obtain⟨k,hk,e1,e2⟩:=t6b hn;refine⟨k,hk,e1,?_⟩;have hx:=Ag hk;have hx:(u2y b t n).2.2.1[k] ∈(b.2.2.1.filter fun x=>y3b x.2.2.2.2.2.2.2 n)++ [u6r b t n] ++(b.2.2.1.filter fun x=> !y3b x.2.2.2.2.2.2.2 n):=hx;simp only[Ay,A6,Ax] at hx;rcases hx with (q | q) | q
 .exact absurd e2 (hb _ q.1)
 .exact q
 .exact absurd e2 (hb _ q.1)
theorem EngR.mids {e:u21} (h:EngR e):j80 e.1.2.2.2.1:=o23 h.base.cs
theorem j51 {e:u21} (h:EngR e) {t:u0i} (ht:t∈e.2\/t∈e.1.2.2.1):u8a (e.1,t)=some (u1v e.1 t):=by
 have hT:TxnR t:=by
  rcases ht with q | q
  .exact(h.open_ t q).1
  .exact(h.base.ready t q).1
 rw[q2r e.1 t h.fewB hT.tiny.few,o3q h.mids (p01 hT.id)]
theorem j52 {e:u21} (h:EngR e) {t:u0i} (ht:t∈e.2\/t∈e.1.2.2.1):tinyB (u1v e.1 t):=by
 have hT:TxnR t:=by
  rcases ht with q | q
  .exact(h.open_ t q).1
  .exact(h.base.ready t q).1
 exact r2t h.base hT.tiny
theorem d0m (b:u0j) (t:u0i) (hb:b.2.1.length<=1000):∃(k:Nat) (hk:k<(u1v b t).2.1.length),i64.wrap (((u1v b t).2.1.length:Int) - (1:Int))=(k:Int)/\(u1v b t).2.1[k] =s8e b t:=by
 have e:(u1v b t).2.1=b.2.1++ [s8e b t] :=rfl;refine⟨b.2.1.length,by rw[e];simp,?_,?_⟩
 .rw[e,Ba,Aw,y4x (by omega) (by omega)];omega
 .simp[e]
theorem j9z {b:u0j} {t:u0i} (h:q2e t):q2e (s8e b t):=h
theorem p94 {e:u21} (h:EngR e) (id:Int):s8o (e,id)=some (u5t e id):=by
 have ho:=h.olen;have h1:u0p e=some e:=u53 e.1 e.2 h.fewB h.fewO;have h2:=t5f e id (by omega);have hJ:=o6f h id;have hO:u01 (e,id)=some (leaveE e id):=s8b e.1 e.2 id h.fewB (by omega);rw[o86];unfold p17 u5t;simp only[h1,hJ,zOb];by_cases c1:q4p e id=1
 .simp only[c1,Ae,Ad,Bl];rfl
 .simp only[c1,Ah,Aa,Bk];by_cases c0:q4p e id=0
  .obtain⟨hn,_,_,_⟩:=p0v c0;obtain⟨j,hj,e1,e2,e3⟩:=u2c hn;have hm:e.2[j] ∈e.2\/e.2[j] ∈e.1.2.2.1:= .inl (Ag hj);have hT:=j51 h hm;obtain⟨k,hk,f1,f2⟩:=d0m e.1 e.2[j] (by have:=h.base.plen;omega);have hC:=t2q (s8e e.1 e.2[j]) (j9z (h.ot (Ag hj)).few);have hO2:=s8b (u1v e.1 e.2[j]) e.2 id (j52 h hm).few (by omega);simp only[c0,Ae,Ap,Aa,Bl,h2,e1,y7p hj,Ad,zTn,y8f (t:=u0v) hj,hT,f1,y7p hk,y8f (t:=u0v) hk,f2,hC,hO2,zOb,e2];show some _=some (p5a e e.2[j],_);unfold p5a q5v;rw[e3];rfl
  .simp only[c0,Ah,Bh,Ad,Bk,hO,zOb];rfl
theorem p6o {e:u21} (h:EngR e) (id:Int) {n:Hs} (hn1:n.size<=1048576):s48 (e,id,n)=some (s2v e id n):=by
 have ho:=h.olen;have h1:u0p e=some e:=u53 e.1 e.2 h.fewB h.fewO;have h2:=t5f e id (by omega);have hK:=s1h n (by unfold u0m;omega);have hA:u18 (e.1,n)=some (u0o e.1 n):=t5g e.1 n (by have:=h.base.rlen;omega);have hJ:=o6f h id;have hL:t73 e.1=some (s9v e):=j5y e.1 h.fewB;have hO:u01 (e,id)=some (leaveE e id):=s8b e.1 e.2 id h.fewB (by omega);rw[o47];unfold q8a s2v;simp only[h1,h2,zOb];by_cases c1:u9o e.2 id<0
 .simp only[c1,Ae,Ad,Bl];rfl
 simp only[c1,Ah,Aa,Bk,hK,zOb];cases c2:u7u n with
 | false=>simp only[Bh,Ad,Bl];rfl | true=>
 simp only[Ap,Aa,Fm,Bk,hA,zOb];by_cases c3:0<=u0o e.1 n
 .have c3' :decide (u0o e.1 n>=0)=true:=by simpa using c3
  simp only[c3,c3',Ad,Bl];rfl
 have c3' :decide (u0o e.1 n>=0)=false:=by simpa using c3
 simp only[c3,c3',Aa,Bk,hJ,zOb];unfold r7t;by_cases c4:q4p e id=0
 .obtain⟨j,hj,e1,e2,e3⟩:=u2c c1;have hT:=(h.ot (Ag hj));have hTR:=(h.open_ _ (Ag hj)).1;have hD:=p72 e.2[j] (s9v e) hT.few h.fewOth;have hr:=h.base.rlen;simp only[c4,Ae,e1,y7p hj,Ad,zTn,y8f (t:=u0v) hj,hL,hD,zOb,e2,ne_eq,not_true_eq_false,Bk];cases c5:r0k e.2[j] (s9v e) with
  | true=>
   have d5:decide ((5:Int)=0)=false:=by decide
   simp only[Ad,d5,Aa,zOb,Bh,hO,Bl];rfl
  | false=>
   simp only[Aa,zOb,Br,Bk];have e6:decide ((e.1.2.2.1.length:Int)>=3)=decide (3<=e.1.2.2.1.length):=by simp;omega
   simp only[e6];by_cases c6:3<=e.1.2.2.1.length
   .have d3:decide ((3:Int)=0)=false:=by decide
    simp only[c6,Ae,Ad,d3,Bh,hO,zOb,Bl];rfl
   .have hM:=q7c e.1 e.2[j] n h.fewB hT.few (p01 hTR.id);obtain⟨k,hk,f1,f2⟩:=j3n (t:=e.2[j]) c3;have hns:n.size<=100:=by have:=(u27 c2).2;omega
    have hMt:=p6c (t:=e.2[j]) h.base hT hns;have hA2:u18 (u2y e.1 e.2[j] n,n)=some ((k:Nat):Int):=by rw[t5g _ n (by have:=hMt.rl;omega),f1]
    have hC:=t2q (u6r e.1 e.2[j] n) hT.few;have hO2:=s8b (u2y e.1 e.2[j] n) e.2 id hMt.few (by omega);simp only[c6,Ah,Aa,Ae,Ap,y7p hj,Ad,y8f (t:=u0v) hj,hM,hA2,y7p hk,zTn,y8f (t:=u0v) hk,f2,hC,hO2,zOb,Bk,Bl];show some _=some (d0t e e.2[j] n,_);unfold d0t q5v;rw[e3];rfl
 .simp only[c4,Ah,Aa,zOb,Bh,Ad,hO,ne_eq,not_false_eq_true,Bl,Bk];rfl
theorem p1g {e:u21} (h:EngR e) (n:Hs) (yes:Bool):t2i (e,n,yes)=some (p0p e n yes):=by
 have ho:=h.olen;have h1:u0p e=some e:=u53 e.1 e.2 h.fewB h.fewO;have hA:u18 (e.1,n)=some (u0o e.1 n):=t5g e.1 n (by have:=h.base.rlen;omega);have hF:=o2r e.1;have hG:=p6l e.1 n h.fewB;have hG2:=s1b (s1c e.1 n) e.2 (p51 h.tinyO).few (by omega);rw[p3i];unfold r7j p0p;simp only[h1,hA,hF,zOb];by_cases c1:u0o e.1 n<0
 .simp only[c1,Ae,Ad,Bl];rfl
 obtain⟨k,hk,f1,f2⟩:=t6b c1;simp only[c1,Ah,Aa,Bk];cases yes with
 | false=>simp only[Aa,zOb,hG,hG2,Br,false_and,Bk];rfl | true=>
  have hm:e.1.2.2.1[k] ∈e.2\/e.1.2.2.1[k] ∈e.1.2.2.1:= .inr (Ag hk);have hT:=j51 h hm;have hT2:=s1b (u1v e.1 e.1.2.2.1[k]) e.2 (j52 h hm).few (by omega);simp only[Ad,true_and];cases r49 e.1 with
  | true=>rfl | false=>
   simp only[Aa,Br,Bk,Bl,f1,y7p hk,Ad,zTn,y8f (t:=u0v) hk,hT,hT2,zOb];rfl
theorem o6v:emp.size<=100:=by decide
theorem r4f (r:r03):(u04 r).1.size<=20000:=by
 cases h:u70 r with
 | false=>unfold u04;rw[h];exact A9 o6v (by omega) | true=>
  have hR:=d34.mp h;rw[t6c hR];have:=s8z hR;show(q5w (q5t r)).size<=20000;rw[o7j];omega
def j41 (b:u0j):r03:=(4,u5u,emp,false,b)
theorem j1q {b:u0j} (h:tinyB b):tinyR (j41 b):=⟨s4f,o6v,h⟩
theorem p4z (d:u0k) (hd:c08.wt d<=10000000):t6a d=some (orD d (j4z d)):=by
 have h1:=p45 d (by omega);have h2:=t0o (j41 (logR (u0e d)).1) (j1q (p34 _)).wt;have h3:=u6v d (by unfold u0m;omega);rw[o2j];unfold q38;simp only[h1,zOb];have h2:u29 (4,(0,0,0,0, [], [],false,(⟨#[]⟩:Hs)),(⟨#[]⟩:Hs),false,(logR (u0e d)).1)=_:=h2;simp only[h2,h3,zOb];unfold j4z;cases hp:t2f (u0e d) with
 | none=>
  have e:(logR (u0e d)).2=false:=by unfold logR;rw[hp]
  simp only[e,Bh,Ad,zOb];rfl
 | some b=>
  have e:logR (u0e d)=(b,true):=by unfold logR;rw[hp]
  simp only[e,Ap,Aa,zOb];have e4:j41 b=(4,u5u,emp,false,b):=rfl;rw[e4];cases ht:(u04 (4,u5u,emp,false,b)).2 with
  | false=>simp only[Bh,Ad,Br,Bk];rfl | true=>
   have h5:=q7g (d:=d) (l:= [(u04 (4,u5u,emp,false,b)).1]) hd (by simp) (fun t h=>by
    rw[Ax.mp h];have:=r4f (4,u5u,emp,false,b);omega)
   simp only[Ap,Aa,Bl,h5,zOb]
theorem j9s {d z:u0k} (h:j4z d=some z):u2e z=true:=by
 unfold j4z at h;split at h
 .cases h
 .split at h
  .exact(p6d h).2.1
  .cases h
theorem p99 (s:u0u) (r:r03) (hd:c08.wt s.2<=10000000) (hr:tinyR r):t88 (s,r)=some ((u8o s.2 r).isSome,s.1,(u8o s.2 r).getD s.2):=by
 have h1:=t0o r hr.wt;have hl:=r4f r;have h2:=t30 s.2 (u04 r).1 hd (by omega);have h3:=p4z s.2 hd;rw[o50];unfold q84 u8o;simp only[h1,zOb];cases ht:(u04 r).2 with
 | false=>simp only[Bh,Ad,Br,Bk];rfl | true=>
  simp only[Ap,Aa,Bl,h2,zOb];cases ha:append_ s.2 (u04 r).1 with
  | some y=>rfl | none=>
   simp only[orD,Bh,Ad,h3,zOb];cases hz:j4z s.2 with
   | none=>rfl | some z=>
    have h4:=t30 z (u04 r).1 (t48 (j9s hz)) (by omega);simp only[orD,Ap,Aa,h4,zOb];cases hq:append_ z (u04 r).1<;>rfl
theorem s1w:tinyR j0u:=⟨s4f,by decide,t1e⟩
theorem p7f {e:u21} (h:EngR e) (id:Int):tinyR (u5t e id).2.1:=by
 unfold u5t;split
 .exact s1w
 .split
  .rename_i c1 c0;obtain⟨hn,_,_,_⟩:=p0v c0;obtain⟨j,hj,e1,e2,e3⟩:=u2c hn;rw[e2];exact⟨(h.ot (Ag hj)).like rfl rfl o6v,o6v,t1e⟩
  .exact s1w
theorem o7b {e:u21} (h:EngR e) (id:Int) (n:Hs):tinyR (s2v e id n).2.1:=by
 unfold s2v;split
 .exact s1w
 .rename_i hn;split
  .exact s1w
  .rename_i hk;split
   .exact s1w
   .split
    .obtain⟨j,hj,e1,e2,e3⟩:=u2c hn;rw[e2];have hk:u7u n=true:=by simpa using hk
     have:=(u27 hk).2;exact⟨(h.ot (Ag hj)).like rfl rfl (by show n.size<=100;omega),o6v,t1e⟩
    .exact s1w
theorem j2p {e:u21} (n:Hs) (hn:n.size<=100) (y:Bool):tinyR (p0p e n y).2.1:=by
 unfold p0p;split
 .exact s1w
 .split
  .exact s1w
  .split
   .exact⟨s4f,hn,t1e⟩
   .exact⟨s4f,hn,t1e⟩
theorem q9k {s:u0u} (h:EngR s.1) (hd:u2e s.2=true) (id:Int):u5r (s,id)=some ((u8q s id).2,(u8q s id).1):=by
 have ho:=h.olen;have h1:=p94 h id;have h2:=p99 s (u5t s.1 id).2.1 (t48 hd) (p7f h id);have h3:u0p s.1=some s.1:=u53 s.1.1 s.1.2 h.fewB h.fewO;have hO:u01 (s.1,id)=some (leaveE s.1 id):=s8b s.1.1 s.1.2 id h.fewB (by omega);rw[p9b];unfold r9m u8q;simp only[h1,zOb];by_cases c:(u5t s.1 id).2.2=0
 .simp only[c,Ae,Ad,Bl,h2,zOb];cases u8o s.2 (u5t s.1 id).2.1 with
  | none=>simp only[Option.isSome_none,Bh,Ad,h3,hO,zOb];rfl | some d=>rfl
 .simp only[c,Ah,Aa,Bk]
theorem q4s {s:u0u} (h:EngR s.1) (hd:u2e s.2=true) (id:Int) {n:Hs} (hn:n.size<=1048576):u4i (s,id,n)=some ((s6a s id n).2,(s6a s id n).1):=by
 have ho:=h.olen;have h1:=p6o h id hn;have h2:=p99 s (s2v s.1 id n).2.1 (t48 hd) (o7b h id n);have h3:u0p s.1=some s.1:=u53 s.1.1 s.1.2 h.fewB h.fewO;have hO:u01 (s.1,id)=some (leaveE s.1 id):=s8b s.1.1 s.1.2 id h.fewB (by omega);rw[p5z];unfold r42 s6a;simp only[h1,zOb];by_cases c:(s2v s.1 id n).2.2=0
 .simp only[c,Ae,Ad,Bl,h2,zOb];cases u8o s.2 (s2v s.1 id n).2.1 with
  | none=>simp only[Option.isSome_none,Bh,Ad,h3,hO,zOb];rfl | some d=>rfl
 .simp only[c,Ah,Aa,Bk]
theorem j93 {e:u21} {n:Hs} {y:Bool} (c:(p0p e n y).2.2≠0):(p0p e n y).1=e:=by
 unfold p0p at c ⊢;split
 .rfl
 .split
  .rfl
  .rename_i h1 h2;rw[Ao h1,Ao h2] at c;split at c<;>exact absurd rfl c
theorem q9l {s:u0u} (h:EngR s.1) (hd:u2e s.2=true) {n:Hs} (hn:n.size<=100) (y:Bool):u5s (s,n,y)=some ((q2g s n y).2,(q2g s n y).1):=by
 have h1:=p1g h n y;have h2:=p99 s (p0p s.1 n y).2.1 (t48 hd) (j2p n hn y);rw[p9c];unfold r9n q2g;simp only[h1,zOb];by_cases c:(p0p s.1 n y).2.2=0
 .simp only[c,Ae,Ad,Bl,h2,zOb];cases u8o s.2 (p0p s.1 n y).2.1 with
  | none=>rfl | some d=>rfl
 .simp only[c,Ah,Aa,Bk,j93 c]
theorem j7c {s:u0u} (h:EngR s.1) (hd:c08.wt s.2<=10000000):r4d s=some s:=by
 have h1:u0p s.1=some s.1:=u53 s.1.1 s.1.2 h.fewB h.fewO;have h2:=u6v s.2 (by unfold u0m;omega);rw[o5z];unfold q83;simp only[h1,h2,zOb]
theorem o7z {s:u0u} (h:EngR s.1) (hd:u2e s.2=true):u2i s=some (j7x s):=by
 have h1:=j7c h (t48 hd);have h2:=p4z s.2 (t48 hd);rw[o1o];unfold q3l j7x;simp only[h1,h2,zOb];cases j4z s.2<;>rfl
def PQR:Hu Hs:= [⟨#[112]⟩,⟨#[113]⟩,⟨#[114]⟩]
theorem p9r {y:Hs} (h:y∈PQR):y.size<=100:=by
 simp only[PQR,A8,Ep,Em] at h;rcases h with rfl | rfl | rfl<;>decide
theorem Stt.mono {k m:Nat} {s:u0u} (h:Stt k s) (hm:k<=m):Stt m s:=by
 obtain⟨b,h1,h2⟩:=h.sync;exact⟨⟨b,h1,by omega⟩,h.dom,h.num.mono hm⟩
theorem Stt.log {k:Nat} {s:u0u} (h:Stt k s):u2e s.2=true:=by obtain⟨b,h1,_⟩:=h.sync;exact h1.log
def RN (e:u21):Prop:= ∀x∈e.1.2.2.1,x.2.2.2.2.2.2.2∈PQR
theorem RN.sub {e e' :u21} (h:RN e) (hs:∀x∈e'.1.2.2.1,∃y∈e.1.2.2.1,x.2.2.2.2.2.2.2=y.2.2.2.2.2.2.2):RN e' :=fun x hx=>by
 obtain⟨y,hy,q⟩:=hs x hx;rw[q];exact h y hy
theorem RN.same {e e' :u21} (h:RN e) (hs:e'.1.2.2.1=e.1.2.2.1):RN e' :=h.sub fun x hx=>⟨x,by rw[←hs];exact hx,rfl⟩
theorem RN.through {e:u21} (h:RN e) (t:u0i) (o:Hu u0i):RN (u4k (u1v e.1 t) o,o):=h.sub fun x hx=>by
 have hx:x∈(e.1.2.2.1.filter fun x=> !decide (x.1=t.1)).map (p7k (s8e e.1 t)):=hx;obtain⟨y,hy,rfl⟩:=Bx.mp hx;exact⟨y,(A6.mp hy).1,rfl⟩
theorem RN.commit {e:u21} (h:RN e) (id:Int):RN (u5t e id).1:=by
 unfold u5t;split
 .exact h
 .split
  .exact h.through _ _
  .exact h.same rfl
theorem RN.prep {e:u21} (h:RN e) (id:Int) {n:Hs} (hn:n∈PQR):RN (s2v e id n).1:=by
 unfold s2v;split
 .exact h
 .split
  .exact h
  .split
   .exact h
   .split
    .intro x hx;have hx:x∈(e.1.2.2.1.filter fun x=>y3b x.2.2.2.2.2.2.2 n)++ [u6r e.1 (u25 e id) n] ++(e.1.2.2.1.filter fun x=> !y3b x.2.2.2.2.2.2.2 n):=hx;simp only[Ay,A6,Ax] at hx;rcases hx with (q | rfl) | q
     .exact h x q.1
     .exact hn
     .exact h x q.1
    .exact h.same rfl
theorem RN.fin {e:u21} (h:RN e) (n:Hs) (y:Bool):RN (p0p e n y).1:=by
 unfold p0p;split
 .exact h
 .split
  .exact h
  .split
   .exact h.through _ _
   .exact h.sub fun x hx=>⟨x,(A6.mp hx).1,rfl⟩
theorem RN.look {e:u21} (h:RN e) {id:Int} {r:s6l} {right:Bool} :RN (s3q e id r right).1:=by
 unfold s3q;split
 .exact h
 .split
  .exact h
  .split<;>exact h
theorem RN.put {e:u21} (h:RN e) {id:Int} {w:WrT} :RN (j4e e id w).1:=by
 unfold j4e;split
 .exact h
 .split
  .exact h
  .split<;>exact h
theorem RN.begin {e:u21} (h:RN e):RN (s2q e).1:=by
 unfold s2q;split<;>exact h
theorem RN.leave {e:u21} (h:RN e) (id:Int):RN (q5e e id).1:=by
 unfold q5e;split<;>exact h
structure SttN (k:Nat) (s:u0u):Prop extends Stt k s where
 rn:RN s.1
theorem SttN.mono {k m:Nat} {s:u0u} (h:SttN k s) (hm:k<=m):SttN m s:=⟨h.toStt.mono hm,h.rn⟩
theorem SttN.begin {k:Nat} {s:u0u} (h:SttN k s):SttN (k+1) ((s2q s.1).1,s.2):=⟨h.toStt.begin,h.rn.begin⟩
theorem SttN.look {k:Nat} {s:u0u} (h:SttN k s) {id:Int} {r:s6l} {right:Bool} (hr:right=true->u2p r=true) (hk:r.1∈K5/\r.2∈K5):SttN (k+1) ((s3q s.1 id r right).1,s.2):=⟨h.toStt.look hr hk,h.rn.look⟩
theorem SttN.put {k:Nat} {s:u0u} (h:SttN k s) {id:Int} {w:WrT} (hk:w.1∈K5):SttN (k+1) ((j4e s.1 id w).1,s.2):=⟨h.toStt.put hk,h.rn.put⟩
theorem SttN.leave {k:Nat} {s:u0u} (h:SttN k s) (id:Int):SttN (k+1) ((q5e s.1 id).1,s.2):=⟨h.toStt.leave id,h.rn.leave id⟩
theorem SttN.fix {k:Nat} {s:u0u} (h:SttN k s):SttN (k+1) (j7x s).1:=⟨h.toStt.fix,by
 unfold j7x;split<;>exact h.rn⟩
theorem SttN.commit {k:Nat} {s:u0u} (h:SttN k s) (id:Int):SttN (k+1) (u8q s id).1:=⟨h.toStt.commit id,by
 unfold u8q;split
 .split
  .exact h.rn.commit id
  .exact h.rn.same rfl
 .exact h.rn.commit id⟩
theorem SttN.prep {k:Nat} {s:u0u} (h:SttN k s) (id:Int) {n:Hs} (hn:n∈PQR):SttN (k+1) (s6a s id n).1:=⟨h.toStt.prep id n,by
 unfold s6a;split
 .split
  .exact h.rn.prep id hn
  .exact h.rn.same rfl
 .exact h.rn.prep id hn⟩
theorem SttN.fin {k:Nat} {s:u0u} (h:SttN k s) (n:Hs) (y:Bool):SttN (k+1) (q2g s n y).1:=⟨h.toStt.fin n y,by
 unfold q2g;split
 .split
  .exact h.rn.fin n y
  .exact h.rn
 .exact h.rn⟩
theorem o75:∃s,t58 ()=some s/\SttN 0 s:=by
 obtain⟨d,h1,h2,h3⟩:=r69;have h0:s03 ()=some (p35, []):=by
  rw[r9q];unfold s6s;rw[r3q];rfl
 refine⟨((p35, []),d),?_,?_⟩
 .rw[q4h];unfold s9a;simp only[h0,h1,zOb]
 .have hp:t2f (u0e d)=some p35:=by rw[h3];rfl
  have hE:EngR ((p35, []):u21):=d7u.mp (by decide);have hL:Like0 p35 p35:=⟨by decide,rfl,rfl,rfl⟩;have hN:p35.2.2.2.2<=((0:Nat):Int)+1:=by decide
  have hM:Num 0 ((p35, []):u21):=⟨by decide,by decide⟩;have hD:DomE ((p35, []):u21):=⟨⟨(fun v hv=>by cases hv),(fun t ht=>by cases ht)⟩,(fun t ht=>by cases ht)⟩;exact⟨⟨⟨p35,⟨hE,h2,hp,o64,hL⟩,hN⟩,hD,hM⟩,fun x hx=>by cases hx⟩
def DrS (F:Ht (Src×u0u)) (k:Nat):Prop:= ∃s t,F=some (s,t)/\s.ok/\SttN k t
theorem j04 {y:Hs} (h:y∈K5):y.size<=1048576:=by have:=(u27 (d1x h)).2;omega
theorem j3w {k:Nat} {s:u0u} (h:SttN k s) (id:Int) {c:Src} (hc:c.ok):DrS ((u0g (c,(16:Int))).bind fun(y20:(Int×((Hu Int)×(Int×Int))))=>(((bif (decide (id=(0:Int))) then(some true) else(some (decide (y20.1<(3:Int))))):Ht Bool).bind fun j21=>(bif j21 then((u78 s.1).bind fun y22=>(some (y20.2,(y22.1,s.2)))) else(bif (decide (y20.1<(6:Int))) then((u3a y20.2).bind fun y23=>((u7z (s.1,(id,y23.1))).bind fun y24=>(some (y23.2,(y24.1,s.2))))) else(bif (decide (y20.1<(7:Int))) then((u3x y20.2).bind fun y25=>((u49 (s.1,(id,y25.1))).bind fun y26=>(some (y25.2,(y26.1,s.2))))) else(bif (decide (y20.1<(10:Int))) then((u2z y20.2).bind fun y27=>((u6d (s.1,(id,y27.1))).bind fun y28=>(some (y27.2,(y28.1,s.2))))) else(bif (decide (y20.1<(13:Int))) then((u5r (s,id)).bind fun y29=>(some (y20.2,y29.2))) else(bif (decide (y20.1=(13:Int))) then((u0n (y20.2,PQR)).bind fun y30=>((u4i (s,(id,y30.1))).bind fun y31=>(some (y30.2,y31.2)))) else(bif (decide (y20.1=(14:Int))) then((u0n (y20.2,PQR)).bind fun y32=>((u05 (y32.2,(2:Int))).bind fun(y33:(Bool×((Hu Int)×(Int×Int))))=>((u5s (s,(y32.1,y33.1))).bind fun y34=>(some (y33.2,y34.2))))) else((u05 (y20.2,(3:Int))).bind fun(y35:(Bool×((Hu Int)×(Int×Int))))=>(bif y35.1 then((u2i s).bind fun y36=>(some (y35.2,y36.1))) else((u9t (s.1,id)).bind fun y37=>(some (y35.2,(y37.1,s.2))))))))))))))) (k+1):=by
 obtain⟨y,c1,e1,k1,r1⟩:=u1m hc (n:=16) (by omega);have hE:=h.eng;simp only[e1,zOb];have key:∀j:Bool,DrS ((some j).bind fun j21=>(bif j21 then((u78 s.1).bind fun y22=>(some (c1,(y22.1,s.2)))) else(bif (decide (y<(6:Int))) then((u3a c1).bind fun y23=>((u7z (s.1,(id,y23.1))).bind fun y24=>(some (y23.2,(y24.1,s.2))))) else(bif (decide (y<(7:Int))) then((u3x c1).bind fun y25=>((u49 (s.1,(id,y25.1))).bind fun y26=>(some (y25.2,(y26.1,s.2))))) else(bif (decide (y<(10:Int))) then((u2z c1).bind fun y27=>((u6d (s.1,(id,y27.1))).bind fun y28=>(some (y27.2,(y28.1,s.2))))) else(bif (decide (y<(13:Int))) then((u5r (s,id)).bind fun y29=>(some (c1,y29.2))) else(bif (decide (y=(13:Int))) then((u0n (c1,PQR)).bind fun y30=>((u4i (s,(id,y30.1))).bind fun y31=>(some (y30.2,y31.2)))) else(bif (decide (y=(14:Int))) then((u0n (c1,PQR)).bind fun y32=>((u05 (y32.2,(2:Int))).bind fun(y33:(Bool×((Hu Int)×(Int×Int))))=>((u5s (s,(y32.1,y33.1))).bind fun y34=>(some (y33.2,y34.2))))) else((u05 (c1,(3:Int))).bind fun(y35:(Bool×((Hu Int)×(Int×Int))))=>(bif y35.1 then((u2i s).bind fun y36=>(some (y35.2,y36.1))) else((u9t (s.1,id)).bind fun y37=>(some (y35.2,(y37.1,s.2)))))))))))))) (k+1):=by
  intro j;simp only[zOb];cases j with
  | true=>
   simp only[Ad,q6k hE,zOb];exact⟨_,_,rfl,k1,h.begin⟩
  | false=>
   simp only[Aa];cases decide (y<(6:Int)) with
   | true=>
    obtain⟨z,c2,e2,k2,r2⟩:=o0a k1;simp only[Ad,e2,zOb,p0g hE id (j04 r2)];refine⟨_,_,rfl,k2,?_⟩;have:=h.look (id:=id) (r:=(z,z)) (right:=u7u z) (fun hk=>by rw[p9z];exact hk) ⟨r2,r2⟩;unfold d5a;split<;>exact this
   | false=>
   simp only[Aa];cases decide (y<(7:Int)) with
   | true=>
    obtain⟨z,c2,e2,k2,r2⟩:=j1c k1;simp only[Ad,e2,zOb,r7g hE id ⟨j04 r2.1,j04 r2.2.1⟩];refine⟨_,_,rfl,k2,?_⟩;have:=h.look (id:=id) (r:=z) (right:=u2p z) (fun hk=>hk) ⟨r2.1,r2.2.1⟩;unfold j0j;split<;>exact this
   | false=>
   simp only[Aa];cases decide (y<(10:Int)) with
   | true=>
    obtain⟨z,c2,e2,k2,r2⟩:=o0l k1;simp only[Ad,e2,zOb,r7b hE id (j04 r2.1)];exact⟨_,_,rfl,k2,h.put r2.1⟩
   | false=>
   simp only[Aa];cases decide (y<(13:Int)) with
   | true=>
    simp only[Ad,q9k hE h.log,zOb];exact⟨_,_,rfl,k1,h.commit id⟩
   | false=>
   simp only[Aa];cases decide (y=(13:Int)) with
   | true=>
    obtain⟨z,c2,e2,k2,r2⟩:=s30 k1 (l:=PQR) (by decide);have hz:=p9r r2;simp only[Ad,e2,zOb,q4s hE h.log id (show z.size<=1048576 by omega)];exact⟨_,_,rfl,k2,h.prep id r2⟩
   | false=>
   simp only[Aa];cases decide (y=(14:Int)) with
   | true=>
    obtain⟨z,c2,e2,k2,r2⟩:=s30 k1 (l:=PQR) (by decide);obtain⟨z2,c3,e3,k3,r3⟩:=s6m k2 (n:=2) (by omega);simp only[Ad,e2,e3,zOb,q9l hE h.log (p9r r2)];exact⟨_,_,rfl,k3,h.fin z z2⟩
   | false=>
    obtain⟨z2,c3,e3,k3,r3⟩:=s6m k1 (n:=3) (by omega);simp only[Aa,e3,zOb];cases z2 with
    | true=>
     simp only[Ad,o7z hE h.log,zOb];exact⟨_,_,rfl,k3,h.fix⟩
    | false=>
     simp only[Aa,p41 hE,zOb];exact⟨_,_,rfl,k3,h.leave id⟩
 cases decide (id=0) with
 | true=>simp only[Ad];exact key true | false=>simp only[Aa];exact key _
theorem j9m {k:Nat} {s:u0u} (h:SttN k s) {c:Src} (hc:c.ok):DrS (s5i (c,s)) (k+1):=by
 rw[q9f];unfold r3l;cases hd:decide ((s.1.2.length:Int) >0) with
 | true=>
  have hl:0<s.1.2.length:=by simpa using hd
  obtain⟨y,c1,e1,k1,r1⟩:=u1m hc (n:=(s.1.2.length:Int)) (by omega);obtain⟨i,rfl⟩:∃i:Nat,y=(i:Int):=⟨y.toNat,by omega⟩;have hi:i<s.1.2.length:=by omega
  simp only[hd,Ad,e1,zOb,y7p hi];exact j3w h _ k1
 | false=>
  simp only[hd,Aa];exact j3w h 0 hc
theorem j9p (m:Nat) (hm:1<=m/\m<=1000) {c:Src} (hc:c.ok):∃(s:u0u) (c' :Src),u90 (c,(m:Int))=some (s,c')/\c'.ok/\SttN (m+1) s:=by
 have key:∀(d i:Nat) (c:Src) (j s:u0u),c.ok->SttN i s->m+2<=i+d->i<=m+1-> ∃(c' :Src) (s' :u0u),u7c (c,(m:Int),j,s,(i:Int))=some (.inl (c',j,s'))/\c'.ok/\SttN (m+1) s' :=by
  intro d
  induction d with
  | zero=>intro i c j s _ _ h1 h2;omega | succ d ih=>
   intro i c j s hc hs hd hi;obtain⟨y,c1,e1,k1,r1⟩:=u1m hc (n:=(m:Int)) (by omega);rw[q17];simp only[s0e,e1,zOb];rw[y4x (n:=2+y) (by omega) (by omega)];by_cases hy:(i:Int)<2+y
   .obtain⟨c2,s2,e2,k2,r2⟩:=j9m hs k1;simp only[hy,Ae,Ad,e2,zOb];rw[y7h (by omega)];exact ih (i+1) c2 j s2 k2 r2 (by omega) (by omega)
   .simp only[hy,Ah,Aa];exact⟨_,_,rfl,k1,hs.mono hi⟩
 obtain⟨s0,e0,h0⟩:=o75;obtain⟨c',s',e1,k1,r1⟩:=key (m+2) 0 c (((([], [], [],0,0):u0j), []),([], [])) s0 hc h0 (by omega) (by omega);rw[q9g];unfold r3m;have e1:u7c (c,(m:Int),(((([], [], [],0,0):u0j), []),([], [])),s0,0)=_:=e1;simp only[e0,e1,zOb];exact⟨_,_,rfl,k1,r1⟩
theorem d70 {e:u21} {id:Int} {r:s6l} {right:Bool} (h:(s3q e id r right).2=0): ¬u9o e.2 id<0:=by
 intro hn;unfold s3q at h;rw[Al hn] at h;exact(by decide: ¬((1:Int)=0)) h
def d8r:u0u:=((u2t, []),([], []))
def riseR (d:u0k):u0u×Bool:=if u2e d=true/\(logR (u0e d)).2=true then((((logR (u0e d)).1, []),d),true) else(d8r,false)
theorem j9l (d:u0k) (hd:c08.wt d<=10000000):s6w d=some (riseR d):=by
 have hb:u0m=1099511627776:=rfl;rw[p8j];unfold r8v riseR;rw[j1b d (by omega),o6g d (by omega),j7a d (by omega)];simp only[zOb];cases u2e d<;>cases (logR (u0e d)).2<;>rfl
theorem j1f (d:u0k) (hd:c08.wt d<=10000000):u5q d=some (riseR d):=by
 have hb:u0m=1099511627776:=rfl;rw[p84];unfold r9f riseR;rw[p45 d (by omega),q6l d (by omega),u6v d (by omega)];simp only[zOb];cases u2e d<;>cases (logR (u0e d)).2<;>rfl
theorem j3o (d:u0k):tinyB (riseR d).1.1.1:=by
 unfold riseR;split
 .exact p34 _
 .exact t1e
def p9g (s:u0u):Bool:=storeOk s&&((riseR s.2).2&&likeP (riseR s.2).1.1.1 (u4k s.1.1 []))
theorem p7x (l:Hu u0i):t8k l l=true:=by
 unfold t8k;simp
theorem j0i (l:Hu u17) (s:Int):r8f l l s=true:=by
 unfold r8f r0l;simp
theorem d2g {a b:u0j} (h1:a.1=b.1) (h2:a.2.1=b.2.1) (h3:a.2.2.1=b.2.2.1) (h4:a.2.2.2.1=b.2.2.2.1):likeP a b=true:=by
 unfold likeP;rw[h1,h2,h3,h4,p7x,p7x,j0i];simp
theorem Sync.likeP {s:u0u} {b:u0j} (h:Sync s b):Ab.likeP b (u4k s.1.1 [])=true:=by
 rw[r6b fun t ht=>(h.eng.base.past t ht).2.2];exact d2g h.like.vs h.like.past h.like.ready h.like.cs
theorem Sync.logR {s:u0u} {b:u0j} (h:Sync s b):Ab.logR (u0e s.2)=(b,true):=by unfold Ab.logR;rw[h.play]
theorem Sync.riseR {s:u0u} {b:u0j} (h:Sync s b):Ab.riseR s.2=(((b, []),s.2),true):=by
 unfold Ab.riseR;rw[h.logR,Al ⟨h.log,rfl⟩]
theorem Sync.storeOk {s:u0u} {b:u0j} (h:Sync s b):Ab.storeOk s=true:=by
 unfold Ab.storeOk;rw[h.logR,d7u.mpr h.eng,h.log,h.likeP];rfl
abbrev d4v:=(c13.den×Hu PrT)⊕Bool
def q5h (l:Hu u0v.den) (i:Nat) (t:u0v.den):Bool:= !decide (t.2.1=3) || (decide (0<i)&&decide ((rdL u0v l (i - 1)).2.2.2.1>=t.2.2.2.1))
def j3e (l:Hu u0v.den) (i:Nat) (t:u0v.den) (m:Hu PrT):Hu PrT⊕d4v:=if q5h l i t=true then .inr (.inr false) else .inl (t5z m t.2.2.2.2.2.1)
def q5i (w:c13.den) (m:Hu PrT):d4v:= .inl (w,m)
def o68 (w:c13.den):d4v:=j71 (j3e w.2.1) (q5i w) 0 w.2.1 []
theorem d25 {α:Type} (f:α->Nat) (l:Hu α) (i:Nat) (h:i<l.length):((l.take (i+1)).map f).sum=((l.take i).map f).sum+f l[i] :=by
 rw[B9 h,Dh,Fn];simp
theorem o3o {α:Type} (f:α->Nat) (l:Hu α) (i:Nat):((l.take i).map f).sum<=(l.map f).sum:=by
 conv=>rhs;rw[←En i l]
 rw[Dh,Fn];omega
theorem j0n (t:u0v.den):(Ty.sl u2l).wt t.2.2.2.2.2.1<=u0v.wt t:=by
 simp only[Ty.wt];omega
theorem d0k (l:Hu u0v.den) (h:(l.map u0v.wt).sum<=100000000000) {i:Nat} (hi:i<l.length) {m:Hu PrT} (hm:(Ty.sl p47).wt m<=((l.take i).map u0v.wt).sum):
 (Ty.sl p47).wt (t5z m l[i].2.2.2.2.2.1)<=((l.take (i+1)).map u0v.wt).sum/\m.length+l[i].2.2.2.2.2.1.length<=400000000000:=by
 have h1:=o69 l[i].2.2.2.2.2.1 m;have h2:=j0n l[i];have h3:=d25 u0v.wt l i hi;have h4:=o3o u0v.wt l (i+1);have h5:=d1g (t:=p47) (l:=m);have h6:=d1g (t:=u2l) (l:=l[i].2.2.2.2.2.1);exact⟨by omega,by omega⟩
theorem j79 (w:c13.den) (h:(w.2.1.map u0v.wt).sum<=100000000000) (hl:w.2.1.length<=100000000000):u40 (w, [],0)=some (o68 w):=by
 refine o6l u40 w.2.1 (fun a i=>(w,a,i)) (j3e w.2.1) (q5i w) (fun i m=>(Ty.sl p47).wt m<=((w.2.1.take i).map u0v.wt).sum)
  (fun a _=>by rw[r27];simp only[t4r,u0b,Am,Ah,Aa];rfl)
  (fun i hi m hm=> ?_) [] (by simp[Ty.wt])
 obtain⟨p1,p2⟩:=d0k w.2.1 h hi hm;have hw:u40 (w,m,(i:Int))=if q5h w.2.1 i w.2.1[i] =true then some (.inr false) else u40 (w,t5z m w.2.1[i].2.2.2.2.2.1,((i+1:Nat):Int)):=by
  rw[r27];simp only[t4r,u0b,hi,Ae,Ad,y7p hi,zTn,y8f (t:=u0v) hi,p6n m w.2.1[i] p2,zOb];rw[y7h (by omega)];unfold q5h;by_cases h1:w.2.1[i].2.1=3
  .by_cases h2:0<i
   .have e1:i64.wrap ((i:Int) - 1)=((i - 1:Nat):Int):=by rw[y4x (by omega) (by omega)];omega
    have h3:decide ((i:Int) >0)=true:=by simp;omega
    simp only[h1,h2,h3,e1,Ae,Ap,Ad,Aa,y7p (show i - 1<w.2.1.length by omega),zTn,zOb,Ci,Bz];cases decide ((rdL u0v w.2.1 (i - 1)).2.2.2.1>=w.2.1[i].2.2.2.1)<;>simp
   .have h3:decide ((i:Int) >0)=false:=by simp;omega
    simp[h1,h2,h3]
  .simp[h1]
 unfold j3e;by_cases hb:q5h w.2.1 i w.2.1[i] =true
 .rw[Al hb] at hw ⊢;exact hw
 .rw[Ao hb] at hw ⊢;exact⟨p1,hw⟩
theorem j78 (w:c13.den) (h:(w.2.1.map u0v.wt).sum<=100000000000) (hl:w.2.1.length<=100000000000):u4z (w, [],w.2.1,(w.2.1.length:Int),0)=some (o68 w):=by
 refine o6l u4z w.2.1 (fun a i=>(w,a,w.2.1,(w.2.1.length:Int),i)) (j3e w.2.1) (q5i w) (fun i m=>(Ty.sl p47).wt m<=((w.2.1.take i).map u0v.wt).sum)
  (fun a _=>by rw[r2x];simp only[t4i,u0b,Am,Ah,Aa];rfl)
  (fun i hi m hm=> ?_) [] (by simp[Ty.wt])
 obtain⟨p1,p2⟩:=d0k w.2.1 h hi hm;have hw:u4z (w,m,w.2.1,(w.2.1.length:Int),(i:Int))=if q5h w.2.1 i w.2.1[i] =true then some (.inr false) else u4z (w,t5z m w.2.1[i].2.2.2.2.2.1,w.2.1,(w.2.1.length:Int),((i+1:Nat):Int)):=by
  rw[r2x];simp only[t4i,u0b,hi,Ae,Ad,y7p hi,zTn,y8f (t:=u0v) hi,p6m m w.2.1[i] p2,r7q,r7i,zOb];rw[y7h (by omega)];unfold q5h;by_cases h1:w.2.1[i].2.1=3
  .by_cases h2:0<i
   .have e1:i64.wrap ((i:Int) - 1)=((i - 1:Nat):Int):=by rw[y4x (by omega) (by omega)];omega
    have h3:decide ((i:Int) >0)=true:=by simp;omega
    simp only[h1,h2,h3,e1,Ae,Ap,Ad,Aa,y7p (show i - 1<w.2.1.length by omega),zTn,zOb,Ci,Bz];cases decide ((rdL u0v w.2.1 (i - 1)).2.2.2.1>=w.2.1[i].2.2.2.1)<;>simp
   .have h3:decide ((i:Int) >0)=false:=by simp;omega
    simp[h1,h2,h3]
  .simp[h1]
 unfold j3e;by_cases hb:q5h w.2.1 i w.2.1[i] =true
 .rw[Al hb] at hw ⊢;exact hw
 .rw[Ao hb] at hw ⊢;exact⟨p1,hw⟩
theorem j5h (w:c13.den) (h:(w.2.1.map u0v.wt).sum<=100000000000):o68 w= .inr false\/ ∃m:Hu PrT,o68 w=q5i w m/\m.length<=100000000000:=by
 have key:∀(d i:Nat) (m:Hu PrT),i+d=w.2.1.length->(Ty.sl p47).wt m<=((w.2.1.take i).map u0v.wt).sum->
  j71 (j3e w.2.1) (q5i w) i (w.2.1.drop i) m= .inr false\/ ∃m' :Hu PrT,j71 (j3e w.2.1) (q5i w) i (w.2.1.drop i) m=q5i w m' /\m'.length<=100000000000:=by
  intro d
  induction d with
  | zero=>
   intro i m hi hm;rw[Dp (by omega)];refine .inr ⟨m,rfl,?_⟩;have:=d1g (t:=p47) (l:=m);have:=o3o u0v.wt w.2.1 i;omega
  | succ d ih=>
   intro i m hi hm;have hlt:i<w.2.1.length:=by omega
   rw[Ce hlt];simp only[j71];unfold j3e;by_cases hb:q5h w.2.1 i w.2.1[i] =true
   .rw[Al hb];exact .inl rfl
   .rw[Ao hb];exact ih (i+1) _ (by omega) (d0k w.2.1 h hlt hm).1
 have:=key w.2.1.length 0 [] (by omega) (by simp[Ty.wt]);simpa[o68] using this
def t8v (w:c13.den):Bool:=match o68 w with
 | .inl o=>decide (r6d o.2 p7b=s3w w.1.1.1.1 p7b w.1.1.1.2.2.2.1) | .inr b=>b
structure View (H:Hu u0i) (b:u0j):Prop where
 eq:r6d (c1l H) p7b=s3w b.1 p7b b.2.2.2.1
 right:∀t∈H,TxnR t
theorem d5r {c:Int} {t:u0i} (ht:TxnR t) (hs:t.2.2.1<=c) (hc:c<9999):TxnR (d5q (c+1) t):=
 ⟨ht.id,⟨by show(1:Int)<=3;omega,by show(3:Int)<=3;omega⟩,ht.snap,ht.rlen,ht.ws,ht.rs,fun _=>⟨by show t.2.2.1+1<=c+1;omega,by show c+1<=9999;omega⟩,
   fun e=>absurd rfl e,fun e=>by have e:(3:Int)=2:=e;omega,fun _=>rfl,fun e=>by have e:(3:Int)=1:=e;omega⟩
structure Life (k:Nat) (H:Hu u0i) (s:u0u):Prop where
 ser:Ser H s.1
 disk:HB H s
 view:View H s.1.1
 few:H.length<=k
theorem d3v:∀(m:Nat) {n:Int} (b:Bool) (s:Hs),0<=n->n<=1000000->n<(10:Int)^m->s.size+m<=1000-> ∃t,s0m (n,b,s)=some (.inl (b,t))/\t.size<=1000
 | 0,n,b,s,h0,h1,h2,h3=>by
  have:n=0:=by have:n<1:=by simpa using h2
               omega
  subst this;refine⟨s,?_,by omega⟩;rw[s67];simp[t2s]
 | m+1,n,b,s,h0,h1,h2,h3=>by
  by_cases c:n=0
  .subst c;refine⟨s,?_,by omega⟩;rw[s67];simp[t2s]
  .have e1:Int.tmod n 10=n % 10:=Int.tmod_eq_emod_of_nonneg h0;have e2:Int.tdiv n 10=n / 10:=Int.tdiv_eq_ediv_of_nonneg h0;have p:n / 10<(10:Int)^m:=by
    rw[Int.pow_succ] at h2;omega
   obtain⟨y,hy⟩:∃y,s07 (n % 10)=some y:=by
    rw[p87];unfold r9i;cases decide (n % 10<10)
    .exact⟨_,rfl⟩
    .exact⟨_,rfl⟩
   have hs:(y7c [y] ++s).size=1+s.size:=by rw[Af,u3z];rfl
   have hl:(y7c [y]).size+s.size<=140737488355328:=by rw[u3z];simp only[Aw];omega
   obtain⟨t,e,ht⟩:=d3v m (n:=n / 10) b (y7c [y] ++s) (by omega) (by omega) p (by omega);refine⟨t,?_,ht⟩;rw[s67];have d1:decide (n=0)=false:=A7 c;have d2:decide (n % 10<0)=false:=A7 (by omega);simp only[t2s,d1,e1,e2,d2,Bh,Ad,Aa,hy,zOb,hl,Ae,y4x (show -9223372036854775808<=n / 10 by omega) (show n / 10<=9223372036854775807 by omega)];exact e
theorem j0z {n:Int} (h0:0<=n) (h1:n<=9999):∃t,r33 n=some t:=by
 rw[o40];unfold q73;by_cases c:n=0
 .simp only[c,Ae,Ad];exact⟨_,rfl⟩
 .have p:n<(10:Int)^4:=by show n<(10000:Int);omega
  obtain⟨t,e,ht⟩:=d3v 4 (n:=n) (decide (n<0)) (⟨#[]⟩:Hs) h0 (by omega) p (by decide);have d:decide (n<0)=false:=A7 (by omega);rw[d] at e;simp only[c,Ah,Aa,d,e,zOb];exact⟨_,rfl⟩
theorem d2r {l:Hu PrT} (hl:l.length<=200) (hs:∀x∈l,x.1.size<=3/\x.2.size<=12):∀(d i:Nat) (acc:Hs),i+d=l.length->acc.size<=17*i-> ∃t,t0y (l,acc,(i:Int))=some (.inl t):=by
 intro d
 induction d with
 | zero=>
  intro i acc hi ha;refine⟨acc,?_⟩;rw[r67];simp only[t7c,u0b,show ¬i<l.length by omega,Ah,Aa]
 | succ d ih=>
  intro i acc hi ha;have hlt:i<l.length:=by omega
  obtain⟨s1,s2⟩:=hs _ (Ag hlt);have z1:(⟨#[44]⟩:Hs).size=1:=rfl;have z2:(⟨#[61]⟩:Hs).size=1:=rfl;rw[r67];simp only[t7c,u0b,hlt,Ae,Ad,y7p hlt,zTn,y8f (t:=j9q) hlt,Af,z1,z2];rw[y7h (by omega)];by_cases c:(i:Int) >0
  .simp only[c,Ae,Ad,show acc.size+1<=140737488355328 by omega,show acc.size+1+l[i].1.size<=140737488355328 by omega,show acc.size+1+l[i].1.size+1<=140737488355328 by omega,show acc.size+1+l[i].1.size+1+l[i].2.size<=140737488355328 by omega];exact ih (i+1) _ (by omega) (by simp only[Af,z1,z2];omega)
  .simp only[c,Ah,Aa,Ae,Ad,show acc.size+l[i].1.size<=140737488355328 by omega,show acc.size+l[i].1.size+1<=140737488355328 by omega,show acc.size+l[i].1.size+1+l[i].2.size<=140737488355328 by omega];exact ih (i+1) _ (by omega) (by simp only[Af,z1,z2];omega)
theorem o36 {l:Hu PrT} (hl:l.length<=200) (hs:∀x∈l,x.1.size<=3/\x.2.size<=12):∃t,r0i l=some t:=by
 obtain⟨t,e⟩:=d2r hl hs l.length 0 (⟨#[]⟩:Hs) (by omega) (by decide);have e:t0y (l,(⟨#[]⟩:Hs),0)=some (.inl t):=e;exact⟨t,by rw[o2l];unfold q4a;simp only[e,zOb]⟩
theorem j8e {l:Hu u17} (hl:u59 l=true) (k:Hs) (s:Int):(r2r l k s).1.size<=12:=by
 obtain⟨h1,_,_⟩:=d1p.mp hl;have hr:=p54 l k s;unfold r2r;split
 .exact(by decide:(emp).size<=12)
 .rename_i c;have c1: ¬t8a l k s<0:=fun q=>c (.inl q)
  have hlt:(t8a l k s).toNat<l.length:=by omega
  rw[y8f (t:=u0c) hlt];have:=h1 _ (Ag hlt);unfold q51 at this;simp only[Ai,Ar] at this;exact this.2.1
theorem j3a {t:u0i} {l:Hu u17} (ht:TxnR t) (hl:u59 l=true) (k:Hs):(r56 t l k).1.size<=12:=by
 unfold r56;split
 .rename_i c;rw[y8f (t:=u2l) c];have:=p4o ((d37.mp ht.ws).1 _ (Ag c));split
  .exact(by decide:(emp).size<=12)
  .exact this.2
 .exact j8e hl k _
theorem o97 {t:u0i} {l:Hu u17} (ht:TxnR t) (hl:u59 l=true) (r:s6l):(q5g t l r).length<=200/\ ∀x∈q5g t l r,x.1.size<=3/\x.2.size<=12:=by
 obtain⟨h1,_,h3⟩:=d1p.mp hl;obtain⟨w1,_,w3⟩:=d37.mp ht.ws;unfold q5g;constructor
 .rw[Da];refine A9 (Cs _ _) (A9 (q4q _) ?_);rw[Ba,Da,Da];omega
 .intro x hx;obtain⟨k,hk,rfl⟩:=Bx.mp hx;refine⟨?_,j3a ht hl k⟩;have hk:=((p53 _).2 k).mp (A6.mp hk).1;rcases Ay.mp hk with hk | hk
  .obtain⟨v,hv,rfl⟩:=Bx.mp hk;have:=h1 v hv;unfold q51 at this;simp only[Ai] at this;exact(u27 this.1).2
  .obtain⟨w,hw,rfl⟩:=Bx.mp hk;exact(p4o (w1 w hw)).1
theorem o3h {e:u21} (hE:EngR e) (id:Int) (r:s6l):(j0j e id r).2.1.length<=200/\ ∀x∈(j0j e id r).2.1,x.1.size<=3/\x.2.size<=12:=by
 unfold j0j;split
 .rename_i c;obtain⟨j,hj,e1,e2,e3⟩:=u2c (d70 c);have ht:u25 e id∈e.2:=by rw[e2];exact Ag hj
  exact o97 (hE.open_ _ ht).1 hE.base.vs r
 .exact⟨by show 0<=200;omega,fun x hx=>by cases hx⟩
theorem d03 (e:u21) (id:Int) (r:s6l):(j0j e id r).1=(s3q e id r (u2p r)).1:=by
 unfold j0j;split<;>rfl
theorem d19 (e:u21) (id:Int) (k:Hs):(d5a e id k).1=(s3q e id (k,k) (u7u k)).1:=by
 unfold d5a;split<;>rfl
structure EvR (e:d3n.den):Prop where
 kind:1<=e.1/\e.1<=12
 at0:0<=e.2.1
 key6:e.2.2.1.size<=6
 text:e.2.2.2.1.size<=20
 keep:e.2.2.2.2.length<=10
 nokeep:e.1≠12->e.2.2.2.2.length=0
theorem j7h {e:d3n.den} (h:EvR e):r34 e=some true:=by
 have l1:u0t (e.1,1,12)=some true:=by
  rw[q4i];unfold q32;have:=h.kind;simp[this.1,this.2]
 have a1:decide (e.2.1<0)=false:=A7 (Hk.mpr h.at0);have a2:decide ((e.2.2.1.size:Int) >6)=false:=A7 (by have:=h.key6;omega);have a3:decide ((e.2.2.2.1.size:Int) >20)=false:=A7 (by have:=h.text;omega);have a4:decide ((e.2.2.2.2.length:Int) >10)=false:=A7 (by have:=h.keep;omega);rw[o41];unfold q74;simp only[l1,a1,a2,a3,a4,zOb,Ap,Aa];by_cases c:e.1=12
 .simp only[c,Ae,Ad,zOb]
 .have:=h.nokeep c;simp[c,this]
abbrev j1g:=Hu Int×Hu Hs
abbrev d12:=Hu u0i×(Hu Int×Hu Hs)
theorem p40 (s:u0u) (z0:d12) (r:r03) (hd:c08.wt s.2<=10000000) (hr:tinyR r):t3x ((s,z0),r)=some ((u8o s.2 r).isSome,(s.1,(u8o s.2 r).getD s.2),z0):=by
 have h1:=t0o r hr.wt;have hl:=r4f r;have h2:=t30 s.2 (u04 r).1 hd (by omega);have h3:=p4z s.2 hd;rw[p9d];unfold r9o u8o;simp only[h1,zOb];cases ht:(u04 r).2 with
 | false=>simp only[Bh,Ad,Br,Bk];rfl | true=>
  simp only[Ap,Aa,Bl,h2,zOb];cases ha:append_ s.2 (u04 r).1 with
  | some y=>rfl | none=>
   simp only[orD,Bh,Ad,h3,zOb];cases hz:j4z s.2 with
   | none=>rfl | some z=>
    have h4:=t30 z (u04 r).1 (t48 (j9s hz)) (by omega);simp only[orD,Ap,Aa,h4,zOb];cases hq:append_ z (u04 r).1<;>rfl
theorem o2x {s:u0u} (h:EngR s.1) (hd:u2e s.2=true) (z0:d12) (id:Int):t5b ((s,z0),id)=some ((u8q s id).2,(u8q s id).1,z0):=by
 have ho:=h.olen;have h1:=p94 h id;have h2:=p40 s z0 (u5t s.1 id).2.1 (t48 hd) (p7f h id);have h3:u0p s.1=some s.1:=u53 s.1.1 s.1.2 h.fewB h.fewO;have hO:u01 (s.1,id)=some (leaveE s.1 id):=s8b s.1.1 s.1.2 id h.fewB (by omega);rw[p3t];unfold r1l u8q;simp only[h1,zOb];by_cases c:(u5t s.1 id).2.2=0
 .simp only[c,Ae,Ad,Bl,h2,zOb];cases u8o s.2 (u5t s.1 id).2.1 with
  | none=>simp only[Option.isSome_none,Bh,Ad,h3,hO,zOb];rfl | some d=>rfl
 .simp only[c,Ah,Aa,Bk]
theorem p9h {s:u0u} (h:EngR s.1) (hd:u2e s.2=true) (z0:d12) (id:Int) {n:Hs} (hn:n.size<=1048576):s1e ((s,z0),id,n)=some ((s6a s id n).2,(s6a s id n).1,z0):=by
 have ho:=h.olen;have h1:=p6o h id hn;have h2:=p40 s z0 (s2v s.1 id n).2.1 (t48 hd) (o7b h id n);have h3:u0p s.1=some s.1:=u53 s.1.1 s.1.2 h.fewB h.fewO;have hO:u01 (s.1,id)=some (leaveE s.1 id):=s8b s.1.1 s.1.2 id h.fewB (by omega);rw[p0o];unfold s9e s6a;simp only[h1,zOb];by_cases c:(s2v s.1 id n).2.2=0
 .simp only[c,Ae,Ad,Bl,h2,zOb];cases u8o s.2 (s2v s.1 id n).2.1 with
  | none=>simp only[Option.isSome_none,Bh,Ad,h3,hO,zOb];rfl | some d=>rfl
 .simp only[c,Ah,Aa,Bk]
theorem o2y {s:u0u} (h:EngR s.1) (hd:u2e s.2=true) (z0:d12) {n:Hs} (hn:n.size<=100) (y:Bool):u66 ((s,z0),n,y)=some ((q2g s n y).2,(q2g s n y).1,z0):=by
 have h1:=p1g h n y;have h2:=p40 s z0 (p0p s.1 n y).2.1 (t48 hd) (j2p n hn y);rw[p3u];unfold r1m q2g;simp only[h1,zOb];by_cases c:(p0p s.1 n y).2.2=0
 .simp only[c,Ae,Ad,Bl,h2,zOb];cases u8o s.2 (p0p s.1 n y).2.1 with
  | none=>rfl | some d=>rfl
 .simp only[c,Ah,Aa,Bk,j93 c]
structure FitS (s:u0u):Prop where
 eng:EngR s.1
 log:u2e s.2=true
structure Fit (k:Nat) (H:Hu u0i) (s:u0u):Prop extends FitS s where
 few:H.length<=k
 hist:∀t∈H,TxnR t
theorem d46 {d y:u0k} (h:j4z d=some y):u2e y=true:=by
 unfold j4z at h;split at h
 .cases h
 .split at h
  .exact(p6d h).2.1
  .cases h
theorem q6s {d y:u0k} {r:r03} (h:u8o d r=some y):u2e y=true:=by
 unfold u8o at h;split at h
 .split at h
  .rename_i e;cases h;exact(q6n e).2.1
  .split at h
   .cases h
   .exact(q6n h).2.1
 .cases h
section
variable {k:Nat} {H:Hu u0i} {s:u0u}
theorem Fit.opens (h:Fit k H s) {e:u21} (he:EngR e):Fit (k+1) H (e,s.2):=⟨⟨he,h.log⟩,by have:=h.few;omega,h.hist⟩
theorem Fit.begin (h:Fit k H s):Fit (k+1) H ((s2q s.1).1,s.2):=h.opens (o8f h.eng)
theorem Fit.look (h:Fit k H s) {id:Int} {r:s6l} {right:Bool} (hr:right=true->u2p r=true):Fit (k+1) H ((s3q s.1 id r right).1,s.2):=h.opens (d3x h.eng hr)
theorem Fit.put (h:Fit k H s) (id:Int) (w:WrT):Fit (k+1) H ((j4e s.1 id w).1,s.2):=h.opens (d76 h.eng)
theorem Fit.leave (h:Fit k H s) (id:Int):Fit (k+1) H ((q5e s.1 id).1,s.2):=h.opens (d2f h.eng id)
theorem Fit.fix (h:Fit k H s):Fit (k+1) H (j7x s).1:=by
 unfold j7x;split
 .rename_i e;exact⟨⟨h.eng,d46 e⟩,by have:=h.few;omega,h.hist⟩
 .exact⟨⟨h.eng,h.log⟩,by have:=h.few;omega,h.hist⟩
theorem Fit.no (h:Fit k H s) (t:u0i) {s' :u0u} (he:EngR s'.1) (hl:u2e s'.2=true) (hc:s'.1.1.2.2.2.1=s.1.1.2.2.2.1):Fit (k+1) (d07 H s'.1 s.1.1.2.2.2.1 t) s' :=by
 rw[d5v t h.eng.mids hc];exact⟨⟨he,hl⟩,by have:=h.few;omega,h.hist⟩
theorem Fit.yes (h:Fit k H s) {t:u0i} {s' :u0u} (he:EngR s'.1) (hl:u2e s'.2=true) (hc:s'.1.1.2.2.2.1=s.1.1.2.2.2.1+1) (ht:TxnR t) (hs:t.2.2.1<=s.1.1.2.2.2.1) (h9:s.1.1.2.2.2.1<9999):
 Fit (k+1) (d07 H s'.1 s.1.1.2.2.2.1 t) s' :=by
 rw[d26 t h.eng.mids hc];refine⟨⟨he,hl⟩,by rw[Ba,Aw];have:=h.few;omega,fun x hx=> ?_⟩;rcases Ay.mp hx with hx | hx
 .exact h.hist x hx
 .rw[Ax.mp hx];exact d5r ht hs h9
theorem Fit.commit (h:Fit k H s) (id:Int) (t0:u0i):Fit (k+1) (d07 H (u8q s id).1.1 s.1.1.2.2.2.1 (if u9o s.1.2 id<0 then t0 else u25 s.1 id)) (u8q s id).1:=by
 unfold u8q u5t;by_cases j1:q4p s.1 id=1
 .rw[Al j1,Ao (show ¬((1:Int)=0) by decide)];exact h.no _ (s' :=(s.1,s.2)) h.eng h.log rfl
 .rw[Ao j1];by_cases j0:q4p s.1 id=0
  .rw[Al j0,Al rfl];obtain⟨n,b1,b2,b3⟩:=p0v j0;rw[Ao n];obtain⟨j,hj,e1,e2,e3⟩:=u2c n;have ht:u25 s.1 id∈s.1.2:=by rw[e2];exact Ag hj
   obtain⟨t1,t2,t3⟩:=h.eng.open_ _ ht;split
   .rename_i d e;exact h.yes (s' :=(p5a s.1 (u25 s.1 id),d)) (j6b h.eng ht b3) (q6s e) rfl t1 t3 (p3y b3).2.2
   .exact h.no _ (s' :=(Ab.leaveE s.1 id,s.2)) (p55 h.eng id) h.log rfl
  .rw[Ao j0,Ao j0];exact h.no _ (s' :=(Ab.leaveE s.1 id,s.2)) (p55 h.eng id) h.log rfl
theorem Fit.prep (h:Fit k H s) (id:Int) (n:Hs):Fit (k+1) H (s6a s id n).1:=by
 have same:Fit (k+1) H s:=h.opens (e:=s.1) h.eng;unfold s6a s2v;by_cases c1:u9o s.1.2 id<0
 .rw[Al c1,Ao (show ¬((1:Int)=0) by decide)];exact same
 rw[Ao c1];cases hk:u7u n with
 | false=>rw[Al rfl,Ao (show ¬((2:Int)=0) by decide)];exact same | true=>
  rw[Ao (show ¬(true=false) by decide)];by_cases c2:0<=u0o s.1.1 n
  .rw[Al c2,Ao (show ¬((6:Int)=0) by decide)];exact same
  rw[Ao c2];by_cases c3:r7t s.1 id=0
  .rw[Al c3,Al rfl];obtain⟨j0,d0,l0⟩:=d31 c3;obtain⟨j,hj,e1,e2,e3⟩:=u2c c1;have ht:u25 s.1 id∈s.1.2:=by rw[e2];exact Ag hj
   split
   .rename_i d e;exact⟨⟨d32 h.eng ht hk l0 (d5p.mp (by omega)),q6s e⟩,by have:=h.few;omega,h.hist⟩
   .exact h.opens (p55 h.eng id)
  .rw[Ao c3,Ao c3];exact h.opens (p55 h.eng id)
theorem Fit.fin (h:Fit k H s) (n:Hs) (y:Bool) (t0:u0i):
 Fit (k+1) (d07 H (q2g s n y).1.1 s.1.1.2.2.2.1 (if u0o s.1.1 n<0 then t0 else rdL u0v s.1.1.2.2.1 (u0o s.1.1 n).toNat)) (q2g s n y).1:=by
 have same:∀t,Fit (k+1) (d07 H s.1 s.1.1.2.2.2.1 t) s:=fun t=>h.no t h.eng h.log rfl
 unfold q2g p0p;by_cases c1:u0o s.1.1 n<0
 .rw[Al c1,Ao (show ¬((1:Int)=0) by decide)];exact same _
 rw[Ao c1];by_cases c2:y=true/\r49 s.1.1=true
 .rw[Al c2,Ao (show ¬((3:Int)=0) by decide)];exact same _
 rw[Ao c2];obtain⟨j,hj,e1,e2⟩:=t6b c1;have e3:rdL u0v s.1.1.2.2.1 (u0o s.1.1 n).toNat=s.1.1.2.2.1[j] :=by rw[e1];exact y8f hj
 by_cases c3:y=true
 .rw[Al c3,Al rfl];have hf:r49 s.1.1=false:=by
   cases q:r49 s.1.1 with
   | false=>rfl | true=>exact absurd ⟨c3,q⟩ c2
  have ht:rdL u0v s.1.1.2.2.1 (u0o s.1.1 n).toNat∈s.1.1.2.2.1:=by rw[e3];exact Ag hj
  obtain⟨t1,t2,t3⟩:=h.eng.base.ready _ ht;split
  .rename_i d e;rw[Ao c1];exact h.yes (s' :=(d9w s.1 (rdL u0v s.1.1.2.2.1 (u0o s.1.1 n).toNat),d)) (d8f h.eng ht hf) (q6s e) rfl t1 t3 (p3y hf).2.2
  .exact same _
 .rw[Ao c3,Al rfl];split
  .rename_i d e;exact h.no _ (s' :=(Ab.noE s.1 n,d)) (c5d h.eng n) (q6s e) rfl
  .exact same _
theorem Fit.mono {m:Nat} (h:Fit k H s) (hm:k<=m):Fit m H s:=⟨⟨h.eng,h.log⟩,by have:=h.few;omega,h.hist⟩
theorem FitS.fit (h:FitS s):Fit 0 [] s:=⟨h,Cn _,fun t ht=>by cases ht⟩
theorem FitS.begin (h:FitS s):FitS ((s2q s.1).1,s.2):=h.fit.begin.toFitS
theorem FitS.look (h:FitS s) {id:Int} {r:s6l} {right:Bool} (hr:right=true->u2p r=true):FitS ((s3q s.1 id r right).1,s.2):=(h.fit.look hr).toFitS
theorem FitS.put (h:FitS s) (id:Int) (w:WrT):FitS ((j4e s.1 id w).1,s.2):=(h.fit.put id w).toFitS
theorem FitS.leave (h:FitS s) (id:Int):FitS ((q5e s.1 id).1,s.2):=(h.fit.leave id).toFitS
theorem FitS.fix (h:FitS s):FitS (j7x s).1:=h.fit.fix.toFitS
theorem FitS.commit (h:FitS s) (id:Int):FitS (u8q s id).1:=(h.fit.commit id u5u).toFitS
theorem FitS.prep (h:FitS s) (id:Int) (n:Hs):FitS (s6a s id n).1:=(h.fit.prep id n).toFitS
theorem FitS.fin (h:FitS s) (n:Hs) (y:Bool):FitS (q2g s n y).1:=(h.fit.fin n y u5u).toFitS
theorem d17 {b:u0j} (hb:BaseR b):EngR (b, []):=⟨hb,Cn _,fun t ht=>(by cases ht),List.Pairwise.nil,by simpa using hb.below,by simpa using hb.nodup⟩
end
theorem c02 {k:Nat} {H:Hu u0i} {s:u0u} (h:Fit k H s) (r:j1g) {e:d3n.den} (he:EvR e) (h5:e.1<=5):
 ∃(code:Int) (said:Hs) (s' :u0u),u92 ((s,H,r),e)=some (code,said,(s',H,r))/\Fit (k+1) H s' :=by
 have hE:=h.eng;obtain⟨kd,at_,key,tx,kp⟩:=e;have k1:(1:Int)<=kd:=he.kind.1;have hk:key.size<=6:=he.key6;have ht5:tx.size<=20:=he.text;have h5:kd<=(5:Int):=h5;have cs:∀q:Int,1<=q->q<=5->q=1\/q=2\/q=3\/q=4\/q=5:=fun q h1 h2=>by omega
 rw[o53];unfold q87;rcases cs kd k1 h5 with rfl | rfl | rfl | rfl | rfl
 .simp only[Ae,Ad,q6k hE,zOb];by_cases c:(s2q s.1).2.2=0
  .have hn:0<=(s2q s.1).2.1/\(s2q s.1).2.1<=9999:=by
    have:=hE.base.next;unfold s2q;split
    .exact⟨by show 0<=s.1.1.2.2.2.2;omega,this.2⟩
    .exact⟨by show(0:Int)<=0;omega,by show(0:Int)<=9999;omega⟩
   obtain⟨t,ht⟩:=j0z hn.1 hn.2;simp only[c,Ae,Ap,Aa,ht,zOb];exact⟨_,_,_,rfl,h.begin⟩
  .simp only[c,Ah,Bh,Ad];exact⟨_,_,_,rfl,h.begin⟩
 .have hL:=h.look (id:=at_) (r:=(key,key)) (right:=u7u key) (fun q=>by rw[p9z];exact q);rw[←d19] at hL;simp only[show decide ((2:Int)=1)=false by decide,Aa,Ae,Ad,p0g hE at_ (show key.size<=1048576 by omega),zOb];obtain⟨g,hg⟩:∃g,g=d5a s.1 at_ key:=⟨_,rfl⟩;rw[←hg] at hL ⊢;by_cases c:g.2.2.2=0
  .cases c2:g.2.2.1
   .simp only[c,c2,Ae,Ad,zOb,Bh];exact⟨_,_,_,rfl,hL⟩
   .simp only[c,c2,Ae,Ad,Aa,zOb,Ap];exact⟨_,_,_,rfl,hL⟩
  .simp only[c,Ah,Aa,zOb];exact⟨_,_,_,rfl,hL⟩
 .have hL:=h.look (id:=at_) (r:=(key,tx)) (right:=u2p (key,tx)) (fun q=>q);rw[←d03] at hL;obtain⟨t,ht⟩:=o36 (o3h hE at_ (key,tx)).1 (o3h hE at_ (key,tx)).2;simp only[show decide ((3:Int)=1)=false by decide,show decide ((3:Int)=2)=false by decide,Aa,Ae,Ad,r7g hE at_ (r:=(key,tx)) ⟨by show key.size<=_;omega,by show tx.size<=_;omega⟩,ht,zOb];exact⟨_,_,_,rfl,hL⟩
 .have hL:=h.put at_ (key,tx,false);simp only[show decide ((4:Int)=1)=false by decide,show decide ((4:Int)=2)=false by decide,show decide ((4:Int)=3)=false by decide,Aa,Ae,Ad,r7b hE at_ (w:=(key,tx,false)) (by show key.size<=_;omega),zOb];exact⟨_,_,_,rfl,hL⟩
 .have hL:=h.put at_ (key,(⟨#[]⟩:Hs),true);simp only[show decide ((5:Int)=1)=false by decide,show decide ((5:Int)=2)=false by decide,show decide ((5:Int)=3)=false by decide,show decide ((5:Int)=4)=false by decide,Aa,r7b hE at_ (w:=(key,(⟨#[]⟩:Hs),true)) (by show key.size<=_;omega),zOb];exact⟨_,_,_,rfl,hL⟩
theorem o4b {n:Nat} (h:n<=100000000):Nat.ble n z7v=true:=Nat.ble_eq_true_of_le (A9 h (by decide))
theorem j69 {t:u0i} (h:q2e t):u00 t=some t:=by
 rw[r3s];unfold s4y;have h1:Nat.ble (([] :Hu s6l).length+t.2.2.2.2.1.length) z7v=true:=o4b (by have:=h.1;rw[Cc];omega);have h2:Nat.ble (([] :Hu WrT).length+t.2.2.2.2.2.1.length) z7v=true:=o4b (by have:=h.2;rw[Cc];omega);simp only[h1,h2,Ad,Cf]
theorem q6m (s:u0u) (H:Hu u0i) (r:j1g) (c:Int) {t:u0i} (ht:q2e t) (hn:H.length<=1000000):u4j ((s,H,r),c,t)=some (s,d07 H s.1 c t,r):=by
 have h1:Nat.ble (([] :Hu u0i).length+H.length) z7v=true:=o4b (by rw[Cc];omega);rw[p50];unfold r43 d07;by_cases q:s.1.1.2.2.2.1=i64.wrap (c+1)
 .rw[Al q];have h2:∀x:u0i,Nat.ble (H.length+ [x].length) z7v=true:=fun x=>o4b (by rw[Aw];omega)
  simp only[q,Ae,Ap,Aa,j69 ht,zOb,h1,h2,Ad,Cf];rfl
 .rw[Ao q];simp only[q,Ah,Bh,Ad]
theorem j4a:q2e u5u:=⟨by show 0<=1048576;omega,by show 0<=1048576;omega⟩
theorem c5r {k:Nat} {H:Hu u0i} {s:u0u} (h:Fit k H s) (hk:k<=1000) (r:j1g) {e:d3n.den} (he:EvR e) (h6:6<=e.1) (h10:e.1<=10):
 ∃(code:Int) (H' :Hu u0i) (s' :u0u),t2k ((s,H,r),e)=some (code,(s',H',r))/\Fit (k+1) H' s' :=by
 have hE:=h.eng;have hd:=h.log;have hn:=h.few;obtain⟨kd,at_,key,tx,kp⟩:=e;have h6:(6:Int)<=kd:=h6;have h10:kd<=(10:Int):=h10;have key6:key.size<=6:=he.key6;have fo:∀t∈s.1.2,q2e t:=fun t ht=>(hE.fewO).2 t ht
 have fr:∀t∈s.1.1.2.2.1,q2e t:=fun t ht=>(hE.fewB).2.2.2 t ht
 have hzero:((0,0,0,0, [], [],false,(⟨#[]⟩:Hs)):u0i)=u5u:=rfl;rw[o9z];unfold p21;have cs:∀q:Int,6<=q->q<=10->q=6\/q=7\/q=8\/q=9\/q=10:=fun q h1 h2=>by omega
 have fin:∀y:Bool,∃(code:Int) (H' :Hu u0i) (s' :u0u),((u18 (s.1.1,key)).bind fun y8=>(bif (decide (y8>=(0:Int))) then(bif (y4o y8 s.1.1.2.2.1.length) then((u66 ((s,H,r),(key,y))).bind fun y9=>((u4j (y9.2,(s.1.1.2.2.2.1,(rdL u0v s.1.1.2.2.1 (y8).toNat)))).bind fun y10=>(some (y9.1,y10)))) else none) else((u66 ((s,H,r),(key,y))).bind fun y11=>((u4j (y11.2,(s.1.1.2.2.2.1,u5u))).bind fun y12=>(some (y11.1,y12))))))=some (code,(s',H',r))/\Fit (k+1) H' s' :=fun y=>by
  have hL:=h.fin key y u5u;have e1:=t5g s.1.1 key (by have:=hE.base.rlen;omega);simp only[e1,zOb,o2y hE hd (H,r) (by omega:key.size<=100) y];by_cases c:u0o s.1.1 key<0
  .rw[Al c] at hL;have c1:decide (u0o s.1.1 key>=0)=false:=A7 (by omega);simp only[c1,Aa,q6m _ H r _ j4a (by omega),zOb];exact⟨_,_,_,rfl,hL⟩
  .rw[Ao c] at hL;have c1:decide (u0o s.1.1 key>=0)=true:=Bb (by omega);obtain⟨j,hj,e2,e3⟩:=t6b c;have e4:(u0o s.1.1 key).toNat=j:=by omega
   have hf:q2e (rdL u0v s.1.1.2.2.1 (u0o s.1.1 key).toNat):=by
    rw[e4,y8f (t:=u0v) hj];exact fr _ (Ag hj)
   have hg:y4o (u0o s.1.1 key) s.1.1.2.2.1.length=true:=by rw[e2];exact y7p hj
   simp only[c1,Ad,hg,q6m _ H r _ hf (by omega),zOb];exact⟨_,_,_,rfl,hL⟩
 rcases cs kd h6 h10 with rfl | rfl | rfl | rfl | rfl
 .have hL:=h.commit at_ u5u;have e1:=t5f s.1 at_ (by have:=hE.olen;omega);simp only[Ae,Ad,e1,zOb,o2x hE hd (H,r) at_,hzero];by_cases c:u9o s.1.2 at_<0
  .rw[Al c] at hL;have c1:decide (u9o s.1.2 at_>=0)=false:=A7 (by omega);simp only[c1,Aa,q6m _ H r _ j4a (by omega),zOb];exact⟨_,_,_,rfl,hL⟩
  .rw[Ao c] at hL;have c1:decide (u9o s.1.2 at_>=0)=true:=Bb (by omega);obtain⟨j,hj,e2,e3,e5⟩:=u2c c;have hf:q2e (u25 s.1 at_):=by rw[e3];exact fo _ (Ag hj)
   have hg:y4o (u9o s.1.2 at_) s.1.2.length=true:=by rw[e2];exact y7p hj
   have ha:rdL u0v s.1.2 (u9o s.1.2 at_).toNat=u25 s.1 at_:=rfl;simp only[c1,Ad,hg,ha,q6m _ H r _ hf (by omega),zOb];exact⟨_,_,_,rfl,hL⟩
 .have hL:=h.leave at_;simp only[show decide ((7:Int)=6)=false by decide,Aa,Ae,Ad,p41 hE at_,zOb];exact⟨_,_,_,rfl,hL⟩
 .have hL:=h.prep at_ key;simp only[show decide ((8:Int)=6)=false by decide,show decide ((8:Int)=7)=false by decide,Aa,Ae,Ad,p9h hE hd (H,r) at_ (by omega:key.size<=1048576),zOb];exact⟨_,_,_,rfl,hL⟩
 .have:=fin true;simpa only[show decide ((9:Int)=6)=false by decide,show decide ((9:Int)=7)=false by decide,show decide ((9:Int)=8)=false by decide,Ae,Aa,hzero] using this
 .have:=fin false;simpa only[show decide ((10:Int)=6)=false by decide,show decide ((10:Int)=7)=false by decide,show decide ((10:Int)=8)=false by decide,show decide ((10:Int)=9)=false by decide,Aa,hzero] using this
theorem j9h {d:u0k} (hd:u2e d=true) (e:d3n.den):∃x,u91 (d,e)=some x/\u2e x=true/\u0e x=u0e d:=by
 have hw:=t48 hd;obtain⟨x,hx⟩:∃x,x=u7t d (⟨#[120]⟩:Hs) 0 e.2.2.2.2 e.2.1:=⟨_,rfl⟩;have e1:=o33 (d:=d) (t:=(⟨#[120]⟩:Hs)) hw (by decide) 0 e.2.2.2.2 e.2.1;have w1:=j1v (d:=d) (t:=(⟨#[120]⟩:Hs)) hw 0 e.2.2.2.2 e.2.1;rw[←hx] at e1 w1;have k:u2e x=true/\u0e x=u0e d:=by
  rw[hx];cases ha:append_ d (⟨#[120]⟩:Hs) with
  | none=>rw[o4c ha];exact⟨hd,rfl⟩ | some y=>
   have:=(o4d ha 0 e.2.2.2.2 e.2.1).1 rfl;exact⟨this.1,this.tx⟩
 rw[o52];unfold q86;simp only[e1,o38 x d (by omega) (by omega),u6v d (by unfold u0m;omega),zOb];cases d02 x d
 .exact⟨d,rfl,hd,rfl⟩
 .exact⟨x,rfl,k⟩
theorem DoF {k:Nat} {H:Hu u0i} {s:u0u} (h:Fit k H s) (hk:k<=1000) (r:j1g) {e:d3n.den} (he:EvR e):
 ∃(code:Int) (said:Hs) (H' :Hu u0i) (s' :u0u),q5l ((s,H,r),e)=some (code,said,(s',H',r))/\Fit (k+1) H' s' :=by
 have hE:=h.eng;have hd:=h.log;have k1:=he.kind;have cs:∀q:Int,1<=q->q<=12->(q=1\/q=2\/q=3\/q=4\/q=5)\/q=11\/q=12\/(6<=q/\q<=10):=fun q h1 h2=>by omega
 rw[j2l];unfold p7a;rcases cs e.1 k1.1 k1.2 with c | c | c | ⟨c1,c2⟩
 .have c5:e.1<=(5:Int):=by
   have z:∀q:Int,(q=1\/q=2\/q=3\/q=4\/q=5)->q<=5:=fun q h=>by omega
   exact z e.1 c
  obtain⟨code,said,s',e1,e2⟩:=c02 h r he c5;refine⟨code,said,H,s',?_,e2⟩;rcases c with q | q | q | q | q<;>simp[q,e1]
 .have hL:=h.fix;simp only[c,show decide ((11:Int)=1)=false by decide,show decide ((11:Int)=2)=false by decide,show decide ((11:Int)=3)=false by decide,show decide ((11:Int)=4)=false by decide,show decide ((11:Int)=5)=false by decide,Aa,Ae,Ad,o7z hE hd,zOb];cases (j7x s).2
  .exact⟨_,_,_,_,rfl,hL⟩
  .exact⟨_,_,_,_,rfl,hL⟩
 .obtain⟨x,x1,x2,x3⟩:=j9h hd e;have hr:∃(b:u0j) (o:Bool),riseR x=(if o=true then((((b, []),x),true):u0u×Bool) else(d8r,false))/\(o=true->BaseR b):=by
   unfold riseR logR;cases hp:t2f (u0e x) with
   | none=>exact⟨u2t,false,by simp,fun q=>by cases q⟩ | some b=>exact⟨b,true,by simp[x2],fun _=>p7r hp⟩
  obtain⟨b,o,hr,hb⟩:=hr;simp only[c,show decide ((12:Int)=1)=false by decide,show decide ((12:Int)=2)=false by decide,show decide ((12:Int)=3)=false by decide,show decide ((12:Int)=4)=false by decide,show decide ((12:Int)=5)=false by decide,show decide ((12:Int)=11)=false by decide,Aa,Ae,Ad,x1,j1f x (t48 x2),hr,zOb];cases o with
  | false=>exact⟨_,_,_,_,rfl,h.opens (e:=s.1) h.eng⟩ | true=>exact⟨_,_,_,_,rfl,⟨⟨d17 (hb rfl),x2⟩,by have:=h.few;omega,h.hist⟩⟩
 .have n:∀q:Int,6<=q->q<=10->decide (q=1)=false/\decide (q=2)=false/\decide (q=3)=false/\decide (q=4)=false/\decide (q=5)=false/\decide (q=11)=false/\decide (q=12)=false:=fun q h1 h2=>by
   simp only[Bu];omega
  obtain⟨n1,n2,n3,n4,n5,n6,n7⟩:=n e.1 c1 c2;obtain⟨code,H',s',e1,e2⟩:=c5r h hk r he c1 c2;simp only[n1,n2,n3,n4,n5,n6,n7,Aa,e1,zOb];exact⟨_,_,_,_,rfl,e2⟩
theorem d3k:∃s,t58 ()=some s/\FitS s:=by
 obtain⟨d,h1,h2,h3⟩:=r69;have h0:s03 ()=some (p35, []):=by
  rw[r9q];unfold s6s;rw[r3q];rfl
 refine⟨((p35, []),d),?_,⟨d7u.mp (show o55 (p35, [])=true by decide),h2⟩⟩;rw[q4h];unfold s9a;simp only[h0,h1,zOb]
def DrF (F:Ht (Src×u0u)):Prop:= ∃s t,F=some (s,t)/\s.ok/\FitS t
theorem d79 {s:u0u} (h:FitS s) (id:Int) {c:Src} (hc:c.ok):DrF ((u0g (c,(16:Int))).bind fun(y20:(Int×((Hu Int)×(Int×Int))))=>(((bif (decide (id=(0:Int))) then(some true) else(some (decide (y20.1<(3:Int))))):Ht Bool).bind fun j21=>(bif j21 then((u78 s.1).bind fun y22=>(some (y20.2,(y22.1,s.2)))) else(bif (decide (y20.1<(6:Int))) then((u3a y20.2).bind fun y23=>((u7z (s.1,(id,y23.1))).bind fun y24=>(some (y23.2,(y24.1,s.2))))) else(bif (decide (y20.1<(7:Int))) then((u3x y20.2).bind fun y25=>((u49 (s.1,(id,y25.1))).bind fun y26=>(some (y25.2,(y26.1,s.2))))) else(bif (decide (y20.1<(10:Int))) then((u2z y20.2).bind fun y27=>((u6d (s.1,(id,y27.1))).bind fun y28=>(some (y27.2,(y28.1,s.2))))) else(bif (decide (y20.1<(13:Int))) then((u5r (s,id)).bind fun y29=>(some (y20.2,y29.2))) else(bif (decide (y20.1=(13:Int))) then((u0n (y20.2,PQR)).bind fun y30=>((u4i (s,(id,y30.1))).bind fun y31=>(some (y30.2,y31.2)))) else(bif (decide (y20.1=(14:Int))) then((u0n (y20.2,PQR)).bind fun y32=>((u05 (y32.2,(2:Int))).bind fun(y33:(Bool×((Hu Int)×(Int×Int))))=>((u5s (s,(y32.1,y33.1))).bind fun y34=>(some (y33.2,y34.2))))) else((u05 (y20.2,(3:Int))).bind fun(y35:(Bool×((Hu Int)×(Int×Int))))=>(bif y35.1 then((u2i s).bind fun y36=>(some (y35.2,y36.1))) else((u9t (s.1,id)).bind fun y37=>(some (y35.2,(y37.1,s.2))))))))))))))):=by
 obtain⟨y,c1,e1,k1,r1⟩:=u1m hc (n:=16) (by omega);have hE:=h.eng;simp only[e1,zOb];have key:∀j:Bool,DrF ((some j).bind fun j21=>(bif j21 then((u78 s.1).bind fun y22=>(some (c1,(y22.1,s.2)))) else(bif (decide (y<(6:Int))) then((u3a c1).bind fun y23=>((u7z (s.1,(id,y23.1))).bind fun y24=>(some (y23.2,(y24.1,s.2))))) else(bif (decide (y<(7:Int))) then((u3x c1).bind fun y25=>((u49 (s.1,(id,y25.1))).bind fun y26=>(some (y25.2,(y26.1,s.2))))) else(bif (decide (y<(10:Int))) then((u2z c1).bind fun y27=>((u6d (s.1,(id,y27.1))).bind fun y28=>(some (y27.2,(y28.1,s.2))))) else(bif (decide (y<(13:Int))) then((u5r (s,id)).bind fun y29=>(some (c1,y29.2))) else(bif (decide (y=(13:Int))) then((u0n (c1,PQR)).bind fun y30=>((u4i (s,(id,y30.1))).bind fun y31=>(some (y30.2,y31.2)))) else(bif (decide (y=(14:Int))) then((u0n (c1,PQR)).bind fun y32=>((u05 (y32.2,(2:Int))).bind fun(y33:(Bool×((Hu Int)×(Int×Int))))=>((u5s (s,(y32.1,y33.1))).bind fun y34=>(some (y33.2,y34.2))))) else((u05 (c1,(3:Int))).bind fun(y35:(Bool×((Hu Int)×(Int×Int))))=>(bif y35.1 then((u2i s).bind fun y36=>(some (y35.2,y36.1))) else((u9t (s.1,id)).bind fun y37=>(some (y35.2,(y37.1,s.2)))))))))))))):=by
  intro j;simp only[zOb];cases j with
  | true=>
   simp only[Ad,q6k hE,zOb];exact⟨_,_,rfl,k1,h.begin⟩
  | false=>
   simp only[Aa];cases decide (y<(6:Int)) with
   | true=>
    obtain⟨z,c2,e2,k2,r2⟩:=o0a k1;simp only[Ad,e2,zOb,p0g hE id (j04 r2)];refine⟨_,_,rfl,k2,?_⟩;have:=h.look (id:=id) (r:=(z,z)) (right:=u7u z) (fun hk=>by rw[p9z];exact hk);unfold d5a;split<;>exact this
   | false=>
   simp only[Aa];cases decide (y<(7:Int)) with
   | true=>
    obtain⟨z,c2,e2,k2,r2⟩:=j1c k1;simp only[Ad,e2,zOb,r7g hE id ⟨j04 r2.1,j04 r2.2.1⟩];refine⟨_,_,rfl,k2,?_⟩;have:=h.look (id:=id) (r:=z) (right:=u2p z) (fun hk=>hk);unfold j0j;split<;>exact this
   | false=>
   simp only[Aa];cases decide (y<(10:Int)) with
   | true=>
    obtain⟨z,c2,e2,k2,r2⟩:=o0l k1;simp only[Ad,e2,zOb,r7b hE id (j04 r2.1)];exact⟨_,_,rfl,k2,h.put _ _⟩
   | false=>
   simp only[Aa];cases decide (y<(13:Int)) with
   | true=>
    simp only[Ad,q9k hE h.log,zOb];exact⟨_,_,rfl,k1,h.commit id⟩
   | false=>
   simp only[Aa];cases decide (y=(13:Int)) with
   | true=>
    obtain⟨z,c2,e2,k2,r2⟩:=s30 k1 (l:=PQR) (by decide);have hz:=p9r r2;simp only[Ad,e2,zOb,q4s hE h.log id (show z.size<=1048576 by omega)];exact⟨_,_,rfl,k2,h.prep id _⟩
   | false=>
   simp only[Aa];cases decide (y=(14:Int)) with
   | true=>
    obtain⟨z,c2,e2,k2,r2⟩:=s30 k1 (l:=PQR) (by decide);obtain⟨z2,c3,e3,k3,r3⟩:=s6m k2 (n:=2) (by omega);simp only[Ad,e2,e3,zOb,q9l hE h.log (p9r r2)];exact⟨_,_,rfl,k3,h.fin z z2⟩
   | false=>
    obtain⟨z2,c3,e3,k3,r3⟩:=s6m k1 (n:=3) (by omega);simp only[Aa,e3,zOb];cases z2 with
    | true=>
     simp only[Ad,o7z hE h.log,zOb];exact⟨_,_,rfl,k3,h.fix⟩
    | false=>
     simp only[Aa,p41 hE,zOb];exact⟨_,_,rfl,k3,h.leave id⟩
 cases decide (id=0) with
 | true=>simp only[Ad];exact key true | false=>simp only[Aa];exact key _
theorem c05 {s:u0u} (h:FitS s) {c:Src} (hc:c.ok):DrF (s5i (c,s)):=by
 rw[q9f];unfold r3l;cases hd:decide ((s.1.2.length:Int) >0) with
 | true=>
  have hl:0<s.1.2.length:=by simpa using hd
  obtain⟨y,c1,e1,k1,r1⟩:=u1m hc (n:=(s.1.2.length:Int)) (by omega);obtain⟨i,rfl⟩:∃i:Nat,y=(i:Int):=⟨y.toNat,by omega⟩;have hi:i<s.1.2.length:=by omega
  simp only[hd,Ad,e1,zOb,y7p hi];exact d79 h _ k1
 | false=>
  simp only[hd,Aa];exact d79 h 0 hc
theorem c07 (m:Nat) (hm:1<=m/\m<=1000) {c:Src} (hc:c.ok):∃(s:u0u) (c' :Src),u90 (c,(m:Int))=some (s,c')/\c'.ok/\FitS s:=by
 have key:∀(d i:Nat) (c:Src) (j s:u0u),c.ok->FitS s->m+2<=i+d->i<=m+1-> ∃(c' :Src) (s' :u0u),u7c (c,(m:Int),j,s,(i:Int))=some (.inl (c',j,s'))/\c'.ok/\FitS s' :=by
  intro d
  induction d with
  | zero=>intro i c j s _ _ h1 h2;omega | succ d ih=>
   intro i c j s hc hs hd hi;obtain⟨y,c1,e1,k1,r1⟩:=u1m hc (n:=(m:Int)) (by omega);rw[q17];simp only[s0e,e1,zOb];rw[y4x (n:=2+y) (by omega) (by omega)];by_cases hy:(i:Int)<2+y
   .obtain⟨c2,s2,e2,k2,r2⟩:=c05 hs k1;simp only[hy,Ae,Ad,e2,zOb];rw[y7h (by omega)];exact ih (i+1) c2 j s2 k2 r2 (by omega) (by omega)
   .simp only[hy,Ah,Aa];exact⟨_,_,rfl,k1,hs⟩
 obtain⟨s0,e0,h0⟩:=d3k;obtain⟨c',s',e1,k1,r1⟩:=key (m+2) 0 c (((([], [], [],0,0):u0j), []),([], [])) s0 hc h0 (by omega) (by omega);rw[q9g];unfold r3m;have e1:u7c (c,(m:Int),(((([], [], [],0,0):u0j), []),([], [])),s0,0)=_:=e1;simp only[e0,e1,zOb];exact⟨_,_,rfl,k1,r1⟩
theorem q2k {kd at_:Int} {key tx:Hs} (h1:1<=kd) (h2:kd<=11) (h0:0<=at_) (hk:key.size<=6) (ht:tx.size<=6):EvR ((kd,at_,key,tx,([] :Hu Int)):d3n.den):=
 ⟨⟨h1,by show kd<=12;omega⟩,h0,hk,by show tx.size<=20;omega,by show 0<=10;omega,fun _=>rfl⟩
def K3:Hu Hs:= [⟨#[97]⟩,⟨#[98]⟩,⟨#[99]⟩]
def T3:Hu Hs:= [⟨#[111,110,101]⟩,⟨#[116,119,111]⟩,⟨#[116,104,114,101,101]⟩]
def PQ3:Hu Hs:= [⟨#[112]⟩,⟨#[113]⟩,⟨#[114]⟩]
theorem d04 {y a b c:Hs} (h:y∈ [a,b,c]) (ha:a.size<=6) (hb:b.size<=6) (hc:c.size<=6):y.size<=6:=by
 simp only[A8,Ep,Em] at h;rcases h with rfl | rfl | rfl
 .exact ha
 .exact hb
 .exact hc
theorem p98 {y:Hs} (h:y∈K3):y.size<=6:=d04 h (by decide) (by decide) (by decide)
theorem d4w {y:Hs} (h:y∈T3):y.size<=6:=d04 h (by decide) (by decide) (by decide)
theorem o71 {y:Hs} (h:y∈PQ3):y.size<=6:=d04 h (by decide) (by decide) (by decide)
theorem d5g (c:Src) (most:Int) (out:Hu d3n.den) (next:Int) (op:Hu Int) (id:Int) (ho:op.length<=4) (h0:∀x∈op,0<=x):
 ∀(d i:Nat) (l:Hu Int),i+d=op.length->l.length<=i->(∀x∈l,0<=x)-> ∃l' :Hu Int,u2m (c,most,out,next,op,id,l,(i:Int))=some (.inl (c,most,out,next,l'))/\l'.length<=4/\ ∀x∈l',0<=x:=by
 intro d
 induction d with
 | zero=>
  intro i l hi hl h;refine⟨l,?_,by omega,h⟩;rw[r00];simp only[t11,u0b,show ¬i<op.length by omega,Ah,Aa]
 | succ d ih=>
  intro i l hi hl h;have hlt:i<op.length:=by omega
  rw[r00];have hb:∀x:Int,Nat.ble (l.length+ [x].length) z7v=true:=fun x=>o4b (by rw[Aw];omega)
  simp only[t11,u0b,hlt,Ae,Ad,y7p hlt,zTn,y8f (t:=Ty.int .i64) hlt,hb];rw[y7h (by omega)];by_cases q:op[i] =id
  .simp only[q,Ae,Ap,Aa];exact ih (i+1) l (by omega) (by omega) h
  .simp only[q,Ah,Bh,Ad];refine ih (i+1) _ (by omega) (by rw[Ba,Aw];omega) fun x hx=> ?_
   rcases Ay.mp hx with hx | hx
   .exact h x hx
   .rw[Ax.mp hx];exact h0 _ (Ag hlt)
def c04 (most:Int) (out:Hu d3n.den) (F:Ht (Hu d3n.den⊕Unit)) (next:Int):Prop:=
 ∃(c' :Src) (e:d3n.den) (next' :Int) (op' :Hu Int),F=u3k (c',most,out++ [e],next',op')/\c'.ok/\EvR e/\0<=next' /\next' <=next+1/\op'.length<=4/\ ∀x∈op',0<=x
theorem d49 {c:Src} (hc:c.ok) {most:Int} {out:Hu d3n.den} {next:Int} {op:Hu Int} (hlt:(out.length:Int)<most) (hm:most<=74) (n0:0<=next) (n1:next<=100) (ho:op.length<=4) (h0:∀x∈op,0<=x):
 c04 most out (u3k (c,most,out,next,op)) next:=by
 obtain⟨y2,c1,e2,k2,r2⟩:=u1m hc (n:=18) (by omega);have hb:∀x:d3n.den,Nat.ble (out.length+ [x].length) z7v=true:=fun x=>o4b (by rw[Aw];omega)
 have hb1:Nat.ble (([] :Hu Int).length+op.length) z7v=true:=o4b (by rw[Cc];omega);have hb2:∀x:Int,Nat.ble ((([] :Hu Int)++op).length+ [x].length) z7v=true:=fun x=>o4b (by rw[Aw,Cf];omega)
 have wn:i64.wrap (next+1)=next+1:=y4x (by omega) (by omega)
 have opn:∀x∈op++ [next],0<=x:=fun x hx=>by
  rcases Ay.mp hx with hx | hx
  .exact h0 x hx
  .rw[Ax.mp hx];exact n0
 have ev1:EvR ((1,0,(⟨#[]⟩:Hs),(⟨#[]⟩:Hs),([] :Hu Int)):d3n.den):=q2k (by omega) (by omega) (by omega) (by decide) (by decide);rw[r3e];simp only[t4x,hlt,Ae,Ad,e2,zOb];cases op with
 | nil=>
  obtain⟨y4,c2,e4,k4,r4⟩:=s30 k2 (l:=K3) (by decide);have e4:u0n (c1, [(⟨#[97]⟩:Hs),(⟨#[98]⟩:Hs),(⟨#[99]⟩:Hs)])=some (y4,c2):=e4;simp only[Cc,show decide (((0:Nat):Int) >0)=false by decide,show decide (((0:Nat):Int)=0)=true by decide,Aa,Ad,e4,zOb,hb];simp only[Cc] at hb1 hb2;simp only[hb1,hb2,Ad,wn];exact⟨c2,_,next+1,_,rfl,k4,ev1,by omega,by omega,by simp,opn⟩
 | cons o os=>
  obtain⟨op,hop⟩:∃op,op=o::os:=⟨_,rfl⟩;rw[←hop] at ho h0 hb1 hb2 opn ⊢;have hl0:0<op.length:=by rw[hop];simp
  have g1:decide ((op.length:Int) >0)=true:=Bb (by omega);have g2:decide ((op.length:Int)=0)=false:=A7 (by omega);obtain⟨y3,c3,e3,k3,r3⟩:=u1m k2 (n:=(op.length:Int)) (by omega);obtain⟨j,hj⟩:∃j:Nat,y3=(j:Int):=⟨y3.toNat,by omega⟩;subst hj;have hjl:j<op.length:=by omega
  obtain⟨y4,c4,e4,k4,r4⟩:=s30 k3 (l:=K3) (by decide);have e4:u0n (c3, [(⟨#[97]⟩:Hs),(⟨#[98]⟩:Hs),(⟨#[99]⟩:Hs)])=some (y4,c4):=e4;have hid:0<=op[j] :=h0 _ (Ag hjl);simp only[g1,g2,Ad,Aa,e3,y7p hjl,zTn,y8f (t:=Ty.int .i64) hjl,e4,zOb,hb,hb1,hb2,wn];obtain⟨id,hidd⟩:∃id,id=op[j] :=⟨_,rfl⟩;rw[←hidd] at hid ⊢;obtain⟨bg,hbg⟩:∃bg,bg=(bif decide (y2<3) then some (decide ((op.length:Int)<4)) else some false:Ht Bool):=⟨_,rfl⟩;have hbg2:bg=some (decide (y2<3)&&decide ((op.length:Int)<4)):=by rw[hbg];cases decide (y2<3)<;>rfl
  rw[←hbg,hbg2];simp only[zOb];by_cases b1:(decide (y2<3)&&decide ((op.length:Int)<4))=true
  .simp only[b1,Ad];have:(op.length:Int)<4:=by simp at b1;omega
   exact⟨c4,_,next+1,_,rfl,k4,ev1,by omega,by omega,by simp;omega,opn⟩
  .have b1:(decide (y2<3)&&decide ((op.length:Int)<4))=false:=by simpa using b1
   simp only[b1,Aa];by_cases b2:y2<6
   .simp only[b2,Ae,Ad];exact⟨c4,_,next,op,rfl,k4,q2k (by omega) (by omega) hid (p98 r4) (by decide),n0,by omega,ho,h0⟩
   simp only[b2,Ah,Aa];by_cases b3:y2=6
   .simp only[b3,Ae,Ad];exact⟨c4,_,next,op,rfl,k4,q2k (by omega) (by omega) hid (by decide) (p98 r4),n0,by omega,ho,h0⟩
   simp only[b3,Ah,Aa];by_cases b4:y2<10
   .obtain⟨y6,c6,e6,k6,r6⟩:=s30 k4 (l:=T3) (by decide);have e6:u0n (c4, [(⟨#[111,110,101]⟩:Hs),(⟨#[116,119,111]⟩:Hs),(⟨#[116,104,114,101,101]⟩:Hs)])=some (y6,c6):=e6;simp only[b4,Ae,Ad,e6,zOb,hb];exact⟨c6,_,next,op,rfl,k6,q2k (by omega) (by omega) hid (p98 r4) (d4w r6),n0,by omega,ho,h0⟩
   simp only[b4,Ah,Aa];by_cases b5:y2=10
   .simp only[b5,Ae,Ad];exact⟨c4,_,next,op,rfl,k4,q2k (by omega) (by omega) hid (p98 r4) (by decide),n0,by omega,ho,h0⟩
   simp only[b5,Ah,Aa];have pq:∀ {s:Src},s.ok-> ∃(y:Hs) (s' :Src),u0n (s, [(⟨#[112]⟩:Hs),(⟨#[113]⟩:Hs),(⟨#[114]⟩:Hs)])=some (y,s')/\s'.ok/\y∈PQ3:=fun {s} hs=>by
    obtain⟨y,s',q1,q2,q3⟩:=s30 hs (l:=PQ3) (by decide);exact⟨y,s',q1,q2,q3⟩
   by_cases b6:y2<14
   .obtain⟨y7,c7,e7,k7,r7⟩:=pq k4;have lf:=fun(o:Hu d3n.den)=>d5g c7 most o next op id ho h0 op.length 0 [] (by omega) (by simp) (fun x hx=>by cases hx)
    simp only[b6,Ae,Ad,e7,zOb,hb];by_cases b7:y2=13
    .simp only[b7,Ae,Ad];obtain⟨l',q1,q2,q3⟩:=lf (out++ [((8:Int),id,y7,(⟨#[]⟩:Hs),([] :Hu Int))]);have q1:u2m (c7,most,out++ [((8:Int),id,y7,(⟨#[]⟩:Hs),([] :Hu Int))],next,op,id, [],(0:Int))=_:=q1;simp only[q1,zOb];exact⟨c7,_,next,l',rfl,k7,q2k (by omega) (by omega) hid (o71 r7) (by decide),n0,by omega,q2,q3⟩
    .simp only[b7,Ah,Aa];obtain⟨l',q1,q2,q3⟩:=lf (out++ [((6:Int),id,y7,(⟨#[]⟩:Hs),([] :Hu Int))]);have q1:u2m (c7,most,out++ [((6:Int),id,y7,(⟨#[]⟩:Hs),([] :Hu Int))],next,op,id, [],(0:Int))=_:=q1;simp only[q1,zOb];exact⟨c7,_,next,l',rfl,k7,q2k (by omega) (by omega) hid (o71 r7) (by decide),n0,by omega,q2,q3⟩
   simp only[b6,Ah,Aa];by_cases b8:y2=14
   .obtain⟨y15,c5,e5,k5,r5⟩:=j7j k4 [9,10,9] (by decide) (by decide);obtain⟨y16,c6,e6,k6,r6⟩:=pq k5;simp only[b8,Ae,Ad,e5,e6,zOb,hb];have hy:y15=9\/y15=10:=by
     simp only[A8,Ep,Em] at r5;omega
    exact⟨c6,_,next,op,rfl,k6,q2k (by omega) (by omega) (by omega) (o71 r6) (by decide),n0,by omega,ho,h0⟩
   simp only[b8,Ah,Aa];by_cases b9:y2=15
   .simp only[b9,Ae,Ad];exact⟨c4,_,next,op,rfl,k4,q2k (by omega) (by omega) (by omega) (by decide) (by decide),n0,by omega,ho,h0⟩
   simp only[b9,Ah,Aa];by_cases b10:y2=16
   .obtain⟨y17,c5,e5,k5,_⟩:=s6m k4 (n:=3) (by omega);simp only[b10,Ae,Ad,e5,zOb];cases y17
    .simp only[Aa];exact⟨c5,_,next,op,rfl,k5,q2k (by omega) (by omega) hid (by decide) (by decide),n0,by omega,ho,h0⟩
    .obtain⟨y18,c6,e6,k6,r6⟩:=u1m k5 (n:=70) (by omega);obtain⟨y19,c7,e7,k7,r7⟩:=u1m k6 (n:=2) (by omega);simp only[Ad,e6,e7,zOb,hb];refine⟨c7,_,next, [],rfl,k7,⟨⟨by show(1:Int)<=12;omega,by show(12:Int)<=12;omega⟩,r6.1,(by decide:(⟨#[]⟩:Hs).size<=6),(by decide:(⟨#[]⟩:Hs).size<=20),by show 2<=10;omega,fun q=>absurd rfl q⟩,n0,by omega,by simp,fun x hx=>by cases hx⟩
   simp only[b10,Ah,Aa];exact⟨c4,_,next,op,rfl,k4,q2k (by omega) (by omega) (by omega) (p98 r4) (by decide),n0,by omega,ho,h0⟩
theorem c1j {most:Int} (hm:most<=74):∀(d:Nat) {c:Src} {out:Hu d3n.den} {next:Int} {op:Hu Int},c.ok->(out.length:Int)+d=most->0<=next->next<=(out.length:Int)+1->op.length<=4->(∀x∈op,0<=x)->(∀e∈out,EvR e)->
 ∃out' :Hu d3n.den,u3k (c,most,out,next,op)=some (.inl out')/\(out'.length:Int)=most/\ ∀e∈out',EvR e:=by
 intro d
 induction d with
 | zero=>
  intro c out next op hc hd n0 n1 ho h0 he
  refine⟨out,?_,by omega,he⟩;rw[r3e];simp only[t4x,show decide ((out.length:Int)<most)=false from A7 (by omega),Aa]
 | succ d ih=>
  intro c out next op hc hd n0 n1 ho h0 he
  obtain⟨c',e,next',op',q1,q2,q3,q4,q5,q6,q7⟩:=d49 hc (most:=most) (out:=out) (next:=next) (op:=op) (by omega) hm n0 (by omega) ho h0;rw[q1];refine ih q2 (by rw[Ba,Aw];omega) q4 (by rw[Ba,Aw];omega) q6 q7 fun x hx=> ?_
  rcases Ay.mp hx with hx | hx
  .exact he x hx
  .rw[Ax.mp hx];exact q3
theorem j4p {l:Hu Int} (hl:l.length<=1048576):∃es:Hu d3n.den,s64 l=some es/\es.length<=74/\ ∀e∈es,EvR e:=by
 obtain⟨c,e1,k1⟩:=d3j hl;have w0:Int.tdiv (l.length:Int) 3=(l.length:Int) / 3:=Int.tdiv_eq_ediv_of_nonneg (by omega);have w1:i64.wrap ((l.length:Int) / 3)=(l.length:Int) / 3:=y4x (by omega) (by omega);have w2:i64.wrap (16+(l.length:Int) / 3)=16+(l.length:Int) / 3:=y4x (by omega) (by omega);have run:∀most:Int,0<=most->most<=74-> ∃es:Hu d3n.den,u3k (c,most, [],1, [])=some (.inl es)/\es.length<=74/\ ∀e∈es,EvR e:=fun most h0 h1=>by
  obtain⟨es,q1,q2,q3⟩:=c1j h1 most.toNat (c:=c) (out:= []) (next:=1) (op:= []) k1 (by simp;omega) (by omega) (by simp) (by simp) (fun x hx=>by cases hx) (fun x hx=>by cases hx);exact⟨es,q1,by omega,q3⟩
 rw[p9e];unfold r9p;simp only[e1,w0,w1,w2,zOb];by_cases b:16+(l.length:Int) / 3 >74
 .obtain⟨es,q1,q2,q3⟩:=run 74 (by omega) (by omega);exact⟨es,by simp only[b,Ae,Ad,q1,zOb],q2,q3⟩
 .obtain⟨es,q1,q2,q3⟩:=run (16+(l.length:Int) / 3) (by omega) (by omega);exact⟨es,by simp only[b,Ah,Aa,q1,zOb],q2,q3⟩
theorem o90 {y:Int} (h:0<=y) {n:Nat} (hn:0<n):y4o (Int.tmod y (n:Int)) n=true:=by
 have:=q6y h (n:=(n:Int)) (by omega);exact y7o.mpr ⟨this.1,this.2⟩
theorem midTx.tiny {n:Nat} (hn:n<=100) {t:u0i} (h:midTx n t):tinyT t:=by
 obtain⟨h1,h2,h3,h4,h5⟩:=h;refine⟨by omega,fun r hr=> ?_,by omega,fun w hw=> ?_,by omega⟩
 .have:=h2 r hr;omega
 .have:=h4 w hw;unfold d9t at this;omega
def j5r (l:Hu u17):Prop:= ∀v∈l,v.1.size<=100/\v.2.1.size<=100
theorem d4z {s:Src} (h:s.ok):Dr (s3h s) (fun y=>y.length<=100/\j5r y):=by
 have key:∀(d i:Nat) (s:Src) (a:Hu u17),s.ok->a.length<=8*i->8<=i+d->i<=7->j5r a->
  ∃(s' :Src) (a' :Hu u17),u7o (s,a,(i:Int))=some (.inl (s',a'))/\s'.ok/\a'.length<=100/\j5r a' :=by
  intro d
  induction d with
  | zero=>intro i s a _ _ h1 h2;omega | succ d ih=>
   intro i s a hs ha hd hi ht;obtain⟨y,s1,e1,k1,r1⟩:=u1m hs (n:=8) (by omega);rw[q69];simp only[t8e,e1,zOb];by_cases hy:(i:Int)<y
   .obtain⟨ws,s2,e2,k2,r2,r3⟩:=j7p k1;obtain⟨w1,_,w3⟩:=d37.mp r2;have hp:=s56 ws a ((i+1:Nat):Int);simp only[hy,Ae,Ad,e2,zOb];rw[y7h (by omega)];simp only[s6n a ws _ (show a.length+ws.length<=1000000000000 by omega),zOb];refine ih (i+1) s2 _ k2 (by omega) (by omega) (by omega) fun v hv=> ?_
    rcases(s2t _ _ _).mp hv with q | ⟨w,hw,rfl⟩
    .exact ht v q
    .have:=p4o (w1 w hw);show w.1.size<=100/\w.2.1.size<=100;omega
   .simp only[hy,Ah,Aa];exact⟨_,_,rfl,k1,by omega,ht⟩
 obtain⟨s',a',e1,k1,r1,r2⟩:=key 8 0 s [] h (by simp) (by omega) (by omega) (fun v hv=>by cases hv);rw[p3r];unfold r1j;have e1:u7o (s, [],0)=_:=e1;simp only[e1,zOb];exact⟨_,_,rfl,k1,r1,r2⟩
theorem p4e {l:Hu u17} (h:j5r l) {i:Nat} {v:u17} (hv:v.1.size<=100/\v.2.1.size<=100):j5r (l.set i v):=fun x hx=>by
 rcases E0 hx with q | rfl
 .exact h x q
 .exact hv
theorem d27 {l:Hu u17} (h:j5r l) (i:Nat):(rdL u0c l i).1.size<=100/\(rdL u0c l i).2.1.size<=100:=by
 by_cases c:i<l.length
 .rw[y8f (t:=u0c) c];exact h _ (Ag c)
 .have:rdL u0c l i=u0c.zero:=by unfold rdL;rw[A5,Be (by omega)];rfl
  rw[this];decide
theorem j8i (a b c:Hs) (i:Nat) (ha:a.size<=100) (hb:b.size<=100) (hc:c.size<=100):(rdL Ty.str [a,b,c] i).size<=100:=by
 match i with
 | 0=>exact ha | 1=>exact hb | 2=>exact hc | n+3=>exact o6v
theorem j7o {s:Src} (h:s.ok):Dr (r77 s) (fun y=>y.length<=100/\j5r y):=by
 obtain⟨y1,s1,e1,k1,r1⟩:=u1m h (n:=10) (by omega);obtain⟨y2,s2,e2,k2,r2⟩:=u1m k1 (n:=60) (by omega);obtain⟨l,s3,e3,k3,m1,m2⟩:=d4z k2;rw[o9q];unfold p2s;simp only[e1,e2,e3,zOb,Cc,Co,Cf,u0q (show l.length<=1099511627776 by omega),Ad];by_cases hl:l.length=0
 .have c0:decide ((l.length:Int) >0)=false:=A7 (by omega);simp only[c0,Aa];exact⟨_,_,rfl,k3,m1,m2⟩
 .have c0:decide ((l.length:Int) >0)=true:=Bb (by omega);have c1:decide ((l.length:Int)=0)=false:=A7 (by omega);have g4:=o90 r2.1 (n:=4) (by omega);have g3:=o90 r2.1 (n:=3) (by omega);have gl:=o90 r2.1 (n:=l.length) (by omega);have g4:y4o (Int.tmod y2 4) ([(0:Int),9999,10000,3] :Hu Int).length=true:=g4;have g3:y4o (Int.tmod y2 3) ([(⟨#[]⟩:Hs),(⟨#[65]⟩:Hs),(⟨#[122]⟩:Hs)] :Hu Hs).length=true:=g3;obtain⟨lt,q4,q5⟩:=j4s 13 97 (by omega);have q4:u8d (13,97)=some lt:=q4;have hrd:=fun i=>d27 m2 i
  simp only[c0,c1,Ad,Bh];cases decide (y1=0) with
  | true=>
   simp only[Ad];rw[g4,gl];simp only[Ad];exact⟨_,_,rfl,k3,by rw[Dq];exact m1,p4e m2 (hrd _)⟩
  | false=>
  simp only[Aa];cases decide (y1=1) with
  | true=>
   simp only[Ad];rw[g3,gl];simp only[Ad];exact⟨_,_,rfl,k3,by rw[Dq];exact m1,p4e m2 ⟨j8i _ _ _ _ (by decide) (by decide) (by decide),(hrd _).2⟩⟩
  | false=>
  simp only[Aa];cases decide (y1=2) with
  | true=>
   simp only[Ad];rw[gl];simp only[Ad];exact⟨_,_,rfl,k3,by rw[Dq];exact m1,p4e m2 (hrd _)⟩
  | false=>
  simp only[Aa];cases decide (y1=3) with
  | true=>
   simp only[Ad,q4,zOb];rw[gl];simp only[Ad];exact⟨_,_,rfl,k3,by rw[Dq];exact m1,p4e m2 ⟨(hrd _).1,by show lt.size<=100;omega⟩⟩
  | false=>
   simp only[Aa];exact⟨_,_,rfl,k3,m1,m2⟩
theorem d1u {s:Src} (h:s.ok):∃(b:u0j) (s' :Src),s5f s=some (b,s')/\s'.ok/\BaseR b/\b.2.2.2.1<=25/\b.2.2.2.2<=26/\DomB b:=by
 obtain⟨st,c1,e2,k2,r2⟩:=j9p 24 (by omega) h;have e2:u90 (s,24)=some (st,c1):=e2;have hn:=r2.num;have e:((24+1:Nat):Int)=25:=rfl;refine⟨st.1.1,c1,?_,k2,r2.eng.base,by have:=hn.1;omega,by have:=hn.2;omega,r2.dom.base⟩;rw[o5s];unfold q8w;simp only[e2,zOb]
theorem d4n {s:Src} (h:s.ok):∃(b:u0j) (s' :Src),s5f s=some (b,s')/\s'.ok/\BaseR b/\b.2.2.2.1<=25/\b.2.2.2.2<=26:=by
 obtain⟨b,s',h1,h2,h3,h4,h5,_⟩:=d1u h;exact⟨b,s',h1,h2,h3,h4,h5⟩
theorem j3u {l:Hu u0i} {t:u0i} {n:Nat} (h:∀x∈l,tinyT x) (ht:tinyT t):∀x∈l++ [t],tinyT x:=fun x hx=>by
 rcases Ay.mp hx with q | q
 .exact h x q
 .rw[Ax.mp q];exact ht
theorem j67 {s:Src} (h:s.ok):Dr (r79 s) (fun b=>tinyB b/\ -1000000<=b.2.2.2.1/\b.2.2.2.1<=100000):=by
 obtain⟨y1,s1,e1,k1,r1⟩:=u1m h (n:=14) (by omega);obtain⟨y2,s2,e2,k2,r2⟩:=u1m k1 (n:=60) (by omega);obtain⟨b,s3,e3,k3,hB,hc,hn⟩:=d4n k2;have hT:=hB.tiny;have hc0:=hB.cs;have hp:=hB.plen;have hr:=hB.rlen;have e4:=s1g b hT.few;have g4:=o90 r2.1 (n:=4) (by omega);have g4:y4o (Int.tmod y2 4) ([(0:Int),1,9999,10000] :Hu Int).length=true:=g4;rw[o9v];unfold p2x;simp only[e1,e2,e3,e4,zOb];have hbd: -1000000<=b.2.2.2.1/\b.2.2.2.1<=100000:=by omega
 cases decide (y1=0) with
 | true=>
  simp only[Ad];rw[g4];refine⟨_,_,rfl,k3,⟨hT.vl,hT.vs,hT.pl,hT.ps,hT.rl,hT.rs⟩,?_⟩;have hq:=q6y r2.1 (n:=4) (by omega);have:(Int.tmod y2 4).toNat=0\/(Int.tmod y2 4).toNat=1\/(Int.tmod y2 4).toNat=2\/(Int.tmod y2 4).toNat=3:=by omega
  show -1000000<=rdL (Ty.int .i64) _ _/\rdL (Ty.int .i64) _ _<=100000;rcases this with q | q | q | q<;>rw[q] <;>decide
 | false=>
 simp only[Aa];cases decide (y1=1) with
 | true=>exact⟨_,_,rfl,k3,⟨hT.vl,hT.vs,hT.pl,hT.ps,hT.rl,hT.rs⟩,hbd⟩ | false=>
 simp only[Aa];cases decide (y1=2) with
 | true=>
  obtain⟨t,s5,e5,k5,m5⟩:=o76 k3;simp only[Ad,e5,zOb,Aw,u0q (show b.2.1.length+1<=1099511627776 by omega)];exact⟨_,_,rfl,k5,⟨hT.vl,hT.vs,by show(b.2.1++ [t]).length<=1000;simp;omega,j3u (n:=0) hT.ps (m5.tiny (by omega)),hT.rl,hT.rs⟩,hbd⟩
 | false=>
 simp only[Aa];cases decide (y1=3) with
 | true=>
  obtain⟨t,s5,e5,k5,m5⟩:=o76 k3;simp only[Ad,e5,zOb,Aw,u0q (show b.2.2.1.length+1<=1099511627776 by omega)];exact⟨_,_,rfl,k5,⟨hT.vl,hT.vs,hT.pl,hT.ps,by show(b.2.2.1++ [t]).length<=1000;simp;omega,j3u (n:=0) hT.rs (m5.tiny (by omega))⟩,hbd⟩
 | false=>
 simp only[Aa];cases decide (y1=4) with
 | true=>
  obtain⟨l,s5,e5,k5,m5,m6⟩:=j7o k3;simp only[Ad,e5,zOb];exact⟨_,_,rfl,k5,⟨by show l.length<=10000;omega,m6,hT.pl,hT.ps,hT.rl,hT.rs⟩,hbd⟩
 | false=>exact⟨_,_,rfl,k3,hT,hbd⟩
theorem j7g (w:c13.den) (hb:smallB w.1.1.1) (ho:o3y w.1.1.2):t09 w=some true:=by
 have hl:=hb.2.2.1
 have L:=s86 u8n w.1.1.1.2.2.1.length (fun(_:Unit) i=>(w,i)) (fun _ _=> .inl ()) (fun _ _=>True)
  (fun a _=>by rw[r0u];simp only[t1v,u0b,Am,Ah,Aa])
  (fun i a hi _=> .inr ⟨(),trivial,rfl,by
   obtain⟨k,hk,hr⟩:=p6b w.1.1.1 (n:=w.1.1.1.2.2.1[i].2.2.2.2.2.2.2) hi rfl;obtain⟨e,r,code,hf,hc⟩:=j4r w.1.1.1 w.1.1.2 w.1.1.1.2.2.1[i].2.2.2.2.2.2.2 hb ho hk hr;have hf:t2i (w.1.1,w.1.1.1.2.2.1[i].2.2.2.2.2.2.2,true)=some (e,r,code):=hf;rw[r0u];simp only[t1v,u0b,hi,Ae,Ad,y7p hi,zTn,y8f (t:=u0v) hi,hf,zOb];rw[y7h (by omega)];rcases hc with rfl | rfl<;>rfl⟩) 0 () (Cn _) trivial
 have L:u8n (w,0)=_:=L;rw[p5p];unfold r4s;simp only[L,zOb]
theorem j7f (w:c13.den) (hb:smallB w.1.1.1) (ho:o3y w.1.1.2):t03 w=some true:=by
 have hl:=hb.2.2.1;have hq:∀x∈w.1.1.1.2.2.1,t2g (x,w.1.1.1.1,w.1.1.1.2.1,w.1.1.1.2.2.1,w.1.1.1.2.2.2.1,w.1.1.1.2.2.2.2,w.1.1.2,w.1.2.1,w.1.2.2,w.2)=some false:=fun x hx=>by
  obtain⟨i,hi,rfl⟩:=B7 hx;obtain⟨k,hk,hr⟩:=p6b w.1.1.1 (n:=w.1.1.1.2.2.1[i].2.2.2.2.2.2.2) hi rfl;obtain⟨e,r,code,hf,hc⟩:=j4q w.1.1.1 w.1.1.2 w.1.1.1.2.2.1[i].2.2.2.2.2.2.2 hb ho hk hr;rw[p0k];unfold s87;simp only[hf,zOb];rcases hc with rfl | rfl<;>rfl
 have L:=Q.first (T:=u0v) (W:=u1b) (q:=t2g) (p:=fun _=>false) (fun x=>u95 x) w.1.1.1.2.2.1 _ (by omega) hq;have hn: ¬u0y (fun _:u0v.den=>false) w.1.1.1.2.2.1<w.1.1.1.2.2.1.length:=fun h=>by
  have:=u9z h;cases this
 rw[Ao hn] at L;rw[p5e];unfold r4h;simp only[s6u,t3j,u9m,u3l,t01,u4b,L,zOb];rfl
end Go.Proofs.YtkphhjdbdnoekaaGreat.Ab
