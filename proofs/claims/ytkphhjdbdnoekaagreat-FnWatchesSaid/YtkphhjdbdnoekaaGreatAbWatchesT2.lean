import Derived.Test.YtkphhjdbdnoekaaGreatAbWatchesT1
import Derived.Test.YtkphhjdbdnoekaaGreatAbK2
import Derived.Test.YtkphhjdbdnoekaaGreatAbF4
import Derived.Test.YtkphhjdbdnoekaaGreatAbS2
namespace Go.Proofs.YtkphhjdbdnoekaaGreat.Ab
open Go Go.IntKind
set_option linter.unusedVariables false
set_option linter.unusedSimpArgs false
set_option linter.unnecessarySimpa false
set_option linter.unusedSectionVars false
abbrev s6l:=Hs×Hs
abbrev WrT:=Hs×Hs×Bool
abbrev u21:=u0j×Hu u0i
def inB (x lo hi:Int):Bool:=decide (lo<=x)&&decide (x<=hi)
theorem p52 {x lo hi:Int} :inB x lo hi=true↔lo<=x/\x<=hi:=by simp[inB]
def u7u (s:Hs):Bool:=s.data.toList.all (fun b=>decide (97<=b.toNat)&&decide (b.toNat<=122))&&(decide (1<=s.size)&&decide (s.size<=3))
def u2p (r:s6l):Bool:=u7u r.1&&(u7u r.2&&(y3b r.1 r.2 || z7n r.1 r.2))
def u3i (w:WrT):Bool:=u7u w.1&&(decide (w.2.1.size<=12)&&(!w.2.2 || decide (w.2.1.size=0)))
def o4a (t:Ty) (lt:t.den->t.den->Bool) (l:Hu t.den):Bool:=(List.range l.length).all fun i=>decide (i=0) || lt (rdL t l (i - 1)) (rdL t l i)
def u5b (l:Hu WrT):Bool:=l.all u3i&&(o4a u2l (fun a b=>y3b a.1 b.1) l&&decide (l.length<=8))
def u71 (t:u0i):Bool:=
 inB t.1 1 9999&&(inB t.2.1 1 3&&(inB t.2.2.1 0 9999&&(decide (t.2.2.2.2.1.length<=8)&&(u5b t.2.2.2.2.2.1&&(t.2.2.2.2.1.all u2p&&
 ((if t.2.1=3 then inB t.2.2.2.1 (t.2.2.1+1) 9999 else decide (t.2.2.2.1=0))&&((if t.2.1=2 then u7u t.2.2.2.2.2.2.2 else decide (t.2.2.2.2.2.2.2.size=0))&&(!decide (t.2.1=1) || !t.2.2.2.2.2.2.1))))))))
def q51 (v:u17):Bool:=u7u v.1&&(decide (v.2.1.size<=12)&&((!v.2.2.1 || decide (v.2.1.size=0))&&inB v.2.2.2 1 9999))
def r2u (a b:u17):Bool:=y3b a.1 b.1 || (z7n a.1 b.1&&decide (a.2.2.2<b.2.2.2))
def u59 (l:Hu u17):Bool:=l.all q51&&(o4a u0c r2u l&&decide (l.length<=120))
def p0s (l:Hu Int) (below:Int):Bool:=decide (∀x∈l,x<below)&&decide l.Nodup
def j6p (c:Int) (l:Hu u0i):Bool:=decide (l.length<=12)&&(l.all (fun t=>u71 t&&(decide (t.2.1=3)&&decide (t.2.2.2.1<=c)))&&o4a u0v (fun a b=>decide (a.2.2.2.1<b.2.2.2.1)) l)
def j0g (c:Int) (l:Hu u0i):Bool:=decide (l.length<=3)&&(l.all (fun t=>u71 t&&(decide (t.2.1=2)&&decide (t.2.2.1<=c)))&&o4a u0v (fun a b=>y3b a.2.2.2.2.2.2.2 b.2.2.2.2.2.2.2) l)
def j6l (c:Int) (l:Hu u0i):Bool:=decide (l.length<=4)&&(l.all (fun t=>u71 t&&(decide (t.2.1=1)&&decide (t.2.2.1<=c)))&&o4a u0v (fun a b=>decide (a.1<b.1)) l)
def u51 (l:Hu u0i):Hu Int:=l.map fun t=>t.1
def u8t (b:u0j):Bool:=u59 b.1&&(b.1.all (fun v=>decide (v.2.2.2<=b.2.2.2.1))&&(inB b.2.2.2.1 0 9999&&(inB b.2.2.2.2 1 9999&&(j6p b.2.2.2.1 b.2.1&&(j0g b.2.2.2.1 b.2.2.1&&p0s (u51 (b.2.1++b.2.2.1)) b.2.2.2.2)))))
def o55 (e:u21):Bool:=u8t e.1&&(j6l e.1.2.2.2.1 e.2&&p0s (u51 (e.1.2.1++e.1.2.2.1++e.2)) e.1.2.2.2.2)
theorem o8e {t:Ty} {lt:t.den->t.den->Bool} (tr:∀a b c,lt a b=true->lt b c=true->lt a c=true) {l:Hu t.den} :o4a t lt l=true↔l.Pairwise fun a b=>lt a b=true:=by
 unfold o4a;rw[Bg];constructor
 .intro h;have step:∀(i:Nat) (hi:i+1<l.length),lt l[i] l[i+1] =true:=fun i hi=>by
   have:=h (i+1) (Bq.mpr hi);rw[Cr,Ar] at this;rcases this with q | q
   .omega
   .rw[Nat.add_sub_cancel,y8f (show i<l.length by omega),y8f hi] at q;exact q
  rw[Cp];intro i j hi hj hij;obtain⟨d,rfl⟩:∃d,j=i+1+d:=⟨j - (i+1),by omega⟩;clear hij
  induction d with
  | zero=>exact step i hj | succ d ih=>exact tr _ _ _ (ih (by omega)) (step (i+1+d) hj)
 .intro h i hi;have hi:=Bq.mp hi;rw[Cr,Ar];by_cases e:i=0
  .exact .inl e
  .refine .inr ?_;rw[y8f (show i - 1<l.length by omega),y8f hi];exact Cp.mp h (i - 1) i (by omega) hi (by omega)
theorem u27 {s:Hs} (h:u7u s=true):1<=s.size/\s.size<=3:=by
 unfold u7u at h;simp only[Ai,Ar] at h;exact h.2
structure TxnR (t:u0i):Prop where
 id:1<=t.1/\t.1<=9999
 st:1<=t.2.1/\t.2.1<=3
 snap:0<=t.2.2.1/\t.2.2.1<=9999
 rlen:t.2.2.2.2.1.length<=8
 ws:u5b t.2.2.2.2.2.1=true
 rs:∀r∈t.2.2.2.2.1,u2p r=true
 done:t.2.1=3->t.2.2.1+1<=t.2.2.2.1/\t.2.2.2.1<=9999
 nocs:t.2.1≠3->t.2.2.2.1=0
 name:t.2.1=2->u7u t.2.2.2.2.2.2.2=true
 noname:t.2.1≠2->t.2.2.2.2.2.2.2.size=0
 out:t.2.1=1->t.2.2.2.2.2.2.1=false
theorem p4g {t:u0i} :u71 t=true↔TxnR t:=by
 unfold u71;simp only[Ai,Cr,p52,Ar,Bg,Bj,Bu];constructor
 .rintro⟨h1,h2,h3,h4,h5,h6,h7,h8,h9⟩
  refine⟨h1,h2,h3,h4,h5,h6,fun e=> ?_,fun e=> ?_,fun e=> ?_,fun e=> ?_,fun e=> ?_⟩
  .rw[Al e,p52] at h7;exact h7
  .rw[Ao e,Ar] at h7;exact h7
  .rw[Al e] at h8;exact h8
  .rw[Ao e,Ar] at h8;exact h8
  .rcases h9 with h9 | h9
   .exact absurd e h9
   .exact h9
 .intro h;refine⟨h.id,h.st,h.snap,h.rlen,h.ws,h.rs,?_,?_,?_⟩
  .split
   .rename_i e;rw[p52];exact h.done e
   .rename_i e;rw[Ar];exact h.nocs e
  .split
   .rename_i e;exact h.name e
   .rename_i e;rw[Ar];exact h.noname e
  .by_cases e:t.2.1=1
   .exact .inr (h.out e)
   .exact .inl e
theorem d37 {l:Hu WrT} :u5b l=true↔(∀w∈l,u3i w=true)/\(l.Pairwise fun a b=>y3b a.1 b.1=true)/\l.length<=8:=by
 unfold u5b;rw[Ai,Ai,Ar,Bg,o8e (t:=u2l) (lt:=fun a b=>y3b a.1 b.1) (fun a b c h k=>p4c h k)]
theorem j36 {l:Hu WrT} (h:u5b l=true):KD l:=
 (d37.mp h).2.1.imp fun {a b} q e=>by rw[e,t4f] at q;cases q
theorem j8q {a b:u17} :r2u a b=true↔vLt a b:=by
 unfold r2u vLt vCs;rw[Cr,Ai,Ar,y7b]
theorem d8e {a b c:u17} (h:vLt a b) (k:vLt b c):vLt a c:=by
 rcases h with h | ⟨h,h'⟩<;>rcases k with k | ⟨k,k'⟩
 .exact .inl (p4c h k)
 .exact .inl (k ▸ h)
 .exact .inl (h ▸ k)
 .exact .inr ⟨h.trans k,by omega⟩
theorem d1p {l:Hu u17} :u59 l=true↔(∀v∈l,q51 v=true)/\VAsc l/\l.length<=120:=by
 unfold u59;rw[Ai,Ai,Ar,Bg,o8e (t:=u0c) (lt:=r2u) (fun a b c h k=>j8q.mpr (d8e (j8q.mp h) (j8q.mp k)))];unfold VAsc;simp only[j8q]
theorem q4o {l:Hu Int} {n:Int} :p0s l n=true↔(∀x∈l,x<n)/\l.Nodup:=by
 unfold p0s;rw[Ai,Ar,Ar]
structure BaseR (b:u0j):Prop where
 vs:u59 b.1=true
 vcs:∀v∈b.1,v.2.2.2<=b.2.2.2.1
 cs:0<=b.2.2.2.1/\b.2.2.2.1<=9999
 next:1<=b.2.2.2.2/\b.2.2.2.2<=9999
 plen:b.2.1.length<=12
 past:∀t∈b.2.1,TxnR t/\t.2.1=3/\t.2.2.2.1<=b.2.2.2.1
 pasc:b.2.1.Pairwise fun x y=>x.2.2.2.1<y.2.2.2.1
 rlen:b.2.2.1.length<=3
 ready:∀t∈b.2.2.1,TxnR t/\t.2.1=2/\t.2.2.1<=b.2.2.2.1
 rasc:b.2.2.1.Pairwise fun x y=>y3b x.2.2.2.2.2.2.2 y.2.2.2.2.2.2.2=true
 below:∀x∈u51 (b.2.1++b.2.2.1),x<b.2.2.2.2
 nodup:(u51 (b.2.1++b.2.2.1)).Nodup
theorem c1i {l:Hu u0i} {f:u0i->Int} :o4a u0v (fun a b=>decide (f a<f b)) l=true↔l.Pairwise fun x y=>f x<f y:=by
 rw[o8e (t:=u0v) (lt:=fun a b=>decide (f a<f b)) (fun a b c h k=>by simp only[Ar] at*;omega)];simp only[Ar]
theorem c50 {l:Hu u0i} :o4a u0v (fun a b=>y3b a.2.2.2.2.2.2.2 b.2.2.2.2.2.2.2) l=true↔l.Pairwise fun x y=>y3b x.2.2.2.2.2.2.2 y.2.2.2.2.2.2.2=true:=
 o8e (t:=u0v) (lt:=fun a b=>y3b a.2.2.2.2.2.2.2 b.2.2.2.2.2.2.2) (fun a b c h k=>p4c h k)
theorem o6q {b:u0j} :u8t b=true↔BaseR b:=by
 unfold u8t j6p j0g;simp only[Ai,p52,Ar,Bg,p4g,q4o,c50];rw[c1i (f:=fun t=>t.2.2.2.1)];constructor
 .rintro⟨h1,h2,h3,h4,⟨h5,h6,h7⟩,⟨h8,h9,h10⟩,h11,h12⟩
  exact⟨h1,h2,h3,h4,h5,h6,h7,h8,h9,h10,h11,h12⟩
 .intro h;exact⟨h.vs,h.vcs,h.cs,h.next,⟨h.plen,h.past,h.pasc⟩,⟨h.rlen,h.ready,h.rasc⟩,h.below,h.nodup⟩
structure EngR (e:u21):Prop where
 base:BaseR e.1
 olen:e.2.length<=4
 open_:∀t∈e.2,TxnR t/\t.2.1=1/\t.2.2.1<=e.1.2.2.2.1
 oasc:e.2.Pairwise fun x y=>x.1<y.1
 below:∀x∈u51 (e.1.2.1++e.1.2.2.1++e.2),x<e.1.2.2.2.2
 nodup:(u51 (e.1.2.1++e.1.2.2.1++e.2)).Nodup
theorem d7u {e:u21} :o55 e=true↔EngR e:=by
 unfold o55 j6l;simp only[Ai,Ar,Bg,p4g,q4o,o6q];rw[c1i (f:=fun t=>t.1)];constructor
 .rintro⟨h1,⟨h2,h3,h4⟩,h5,h6⟩
  exact⟨h1,h2,h3,h4,h5,h6⟩
 .intro h;exact⟨h.base,⟨h.olen,h.open_,h.oasc⟩,h.below,h.nodup⟩
theorem p5c {E:Type} (a:Hu E) (n:Nat) (h:n<=a.length) (z:Hu E):(a.take n++z).take n=a.take n:=by
 rw[List.take_append_of_le_length (by rw[Ec];omega),List.take_take,Nat.min_self]
theorem t3q {E:Type} (p:E->Bool) (l:Hu E):(l.filter p).length<=l.length:=Cs _ _
theorem j4n (l:Hu u0i) (c:Int) (hl:l.length<=8388608):u2o (l,c)=some (l.filter fun x=> !decide (x.2.2.2.1<=c)):=by
 have hq:∀x∈l,t06 (x,c)=some (decide (x.2.2.2.1<=c)):=fun x _=>by rw[o1b];rfl
 have L:=Q.first (T:=u0v) (c:=Int) (W:=u1t) (q:=t06) (p:=fun x:u0i=>decide (x.2.2.2.1<=c)) (fun x=>t2p x) l c (by omega) hq;rw[t3m];unfold u5h;simp only[t4c,u5z,L,zOb];by_cases hk:u0y (fun x:u0i=>decide (x.2.2.2.1<=c)) l<l.length
 .obtain⟨a,e1,e2,e3⟩:=Q.delete (T:=u0v) (c:=Int) (W:=u1n) (q:=t06) (p:=fun x:u0i=>decide (x.2.2.2.1<=c)) (fun x=>t1h x) l c (by omega) hq hk;have hn:=t3q (fun x:u0i=> !decide (x.2.2.2.1<=c)) l;obtain⟨n,hne⟩:∃n,n=(l.filter fun x:u0i=> !decide (x.2.2.2.1<=c)).length:=⟨_,rfl⟩;rw[←hne] at e1 e3 hn;have c1:decide (((u0y (fun x:u0i=>decide (x.2.2.2.1<=c)) l:Nat):Int)= -1)=false:=by simp
  have c2:decide ((0:Int)<=(n:Int))=true:=by simp
  have c3:decide ((n:Int)<=(a.length:Int))=true:=by simp;omega
  have c4:decide ((a.length:Int)<=(a.length:Int))=true:=by simp
  have hw:=y7h (i:=u0y (fun x:u0i=>decide (x.2.2.2.1<=c)) l) (by omega);simp only[Al hk,zOb,c1,Aa,hw,e1,c2,c3,c4,Dt,Ad,zTn,Ae,Bv];have c5:decide ((n:Int)<=((a.take n++List.replicate (a.length - n) u0v.zero++a.drop (n+(a.length - n))).length:Int))=true:=by simp;omega
  have c6:(a.take n++List.replicate (a.length - n) u0v.zero++a.drop (n+(a.length - n))).take (n - (0:Int).toNat)=l.filter fun x:u0i=> !decide (x.2.2.2.1<=c):=by
   rw[Bi,Ho,Nat.sub_zero,p5c a n (by omega),e3]
  simp only[c5,Dt,Ad,c6]
 .have hall:(l.filter fun x:u0i=> !decide (x.2.2.2.1<=c))=l:=by
   rw[F9];intro x hx;obtain⟨i,hi,rfl⟩:=B7 hx;rw[t32 (p:=fun x:u0i=>decide (x.2.2.2.1<=c)) hi (by omega)];rfl
  simp only[Ao hk,zOb,Ae,Ad,hall]
def u4k (b:u0j) (o:Hu u0i):u0j:=(u3h b.1 (s3u b o),b.2.1.filter (fun x=> !decide (x.2.2.2.1<=s3u b o)),b.2.2)
theorem t5k (b:u0j) (o:Hu u0i) (hb:fewB b) (ho:o.length<=4194304):u31 (b,o)=some (u4k b o):=by
 have h1:=s3z b hb;have h2:=j4t b o ho;have h3:=j4n b.2.1 (s3u b o) (by have:=hb.2.1.1;omega);have h4:=j1k b.1 (s3u b o) (by have:=hb.1;omega);rw[o8y];unfold p1x u4k;simp only[h1,h2,h3,h4,zOb]
theorem s1b (b:u0j) (o:Hu u0i) (hb:fewB b) (ho:o.length<=4194304):u9u (b,o)=some (u4k b o):=by
 have h1:=s1g b hb;have h2:=j4u b o ho;have h4:=j1l b.1 (s3u b o) (by have:=hb.1;omega);have hl:=hb.2.1.1
 have L:=s1k s2m b.2.1 (fun a i=>(b,(([], [], [],0,0):u0j),(b.1,a,b.2.2),s3u b o,i)) (fun x=> !decide (x.2.2.2.1<=s3u b o)) (fun x=>x) (fun a=> .inl (b,(([], [], [],0,0):u0j),(b.1,a,b.2.2),s3u b o)) (by omega)
  (fun a _=>by rw[q6g];simp only[s19,u0b,Am,Ah,Aa])
  (fun i hi a ha=>by
   have hc:=t2q b.2.1[i] (hb.2.1.2 _ (Ag hi));rw[q6g];simp only[s19,u0b,hi,Ae,Ad,y7p hi,zTn,y8f (t:=u0v) hi,hc,zOb,Aw,u0q (show a.length+1<=1099511627776 by omega)];rw[y7h (by omega)];by_cases h:b.2.1[i].2.2.2.1<=s3u b o
   .have h' : ¬b.2.1[i].2.2.2.1 >s3u b o:=Hk.mpr h;simp[h,h']
   .have h' :b.2.1[i].2.2.2.1 >s3u b o:=Int.not_le.mp h;simp[h,h'])
 rw[Er] at L;rw[o9i];unfold p2j u4k;simp only[h1,h2,zOb,L,h4]
theorem j7d (l:Hu u0i) (c:u0i) (hl:l.length<=8388608):u1u (l,c)=some (l.filter fun x=> !decide (x.1=c.1)):=by
 have hq:∀x∈l,u86 (x,c)=some (decide (x.1=c.1)):=fun x _=>by rw[p8l];rfl
 have L:=Q.first (T:=u0v) (c:=u0i) (W:=u1q) (q:=u86) (p:=fun x:u0i=>decide (x.1=c.1)) (fun x=>t1k x) l c (by omega) hq;rw[t2c];unfold u44;simp only[t3p,u5k,L,zOb];by_cases hk:u0y (fun x:u0i=>decide (x.1=c.1)) l<l.length
 .obtain⟨a,e1,e2,e3⟩:=Q.delete (T:=u0v) (c:=u0i) (W:=u1k) (q:=u86) (p:=fun x:u0i=>decide (x.1=c.1)) (fun x=>t1d x) l c (by omega) hq hk;have hn:=t3q (fun x:u0i=> !decide (x.1=c.1)) l;obtain⟨n,hne⟩:∃n,n=(l.filter fun x:u0i=> !decide (x.1=c.1)).length:=⟨_,rfl⟩;rw[←hne] at e1 e3 hn;have c1:decide (((u0y (fun x:u0i=>decide (x.1=c.1)) l:Nat):Int)= -1)=false:=by simp
  have c2:decide ((0:Int)<=(n:Int))=true:=by simp
  have c3:decide ((n:Int)<=(a.length:Int))=true:=by simp;omega
  have c4:decide ((a.length:Int)<=(a.length:Int))=true:=by simp
  have hw:=y7h (i:=u0y (fun x:u0i=>decide (x.1=c.1)) l) (by omega);simp only[Al hk,zOb,c1,Aa,hw,e1,c2,c3,c4,Dt,Ad,zTn,Ae,Bv];have c5:decide ((n:Int)<=((a.take n++List.replicate (a.length - n) u0v.zero++a.drop (n+(a.length - n))).length:Int))=true:=by simp;omega
  have c6:(a.take n++List.replicate (a.length - n) u0v.zero++a.drop (n+(a.length - n))).take (n - (0:Int).toNat)=l.filter fun x:u0i=> !decide (x.1=c.1):=by
   rw[Bi,Ho,Nat.sub_zero,p5c a n (by omega),e3]
  simp only[c5,Dt,Ad,c6]
 .have hall:(l.filter fun x:u0i=> !decide (x.1=c.1))=l:=by
   rw[F9];intro x hx;obtain⟨i,hi,rfl⟩:=B7 hx;rw[t32 (p:=fun x:u0i=>decide (x.1=c.1)) hi (by omega)];rfl
  simp only[Ao hk,zOb,Ae,Ad,hall]
def p7k (d x:u0i):u0i:=(x.1,x.2.1,x.2.2.1,x.2.2.2.1,x.2.2.2.2.1,x.2.2.2.2.2.1,(x.2.2.2.2.2.2.1 || ahead x d),x.2.2.2.2.2.2.2)
theorem j50 (t:u0i) (b0:u0j) (v:Hu u17) (p R:Hu u0i) (c n:Int) (d:u0i) (hR:o3y R) (hd:q2e d):
 u8y (t,b0,(v,p,R,c,n),d,(),(R.length:Int),0)=some (.inl (t,b0,(v,p,R.map (p7k d),c,n),d)):=by
 have hl:=hR.1
 have L:=p0h u8y R.length (fun(a:Hu u0i) i=>(t,b0,((v,p,a,c,n):u0j),d,(),(R.length:Int),i)) (fun i=>(R.take i).map (p7k d)++R.drop i) (.inl (t,b0,((v,p,R.map (p7k d),c,n):u0j),d))
  (by
   rw[q1e];simp only[t9k,u0b,Am,Ah,Aa,Cq,F5,Bw])
  (fun i hi=>by
   have hm:((R.take i).map (p7k d)).length=i:=by simp;omega
   have hd1:R.drop i=R[i] ::R.drop (i+1):=Ce hi;have hal:i<((R.take i).map (p7k d)++R.drop i).length:=by simp;omega
   have hg:((R.take i).map (p7k d)++R.drop i)[i] =R[i] :=by
    rw[Cv (by omega),List.getElem_drop];congr 1;omega
   have hset:∀y:u0i,((R.take i).map (p7k d)++R.drop i).set i y=(R.take i).map (p7k d)++y::R.drop (i+1):=fun y=>by
    rw[List.set_append_right _ _ (by omega),hm,Dw,hd1,Hj]
   have hnx:(R.take (i+1)).map (p7k d)++R.drop (i+1)=(R.take i).map (p7k d)++p7k d R[i] ::R.drop (i+1):=by
    rw[B9 hi,Dh];simp
   have ha:=o6b R[i] d (s8i (hR.2 _ (Ag hi)).1) (s8i hd.2);rw[q1e];simp only[t9k,u0b,hi,Ae,Ad,y7p hal,zTn,y8f (t:=u0v) hal,hg,ha,zOb,hset];rw[y7h (by omega),hnx];unfold p7k;cases h1:R[i].2.2.2.2.2.2.1 with
   | true=>simp | false=>simp)
 simpa using L
def p28 (b:u0j) (t:u0i):u0i:=(t.1,(3:Int),t.2.2.1,i64.wrap (b.2.2.2.1+1),t.2.2.2.2.1,t.2.2.2.2.2.1,(t.2.2.2.2.2.2.1 || p59 t b.2.1),(⟨#[]⟩:Hs))
def t0m (b:u0j) (t:u0i):u0j:=
 (s1d b.1 t.2.2.2.2.2.1 (i64.wrap (b.2.2.2.1+1)),b.2.1++ [p28 b t],(b.2.2.1.filter fun x=> !decide (x.1=t.1)).map (p7k (p28 b t)),i64.wrap (b.2.2.2.1+1),y8d b.2.2.2.2 (i64.wrap (t.1+1)))
theorem p6s (b:u0j) (t:u0i) (hb:fewB b) (ht:q2e t):t33 (b,t)=some (t0m b t):=by
 have h1:=s3z b hb;have h2:=p95 t ht;have h3:=r8j b.1 t.2.2.2.2.2.1 (i64.wrap (b.2.2.2.1+1)) (by have:=hb.1;have:=ht.2;omega);have h4:=j7d b.2.2.1 t (by have:=hb.2.2.1;omega);have h5:=o6i t b.2.1 ht hb.2.1;have hf:o3y (b.2.2.1.filter fun x=> !decide (x.1=t.1)):=⟨A9 (t3q _ _) hb.2.2.1,fun x hx=>hb.2.2.2 x (A6.mp hx).1⟩;have hp:=hb.2.1.1;have hc:∀d:u0i,Nat.ble (b.2.1.length+([d] :Hu u0i).length) z7v=true:=fun d=>u0q (by simp;omega)
 rw[o4q];unfold q7t t0m p28;simp only[h1,h2,h3,h4,h5,zOb];cases ho:t.2.2.2.2.2.2.1 with
 | true=>
  have hd:q2e ((t.1,(3:Int),t.2.2.1,i64.wrap (b.2.2.2.1+1),t.2.2.2.2.1,t.2.2.2.2.2.1,true,(⟨#[]⟩:Hs)):u0i):=ht;have L:=j50 t ([], [], [],0,0) (s1d b.1 t.2.2.2.2.2.1 (i64.wrap (b.2.2.2.1+1))) b.2.1 (b.2.2.1.filter fun x=> !decide (x.1=t.1)) (i64.wrap (b.2.2.2.1+1)) b.2.2.2.2 _ hf hd;simp only[Ad,L,zOb,hc,Dx]
 | false=>
  have hd:q2e ((t.1,(3:Int),t.2.2.1,i64.wrap (b.2.2.2.1+1),t.2.2.2.2.1,t.2.2.2.2.2.1,p59 t b.2.1,(⟨#[]⟩:Hs)):u0i):=ht;have L:=j50 t ([], [], [],0,0) (s1d b.1 t.2.2.2.2.2.1 (i64.wrap (b.2.2.2.1+1))) b.2.1 (b.2.2.1.filter fun x=> !decide (x.1=t.1)) (i64.wrap (b.2.2.2.1+1)) b.2.2.2.2 _ hf hd;simp only[Aa,Ad,h5,zOb,L,hc,Ci]
def q6x (b:u0j) (t:u0i):u0j:=
 ((t0m b t).1,(t0m b t).2.1,(t0m b t).2.2.1,(t0m b t).2.2.2.1,if t.1>=b.2.2.2.2 then i64.wrap (t.1+1) else b.2.2.2.2)
theorem j1j (b:u0j) (t:u0i) (b0:u0j) (v:Hu u17) (p:Hu u0i) (c n:Int) (d:u0i) (hb:fewB b) (hd:q2e d):
 u8h (b,t,b0,(v,p, [],c,n),d,0)=some (.inl (t,b0,(v,p,(b.2.2.1.filter fun x=> !decide (x.1=t.1)).map (p7k d),c,n))):=by
 have hl:=hb.2.2.1
 exact s1k u8h b.2.2.1 (fun a i=>(b,t,b0,((v,p,a,c,n):u0j),d,i)) (fun x=> !decide (x.1=t.1)) (p7k d) (fun a=> .inl (t,b0,((v,p,a,c,n):u0j))) (by omega)
  (fun a _=>by rw[r6z];simp only[t64,u0b,Am,Ah,Aa])
  (fun i hi a ha=>by
   have h1:=t2q b.2.2.1[i] (hb.2.2.2 _ (Ag hi));have h2:=t6i b.2.2.1[i] d (s8i (hb.2.2.2 _ (Ag hi)).1) (s8i hd.2);rw[r6z];simp only[t64,u0b,hi,Ae,Ad,y7p hi,zTn,y8f (t:=u0v) hi,h1,h2,zOb,Aw,u0q (show a.length+1<=1099511627776 by omega)];rw[y7h (by omega)];cases decide (b.2.2.1[i].1=t.1) with
   | true=>rfl | false=>
    simp only[Aa,Bh,Ad];unfold p7k;cases ahead b.2.2.1[i] d with
    | true=>simp | false=>simp)
theorem q2r (b:u0j) (t:u0i) (hb:fewB b) (ht:q2e t):u8a (b,t)=some (q6x b t):=by
 have h1:=s1g b hb;have h2:=t2q t ht;have h3:=s6n b.1 t.2.2.2.2.2.1 (i64.wrap (b.2.2.2.1+1)) (by have:=hb.1;have:=ht.2;omega);have h5:=p42 t b.2.1 ht hb.2.1;have hp:=hb.2.1.1;have hc:∀d:u0i,Nat.ble (b.2.1.length+([d] :Hu u0i).length) z7v=true:=fun d=>u0q (by simp;omega)
 rw[o5e];unfold q8h q6x t0m p28;simp only[h1,h2,h3,h5,zOb];cases ho:t.2.2.2.2.2.2.1 with
 | true=>
  have hd:q2e ((t.1,(3:Int),t.2.2.1,i64.wrap (b.2.2.2.1+1),t.2.2.2.2.1,t.2.2.2.2.2.1,true,(⟨#[]⟩:Hs)):u0i):=ht;have L:=fun p=>j1j b t ([], [], [],0,0) (s1d b.1 t.2.2.2.2.2.1 (i64.wrap (b.2.2.2.1+1))) p (i64.wrap (b.2.2.2.1+1)) b.2.2.2.2 _ hb hd
  simp only[Ad,L,zOb,hc,Dx];by_cases h:t.1>=b.2.2.2.2<;>simp[h]
 | false=>
  have hd:q2e ((t.1,(3:Int),t.2.2.1,i64.wrap (b.2.2.2.1+1),t.2.2.2.2.1,t.2.2.2.2.2.1,p59 t b.2.1,(⟨#[]⟩:Hs)):u0i):=ht;have L:=fun p=>j1j b t ([], [], [],0,0) (s1d b.1 t.2.2.2.2.2.1 (i64.wrap (b.2.2.2.1+1))) p (i64.wrap (b.2.2.2.1+1)) b.2.2.2.2 _ hb hd
  simp only[Aa,Ad,h5,zOb,L,hc,Ci];by_cases h:t.1>=b.2.2.2.2<;>simp[h]
def smallB (b:u0j):Prop:=b.1.length<=1048576/\(b.2.1.length<=1048576/\ ∀t∈b.2.1,q2e t)/\b.2.2.1.length<=1048576/\ ∀t∈b.2.2.1,q2e t
theorem smallB.few {b:u0j} (h:smallB b):fewB b:=⟨by have:=h.1;omega,⟨by have:=h.2.1.1;omega,h.2.1.2⟩,⟨by have:=h.2.2.1;omega,h.2.2.2⟩⟩
theorem p7z {b:u0j} {t:u0i} (h:smallB b) (ht:q2e t):fewB (t0m b t):=by
 have hd:q2e (p28 b t):=ht;refine⟨?_,⟨?_,fun x hx=> ?_⟩,⟨?_,fun x hx=> ?_⟩⟩
 .have e:(t0m b t).1.length=b.1.length+t.2.2.2.2.2.1.length:=s56 _ _ _;have:=h.1;have:=ht.2;omega
 .have e:(t0m b t).2.1.length=b.2.1.length+1:=by simp[t0m]
  have:=h.2.1.1;omega
 .have hx:x∈b.2.1++ [p28 b t] :=hx;rcases Ay.mp hx with q | q
  .exact h.2.1.2 x q
  .simp only[Ax] at q;subst q;exact hd
 .have e:(t0m b t).2.2.1.length<=b.2.2.1.length:=by
   simp only[t0m,Da];exact t3q _ _
  have:=h.2.2.1;omega
 .have hx:x∈(b.2.2.1.filter fun x=> !decide (x.1=t.1)).map (p7k (p28 b t)):=hx;obtain⟨y,hy,rfl⟩:=Bx.mp hx;exact h.2.2.2 y (A6.mp hy).1
theorem j3x {b:u0j} {t:u0i} (h:smallB b) (ht:q2e t):fewB (q6x b t):=p7z h ht
def r49 (b:u0j):Bool:=decide ((b.2.1.length:Int)>=12) || (decide ((b.1.length:Int) >100) || decide (b.2.2.2.1>=9999))
theorem o2r (b:u0j):s5h b=some (r49 b):=by
 rw[o5y];unfold q82 r49;cases decide ((b.2.1.length:Int)>=12)<;>cases decide ((b.1.length:Int) >100)<;>rfl
theorem j97 (b:u0j):p04 b=some (r49 b):=by
 rw[j45];unfold o0o r49;cases decide ((b.2.1.length:Int)>=12)<;>cases decide ((b.1.length:Int) >100)<;>rfl
theorem p6b (b:u0j) {n:Hs} {i:Nat} (hi:i<b.2.2.1.length) (hn:b.2.2.1[i].2.2.2.2.2.2.2=n):∃k:Nat,k<b.2.2.1.length/\u0o b n=(k:Int):=by
 have h:u0y (fun x:u0i=>z7n x.2.2.2.2.2.2.2 n) b.2.2.1<b.2.2.1.length:=by
  rcases B8 (u0y (fun x:u0i=>z7n x.2.2.2.2.2.2.2 n) b.2.2.1) b.2.2.1.length with q | q
  .exact q
  .have:=t32 (p:=fun x:u0i=>z7n x.2.2.2.2.2.2.2 n) hi (by omega);rw[y7b.mpr hn] at this;cases this
 exact⟨_,h,Al h⟩
def u14 (n i:Int):Int:=if i<n then n else i+1
def s8e (b:u0j) (t:u0i):u0i:=(t.1,(3:Int),t.2.2.1,b.2.2.2.1+1,t.2.2.2.2.1,t.2.2.2.2.2.1,(t.2.2.2.2.2.2.1 || p59 t b.2.1),(⟨#[]⟩:Hs))
def u1v (b:u0j) (t:u0i):u0j:=
 (s1d b.1 t.2.2.2.2.2.1 (b.2.2.2.1+1),b.2.1++ [s8e b t],(b.2.2.1.filter fun x=> !decide (x.1=t.1)).map (p7k (s8e b t)),b.2.2.2.1+1,u14 b.2.2.2.2 t.1)
def u6r (b:u0j) (t:u0i) (n:Hs):u0i:=(t.1,(2:Int),t.2.2.1,t.2.2.2.1,t.2.2.2.2.1,t.2.2.2.2.2.1,(t.2.2.2.2.2.2.1 || p59 t b.2.1),n)
def u2y (b:u0j) (t:u0i) (n:Hs):u0j:=
 (b.1,b.2.1,(b.2.2.1.filter fun x=>y3b x.2.2.2.2.2.2.2 n)++ [u6r b t n] ++(b.2.2.1.filter fun x=> !y3b x.2.2.2.2.2.2.2 n),b.2.2.2.1,u14 b.2.2.2.2 t.1)
def s1c (b:u0j) (n:Hs):u0j:=(b.1,b.2.1,(b.2.2.1.filter fun x=> !z7n x.2.2.2.2.2.2.2 n),b.2.2.2.1,b.2.2.2.2)
def j80 (n:Int):Prop:= -1000000<=n/\n<=1000000
theorem s3o {n:Int} (h:j80 n):i64.wrap (n+1)=n+1:=by
 obtain⟨h1,h2⟩:=h;rw[y4x (by omega) (by omega)]
theorem o3p {b:u0j} {t:u0i} (hc:j80 b.2.2.2.1) (hi:j80 t.1):t0m b t=u1v b t:=by
 have e:p28 b t=s8e b t:=by unfold p28 s8e;rw[s3o hc]
 unfold t0m u1v;rw[e,s3o hc,s3o hi];unfold y8d u14;congr 4;by_cases h:t.1<b.2.2.2.2
 .rw[Al h,Ao (by omega)]
 .rw[Ao h,Al (by omega)]
theorem o3q {b:u0j} {t:u0i} (hc:j80 b.2.2.2.1) (hi:j80 t.1):q6x b t=u1v b t:=by
 unfold q6x;rw[o3p hc hi,s3o hi];unfold u1v u14;congr 4;by_cases h:t.1<b.2.2.2.2
 .rw[Al h,Ao (by omega)]
 .rw[Ao h,Al (by omega)]
def uq (l:Hu u0i):Prop:=l.Pairwise fun a b=>a.1≠b.1
theorem o7o {l:Hu u0i} :(u51 l).Nodup↔uq l:=by
 unfold u51 uq;rw[D8,Dl]
theorem c5g {a b:Hu u0i} :uq (a++b)↔uq a/\uq b/\ ∀x∈a,∀y∈b,x.1≠y.1:=Cg
theorem o3s {l:Hu u0i} (h:uq l) (p:u0i->Bool):uq (l.filter p):=Dz p h
theorem d8c {l:Hu u0i} (f:u0i->u0i) (hf:∀x,(f x).1=x.1) (h:uq l):uq (l.map f):=by
 unfold uq;rw[Dl];simp only[hf];exact h
theorem d35 {t:u0i} :uq [t] :=Eu _ _
theorem d8d {l:Hu u0i} :uq l-> ∀x∈l,∀y∈l,x.1=y.1->x=y:=by
 induction l with
 | nil=>intro _ x hx;cases hx | cons z l ih=>
  intro h x hx y hy e;have h' :=Ch.mp h;rcases A8.mp hx with rfl | hx' <;>rcases A8.mp hy with rfl | hy'
  .rfl
  .exact absurd e (h'.1 y hy')
  .exact absurd e.symm (h'.1 x hx')
  .exact ih h'.2 x hx' y hy' e
theorem s9f {l:Hu u0i} {n:Int} :(∀x∈u51 l,x<n)↔ ∀t∈l,t.1<n:=by
 unfold u51;constructor
 .exact fun h t ht=>h _ (Bx.mpr ⟨t,ht,rfl⟩)
 .intro h x hx;obtain⟨t,ht,rfl⟩:=Bx.mp hx;exact h t ht
theorem d7v {d x:u0i} (h:TxnR x) (hs:x.2.1=2):TxnR (p7k d x):=
 ⟨h.id,h.st,h.snap,h.rlen,h.ws,h.rs,h.done,h.nocs,h.name,h.noname,fun e=>by have e:x.2.1=1:=e;omega⟩
theorem j44 {b:u0j} {t:u0i} (ht:TxnR t) (hs:t.2.2.1<=b.2.2.2.1) (hc:b.2.2.2.1<9999):TxnR (s8e b t):=
 ⟨ht.id,⟨by show(1:Int)<=3;omega,by show(3:Int)<=3;omega⟩,ht.snap,ht.rlen,ht.ws,ht.rs,fun _=>⟨by show t.2.2.1+1<=b.2.2.2.1+1;omega,by show b.2.2.2.1+1<=9999;omega⟩,
   fun e=>absurd rfl e,fun e=>by have e:(3:Int)=2:=e;omega,fun _=>rfl,fun e=>by have e:(3:Int)=1:=e;omega⟩
theorem j0h {b:u0j} {t:u0i} {n:Hs} (ht:TxnR t) (hs:t.2.1≠3) (hn:u7u n=true):TxnR (u6r b t n):=
 ⟨ht.id,⟨by show(1:Int)<=2;omega,by show(2:Int)<=3;omega⟩,ht.snap,ht.rlen,ht.ws,ht.rs,fun e=>by have e:(2:Int)=3:=e;omega,
   fun _=>ht.nocs hs,fun _=>hn,fun e=>absurd rfl e,fun e=>by have e:(2:Int)=1:=e;omega⟩
theorem d3b {w:WrT} {c:Int} (h:u3i w=true) (h1:1<=c) (h2:c<=9999):q51 (w.1,w.2.1,w.2.2,c)=true:=by
 unfold u3i at h;unfold q51;simp only[Ai,p52] at h ⊢;exact⟨h.1,h.2.1,h.2.2,h1,h2⟩
theorem d2t {l:Hu u17} {ws:Hu WrT} {c:Int} (hl:u59 l=true) (hv:∀v∈l,v.2.2.2<=c) (hw:u5b ws=true) (h0:0<=c) (h9:c<9999) (hn:l.length<=112):
 u59 (s1d l ws (c+1))=true/\ ∀v∈s1d l ws (c+1),v.2.2.2<=c+1:=by
 obtain⟨h1,h2,h3⟩:=d1p.mp hl;obtain⟨w1,w2,w3⟩:=d37.mp hw;refine⟨d1p.mpr ⟨fun v h=> ?_,p36 ws h2 (j36 hw) fun x hx w _ q=>by have:=hv x hx;have:vCs x=c+1:=q.2;unfold vCs at this;omega,by rw[s56];omega⟩,fun v h=> ?_⟩
 .rcases(s2t ws l (c+1)).mp h with h | ⟨w,hw,rfl⟩
  .exact h1 v h
  .exact d3b (w1 w hw) (by omega) (by omega)
 .rcases(s2t ws l (c+1)).mp h with h | ⟨w,hw,rfl⟩
  .have:=hv v h;omega
  .exact Bv _
theorem j26 {n i:Int} (h:i<n):u14 n i=n:=Al h
theorem s53 (n i:Int):n<=u14 n i/\i<u14 n i:=by unfold u14;split<;>omega
theorem j3y {b:u0j} {t:u0i} (hb:BaseR b) (ht:TxnR t) (hs:t.2.2.1<=b.2.2.2.1) (hc:b.2.2.2.1<9999) (hp:b.2.1.length<12) (hv:b.1.length<=112)
 (hid:∀x∈b.2.1,x.1≠t.1) (hn:t.1<9999):BaseR (u1v b t):=by
 have c0:=hb.cs.1;obtain⟨v1,v2⟩:=d2t hb.vs hb.vcs ht.ws c0 hc hv;have hu:=o7o.mp hb.nodup;have hbl:=s9f.mp hb.below;obtain⟨u1,u2,u3⟩:=c5g.mp hu;have hg:=s53 b.2.2.2.2 t.1;have hnx:u14 b.2.2.2.2 t.1<=9999:=by have:=hb.next.2;unfold u14;split<;>omega
 refine⟨v1,v2,⟨by show 0<=b.2.2.2.1+1;omega,by show b.2.2.2.1+1<=9999;omega⟩,⟨by show 1<=u14 b.2.2.2.2 t.1;have:=hb.next.1;omega,hnx⟩,?_,?_,?_,?_,?_,?_,?_,?_⟩
 .show(b.2.1++ [s8e b t]).length<=12;simp only[Ba,Aw];omega
 .intro x hx;rcases Ay.mp hx with hx | hx
  .obtain⟨q1,q2,q3⟩:=hb.past x hx;exact⟨q1,q2,by show x.2.2.2.1<=b.2.2.2.1+1;omega⟩
  .rw[Ax] at hx;subst hx;exact⟨j44 ht hs hc,rfl,Bv _⟩
 .show(b.2.1++ [s8e b t]).Pairwise _;rw[Cg];refine⟨hb.pasc,Eu _ _,fun x hx y hy=> ?_⟩;rw[Ax] at hy;subst hy;have:=(hb.past x hx).2.2;show x.2.2.2.1<b.2.2.2.1+1;omega
 .show((b.2.2.1.filter _).map _).length<=3;rw[Da];exact A9 (Cs _ _) hb.rlen
 .intro x hx;obtain⟨y,hy,rfl⟩:=Bx.mp hx;obtain⟨q1,q2,q3⟩:=hb.ready y (A6.mp hy).1;exact⟨d7v q1 q2,q2,by show y.2.2.1<=b.2.2.2.1+1;omega⟩
 .show((b.2.2.1.filter _).map _).Pairwise _;rw[Dl];exact(Dz _ hb.rasc)
 .rw[s9f];intro x hx;show x.1<u14 b.2.2.2.2 t.1;rcases Ay.mp hx with hx | hx
  .rcases Ay.mp hx with hx | hx
   .have:=hbl x (Bf _ hx);omega
   .rw[Ax] at hx;subst hx;exact hg.2
  .obtain⟨y,hy,rfl⟩:=Bx.mp hx;have:=hbl y (Az _ (A6.mp hy).1);show y.1<_;omega
 .rw[o7o];refine c5g.mpr ⟨c5g.mpr ⟨u1,d35,fun x hx y hy=> ?_⟩,d8c _ (fun _=>rfl) (o3s u2 _),fun x hx y hy=> ?_⟩
  .rw[Ax] at hy;subst hy;exact hid x hx
  .obtain⟨z,hz,rfl⟩:=Bx.mp hy;obtain⟨z1,z2⟩:=A6.mp hz;show x.1≠z.1;rcases Ay.mp hx with hx | hx
   .exact u3 x hx z z1
   .rw[Ax] at hx;subst hx;intro e;simp only[Bj,Bu] at z2;exact z2 e.symm
theorem s5j {b:u0j} (hb:BaseR b) (o:Hu u0i):BaseR (u4k b o):=by
 obtain⟨h1,h2,h3⟩:=d1p.mp hb.vs;have sv:=t2o b.1 (s3u b o);have sp:(b.2.1.filter fun x=> !decide (x.2.2.2.1<=s3u b o)).Sublist b.2.1:=Fg;have si:((b.2.1.filter fun x=> !decide (x.2.2.2.1<=s3u b o))++b.2.2.1).Sublist (b.2.1++b.2.2.1):=sp.append (Dm _)
 refine⟨d1p.mpr ⟨fun v h=>h1 v (sv.subset h),h2.sublist sv,A9 sv.length_le h3⟩,fun v h=>hb.vcs v (sv.subset h),hb.cs,hb.next,A9 sp.length_le hb.plen,
  fun t h=>hb.past t (sp.subset h),hb.pasc.sublist sp,hb.rlen,hb.ready,hb.rasc,?_,?_⟩
 .rw[s9f];intro x hx;exact s9f.mp hb.below x (si.subset hx)
 .rw[o7o];exact Ez si (o7o.mp hb.nodup)
theorem p0z {b:u0j} {t:u0i} {n:Hs} (hb:BaseR b) (ht:TxnR t) (h3:t.2.1≠3) (hs:t.2.2.1<=b.2.2.2.1) (hk:u7u n=true) (hl:b.2.2.1.length<3)
 (hn:∀x∈b.2.2.1,x.2.2.2.2.2.2.2≠n) (hid:∀x∈b.2.1++b.2.2.1,x.1≠t.1) (h9:t.1<9999):BaseR (u2y b t n):=by
 have hu:=o7o.mp hb.nodup;have hbl:=s9f.mp hb.below;obtain⟨u1,u2,u3⟩:=c5g.mp hu;have hg:=s53 b.2.2.2.2 t.1;have hnx:u14 b.2.2.2.2 t.1<=9999:=by have:=hb.next.2;unfold u14;split<;>omega
 have mem:∀ {x:u0i},x∈(b.2.2.1.filter fun x=>y3b x.2.2.2.2.2.2.2 n)++ [u6r b t n] ++(b.2.2.1.filter fun x=> !y3b x.2.2.2.2.2.2.2 n)->x∈b.2.2.1\/x=u6r b t n:=fun {x} hx=>by
  rcases Ay.mp hx with hx | hx
  .rcases Ay.mp hx with hx | hx
   .exact .inl (A6.mp hx).1
   .rw[Ax] at hx;exact .inr hx
  .exact .inl (A6.mp hx).1
 have len:∀(l:Hu u0i) (p:u0i->Bool),(l.filter p).length+(l.filter fun x=> !p x).length=l.length:=fun l p=>by
  induction l with
  | nil=>rfl | cons x l ih=>cases hp:p x<;>simp[Di,hp] <;>omega
 refine⟨hb.vs,hb.vcs,hb.cs,⟨by show 1<=u14 b.2.2.2.2 t.1;have:=hb.next.1;omega,hnx⟩,hb.plen,hb.past,hb.pasc,?_,?_,?_,?_,?_⟩
 .show((b.2.2.1.filter fun x=>y3b x.2.2.2.2.2.2.2 n)++ [u6r b t n] ++(b.2.2.1.filter fun x=> !y3b x.2.2.2.2.2.2.2 n)).length<=3;have:=len b.2.2.1 fun x=>y3b x.2.2.2.2.2.2.2 n
  simp only[Ba,Aw];omega
 .intro x hx;rcases mem hx with hx | rfl
  .exact hb.ready x hx
  .exact⟨j0h ht h3 hk,rfl,hs⟩
 .show((b.2.2.1.filter fun x=>y3b x.2.2.2.2.2.2.2 n)++ [u6r b t n] ++(b.2.2.1.filter fun x=> !y3b x.2.2.2.2.2.2.2 n)).Pairwise _;have up:∀y∈b.2.2.1,(!y3b y.2.2.2.2.2.2.2 n)=true->y3b n y.2.2.2.2.2.2.2=true:=fun y hy h=>by
   rcases p08 y.2.2.2.2.2.2.2 n with c | c | c
   .rw[c] at h;cases h
   .exact absurd c (hn y hy)
   .exact c
  rw[Bi,Cg];refine⟨Dz _ hb.rasc,?_,?_⟩
  .rw[Fs,Ch];refine⟨fun y hy=> ?_,Dz _ hb.rasc⟩;obtain⟨y1,y2⟩:=A6.mp hy;exact up y y1 y2
  .intro x hx y hy;obtain⟨x1,x2⟩:=A6.mp hx;rcases Ay.mp hy with hy | hy
   .rw[Ax] at hy;subst hy;exact x2
   .obtain⟨y1,y2⟩:=A6.mp hy;exact p4c x2 (up y y1 y2)
 .rw[s9f];intro x hx;show x.1<u14 b.2.2.2.2 t.1;rcases Ay.mp hx with hx | hx
  .have:=hbl x (Bf _ hx);omega
  .rcases mem hx with hx | rfl
   .have:=hbl x (Az _ hx);omega
   .exact hg.2
 .rw[o7o];refine c5g.mpr ⟨u1,?_,fun x hx y hy=> ?_⟩
  .show uq ((b.2.2.1.filter fun x=>y3b x.2.2.2.2.2.2.2 n)++ [u6r b t n] ++(b.2.2.1.filter fun x=> !y3b x.2.2.2.2.2.2.2 n));rw[Bi];refine c5g.mpr ⟨o3s u2 _,?_,fun x hx y hy=> ?_⟩
   .rw[Fs];refine Ch.mpr ⟨fun y hy=> ?_,o3s u2 _⟩;exact(hid y (Az _ (A6.mp hy).1)).symm
   .obtain⟨x1,x2⟩:=A6.mp hx;rcases Ay.mp hy with hy | hy
    .rw[Ax] at hy;subst hy;exact hid x (Az _ x1)
    .obtain⟨y1,y2⟩:=A6.mp hy;intro e;have:=d8d u2 x x1 y y1 e;subst this;rw[x2] at y2;cases y2
  .rcases mem hy with hy | rfl
   .exact u3 x hx y hy
   .exact hid x (Bf _ hx)
theorem o2s {b:u0j} (hb:BaseR b) (n:Hs):BaseR (s1c b n):=by
 have sp:(b.2.2.1.filter fun x=> !z7n x.2.2.2.2.2.2.2 n).Sublist b.2.2.1:=Fg;have si:(b.2.1++(b.2.2.1.filter fun x=> !z7n x.2.2.2.2.2.2.2 n)).Sublist (b.2.1++b.2.2.1):=(Dm _).append sp;refine⟨hb.vs,hb.vcs,hb.cs,hb.next,hb.plen,hb.past,hb.pasc,A9 sp.length_le hb.rlen,fun t h=>hb.ready t (sp.subset h),hb.rasc.sublist sp,?_,?_⟩
 .rw[s9f];intro x hx;exact s9f.mp hb.below x (si.subset hx)
 .rw[o7o];exact Ez si (o7o.mp hb.nodup)
def d9u (id snap:Int):u0i:=(id,(1:Int),snap,(0:Int), [], [],false,(⟨#[]⟩:Hs))
def d3u (e:u21):u21:=((e.1.1,e.1.2.1,e.1.2.2.1,e.1.2.2.2.1,e.1.2.2.2.2+1),e.2++ [d9u e.1.2.2.2.2 e.1.2.2.2.1])
def j5o (e:u21) (k:Nat) (t:u0i):u21:=(e.1,e.2.set k t)
def q5v (e:u21) (id:Int):Hu u0i:=e.2.filter fun x=> !decide (x.1=id)
def leaveE (e:u21) (id:Int):u21:=(u4k e.1 (q5v e id),q5v e id)
def p5a (e:u21) (t:u0i):u21:=(u4k (u1v e.1 t) (q5v e t.1),q5v e t.1)
def d0t (e:u21) (t:u0i) (n:Hs):u21:=(u4k (u2y e.1 t n) (q5v e t.1),q5v e t.1)
def d9w (e:u21) (t:u0i):u21:=(u4k (u1v e.1 t) e.2,e.2)
def noE (e:u21) (n:Hs):u21:=(u4k (s1c e.1 n) e.2,e.2)
theorem EngR.uq {e:u21} (h:EngR e):uq (e.1.2.1++e.1.2.2.1++e.2):=o7o.mp h.nodup
theorem EngR.bel {e:u21} (h:EngR e):∀t∈e.1.2.1++e.1.2.2.1++e.2,t.1<e.1.2.2.2.2:=s9f.mp h.below
theorem EngR.apart {e:u21} (h:EngR e):∀x∈e.1.2.1++e.1.2.2.1,∀y∈e.2,x.1≠y.1:=(c5g.mp h.uq).2.2
theorem EngR.uqo {e:u21} (h:EngR e):Ab.uq e.2:=(c5g.mp h.uq).2.1
theorem j25 {e:u21} {b:u0j} {o:Hu u0i} (h:EngR e) (hb:BaseR b) (ho:o.Sublist e.2) (hc:e.1.2.2.2.1<=b.2.2.2.1) (hn:e.1.2.2.2.2<=b.2.2.2.2) (hu:∀x∈b.2.1++b.2.2.1,∀y∈o,x.1≠y.1):EngR (b,o):=by
 refine⟨hb,A9 ho.length_le h.olen,fun t ht=> ?_,h.oasc.sublist ho,?_,?_⟩
 .obtain⟨q1,q2,q3⟩:=h.open_ t (ho.subset ht);exact⟨q1,q2,by show t.2.2.1<=b.2.2.2.1;omega⟩
 .rw[s9f];intro x hx;rcases Ay.mp hx with hx | hx
  .exact s9f.mp hb.below x hx
  .have:=h.bel x (Az _ (ho.subset hx));show x.1<b.2.2.2.2;omega
 .rw[o7o];exact c5g.mpr ⟨o7o.mp hb.nodup,Ez ho h.uqo,hu⟩
theorem r6a {b:u0j} {o:Hu u0i} {x:u0i} (h:x∈(u4k b o).2.1++(u4k b o).2.2.1):x∈b.2.1++b.2.2.1:=by
 rcases Ay.mp h with h | h
 .exact Bf _ (A6.mp h).1
 .exact Az _ h
theorem r8d (e:u21) (id:Int):(q5v e id).Sublist e.2:=Fg
theorem d0z {e:u21} {id:Int} {x:u0i} (h:x∈q5v e id):x.1≠id:=by
 have:=(A6.mp h).2;simpa using this
theorem d47 {e:u21} (h:EngR e) (hl:e.2.length<4) (hn:e.1.2.2.2.2<9999):EngR (d3u e):=by
 have hb:=h.base;have n1:=hb.next.1
 have hT:TxnR (d9u e.1.2.2.2.2 e.1.2.2.2.1):=
  ⟨⟨n1,by show e.1.2.2.2.2<=9999;omega⟩,⟨by show(1:Int)<=1;omega,by show(1:Int)<=3;omega⟩,hb.cs,Cn _,rfl,fun r hr=>(by cases hr),fun e=>by have e:(1:Int)=3:=e;omega,fun _=>rfl,fun e=>by have e:(1:Int)=2:=e;omega,fun _=>rfl,fun _=>rfl⟩
 have hbel:=h.bel;refine⟨⟨hb.vs,hb.vcs,hb.cs,⟨by show 1<=e.1.2.2.2.2+1;omega,by show e.1.2.2.2.2+1<=9999;omega⟩,hb.plen,hb.past,hb.pasc,hb.rlen,hb.ready,hb.rasc,?_,hb.nodup⟩,?_,?_,?_,?_,?_⟩
 .rw[s9f];intro x hx;have:=hbel x (Bf _ hx);show x.1<e.1.2.2.2.2+1;omega
 .show(e.2++ [_]).length<=4;simp only[Ba,Aw];omega
 .intro t ht;rcases Ay.mp ht with ht | ht
  .exact h.open_ t ht
  .rw[Ax] at ht;subst ht;exact⟨hT,rfl,Bv _⟩
 .show(e.2++ [_]).Pairwise _;rw[Cg];refine⟨h.oasc,Eu _ _,fun x hx y hy=> ?_⟩;rw[Ax] at hy;subst hy;exact hbel x (Az _ hx)
 .rw[s9f];intro x hx;show x.1<e.1.2.2.2.2+1;have hx:x∈e.1.2.1++e.1.2.2.1++(e.2++ [d9u e.1.2.2.2.2 e.1.2.2.2.1]):=hx;rw[←Bi] at hx;rcases Ay.mp hx with hx | hx
  .have:=hbel x hx;omega
  .rw[Ax] at hx;subst hx;show e.1.2.2.2.2<_;omega
 .rw[o7o];show uq (e.1.2.1++e.1.2.2.1++(e.2++ [d9u e.1.2.2.2.2 e.1.2.2.2.1]));rw[←Bi];refine c5g.mpr ⟨h.uq,d35,fun x hx y hy=> ?_⟩;rw[Ax] at hy;subst hy;have:=hbel x hx;show x.1≠e.1.2.2.2.2;omega
theorem j22 {α β:Type} (f:α->β) (l:Hu α) (k:Nat) (a:α) (h:k<l.length) (ha:f a=f l[k]):(l.set k a).map f=l.map f:=by
 apply Gw (by simp);intro i h1 h2;simp only[F6,List.getElem_set];split
 .rename_i e;subst e;exact ha
 .rfl
theorem j0k {α:Type} {l:Hu α} {k:Nat} {a x:α} (h:x∈l.set k a):x∈l\/x=a:=E0 h
theorem j3r {e:u21} (h:EngR e) {k:Nat} (hk:k<e.2.length) {t:u0i} (ht:TxnR t) (h1:t.1=e.2[k].1) (h2:t.2.1=1) (h3:t.2.2.1=e.2[k].2.2.1):EngR (j5o e k t):=by
 have hm:u51 (e.2.set k t)=u51 e.2:=j22 _ _ _ _ hk h1;have hid:u51 (e.1.2.1++e.1.2.2.1++e.2.set k t)=u51 (e.1.2.1++e.1.2.2.1++e.2):=by
  have:∀a b:Hu u0i,u51 (a++b)=u51 a++u51 b:=fun a b=>by simp[u51]
  rw[this,hm,←this]
 refine⟨h.base,by show(e.2.set k t).length<=4;rw[Dq];exact h.olen,fun x hx=> ?_,?_,?_,?_⟩
 .rcases j0k hx with hx | rfl
  .exact h.open_ x hx
  .have:=(h.open_ _ (Ag hk)).2.2;exact⟨ht,h2,by rw[h3];exact this⟩
 .have q:(u51 (e.2.set k t)).Pairwise fun a b=>a<b:=by
   rw[hm];unfold u51;rw[Dl];exact h.oasc
  unfold u51 at q;rw[Dl] at q;exact q
 .show ∀x∈u51 (e.1.2.1++e.1.2.2.1++e.2.set k t),x<e.1.2.2.2.2;rw[hid];exact h.below
 .show(u51 (e.1.2.1++e.1.2.2.1++e.2.set k t)).Nodup;rw[hid];exact h.nodup
theorem p55 {e:u21} (h:EngR e) (id:Int):EngR (leaveE e id):=
 j25 h (s5j h.base _) (r8d e id) (Bv _) (Bv _) fun x hx y hy=>h.apart x (r6a hx) y ((r8d e id).subset hy)
theorem p3y {b:u0j} (h:r49 b=false):b.2.1.length<12/\b.1.length<=100/\b.2.2.2.1<9999:=by
 unfold r49 at h;simp only[Es,Bu] at h;obtain⟨h1,h2,h3⟩:=h;exact⟨by omega,by omega,by omega⟩
theorem q6w {e:u21} (h:EngR e) {t:u0i} (ht:t∈e.2\/t∈e.1.2.2.1) (hf:r49 e.1=false):BaseR (u1v e.1 t):=by
 obtain⟨f1,f2,f3⟩:=p3y hf;have hq:TxnR t/\t.2.2.1<=e.1.2.2.2.1:=by
  rcases ht with ht | ht
  .exact⟨(h.open_ t ht).1,(h.open_ t ht).2.2⟩
  .exact⟨(h.base.ready t ht).1,(h.base.ready t ht).2.2⟩
 have hlt:t.1<e.1.2.2.2.2:=by
  rcases ht with ht | ht
  .exact h.bel t (Az _ ht)
  .exact h.bel t (Bf _ (Az _ ht))
 refine j3y h.base hq.1 hq.2 f3 f1 (by omega) (fun x hx=> ?_) (by have:=h.base.next.2;omega);rcases ht with ht | ht
 .exact h.apart x (Bf _ hx) t ht
 .exact(c5g.mp (c5g.mp h.uq).1).2.2 x hx t ht
theorem o3r {b:u0j} {t x:u0i} (h:x∈(u1v b t).2.1++(u1v b t).2.2.1):x.1=t.1\/ ∃y∈b.2.1++b.2.2.1,y.1=x.1:=by
 rcases Ay.mp h with h | h
 .rcases Ay.mp h with h | h
  .exact .inr ⟨x,Bf _ h,rfl⟩
  .rw[Ax] at h;subst h;exact .inl rfl
 .obtain⟨y,hy,rfl⟩:=Bx.mp h;exact .inr ⟨y,Az _ (A6.mp hy).1,rfl⟩
theorem j6b {e:u21} (h:EngR e) {t:u0i} (ht:t∈e.2) (hf:r49 e.1=false):EngR (p5a e t):=by
 have hg:=s53 e.1.2.2.2.2 t.1;refine j25 h (s5j (q6w h (.inl ht) hf) _) (r8d e t.1) (by show e.1.2.2.2.1<=e.1.2.2.2.1+1;omega) hg.1 fun x hx y hy=> ?_
 rcases o3r (r6a hx) with q | ⟨z,hz,q⟩
 .rw[q];exact(d0z hy).symm
 .rw[←q];exact h.apart z hz y ((r8d e t.1).subset hy)
theorem d8f {e:u21} (h:EngR e) {t:u0i} (ht:t∈e.1.2.2.1) (hf:r49 e.1=false):EngR (d9w e t):=by
 have hg:=s53 e.1.2.2.2.2 t.1;refine j25 h (s5j (q6w h (.inr ht) hf) _) (Dm _) (by show e.1.2.2.2.1<=e.1.2.2.2.1+1;omega) hg.1 fun x hx y hy=> ?_
 rcases o3r (r6a hx) with q | ⟨z,hz,q⟩
 .rw[q];exact h.apart t (Az _ ht) y hy
 .rw[←q];exact h.apart z hz y hy
theorem c5d {e:u21} (h:EngR e) (n:Hs):EngR (noE e n):=by
 refine j25 h (s5j (o2s h.base n) _) (Dm _) (Bv _) (Bv _) fun x hx y hy=> ?_
 rcases Ay.mp (r6a hx) with hx | hx
 .exact h.apart x (Bf _ hx) y hy
 .exact h.apart x (Az _ (A6.mp hx).1) y hy
theorem d32 {e:u21} (h:EngR e) {t:u0i} (ht:t∈e.2) {n:Hs} (hk:u7u n=true) (hl:e.1.2.2.1.length<3) (hn:∀x∈e.1.2.2.1,x.2.2.2.2.2.2.2≠n):EngR (d0t e t n):=by
 obtain⟨q1,q2,q3⟩:=h.open_ t ht;have hlt:=h.bel t (Az _ ht);have hg:=s53 e.1.2.2.2.2 t.1;have hb:BaseR (u2y e.1 t n):=p0z h.base q1 (by omega) q3 hk hl hn (fun x hx=>h.apart x hx t ht) (by have:=h.base.next.2;omega);refine j25 h (s5j hb _) (r8d e t.1) (Bv _) hg.1 fun x hx y hy=> ?_
 have hy' :=(r8d e t.1).subset hy;rcases Ay.mp (r6a hx) with hx | hx
 .exact h.apart x (Bf _ hx) y hy'
 .rcases Ay.mp hx with hx | hx
  .rcases Ay.mp hx with hx | hx
   .exact h.apart x (Az _ (A6.mp hx).1) y hy'
   .rw[Ax] at hx;subst hx;exact(d0z hy).symm
  .exact h.apart x (Az _ (A6.mp hx).1) y hy'
def d5b (x:u0i):Bool:=decide (x.2.1=2) || decide (x.2.1=3)
def j8y (t:u0i) (l:Hu u0i):Bool:=l.any fun x=>d5b x&&ahead x t
def o0u (t:u0i) (l:Hu u0i):Bool:=l.any fun x=> !decide (x.1=t.1)&&((decide (x.2.1=2) || (decide (x.2.1=3)&&decide (x.2.2.2.1 >t.2.2.1)))&&p00 x.2.2.2.2.2.1 t.2.2.2.2.2.1)
def o8m (f:u0i->Bool) (t:u0i) (l:Hu u0i):Bool:=
 (j8y t l&&p59 t l) || (l.any (fun x=>d5b x&&(x.2.2.2.2.2.2.1&&ahead t x)) ||
  l.any fun p=>decide (p.2.1=2)&&(ahead p t&&(ahead t p || l.any fun x=>decide (x.2.1=2)&&(f x&&ahead x p))))
def p7h (t:u0i) (l:Hu u0i):Bool:=o8m (fun x=> !decide (x.1=t.1)) t l
def p7v (f:u0i->Bool) (t:u0i) (l:Hu u0i):Bool:=
 o8m f t l || ((j8y t l&&l.any fun x=>decide (x.2.1=2)&&ahead t x) || l.any fun x=>(decide (x.2.1=2)&&ahead t x)&&l.any fun y=>decide (y.2.1=2)&&(!decide (y.1=t.1)&&ahead x y))
def r0k (t:u0i) (l:Hu u0i):Bool:=p7v (fun x=> !decide (x.1=t.1)) t l
structure SameC (x y:u0i):Prop where
 id:x.1=y.1
 st:x.2.1=y.2.1
 snap:x.2.2.1=y.2.2.1
 cs:x.2.2.2.1=y.2.2.2.1
 rs:x.2.2.2.2.1=y.2.2.2.2.1
 ws:x.2.2.2.2.2.1=y.2.2.2.2.2.1
structure Ser (H:Hu u0i) (e:u21):Prop where
 eng:EngR e
 st:∀x∈H,x.2.1=3
 snap:∀x∈H,x.2.2.1<x.2.2.2.1/\x.2.2.2.1<=e.1.2.2.2.1
 asc:H.Pairwise fun x y=>x.2.2.2.1<y.2.2.2.1
 uqh:uq (H++(e.1.2.2.1++e.2))
 bel:∀x∈H,x.1<e.1.2.2.2.2
 pin:∀x∈e.1.2.1,∃y∈H,SameC x y
 cov:∀y∈H,∀o∈e.2,o.2.2.1<y.2.2.2.1-> ∃x∈e.1.2.1,SameC x y
 outp:∀x∈e.1.2.1,∀y∈H,ahead x y=true->y.2.2.2.1<x.2.2.2.1->x.2.2.2.2.2.2.1=true
 outr:∀p∈e.1.2.2.1,∀y∈H,ahead p y=true->p.2.2.2.2.2.2.1=true
 no3:∀x∈H,∀y∈H,∀z∈H,ahead x y=true->ahead y z=true->z.2.2.2.1<y.2.2.2.1->z.2.2.2.1<=x.2.2.2.1->False
 noA:∀x∈H,∀p∈e.1.2.2.1,∀z∈H,ahead x p=true->ahead p z=true->z.2.2.2.1<=x.2.2.2.1->False
 noB:∀p∈e.1.2.2.1,∀y∈H,∀z∈H,ahead p y=true->ahead y z=true->z.2.2.2.1<y.2.2.2.1->False
 noD:∀p∈e.1.2.2.1,∀q∈e.1.2.2.1,∀z∈H,ahead p q=true->ahead q z=true->False
 noE:∀p∈e.1.2.2.1,∀q∈e.1.2.2.1,∀r∈e.1.2.2.1,ahead p q=true->ahead q r=true->False
 ww:∀x∈H,∀y∈H,x.2.2.2.1<y.2.2.2.1->p00 x.2.2.2.2.2.1 y.2.2.2.2.2.1=true->x.2.2.2.1<=y.2.2.1
 wr:∀p∈e.1.2.2.1,∀y∈H,p00 y.2.2.2.2.2.1 p.2.2.2.2.2.1=true->y.2.2.2.1<=p.2.2.1
 rr:∀p∈e.1.2.2.1,∀q∈e.1.2.2.1,p.1≠q.1->p00 p.2.2.2.2.2.1 q.2.2.2.2.2.1=true->False
def d5q (c:Int) (t:u0i):u0i:=(t.1,(3:Int),t.2.2.1,c,t.2.2.2.2.1,t.2.2.2.2.2.1,t.2.2.2.2.2.2.1,(⟨#[]⟩:Hs))
structure Passed (t:u0i) (P R:Hu u0i):Prop where
 nb:∀x∈P++R,x.1≠t.1->(x.2.1=2\/(x.2.1=3/\x.2.2.2.1 >t.2.2.1))->p00 x.2.2.2.2.2.1 t.2.2.2.2.2.1=true->False
 d1:∀x∈P++R,∀y∈P,ahead x t=true->ahead t y=true->False
 d2:∀x∈P++R,x.2.2.2.2.2.2.1=true->ahead t x=true->False
 d3:∀p∈R,ahead p t=true->ahead t p=true->False
 d4:∀p∈R,∀x∈R,ahead p t=true->ahead x p=true->x.1≠t.1->False
section
variable {l:Hu u0v.den} (hl:o63 l) {u:Hu Nat} (ho:o96 l=some u)
include hl
include ho
def pre (l:Hu u0v.den) (u:Hu Nat) (a:Nat):Hu u0v.den:=(u.take a).map fun i=>rdL u0v l i
end
structure PassedR (t:u0i) (P R:Hu u0i):Prop extends Passed t P R where
 e1:∀x∈P++R,∀y∈R,ahead x t=true->ahead t y=true->False
 e2:∀x∈R,∀y∈R,ahead t x=true->ahead x y=true->y.1≠t.1->False
theorem u3z (l:Hu Int):(y7c l).size=l.length:=by
 simp[y7c,ByteArray.size]
theorem j59 {s:Hs} {i:Nat} (h:i<s.size):s.data.toList.getD i 0=s.data.toList[i]'(by simpa using h):=by
 rw[A5,A4 (by simpa using h)];rfl
theorem d8b (n m:Nat):Int.tdiv (n:Int) (m:Int)=((n / m:Nat):Int):=(Int.ofNat_tdiv n m).symm
theorem j8j (n m:Nat):Int.tmod (n:Int) (m:Int)=((n % m:Nat):Int):=(Int.ofNat_tmod n m).symm
theorem d3c {n:Nat} (h:n<256):u8.wrap (n:Int)=(n:Int):=by
 simp[IntKind.wrap,IntKind.bits,IntKind.signed];omega
abbrev u0k:=Hu Hs×Hu (Int×Hs)
theorem j91:(⟨#[]⟩:Hs)=emp:=rfl
def q2f (a b c:Int):Bool:=decide (b<=a)&&decide (a<=c)
theorem s6j (a b c:Int):u1c (a,b,c)=some (q2f a b c):=by
 rw[p3h];unfold p13 q2f;simp only[ge_iff_le];cases decide (b<=a)<;>rfl
theorem s40 (a b c:Int):u0t (a,b,c)=some (q2f a b c):=by
 rw[q4i];unfold q32 q2f;simp only[ge_iff_le];cases decide (b<=a)<;>rfl
theorem s2s {d:u0k} :d.1.length<=c08.wt d:=by simp only[Ty.wt];omega
theorem s5s {d:u0k} :d.2.length<=c08.wt d:=by simp only[Ty.wt];omega
theorem d21 {d:u0k} {s:Hs} (h:s∈d.1):s.size<=c08.wt d:=by
 have h1:c08.wt d=(d.1.length+(d.1.map Ty.str.wt).sum)+(d.2.length+(d.2.map j4b.wt).sum):=rfl;have h2:=o7t (f:=Ty.str.wt) h;have h3:Ty.str.wt s=s.size:=rfl;omega
theorem d2v {d:u0k} {p:Int×Hs} (h:p∈d.2):p.2.size<=c08.wt d:=by
 have h1:c08.wt d=(d.1.length+(d.1.map Ty.str.wt).sum)+(d.2.length+(d.2.map j4b.wt).sum):=rfl;have h2:=o7t (f:=j4b.wt) h;have h3:j4b.wt p=0+p.2.size:=rfl;omega
def t4d (c:Hu (Int×Hs)) (at_:Int):Ht Hs:=c.foldl (fun t p=>if p.1=at_ then some p.2 else t) none
def u0l (d:u0k) (at_:Int):Hs×Bool:=if 0<=at_/\at_<d.1.length then((t4d d.2 at_).getD (rdL Ty.str d.1 at_.toNat),true) else(emp,false)
theorem q5d (c:Hu (Int×Hs)) (p:Int×Hs) (at_:Int):t4d (c++ [p]) at_=if p.1=at_ then some p.2 else t4d c at_:=by
 simp[t4d,List.foldl_append]
theorem p0y {c:Hu (Int×Hs)} {at_:Int} {s:Hs} (h:t4d c at_=some s):∃p∈c,p.2=s:=by
 have key:∀(c:Hu (Int×Hs)) (z:Ht Hs),c.foldl (fun t p=>if p.1=at_ then some p.2 else t) z=some s->z=some s\/ ∃p∈c,p.2=s:=by
  intro c
  induction c with
  | nil=>intro z h;exact .inl h | cons p c ih=>
   intro z h;rw[Bs] at h;rcases ih _ h with h | ⟨q,hq,h⟩
   .split at h
    .exact .inr ⟨p,by simp,by simpa using h⟩
    .exact .inl h
   .exact .inr ⟨q,by simp[hq],h⟩
 rcases key c none h with h | h
 .cases h
 .exact h
theorem q5q (d:u0k) (at_:Int):(u0l d at_).1.size<=c08.wt d:=by
 unfold u0l;split
 .rename_i h;cases hl:t4d d.2 at_ with
  | none=>
   simp only[Eo];have hi:at_.toNat<d.1.length:=by omega
   rw[y8f (t:=Ty.str) hi];exact d21 (Ag hi)
  | some s=>
   simp only[Eb];obtain⟨p,hp,rfl⟩:=p0y hl;exact d2v hp
 .show 0<=_;omega
theorem j7z (c:Hu (Int×Hs)) (at_:Int) (z:Hs):c.foldl (fun t p=>if p.1=at_ then p.2 else t) z=(t4d c at_).getD z:=by
 have key:∀(c:Hu (Int×Hs)) (o:Ht Hs) (z:Hs),c.foldl (fun t p=>if p.1=at_ then p.2 else t) (o.getD z)=(c.foldl (fun t p=>if p.1=at_ then some p.2 else t) o).getD z:=by
  intro c
  induction c with
  | nil=>intro o z;rfl | cons p c ih=>
   intro o z;simp only[Bs];by_cases h:p.1=at_
   .simp only[h,Bl];exact ih (some p.2) z
   .simp only[h,Bk];exact ih o z
 exact key c none z
theorem j6g (d:u0k) (at_:Int) (hd:d.1.length<=u0m):q2f at_ 0 (i64.wrap ((d.1.length:Int) - 1))=decide (0<=at_/\at_<d.1.length):=by
 unfold u0m at hd;rw[y4x (by omega) (by omega)];unfold q2f;by_cases h:0<=at_/\at_<d.1.length
 .rw[Bb h,Bb h.1,Bb (by omega)];rfl
 .rw[A7 h];by_cases h0:0<=at_
  .rw[Bb h0,A7 (by omega)];rfl
  .rw[A7 h0];rfl
theorem q2o (d:u0k) (at_:Int) (hd:c08.wt d<=u0m):t7u (d,at_)=some (u0l d at_):=by
 have h1:d.1.length<=u0m:=A9 s2s hd;have h2:d.2.length<=u0m:=A9 s5s hd;rw[p5g];unfold r4j;simp only[s6j,j6g d at_ h1,zOb];unfold u0l;unfold u0m at h1 h2;by_cases h:0<=at_/\at_<d.1.length
 .have hg:y4o at_ d.1.length=true:=by simp[y4o,h]
  have L:=u8m t12 d.2 (fun t i=>(at_,t,d.2,(d.2.length:Int),i)) (fun t p=>if p.1=at_ then p.2 else t) (fun t=> .inl t) (fun _ _=>True)
   (fun a _=>by rw[r0q];simp only[t1r,u0b,Am,Ah,Aa])
   (fun i hi a _=>⟨trivial,by
    rw[r0q];simp only[t1r,u0b,hi,Ae,Ad,y7p hi,zTn,y8f (t:=j4b) hi];rw[y7h (by omega)];by_cases hp:(d.2[i]).1=at_
    .simp only[hp,Ae,Ad,Bl]
    .simp only[hp,Ah,Aa,Bk]⟩) (rdL Ty.str d.1 at_.toNat) trivial
  simp only[h,and_self,Ae,Ap,Aa,hg,Ad,L,zOb,Bl,j7z]
 .simp only[h,Ah,Bh,Ad,Bk];rfl
theorem s82 (d:u0k) (at_:Int) (hd:c08.wt d<=u0m):u8i (d,at_)=some (u0l d at_):=by
 have h1:d.1.length<=u0m:=A9 s2s hd;have h2:d.2.length<=u0m:=A9 s5s hd;rw[p5r];unfold r4u;simp only[s40,j6g d at_ h1,zOb];unfold u0l;unfold u0m at h1 h2;by_cases h:0<=at_/\at_<d.1.length
 .have hg:y4o at_ d.1.length=true:=by simp[y4o,h]
  have L:∀n:Nat,n<=d.2.length->t15 (at_,d,(n:Int) - 1)=some (match t4d (d.2.take n) at_ with
   | some s=> .inr (s,true) | none=> .inl (at_,d)):=by
   intro n
   induction n with
   | zero=>
    intro _;rw[r0w];simp only[t1x];rfl
   | succ n ih=>
    intro hn;have hlt:n<d.2.length:=by omega
    rw[r0w];simp only[t1x];have e0:((n+1:Nat):Int) - 1=(n:Int):=by simp
    have e1:decide ((n:Int)>=0)=true:=by simp
    simp only[e0,e1,Ad,y7p hlt,zTn,y8f (t:=j4b) hlt];rw[B9 hlt,q5d];by_cases hp:(d.2[n]).1=at_
    .simp only[hp,Ae,Ad,Bl]
    .simp only[hp,Ah,Aa,Bk];rw[y4x (by omega) (by omega)];exact ih (by omega)
  have L:=L d.2.length (Au _);rw[Cq] at L;have wl:i64.wrap ((d.2.length:Int) - 1)=(d.2.length:Int) - 1:=y4x (by omega) (by omega);simp only[h,and_self,Ae,Ap,Aa,Bl];rw[wl,L];cases t4d d.2 at_ with
  | none=>simp only[zOb,hg,Ad,Eo] | some s=>rfl
 .simp only[h,Ah,Bh,Ad,Bk];rfl
def q68 (d:u0k) (from_:Int):Nat->Nat->Hs->Hs×Bool
 | 0,_,acc=>(acc,true) | m+1,i,acc=>if(u0l d (from_+(i:Int))).2 then q68 d from_ m (i+1) (acc++(u0l d (from_+(i:Int))).1) else(emp,false)
def u93 (d:u0k) (from_ n:Int):Hs×Bool:=if 0<=n/\n<=100 then q68 d from_ n.toNat 0 emp else(emp,false)
theorem u84 (s:Hs):(z7s s).length=s.size:=by simp[z7s]
theorem s1o (a b:Hs):z7s (a++b)=z7s a++z7s b:=by simp[z7s,Ft]
theorem s1f (s:Hs):y7c (z7s s)=s:=by
 cases s with
 | mk d=>
  unfold y7c z7s;simp only[List.map_map];have:(d.toList.map ((fun n=>UInt8.ofNat n.toNat) ∘fun b=>(b.toNat:Int)))=d.toList:=by
   conv=>rhs;rw[←List.map_id d.toList]
   apply Ff;intro b _;simp
  rw[this]
theorem r3t {a b c:Int} :q2f a b c=decide (b<=a/\a<=c):=by
 unfold q2f;by_cases h:b<=a<;>by_cases g:a<=c<;>simp[h,g]
theorem o0e (d:u0k) (from_ n:Int) (hd:c08.wt d<=1073741824) (h1: -4611686018427387904<=from_) (h2:from_<=4611686018427387904):s36 (d,from_,n)=some (u93 d from_ n):=by
 have hb:c08.wt d<=u0m:=by unfold u0m;omega
 rw[p5j];unfold r4m u93;simp only[s6j,r3t,zOb];by_cases h:0<=n/\n<=100
 .obtain⟨m,rfl⟩:∃m:Nat,n=m:=⟨n.toNat,by omega⟩;have L:=s86 (fun x=>(t13 x).bind fun r=>match r with
   | .inl o=>some (y7c o,true) | .inr z=>some z) m (fun(a:Hs) i=>(from_,(m:Int),d,z7s a,i)) (fun i a=>q68 d from_ (m - i) i a) (fun i a=>a.size<=i*1073741824)
   (fun a _=>by
    rw[r0r];simp only[t1s,u0b,Am,Ah,Aa,zOb,s1f,Dw,q68])
   (fun i a hi ha=>by
    have e:m - i=(m - (i+1))+1:=by omega
    have hs:=q5q d (from_+(i:Int));rw[r0r];simp only[t1s,u0b,hi,Ae,Ad];rw[y4x (n:=from_+(i:Int)) (by omega) (by omega),q2o d _ hb,e];simp only[zOb,q68];cases hr:(u0l d (from_+(i:Int))).2 with
    | false=>left;rfl | true=>
     right;refine⟨a++(u0l d (from_+(i:Int))).1,by rw[Af];omega,by simp,?_⟩;simp only[Ap,Aa,u84,u0q (show a.size+(u0l d (from_+(i:Int))).1.size<=1099511627776 by omega),Ad,s1o];rw[y7h (by omega)]) 0 emp (by omega) (by show 0<=_;omega)
  rw[Bb h,Al h,Ap,Aa];exact L
 .rw[A7 h,Ao h];rfl
theorem o0f (d:u0k) (from_ n:Int) (hd:c08.wt d<=1073741824) (h1: -4611686018427387904<=from_) (h2:from_<=4611686018427387904):s4a (d,from_,n)=some (u93 d from_ n):=by
 have hb:c08.wt d<=u0m:=by unfold u0m;omega
 rw[p5t];unfold r4w u93;simp only[s40,r3t,zOb];by_cases h:0<=n/\n<=100
 .obtain⟨m,rfl⟩:∃m:Nat,n=m:=⟨n.toNat,by omega⟩;have L:=s86 (fun x=>(t16 x).bind fun r=>match r with
   | .inl o=>some (o,true) | .inr z=>some z) m (fun(a:Hs) i=>(from_,(m:Int),d,a,i)) (fun i a=>q68 d from_ (m - i) i a) (fun i a=>a.size<=i*1073741824/\(i=0\/0<=from_))
   (fun a _=>by
    rw[r0x];simp only[t1y,u0b,Am,Ah,Aa,zOb,Dw,q68])
   (fun i a hi ha=>by
    have e:m - i=(m - (i+1))+1:=by omega
    have hs:=q5q d (from_+(i:Int));rw[r0x];simp only[t1y,u0b,hi,Ae,Ad];rw[e];simp only[q68];by_cases hf:from_<0\/from_ >(d.1.length:Int)
    .left;have hno:(u0l d (from_+(i:Int))).2=false:=by
      unfold u0l;rw[Ao (by omega)]
     rw[hno];by_cases hf1:from_<0
     .rw[Bb hf1];rfl
     .have hf2:from_ >(d.1.length:Int):=by omega
      rw[A7 hf1,Bb hf2];rfl
    .have hf1: ¬from_<0:=by omega
     have hf2: ¬from_ >(d.1.length:Int):=by omega
     rw[A7 hf1,A7 hf2];simp only[Aa,zOb];rw[y4x (n:=from_+(i:Int)) (by omega) (by omega),s82 d _ hb];simp only[zOb];cases hr:(u0l d (from_+(i:Int))).2 with
     | false=>left;rfl | true=>
      right;refine⟨a++(u0l d (from_+(i:Int))).1,⟨by rw[Af];omega,by omega⟩,by simp,?_⟩;simp only[Ap,Aa,Bb (show a.size+(u0l d (from_+(i:Int))).1.size<=140737488355328 by omega),Ad];rw[y7h (by omega)]) 0 emp (by omega) ⟨by show 0<=_;omega, .inl rfl⟩
  rw[Bb h,Al h,Ap,Aa];exact L
 .rw[A7 h,Ao h];rfl
def s7y (n:Nat):Hu Int:=if h:n<128 then[(n:Int)] else((n % 128+128:Nat):Int)::s7y (n / 128)
termination_by n
decreasing_by omega
theorem q5z {n:Nat} (h:n<128):s7y n= [(n:Int)] :=by rw[s7y,dif_pos h]
theorem p6f {n:Nat} (h: ¬n<128):s7y n=((n % 128+128:Nat):Int)::s7y (n / 128):=by rw[s7y,dif_neg h]
theorem j6x (n:Nat):(s7y n).length<=n+1:=by
 induction n using Nat.strongRecOn with
 | _ n ih=>
  by_cases h:n<128
  .rw[q5z h];simp
  .rw[p6f h];have:=ih (n / 128) (by omega);simp only[Bc];omega
theorem j6y {S:Type} {W:Int×Hu Int->Ht ((Int×Hu Int)⊕S)}
 (hW:∀x,W x=(bif (decide (x.1 >(127:Int))) then(bif (Nat.ble (x.2.length+([(u8.wrap (i64.wrap ((Int.tmod x.1 (128:Int))+(128:Int))))] :Hu Int).length) z7v) then
  (W ((i64.wrap (Int.tdiv x.1 (128:Int))),(x.2++([(u8.wrap (i64.wrap ((Int.tmod x.1 (128:Int))+(128:Int))))] :Hu Int)))) else none) else(some (.inl x)))):
 ∀(n:Nat) (acc:Hu Int),acc.length+n<=1000000000000-> ∃m:Nat,∃acc' :Hu Int,W ((n:Int),acc)=some (.inl ((m:Int),acc'))/\m<128/\acc' ++ [(m:Int)] =acc++s7y n/\acc'.length<=acc.length+n:=by
 intro n
 induction n using Nat.strongRecOn with
 | _ n ih=>
  intro acc hn;rw[hW];by_cases h:n<128
  .have:decide ((n:Int) >(127:Int))=false:=by simp;omega
   simp only[this,Aa];exact⟨n,acc,rfl,h,by rw[q5z h],by omega⟩
  .have h1:decide ((n:Int) >(127:Int))=true:=by simp;omega
   have h2:Int.tmod (n:Int) (128:Int)=((n % 128:Nat):Int):=j8j n 128;have h3:Int.tdiv (n:Int) (128:Int)=((n / 128:Nat):Int):=d8b n 128;have h4:u8.wrap (i64.wrap (((n % 128:Nat):Int)+(128:Int)))=((n % 128+128:Nat):Int):=by
    rw[y4x (by omega) (by omega)];have:((n % 128:Nat):Int)+128=((n % 128+128:Nat):Int):=by simp
    rw[this,d3c (by omega)]
   simp only[h1,h2,h3,h4,Ad,Aw,u0q (show acc.length+1<=1099511627776 by omega)];rw[y7x (by omega)];obtain⟨m,acc',e1,e2,e3,e4⟩:=ih (n / 128) (by omega) (acc++ [((n % 128+128:Nat):Int)]) (by simp;omega);refine⟨m,acc',e1,e2,?_,?_⟩
   .rw[e3,p6f h,Bi];rfl
   .have:(acc++ [((n % 128+128:Nat):Int)]).length=acc.length+1:=by simp
    omega
theorem o2v (n:Nat) (hn:n<=100000000000):u15 (n:Int)=some (y7c (s7y n)):=by
 rw[o9l];unfold p2m;obtain⟨m,acc',e1,e2,e3,e4⟩:=j6y (W:=s2o) (fun x=>o3v x) n [] (by simp;omega);have e4:acc'.length<=n:=by simpa using e4
 simp only[e1,zOb,Aw,u0q (show acc'.length+1<=1099511627776 by omega),Ad];rw[d3c (by omega),e3];rfl
theorem q2v (n:Int):t35 n=some (if 0<=n/\n<=1000000000 then(y7c (s7y n.toNat),true) else(emp,false)):=by
 rw[o4u];unfold q7x;simp only[s6j,r3t,zOb];by_cases h:0<=n/\n<=1000000000
 .obtain⟨m,rfl⟩:∃m:Nat,n=m:=⟨n.toNat,by omega⟩;obtain⟨k,acc',e1,e2,e3,e4⟩:=j6y (W:=s0l) (fun x=>p9k x) m [] (by simp;omega);have e4:acc'.length<=m:=by simpa using e4
  rw[Bb h,Al h];simp only[e1,zOb,Ap,Aa,Aw,u0q (show acc'.length+1<=1099511627776 by omega),Ad];rw[d3c (by omega),e3];rfl
 .rw[A7 h,Ao h];rfl
def r8h:Nat->Nat->Nat->Hu UInt8->Ht (Nat×Nat)
 | 0,_,_,_=>none | _+1,_,_, [] =>none | f+1,i,n,b::l=>
  if b.toNat<128 then(if n+b.toNat % 128*128^i<=1000000000/\(s7y (n+b.toNat % 128*128^i)).length=i+1 then some (n+b.toNat % 128*128^i,i+1) else none)
  else r8h f (i+1) (n+b.toNat % 128*128^i) l
def p4k (at_:Int) (r:Ht (Nat×Nat)):Int×Int×Bool:=match r with
 | some (n,k)=>((n:Int),at_+(k:Int),true) | none=>(0,0,false)
def u0z (t:Hs) (at_:Int):Int×Int×Bool:=if 0<=at_/\at_<=t.size then p4k at_ (r8h 5 0 0 (t.data.toList.drop at_.toNat)) else(0,0,false)
theorem j0o:∀(f i n:Nat) (l:Hu UInt8) (v k:Nat),r8h f i n l=some (v,k)->v<=1000000000/\k<=i+l.length/\i<k
 | 0,_,_,_,_,_,h=>by cases h
 | _+1,_,_, [],_,_,h=>by cases h
 | f+1,i,n,b::l,v,k,h=>by
  simp only[r8h] at h;split at h
  .split at h
   .rename_i h2;simp only[Ac,Ak] at h;obtain⟨rfl,rfl⟩:=h;exact⟨h2.1,by simp,by omega⟩
   .cases h
  .have:=j0o f (i+1) _ l v k h;simp only[Bc];omega
theorem s1u {t:Hs} {at_:Int} (h:(u0z t at_).2.2=true):0<=(u0z t at_).1/\(u0z t at_).1<=1000000000/\0<=at_/\at_<(u0z t at_).2.1/\(u0z t at_).2.1<=t.size:=by
 unfold u0z at h ⊢;split at h
 .rename_i hc;rw[Al hc];cases hv:r8h 5 0 0 (t.data.toList.drop at_.toNat) with
  | none=>rw[hv] at h;cases h | some r=>
   obtain⟨v,k⟩:=r;have:=j0o 5 0 0 _ v k hv;have hl:(t.data.toList.drop at_.toNat).length=t.size - at_.toNat:=by simp
   simp only[p4k];omega
 .cases h
theorem d75 (i:Nat) (h:i<5):(2:Int)^(min (i64.wrap (7*(i:Int))).toNat i64.bits)=((128^i:Nat):Int):=by
 rcases i with _ | _ | _ | _ | _ | i
 all_goals first | rfl | omega
theorem d30 (i:Nat) (h:i<=5):128^i<=34359738368:=by
 rcases i with _ | _ | _ | _ | _ | _ | i
 all_goals first | decide | omega
theorem p6p (t:Hs) (at_:Int) (ht:t.size<=u0m):s44 (t,at_)=some (u0z t at_):=by
 unfold u0m at ht;rw[o4m];unfold q7p u0z;simp only[s6j,r3t,zOb];by_cases h:0<=at_/\at_<=t.size
 .obtain⟨p,rfl⟩:∃p:Nat,at_=p:=⟨at_.toNat,by omega⟩;have hp:p<=t.size:=by omega
  rw[Bb h,Al h];have L:∀(f i n:Nat),i+f=5->n<128^i->p+i<=t.size->((s0h (t,(p:Int),(n:Int),(i:Int))).bind fun r=>match r with
   | .inl o=>some ((0:Int),(0:Int),false) | .inr z=>some z)=some (p4k p (r8h f i n (t.data.toList.drop (p+i)))):=by
   intro f
   induction f with
   | zero=>
    intro i n hi hn hpi;have:i=5:=by omega
    subst this;rw[q1c];simp only[t9i];rfl
   | succ f ih=>
    intro i n hi hn hpi;have hi5:i<5:=by omega
    have hpw:=d30 i (by omega);rw[q1c];simp only[t9i];have w1:i64.wrap ((p:Int)+(i:Int))=((p+i:Nat):Int):=by rw[y4x (by omega) (by omega)];simp
    have e1:decide ((i:Int)<(5:Int))=true:=by simp;omega
    by_cases hlt:p+i<t.size
    .have hd:t.data.toList.drop (p+i)=(t.data.toList[p+i]'(by simpa using hlt))::t.data.toList.drop (p+i+1):=Ce (by simpa using hlt);have hb:(t.data.toList[p+i]'(by simpa using hlt)).toNat<256:=Fw _;rw[hd];generalize hc:(t.data.toList[p+i]'(by simpa using hlt))=c at hb;have e2:decide (((p+i:Nat):Int)<(t.size:Int))=true:=by simp;omega
     have e3:decide (0<=i64.wrap (7*(i:Int)))=true:=by rw[y4x (by omega) (by omega)];simp;omega
     have t2:Int.tmod ((c.toNat:Nat):Int) (128:Int)=((c.toNat % 128:Nat):Int):=j8j _ 128;have hm:c.toNat % 128*128^i<=127*34359738368:=Ei (by omega) hpw;have w2:i64.wrap (((c.toNat % 128:Nat):Int)*((128^i:Nat):Int))=((c.toNat % 128*128^i:Nat):Int):=by
      rw[←Int.natCast_mul];exact y7x (by omega)
     have w3:i64.wrap ((n:Int)+((c.toNat % 128*128^i:Nat):Int))=((n+c.toNat % 128*128^i:Nat):Int):=by
      rw[←Int.natCast_add];exact y7x (by omega)
     simp only[e1,Ad,zOb,w1,e2,y7p hlt,e3,zTn,j59 hlt,hc,y7x (show c.toNat<=4611686018427387904 by omega),t2,d75 i hi5,w2,w3,r8h];by_cases hc1:c.toNat<128
     .have e4:decide (((c.toNat:Nat):Int)<(128:Int))=true:=by simp;omega
      simp only[e4,Ad,Al hc1,q2v,zOb];have wi:i64.wrap ((i:Int)+1)=((i+1:Nat):Int):=y7h (by omega);by_cases hv:n+c.toNat % 128*128^i<=1000000000
      .rw[Al (show(0:Int)<=((n+c.toNat % 128*128^i:Nat):Int)/\((n+c.toNat % 128*128^i:Nat):Int)<=1000000000 by omega)];simp only[Ap,Aa,zTn,u3z,wi,zOb];by_cases hl:(s7y (n+c.toNat % 128*128^i)).length=i+1
       .rw[Al ⟨hv,hl⟩,hl];simp only[Ae,Ap,Aa,zOb,p4k];rw[y4x (by omega) (by omega)];simp[Int.add_assoc]
       .rw[Ao (fun hh=>hl hh.2)];rw[A7 (show ¬(((s7y (n+c.toNat % 128*128^i)).length:Nat):Int)=((i+1:Nat):Int) by omega)];rfl
      .rw[Ao (show ¬((0:Int)<=((n+c.toNat % 128*128^i:Nat):Int)/\((n+c.toNat % 128*128^i:Nat):Int)<=1000000000) by omega),Ao (fun hh=>hv hh.1)];rfl
     .have e4:decide (((c.toNat:Nat):Int)<(128:Int))=false:=by simp;omega
      simp only[e4,Aa,Ao hc1];rw[y7h (by omega)];have:=ih (i+1) (n+c.toNat % 128*128^i) (by omega) (by
       have:128^(i+1)=128^i*128:=Gr 128 i;have h2:c.toNat % 128*128^i<=127*128^i:=Ei (by omega) (Au _);omega) (by omega)
      exact this
    .have e2:decide (((p+i:Nat):Int)<(t.size:Int))=false:=by simp;omega
     have hd:t.data.toList.drop (p+i)= [] :=Dp (by simp;omega);rw[hd];simp only[e1,Ad,w1,e2,zOb,Aa,r8h];rfl
  exact L 5 0 0 rfl (by decide) (by omega)
 .rw[A7 h,Ao h];rfl
def o7p:Hu UInt8->Nat
 | [] =>0 | b::l=>b.toNat % 128+128*o7p l
theorem d1a (l:Hu UInt8) (b:UInt8):o7p (l++ [b])=o7p l+b.toNat % 128*128^l.length:=by
 induction l with
 | nil=>simp[o7p] | cons x l ih=>
  simp only[Ef,o7p,ih,Bc,Gr];rw[Nat.mul_add];have:128*(b.toNat % 128*128^l.length)=b.toNat % 128*(128^l.length*128):=by
   rw[Fk 128,Nat.mul_assoc]
  omega
theorem d5z (l:Hu UInt8) (b:UInt8) (hl:∀x∈l,¬x.toNat<128) (hb:b.toNat<128) (h:(s7y (o7p (l++ [b]))).length=l.length+1):s7y (o7p (l++ [b]))=(l++ [b]).map fun x=>(x.toNat:Int):=by
 induction l with
 | nil=>
  have:o7p ([] ++ [b])=b.toNat:=by simp[o7p];omega
  rw[this,q5z hb];rfl
 | cons x l ih=>
  have hx:x.toNat<256:=Fw x;have hx2:=hl x (by simp);simp only[Ef,o7p] at h ⊢;by_cases hs:x.toNat % 128+128*o7p (l++ [b])<128
  .rw[q5z hs] at h;simp at h
  .rw[p6f hs] at h ⊢;have e1:(x.toNat % 128+128*o7p (l++ [b])) / 128=o7p (l++ [b]):=by omega
   have e2:(x.toNat % 128+128*o7p (l++ [b])) % 128+128=x.toNat:=by omega
   rw[e1] at h ⊢;rw[e2];simp only[Bc,Nat.add_right_cancel_iff] at h;rw[ih (fun y hy=>hl y (by simp[hy])) h];rfl
theorem d24 (l:Hu UInt8):y7c (l.map fun x=>(x.toNat:Int))=⟨l.toArray⟩:=by
 unfold y7c;simp only[List.map_map];have:(l.map ((fun n=>UInt8.ofNat n.toNat) ∘fun b=>(b.toNat:Int)))=l:=by
  conv=>rhs;rw[←List.map_id l]
  apply Ff;intro b _;simp
 rw[this]
theorem p7j (t:Hs) (a b:Nat) (h:b<=t.size):t.extract a b=⟨((t.data.toList.drop a).take (b - a)).toArray⟩:=by
 apply Gf;simp only[ByteArray.data_extract];apply Fj;simp[F7]
theorem d7z {q:Nat} (h:q<=1000000000):decide ((q:Int) >(1000000000:Int))=false:=by simp;omega
theorem d7w {q:Nat} (h: ¬q<=1000000000):decide ((q:Int) >(1000000000:Int))=true:=by simp;omega
theorem p6q (t:Hs) (at_:Int) (ht:t.size<=u0m):s5a (t,at_)=some (u0z t at_):=by
 unfold u0m at ht;rw[o5a];unfold q8d u0z;simp only[s40,r3t,zOb];by_cases h:0<=at_/\at_<=t.size
 .obtain⟨p,rfl⟩:∃p:Nat,at_=p:=⟨at_.toNat,by omega⟩;have hp:p<=t.size:=by omega
  rw[Bb h,Al h]
  have L:∀(f i:Nat),i+f=5->p+i<=t.size->(∀x∈(t.data.toList.drop p).take i,¬x.toNat<128)->o7p ((t.data.toList.drop p).take i)<128^i->
   ((s0p (t,(p:Int),((o7p ((t.data.toList.drop p).take i):Nat):Int),((128^i:Nat):Int),((p+i:Nat):Int))).bind fun r=>match r with
   | .inl o=>some ((0:Int),(0:Int),false) | .inr z=>some z)=some (p4k p (r8h f i (o7p ((t.data.toList.drop p).take i)) (t.data.toList.drop (p+i)))):=by
   intro f
   induction f with
   | zero=>
    intro i hi hpi hall hn;have:i=5:=by omega
    subst this;rw[q1v];simp only[t92];have e1:decide (((p+5:Nat):Int)<i64.wrap ((p:Int)+5))=false:=by rw[y4x (by omega) (by omega)];simp
    rw[e1];cases decide (((p+5:Nat):Int)<(t.size:Int))<;>rfl
   | succ f ih=>
    intro i hi hpi hall hn;have hi5:i<5:=by omega
    have hpw:=d30 i (by omega);rw[q1v];simp only[t92];have e1:decide (((p+i:Nat):Int)<i64.wrap ((p:Int)+5))=true:=by rw[y4x (by omega) (by omega)];simp;omega
    by_cases hlt:p+i<t.size
    .have hd:t.data.toList.drop (p+i)=(t.data.toList[p+i]'(by simpa using hlt))::t.data.toList.drop (p+i+1):=Ce (by simpa using hlt);have hb:(t.data.toList[p+i]'(by simpa using hlt)).toNat<256:=Fw _;have htk:(t.data.toList.drop p).take (i+1)=(t.data.toList.drop p).take i++ [t.data.toList[p+i]'(by simpa using hlt)] :=by
      rw[B9 (by simp;omega)];simp
     have htl:((t.data.toList.drop p).take i).length=i:=by simp;omega
     have hvs:=d1a ((t.data.toList.drop p).take i) (t.data.toList[p+i]'(by simpa using hlt));rw[htl] at hvs;rw[hd];generalize hc:(t.data.toList[p+i]'(by simpa using hlt))=c at hb htk hvs;generalize hn' :o7p ((t.data.toList.drop p).take i)=n at hn hvs ⊢;have e2:decide (((p+i:Nat):Int)<(t.size:Int))=true:=by simp;omega
     have t2:Int.tmod ((c.toNat:Nat):Int) (128:Int)=((c.toNat % 128:Nat):Int):=j8j _ 128;have hm:c.toNat % 128*128^i<=127*34359738368:=Ei (by omega) hpw;have w2:i64.wrap (((c.toNat % 128:Nat):Int)*((128^i:Nat):Int))=((c.toNat % 128*128^i:Nat):Int):=by
      rw[←Int.natCast_mul];exact y7x (by omega)
     have w3:i64.wrap ((n:Int)+((c.toNat % 128*128^i:Nat):Int))=((n+c.toNat % 128*128^i:Nat):Int):=by
      rw[←Int.natCast_add];exact y7x (by omega)
     have wp:i64.wrap (((p+i:Nat):Int)+1)=((p+i+1:Nat):Int):=y7h (by omega);have ws:i64.wrap (((128^i:Nat):Int)*128)=((128^(i+1):Nat):Int):=by
      rw[Gr,Int.natCast_mul];exact y4x (by omega) (by omega)
     simp only[e1,e2,Ad,zOb,y7p hlt,zTn,j59 hlt,hc,y7x (show c.toNat<=4611686018427387904 by omega),t2,w2,w3,wp,ws,r8h];by_cases hc1:c.toNat<128
     .have e4:decide (((c.toNat:Nat):Int)<(128:Int))=true:=by simp;omega
      simp only[e4,Ad,Al hc1];by_cases hv:n+c.toNat % 128*128^i<=1000000000
      .have e5:decide (((n+c.toNat % 128*128^i:Nat):Int) >(1000000000:Int))=false:=d7z hv;have e6:(decide (0<=(p:Int))&&decide ((p:Int)<=((p+i+1:Nat):Int))&&decide (((p+i+1:Nat):Int)<=(t.size:Int)))=true:=by simp;omega
       simp only[e5,Aa,o2v _ (show n+c.toNat % 128*128^i<=100000000000 by omega),zOb,e6,Ad];have hx:t.extract p (p+i+1)=⟨((t.data.toList.drop p).take (i+1)).toArray⟩:=by
        rw[p7j t p (p+i+1) (by omega)];have:p+i+1 - p=i+1:=by omega
        rw[this]
       rw[hx];have hv' :n+c.toNat % 128*128^i=o7p ((t.data.toList.drop p).take i++ [c]):=hvs.symm;by_cases hl:(s7y (n+c.toNat % 128*128^i)).length=i+1
       .rw[Al ⟨hv,hl⟩];have key:s7y (n+c.toNat % 128*128^i)=((t.data.toList.drop p).take (i+1)).map fun x=>(x.toNat:Int):=by
         rw[hv',htk];exact d5z _ c hall hc1 (by rw[←hv',hl,htl])
        rw[key,d24,y6k];simp only[Ap,Aa,zOb,p4k];simp[Int.add_assoc]
       .rw[Ao (fun hh=>hl hh.2)];have hne:z7n (y7c (s7y (n+c.toNat % 128*128^i))) ⟨((t.data.toList.drop p).take (i+1)).toArray⟩=false:=by
         rw[←Ey,y7b];intro hh;have:=Dj ByteArray.size hh;rw[u3z] at this;apply hl;rw[this];show((t.data.toList.drop p).take (i+1)).toArray.size=_;simp;omega
        rw[hne];rfl
      .have e5:decide (((n+c.toNat % 128*128^i:Nat):Int) >(1000000000:Int))=true:=d7w hv;rw[Ao (fun hh=>hv hh.1),e5];rfl
     .have e4:decide (((c.toNat:Nat):Int)<(128:Int))=false:=by simp;omega
      simp only[e4,Aa,Ao hc1];have:=ih (i+1) (by omega) (by omega) (by
       rw[htk];intro x hx;rcases Ay.mp hx with hx | hx
       .exact hall x hx
       .simp at hx;rw[hx];exact hc1) (by
       rw[htk,hvs];have:128^(i+1)=128^i*128:=Gr 128 i;have h2:c.toNat % 128*128^i<=127*128^i:=Ei (by omega) (Au _);omega)
      rw[htk,hvs] at this;exact this
    .have e2:decide (((p+i:Nat):Int)<(t.size:Int))=false:=by simp;omega
     have hd:t.data.toList.drop (p+i)= [] :=Dp (by simp;omega);rw[hd];simp only[e2,zOb,Aa,r8h];rfl
  exact L 5 0 rfl (by omega) (by simp) (by simp[o7p])
 .rw[A7 h,Ao h];rfl
def u0s (t:Hs) (at_:Int):Hs×Int×Bool:=
 if(u0z t at_).2.2=true/\(u0z t at_).1<=20000/\(u0z t at_).1<=(t.size:Int) - (u0z t at_).2.1 then
  (t.extract (u0z t at_).2.1.toNat ((u0z t at_).2.1+(u0z t at_).1).toNat,(u0z t at_).2.1+(u0z t at_).1,true)
 else(emp,0,false)
theorem q5r {t:Hs} {at_:Int} (h:(u0s t at_).2.2=true):0<=(u0s t at_).2.1/\(u0s t at_).2.1<=t.size:=by
 unfold u0s at h ⊢;split at h
 .rename_i hc;rw[Al hc];have:=s1u hc.1;simp only;omega
 .cases h
theorem o7l (t:Hs) (at_:Int) (ht:t.size<=u0m):
 (((bif (!(u0z t at_).2.2) then(some true) else(bif (decide ((u0z t at_).1 >(20000:Int))) then(some true) else(some (decide ((u0z t at_).1 >(i64.wrap ((t.size:Int) - (u0z t at_).2.1))))))):Ht Bool).bind fun j2=>
  (bif j2 then(some ((⟨#[]⟩:Hs),((0:Int),false))) else(bif (decide (0<=(u0z t at_).2.1)&&decide ((u0z t at_).2.1<=(i64.wrap ((u0z t at_).2.1+(u0z t at_).1)))&&decide ((i64.wrap ((u0z t at_).2.1+(u0z t at_).1))<=(t.size:Int))) then
   (some ((t.extract ((u0z t at_).2.1).toNat ((i64.wrap ((u0z t at_).2.1+(u0z t at_).1))).toNat),((i64.wrap ((u0z t at_).2.1+(u0z t at_).1)),true))) else none)))=some (u0s t at_):=by
 unfold u0m at ht;unfold u0s;cases ho:(u0z t at_).2.2 with
 | false=>rfl | true=>
  have hk:=s1u ho;rw[y4x (n:=(t.size:Int) - (u0z t at_).2.1) (by omega) (by omega),y4x (n:=(u0z t at_).2.1+(u0z t at_).1) (by omega) (by omega)];by_cases h1:(u0z t at_).1 >20000
  .rw[Ao (by omega),Bb h1];rfl
  .rw[A7 h1];by_cases h2:(u0z t at_).1 >(t.size:Int) - (u0z t at_).2.1
   .rw[Ao (by omega),Bb h2];rfl
   .rw[Al ⟨rfl,by omega,by omega⟩,A7 h2];simp only[Ap,Aa,zOb];rw[Bb (show 0<=(u0z t at_).2.1 by omega),Bb (show(u0z t at_).2.1<=(u0z t at_).2.1+(u0z t at_).1 by omega),Bb (show(u0z t at_).2.1+(u0z t at_).1<=(t.size:Int) by omega)];rfl
theorem q7f (t:Hs) (at_:Int) (ht:t.size<=u0m):s05 (t,at_)=some (u0s t at_):=by
 rw[p83];unfold r9e;simp only[p6q t at_ ht,zOb];exact o7l t at_ ht
theorem q7e (t:Hs) (at_:Int) (ht:t.size<=u0m):s0y (t,at_)=some (u0s t at_):=by
 rw[p8h];unfold r8t;simp only[p6p t at_ ht,zOb];exact o7l t at_ ht
def p8a (t:Hs):Int:=((t.data.toList.getD 0 0).toNat:Int)
theorem o8g (t:Hs):0<=p8a t/\p8a t<256:=by
 unfold p8a;have:(t.data.toList.getD 0 0).toNat<256:=Fw _;omega
def u57 (d:u0k) (s:Int):Int:=p8a (u0l d s).1
theorem o7f {d:u0k} {s:Int} (h:(u0l d s).2=false):(u0l d s).1=emp:=by
 unfold u0l at h ⊢;split at h
 .cases h
 .rename_i hc;rw[Ao hc]
theorem o6y (r:Hs×Bool) (h:r.2=false->r.1=emp):
 (((bif (!r.2) then(some true) else(some (z7n r.1 (⟨#[]⟩:Hs)))):Ht Bool).bind fun j2=>(bif j2 then(some (0:Int)) else(bif (y4o (0:Int) r.1.size) then(some (i64.wrap ((r.1.data.toList.getD ((0:Int)).toNat 0).toNat:Int))) else none)))=some (p8a r.1):=by
 obtain⟨t,o⟩:=r;cases o with
 | false=>
  have:t=emp:=h rfl;subst this;rfl
 | true=>
  simp only[Ap,Aa,zOb];by_cases he:t=emp
  .subst he;have:z7n emp (⟨#[]⟩:Hs)=true:=y6k emp;simp only[this,Ad];rfl
  .have h1:z7n t (⟨#[]⟩:Hs)=false:=by
    rw[←Ey,y7b];exact he
   have h2:t.size≠0:=by
    intro hz;apply he;apply Gf;apply Fi;exact hz
   have h3:y4o (0:Int) t.size=true:=by simp[y4o];omega
   have hb:(t.data.toList.getD 0 0).toNat<256:=Fw _;simp only[h1,Aa,h3,Ad,Ho];rw[y7x (by omega)];rfl
theorem q9i (d:u0k) (s:Int) (hd:c08.wt d<=u0m):s01 (d,s)=some (u57 d s):=by
 rw[p8o];unfold r8z;simp only[q2o d s hd,zOb];exact o6y _ (fun h=>o7f h)
theorem q4r (d:u0k) (s:Int) (hd:c08.wt d<=u0m):t86 (d,s)=some (u57 d s):=by
 rw[o5o];unfold q8s;simp only[s82 d s hd,zOb];exact o6y _ (fun h=>o7f h)
def u0r (d:u0k):Int:=Int.tmod (u57 d 0) 2
theorem t18 (d:u0k):u0r d=0\/u0r d=1:=by
 have:=o8g (u0l d 0).1;unfold u0r u57;have e:=Int.tmod_eq_emod_of_nonneg (b:=2) this.1;rw[e];omega
theorem o7v (d:u0k) (hd:c08.wt d<=u0m):s9x d=some (u0r d):=by
 rw[o00];unfold q2y;simp only[q9i d 0 hd,zOb];rfl
theorem s8a (d:u0k) (hd:c08.wt d<=u0m):t08 d=some (u0r d):=by
 rw[o1l];unfold q3i;simp only[q4r d 0 hd,zOb];rfl
def o92 (a:Int):Bool:=decide (a=0) || decide (a=1)
def u0h (a:Int):Int:=if o92 a then 1+a*48 else 0
theorem d2d {a:Int} :o92 a=true↔a=0\/a=1:=by simp[o92]
theorem s5p (a:Int):0<=u0h a/\u0h a<=49:=by
 unfold u0h;split
 .rename_i h;have:=d2d.mp h;omega
 .omega
theorem p0t (a:Int):s24 a=some (o92 a):=by
 rw[o80];unfold p10 o92;cases decide (a=0)<;>rfl
theorem q6t (a:Int):u0t (a,0,1)=some (o92 a):=by
 rw[s40,r3t];congr 1;rw[Cd,d2d,decide_eq_true_iff];omega
theorem q7a (a:Int):s0x a=some (u0h a):=by
 rw[p8b];unfold r8o u0h;simp only[p0t,zOb];cases h:o92 a with
 | false=>rfl | true=>
  have:=d2d.mp h;simp only[Ap,Aa,Bl];rw[y4x (n:=a*48) (by omega) (by omega),y4x (by omega) (by omega)]
theorem t8m (a:Int):u7f a=some (u0h a):=by
 rw[p8u];unfold r85 u0h;simp only[q6t,zOb];cases h:o92 a with
 | false=>rfl | true=>
  have:=d2d.mp h;simp only[Ap,Aa,Bl];rw[y4x (n:=a*48) (by omega) (by omega),y4x (by omega) (by omega)]
def u08 (d:u0k) (a:Int):Int:=if o92 a then u57 d (u0h a) else 0
theorem q6p (d:u0k) (a:Int):0<=u08 d a/\u08 d a<256:=by
 unfold u08;split
 .exact o8g _
 .omega
theorem p6k (d:u0k) (a:Int) (hd:c08.wt d<=u0m):r3v (d,a)=some (u08 d a):=by
 rw[o4e];unfold q7h u08;simp only[p0t,q7a,q9i d _ hd,zOb];cases o92 a<;>rfl
theorem s5l (d:u0k) (a:Int) (hd:c08.wt d<=u0m):t36 (d,a)=some (u08 d a):=by
 rw[o4z];unfold q72 u08;simp only[q6t,t8m,q4r d _ hd,zOb];cases o92 a<;>rfl
def u76 (t:Hs):Nat->Int->Hu Hs->Hu Hs×Int×Bool
 | 0,at_,acc=>(acc,at_,true) | m+1,at_,acc=>if(u0s t at_).2.2&& !z7n (u0s t at_).1 emp then u76 t m (u0s t at_).2.1 (acc++ [(u0s t at_).1]) else([],0,false)
def u0f (d:u0k) (a:Int):Hu Hs×Int×Bool:=
 if o92 a&&(u93 d (u0h a+1) 47).2 then u76 (u93 d (u0h a+1) 47).1 (u08 d a).toNat 0 [] else([],0,false)
theorem o7k (d:u0k) (from_:Int):∀(m i:Nat) (acc:Hs),(q68 d from_ m i acc).1.size<=acc.size+m*c08.wt d
 | 0,i,acc=>by simp[q68]
 | m+1,i,acc=>by
  unfold q68;split
  .have h1:=o7k d from_ m (i+1) (acc++(u0l d (from_+(i:Int))).1);have h2:=q5q d (from_+(i:Int));rw[Af] at h1;have:(m+1)*c08.wt d=m*c08.wt d+c08.wt d:=C7 _ _;omega
  .show 0<=_;omega
theorem q5x (d:u0k) (from_ n:Int):(u93 d from_ n).1.size<=100*c08.wt d:=by
 unfold u93;split
 .have h:=o7k d from_ n.toNat 0 emp;have h2:emp.size=0:=rfl;have h3:n.toNat*c08.wt d<=100*c08.wt d:=Ei (by omega) (Au _);omega
 .show 0<=_;omega
theorem p1h (d:u0k) (a:Int) (hd:c08.wt d<=1073741824):t52 (d,a)=some (u0f d a):=by
 have hb:c08.wt d<=u0m:=by unfold u0m;omega
 have hf:=s5p a;have hz:(u93 d (u0h a+1) 47).1.size<=u0m:=by have:=q5x d (u0h a+1) 47;unfold u0m;omega
 have hc:=q6p d a;rw[o07];unfold q25 u0f;simp only[q7a,zOb];rw[y4x (n:=u0h a+1) (by omega) (by omega)];simp only[o0e d (u0h a+1) 47 hd (by omega) (by omega),p0t,zOb];generalize u93 d (u0h a+1) 47=s at hz;cases hs:s.2 with
 | false=>cases o92 a<;>rfl
 | true=>
  cases ha:o92 a with
  | false=>rfl | true=>
   have L:=s86 (fun x=>(t7f x).bind fun r=>match r with
    | .inl o=>some (o.1,o.2,true) | .inr z=>some z) (u08 d a).toNat (fun(p:Hu Hs×Int) i=>(a,d,s.1,p.1,p.2,i)) (fun i p=>u76 s.1 ((u08 d a).toNat - i) p.2 p.1) (fun i p=>p.1.length<=i)
    (fun p _=>by
     rw[r6i];simp only[t6n,p6k d a hb,zOb];rw[A7 (by omega)];simp only[Aa,zOb,Dw,u76])
    (fun i p hi hp=>by
     have e:(u08 d a).toNat - i=((u08 d a).toNat - (i+1))+1:=by omega
     rw[r6i];simp only[t6n,p6k d a hb,zOb];rw[Bb (by omega),e];simp only[Ad,q7e s.1 p.2 hz,zOb,u76,j91];cases hr:(u0s s.1 p.2).2.2 with
     | false=>left;rfl | true=>
      cases hq:z7n (u0s s.1 p.2).1 emp with
      | true=>left;rfl | false=>
       right;refine⟨(p.1++ [(u0s s.1 p.2).1],(u0s s.1 p.2).2.1),by simp;omega,by simp,?_⟩;simp only[Ap,Aa,zOb,Aw,u0q (show p.1.length+1<=1099511627776 by omega),Ad];rw[y7h (by omega)]) 0 ([],0) (by omega) (by simp)
   simp only[Ap,Aa,zOb,Dt,Bl];exact L
theorem r7d (d:u0k) (a:Int) (hd:c08.wt d<=1073741824):t1a (d,a)=some (u0f d a):=by
 have hb:c08.wt d<=u0m:=by unfold u0m;omega
 have hf:=s5p a;have hz:(u93 d (u0h a+1) 47).1.size<=u0m:=by have:=q5x d (u0h a+1) 47;unfold u0m;omega
 have hc:=q6p d a;rw[o1t];unfold q3q u0f;simp only[q6t,t8m,zOb];rw[y4x (n:=u0h a+1) (by omega) (by omega)];simp only[o0f d (u0h a+1) 47 hd (by omega) (by omega),zOb];generalize u93 d (u0h a+1) 47=s at hz;cases hs:s.2 with
 | false=>cases o92 a<;>rfl
 | true=>
  cases ha:o92 a with
  | false=>rfl | true=>
   have L:=s86 (fun x=>(t42 x).bind fun r=>match r with
    | .inl o=>some (o.1,o.2,true) | .inr z=>some z) (u08 d a).toNat (fun(p:Hu Hs×Int) i=>(a,d, [],s.1,p.1,p.2,i)) (fun i p=>u76 s.1 ((u08 d a).toNat - i) p.2 p.1) (fun i p=>p.1.length<=i)
    (fun p _=>by
     rw[r29];simp only[t4s,s5l d a hb,zOb];rw[A7 (by omega)];simp only[Aa,zOb,Dw,u76])
    (fun i p hi hp=>by
     have e:(u08 d a).toNat - i=((u08 d a).toNat - (i+1))+1:=by omega
     rw[r29];simp only[t4s,s5l d a hb,zOb];rw[Bb (by omega),e];simp only[Ad,q7f s.1 p.2 hz,zOb,u76,j91];cases hr:(u0s s.1 p.2).2.2 with
     | false=>left;rfl | true=>
      cases hq:z7n (u0s s.1 p.2).1 emp with
      | true=>left;rfl | false=>
       right;refine⟨(p.1++ [(u0s s.1 p.2).1],(u0s s.1 p.2).2.1),by simp;omega,by simp,?_⟩;simp only[Ap,Aa,zOb,Aw,u0q (show p.1.length+1<=1099511627776 by omega),Ad];rw[y7h (by omega)]) 0 ([],0) (by omega) (by simp)
   simp only[Ap,Aa,zOb,Dt,Bl];exact L
def u0e (d:u0k):Hu Hs:=(u0f d (u0r d)).1
theorem o70 (d:u0k) (hd:c08.wt d<=1073741824):s91 d=some (u0e d):=by
 rw[o05];unfold q23;simp only[o7v d (show c08.wt d<=u0m by unfold u0m;omega),p1h d _ hd,zOb];rfl
theorem o6o (t:Hs):∀(m:Nat) (at_:Int) (acc:Hu Hs),(u76 t m at_ acc).1.length<=acc.length+m
 | 0,at_,acc=>by simp[u76]
 | m+1,at_,acc=>by
  unfold u76;split
  .have:=o6o t m (u0s t at_).2.1 (acc++ [(u0s t at_).1]);simp at this;omega
  .simp
theorem p7u (d:u0k) (a:Int):(u0f d a).1.length<256:=by
 unfold u0f;split
 .have h:=o6o (u93 d (u0h a+1) 47).1 (u08 d a).toNat 0 [];have:=q6p d a;simp at h;omega
 .simp
def d77 (a b:Hu Hs):Bool:=decide (a=b)
theorem j8d {a b:Hu Hs} (h:a.length=b.length):(bif (a.zip b).any (fun p=> !z7n p.1 p.2) then false else true)=decide (a=b):=by
 induction a generalizing b with
 | nil=>
  cases b with
  | nil=>rfl | cons y b=>simp at h
 | cons x a ih=>
  cases b with
  | nil=>simp at h | cons y b=>
   have h' :a.length=b.length:=by simpa using h
   have:=ih h';simp only[List.zip_cons_cons,Gd,List.cons.injEq];by_cases e:x=y
   .subst e;simp only[y6k,Ap,Ci,true_and];exact this
   .have:z7n x y=false:=by rw[←Ey,y7b];exact e
    simp[this,e]
def d02 (a b:u0k):Bool:=d77 (u0e a) (u0e b)
def u1x (d:u0k):Bool:=decide (1<=d.1.length/\d.1.length<=100)&&decide (d.2.length<=60)&&d.1.all (fun s=>decide (s.size=64))&&d.2.all (fun p=>q2f p.1 0 ((d.1.length:Int) - 1)&&decide (p.2.size=64))
theorem o8d {α:Type} (l:Hu α) (p:α->Bool):l.any (fun x=> !p x)= !l.all p:=by
 induction l with
 | nil=>rfl | cons x l ih=>simp only[Gd,Gc,ih,Bool.not_and]
theorem s81 (d:u0k) (hd:c08.wt d<=u0m):t2h d=some (u1x d):=by
 have h1:d.1.length<=u0m:=A9 s2s hd;have h2:d.2.length<=u0m:=A9 s5s hd;unfold u0m at h1 h2
 have L1:=s6r s2i d.1 (fun i=>(d,i)) (fun s=> !decide (s.size=64)) (.inr false) (.inl d)
  (by rw[q6b];simp only[s16,u0b,Am,Ah,Aa])
  (fun i hi=>by
   rw[q6b];simp only[s16,u0b,hi,Ae,Ad,y7p hi,zTn,y8f (t:=Ty.str) hi];rw[y7h (by omega)];have:decide (((d.1[i]).size:Int)=(64:Int))=decide ((d.1[i]).size=64):=by simp only[Cu];omega
   rw[this])
 have L2:=s6r s2j d.2 (fun i=>(d,i)) (fun p=> !(q2f p.1 0 ((d.1.length:Int) - 1)&&decide (p.2.size=64))) (.inr false) (.inl ())
  (by rw[q6c];simp only[s17,u0b,Am,Ah,Aa])
  (fun i hi=>by
   rw[q6c];simp only[s17,u0b,hi,Ae,Ad,y7p hi,zTn,y8f (t:=j4b) hi,s40,zOb];rw[y7h (by omega),y4x (n:=(d.1.length:Int) - 1) (by omega) (by omega)];have:decide (((d.2[i]).2.size:Int)=(64:Int))=decide ((d.2[i]).2.size=64):=by simp only[Cu];omega
   rw[this];cases q2f (d.2[i]).1 0 ((d.1.length:Int) - 1)<;>rfl)
 rw[o88];unfold p19 u1x;simp only[s40,r3t (a:=(d.1.length:Int)),L1,zOb];have e1:decide ((1:Int)<=(d.1.length:Int)/\(d.1.length:Int)<=100)=decide (1<=d.1.length/\d.1.length<=100):=by simp only[Cu];omega
 have e2:decide ((d.2.length:Int) >60)= !decide (d.2.length<=60):=by
  rw[←decide_not,Cu];omega
 rw[e1,e2,o8d];cases decide (1<=d.1.length/\d.1.length<=100) with
 | false=>rfl | true=>
  cases decide (d.2.length<=60) with
  | false=>rfl | true=>
   cases d.1.all (fun s=>decide (s.size=64)) with
   | false=>rfl | true=>
    simp only[Ap,Aa,zOb,L2,o8d];cases d.2.all _<;>rfl
theorem j4o (d:u0k) (hd:c08.wt d<=u0m):r7v d=some (u1x d):=by
 have h1:d.1.length<=u0m:=A9 s2s hd;have h2:d.2.length<=u0m:=A9 s5s hd;unfold u0m at h1 h2
 have L1:=s6r s2d d.1 (fun i=>(d,d.1,(d.1.length:Int),i)) (fun s=> !decide (s.size=64)) (.inr false) (.inl d)
  (by rw[q53];simp only[s1y,u0b,Am,Ah,Aa])
  (fun i hi=>by
   rw[q53];simp only[s1y,u0b,hi,Ae,Ad,y7p hi,zTn,y8f (t:=Ty.str) hi];rw[y7h (by omega)];have:decide (((d.1[i]).size:Int)=(64:Int))=decide ((d.1[i]).size=64):=by simp only[Cu];omega
   rw[this])
 have L2:=s6r s2e d.2 (fun i=>(d,d.2,(d.2.length:Int),i)) (fun p=> !(q2f p.1 0 ((d.1.length:Int) - 1)&&decide (p.2.size=64))) (.inr false) (.inl d)
  (by rw[q54];simp only[s1z,u0b,Am,Ah,Aa])
  (fun i hi=>by
   rw[q54];simp only[s1z,u0b,hi,Ae,Ad,y7p hi,zTn,y8f (t:=j4b) hi,s6j,zOb];rw[y7h (by omega),y4x (n:=(d.1.length:Int) - 1) (by omega) (by omega)];have:decide (((d.2[i]).2.size:Int)=(64:Int))=decide ((d.2[i]).2.size=64):=by simp only[Cu];omega
   rw[this];cases q2f (d.2[i]).1 0 ((d.1.length:Int) - 1)<;>rfl)
 rw[o8q];unfold p1p u1x;simp only[L1,zOb];have e1:decide ((1:Int)<=(d.1.length:Int)/\(d.1.length:Int)<=100)=decide (1<=d.1.length/\d.1.length<=100):=by simp only[Cu];omega
 have e2:decide ((d.2.length:Int)<=60)=decide (d.2.length<=60):=by rw[Cu];omega
 rw[o8d];cases d.1.all (fun s=>decide (s.size=64)) with
 | false=>simp | true=>
  simp only[Ap,Aa,zOb,L2,o8d];cases d.2.all (fun p=>q2f p.1 0 ((d.1.length:Int) - 1)&&decide (p.2.size=64)) with
  | false=>simp | true=>
   simp only[Ap,Aa,zOb,s6j,r3t (a:=(d.1.length:Int)),e1,e2];cases decide (1<=d.1.length/\d.1.length<=100)<;>cases decide (d.2.length<=60)<;>rfl
def u2e (d:u0k):Bool:=u1x d&&decide (d.1.length=97)&&decide (d.2.length=0)&&(u0f d 0).2.2&&(u0f d 1).2.2
theorem q6l (d:u0k) (hd:c08.wt d<=1073741824):s1s d=some (u2e d):=by
 have hb:c08.wt d<=u0m:=by unfold u0m;omega
 rw[j2g];unfold p65 u2e;have hs:u8j ()=some 97:=by rw[s32];rfl
 simp only[s81 d hb,hs,r7d d _ hd,zOb];have e1:decide ((d.1.length:Int)=97)=decide (d.1.length=97):=by rw[Cu];omega
 have e2:decide ((d.2.length:Int) >0)= !decide (d.2.length=0):=by rw[←decide_not,Cu];omega
 rw[e1,e2];cases u1x d<;>cases decide (d.1.length=97)<;>cases decide (d.2.length=0)<;>cases (u0f d 0).2.2<;>cases (u0f d 1).2.2<;>rfl
theorem o6g (d:u0k) (hd:c08.wt d<=1073741824):r2l d=some (u2e d):=by
 have hb:c08.wt d<=u0m:=by unfold u0m;omega
 rw[j1y];unfold p6v u2e;simp only[j4o d hb,p1h d _ hd,zOb];have e1:decide ((d.1.length:Int)=97)=decide (d.1.length=97):=by rw[Cu];omega
 have e2:decide ((d.2.length:Int)=0)=decide (d.2.length=0):=by rw[Cu];omega
 rw[e1,e2];cases u1x d<;>cases decide (d.1.length=97)<;>cases decide (d.2.length=0)<;>cases (u0f d 0).2.2<;>cases (u0f d 1).2.2<;>rfl
theorem j9y (d:u0k):c08.wt d=(d.1.length+(d.1.map ByteArray.size).sum)+(d.2.length+(d.2.map fun p=>0+p.2.size).sum):=rfl
theorem o7m {α:Type} {l:Hu α} {f:α->Nat} {k:Nat} (h:∀x∈l,f x<=k):(l.map f).sum<=l.length*k:=by
 induction l with
 | nil=>simp | cons x l ih=>
  have h1:=h x (C9 ..);have h2:=ih (fun y hy=>h y (Bm _ hy));simp only[C8,Ge,Bc,C7];omega
theorem o6u {d:u0k} :u1x d=true↔(1<=d.1.length/\d.1.length<=100)/\d.2.length<=60/\(∀s∈d.1,s.size=64)/\ ∀p∈d.2,(0<=p.1/\p.1<(d.1.length:Int))/\p.2.size=64:=by
 unfold u1x;simp only[Ai,Ar,Bg,q2f,and_assoc];constructor
 .rintro⟨a,b,c,e,f⟩
  exact⟨a,b,c,e,fun p hp=>by obtain⟨x,y,z⟩:=f p hp;exact⟨x,by omega,z⟩⟩
 .rintro⟨a,b,c,e,f⟩
  exact⟨a,b,c,e,fun p hp=>by obtain⟨x,y,z⟩:=f p hp;exact⟨x,by omega,z⟩⟩
theorem u45 {d:u0k} (h:u1x d=true):c08.wt d<=11000:=by
 obtain⟨h1,h2,h3,h4⟩:=o6u.mp h;have a1:=o7m (l:=d.1) (f:=ByteArray.size) (k:=64) (fun s hs=>by rw[h3 s hs];exact Au _);have a2:=o7m (l:=d.2) (f:=fun p=>0+p.2.size) (k:=64) (fun p hp=>by rw[(h4 p hp).2];exact Au _);rw[j9y];omega
theorem u6v (d:u0k) (hd:c08.wt d<=u0m):u0w d=some d:=by
 have h1:d.1.length<=u0m:=A9 s2s hd;have h2:d.2.length<=u0m:=A9 s5s hd;unfold u0m at h1 h2;rw[o5n];unfold q8r;have a1:Nat.ble (([] :Hu Hs).length+d.1.length) z7v=true:=u0q (by simp;omega);have a2:Nat.ble (([] :Hu q2u.den).length+d.2.length) z7v=true:=u0q (by simp;omega);simp only[a1,a2,Ad,Cf]
theorem j7a (d:u0k) (hd:c08.wt d<=u0m):s96 d=some d:=by
 have h1:d.1.length<=u0m:=A9 s2s hd;have h2:d.2.length<=u0m:=A9 s5s hd;unfold u0m at h1 h2;rw[o1g];unfold q3d;simp only[u0q h1,u0q h2,Ad]
def u73 (d:u0k) (k:Int) (t:Hs):Ht u0k:=if u1x (d.1,d.2++ [(k,t)]) then some (d.1,d.2++ [(k,t)]) else none
def orD (d:u0k):Ht u0k->u0k×Bool
 | some x=>(x,true) | none=>(d,false)
theorem p0j (d:u0k) (k:Int) (t:Hs):u1x (d.1,d.2++ [(k,t)])=(u1x d&&(q2f k 0 ((d.1.length:Int) - 1)&&(decide (t.size=64)&& !decide (60<=d.2.length)))):=by
 rw[Cd];simp only[Ai,Bj,Ar,Bu];rw[o6u,o6u];simp only[Ba,Aw,Ay,Ax,q2f,Ai,Ar];constructor
 .rintro⟨a,b,c,e⟩
  have:=e (k,t) (.inr rfl);exact⟨⟨a,by omega,c,fun p hp=>e p (.inl hp)⟩,⟨this.1.1,by have:=this.1.2;omega⟩,this.2,by omega⟩
 .rintro⟨⟨a,b,c,e⟩,⟨f1,f2⟩,g,h⟩
  refine⟨a,by omega,c,fun p hp=> ?_⟩;rcases hp with hp | rfl
  .exact e p hp
  .exact⟨⟨f1,by show k<(d.1.length:Int);omega⟩,g⟩
theorem r8n (d:u0k) (k:Int) (t:Hs) (hd:c08.wt d<=1073741824) (ht:t.size<=1073741824):u9v (d,k,t)=some (orD d (u73 d k t)):=by
 have h2:d.2.length<=1073741824:=A9 s5s hd;have h1:d.1.length<=1073741824:=A9 s2s hd;have a:Nat.ble (d.2.length+([(k,t)] :Hu q2u.den).length) z7v=true:=u0q (by simp;omega);have w:i64.wrap ((d.1.length:Int) - 1)=(d.1.length:Int) - 1:=y4x (by omega) (by omega);have e1:decide ((t.size:Int)=(64:Int))=decide (t.size=64):=by simp only[Cu];omega
 have e2:decide ((d.2.length:Int)>=(60:Int))=decide (60<=d.2.length):=by simp only[Cu];omega
 rw[p3o];unfold r1i;simp only[u6v d (by unfold u0m;omega),s81 d (by unfold u0m;omega),zOb,a,Ad,s40,w,e1,e2];unfold u73;rw[p0j];cases u1x d<;>cases q2f k 0 ((d.1.length:Int) - 1)<;>cases decide (t.size=64)<;>cases decide (60<=d.2.length)<;>rfl
def o7q:Nat->u0k->Nat->Nat->Hs->Ht u0k
 | 0,d,_,_,_=>some d
 | f+1,d,k,at_,t=>if t.size=0 then some d else
  if(u0l d (k:Int)).2=true/\(u0l d (k:Int)).1.size=64 then
   (u73 d (k:Int) ((u0l d (k:Int)).1.extract 0 at_++t.extract 0 (min t.size (64 - at_))++(u0l d (k:Int)).1.extract (at_+min t.size (64 - at_)) 64)).bind fun x=>
    o7q f x (k+1) 0 (t.extract (min t.size (64 - at_)) t.size)
  else none
theorem j0p (f:Nat) (d:u0k) (k at_:Nat) {t:Hs} (h:t.size=0):o7q f d k at_ t=some d:=by
 cases f with
 | zero=>rfl | succ f=>rw[o7q,Al h]
theorem t6h {d x:u0k} {k:Int} {t:Hs} (h:u73 d k t=some x):u1x x=true/\x=(d.1,d.2++ [(k,t)]):=by
 unfold u73 at h;split at h
 .rename_i hk;cases h;exact⟨hk,rfl⟩
 .cases h
theorem p7y {t:Hs} :z7n t ⟨#[]⟩=decide (t.size=0):=by
 rw[Cd,y7b,Ar];constructor
 .rintro rfl;rfl
 .intro h;have:t.data= #[] :=by apply Fi;exact h
  cases t;simp at this;rw[this]
theorem d1e (d0 jk:u0k) (sec at_:Nat) (t:Hs) (hsec:sec<=2000000000) (hat:at_<=6400) (ht:t.size<=1048576) (h0:c08.wt d0<=1073741824):∀(f i:Nat) (out:u0k),i<=t.size->t.size - i<f->c08.wt out<=1073741824->
 u56 ((sec:Int),(at_:Int),t,d0,jk,out,(i:Int))=some (match o7q f out (sec+(at_+i) / 64) ((at_+i) % 64) (t.extract i t.size) with
  | some x=> .inl (jk,x) | none=> .inr (d0,false))
 | 0,i,out,_,h,_=>by omega
 | f+1,i,out,hi,hf,ho=>by
  have hsz:(t.extract i t.size).size=t.size - i:=by simp only[Bd];omega
  have w0:i64.wrap ((at_:Int)+(i:Int))=((at_+i:Nat):Int):=by rw[y4x (by omega) (by omega)];omega
  have t1:Int.tdiv ((at_+i:Nat):Int) (64:Int)=(((at_+i) / 64:Nat):Int):=d8b (at_+i) 64;have t2:Int.tmod ((at_+i:Nat):Int) (64:Int)=(((at_+i) % 64:Nat):Int):=j8j (at_+i) 64;obtain⟨q,hq⟩:∃q,q=(at_+i) / 64:=⟨_,rfl⟩;obtain⟨m,hm⟩:∃m,m=(at_+i) % 64:=⟨_,rfl⟩;have w1:i64.wrap ((q:Int))=(q:Int):=y4x (by omega) (by omega);have w2:i64.wrap ((sec:Int)+(q:Int))=((sec+q:Nat):Int):=by rw[y4x (by omega) (by omega)];omega
  have w3:i64.wrap ((64:Int) - (m:Int))=((64 - m:Nat):Int):=by rw[y4x (by omega) (by omega)];omega
  have w4:i64.wrap ((t.size:Int) - (i:Int))=((t.size - i:Nat):Int):=by rw[y4x (by omega) (by omega)];omega
  rw[p1a];simp only[s1a,w0,t1,t2,←hq,←hm,w1,w2,w3,w4,s82 out ((sec+q:Nat):Int) (by unfold u0m;omega),u6v d0 (by unfold u0m;omega),zOb,u0b];rw[o7q,hsz];by_cases hz:i<t.size
  .have hz' : ¬t.size - i=0:=by omega
   simp only[hz,Ae,Ad,hz',Bk];generalize u0l out ((sec+q:Nat):Int)=r;obtain⟨old,rok⟩:=r;cases rok with
   | false=>simp | true=>
    have e64:decide ((old.size:Int)=(64:Int))=decide (old.size=64):=by simp only[Cu];omega
    simp only[Ap,Aa,zOb,e64];by_cases hs:old.size=64
    .obtain⟨n,hn⟩:∃n,n=min (t.size - i) (64 - m):=⟨_,rfl⟩;have z0:((0:Int)).toNat=0:=rfl;have hm64:m<64:=by omega
     have body:∀N:Nat,N=n->i64.wrap ((i:Int)+(N:Int))=((i+n:Nat):Int)/\i64.wrap ((m:Int)+(N:Int))=((m+n:Nat):Int):=fun N hN=>by
      subst hN;exact⟨by rw[y4x (by omega) (by omega)];omega,by rw[y4x (by omega) (by omega)];omega⟩
     have c1:(decide ((0:Int)<=0)&&decide ((0:Int)<=(m:Int))&&decide ((m:Int)<=((64:Nat):Int)))=true:=by simp;omega
     have c2:(decide ((0:Int)<=(i:Int))&&decide ((i:Int)<=((i+n:Nat):Int))&&decide (((i+n:Nat):Int)<=(t.size:Int)))=true:=by simp;omega
     have c3:decide ((old.extract 0 m).size+(t.extract i (i+n)).size<=140737488355328)=true:=by simp only[Bd,Ar];omega
     have c4:(decide ((0:Int)<=((m+n:Nat):Int))&&decide (((m+n:Nat):Int)<=((64:Nat):Int))&&decide (((64:Nat):Int)<=((64:Nat):Int)))=true:=by simp;omega
     have c5:decide ((old.extract 0 m++t.extract i (i+n)).size+(old.extract (m+n) 64).size<=140737488355328)=true:=by simp only[Af,Bd,Ar];omega
     have hx1:(t.extract i t.size).extract 0 n=t.extract i (i+n):=by
      rw[ByteArray.extract_extract];congr 1;omega
     have hx2:(t.extract i t.size).extract n (t.size - i)=t.extract (i+n) t.size:=by
      rw[ByteArray.extract_extract];congr 1;omega
     have hw:=r8n out ((sec+q:Nat):Int) (old.extract 0 m++t.extract i (i+n)++old.extract (m+n) 64) ho (by simp only[Af,Bd];omega);have ih:∀x:u0k,u1x x=true->u56 ((sec:Int),(at_:Int),t,d0,jk,x,((i+n:Nat):Int))=some (match o7q f x (sec+q+1) 0 (t.extract (i+n) t.size) with
      | some x=> .inl (jk,x) | none=> .inr (d0,false)):=fun x hx=>by
      have:=d1e d0 jk sec at_ t hsec hat ht h0 f (i+n) x (by omega) (by omega) (A9 (u45 hx) (by omega));rw[this];by_cases he:i+n=t.size
      .have hsz2:(t.extract (i+n) t.size).size=0:=by simp only[Bd];omega
       rw[j0p _ _ _ _ hsz2,j0p _ _ _ _ hsz2]
      .have hn2:n=64 - m:=by omega
       have e1:sec+(at_+(i+n)) / 64=sec+q+1:=by omega
       have e2:(at_+(i+n)) % 64=0:=by omega
       rw[e1,e2]
     rw[←hn,hx1,hx2];simp only[hs,Ae,Ap,Aa,and_self,Bl];by_cases hb:t.size - i<64 - m
     .obtain⟨b1,b2⟩:=body (t.size - i) (by omega);simp only[hb,Ae,Ad,b1,b2,zTn,z0,c3,c5];rw[c1,c2,c4];simp only[Ad,hw,zOb];cases hx:u73 out ((sec+q:Nat):Int) (old.extract 0 m++t.extract i (i+n)++old.extract (m+n) 64) with
      | none=>simp[orD] | some x=>
       simp only[orD,Ap,Aa,zOb];exact ih x (t6h hx).1
     .obtain⟨b1,b2⟩:=body (64 - m) (by omega);simp only[hb,Ah,Aa,b1,b2,zTn,z0,c3,c5];rw[c1,c2,c4];simp only[Ad,hw,zOb];cases hx:u73 out ((sec+q:Nat):Int) (old.extract 0 m++t.extract i (i+n)++old.extract (m+n) 64) with
      | none=>simp[orD] | some x=>
       simp only[orD,Ap,Aa,zOb];exact ih x (t6h hx).1
    .simp[hs]
  .have hz' :t.size - i=0:=by omega
   simp only[hz,Ah,Aa,hz',Bl]
def u4l (d:u0k) (sector at_:Int) (t:Hs):Ht u0k:=
 if q2f at_ 0 6400&&q2f sector 0 ((d.1.length:Int) - 1)&&u1x d then o7q (t.size+1) d (sector.toNat+at_.toNat / 64) (at_.toNat % 64) t else none
theorem t5u (d:u0k) (sector at_:Int) (t:Hs) (hd:c08.wt d<=1073741824) (ht:t.size<=1048576):u58 (d,sector,at_,t)=some (orD d (u4l d sector at_ t)):=by
 have h1:d.1.length<=1073741824:=A9 s2s hd;have w:i64.wrap ((d.1.length:Int) - 1)=(d.1.length:Int) - 1:=y4x (by omega) (by omega);rw[p5w];unfold r4z u4l;simp only[u6v d (by unfold u0m;omega),s81 d (by unfold u0m;omega),zOb,s40,w];cases ha:q2f at_ 0 6400 with
 | false=>rfl | true=>
  cases hs:q2f sector 0 ((d.1.length:Int) - 1) with
  | false=>rfl | true=>
   cases hk:u1x d with
   | false=>rfl | true=>
    simp only[q2f,Ai,Ar] at ha hs;obtain⟨s,rfl⟩:∃s:Nat,sector=(s:Int):=⟨sector.toNat,by omega⟩;obtain⟨a,rfl⟩:∃a:Nat,at_=(a:Int):=⟨at_.toNat,by omega⟩;have L:=d1e d ([], []) s a t (by omega) (by omega) ht hd (t.size+1) 0 d (by omega) (by omega) hd;have L:u56 ((s:Int),(a:Int),t,d,([], []),d,0)=_:=L;have e:t.extract 0 t.size=t:=Fu;simp only[Ap,Aa,zOb,L,Dt,Bl,zTn,Df,e];cases o7q (t.size+1) d (s+a / 64) (a % 64) t<;>rfl
def s7x (s:Hu Hs) (p:Int×Hs):Hu Hs:=s.set p.1.toNat p.2
def flush (d:u0k):u0k:=if u1x d then(d.2.foldl s7x d.1, []) else d
theorem r59 (s:Hu Hs) (p:Int×Hs):(s7x s p).length=s.length:=by simp[s7x]
theorem p0q:∀(c:Hu (Int×Hs)) (s:Hu Hs),(c.foldl s7x s).length=s.length
 | [],s=>rfl | p::c,s=>by rw[Bs,p0q c,r59]
theorem o6z:∀(c:Hu (Int×Hs)) (s:Hu Hs),(∀p∈c,p.2.size=64)->(∀x∈s,x.size=64)-> ∀x∈c.foldl s7x s,x.size=64
 | [],s,_,h=>h | p::c,s,hc,h=>by
  rw[Bs];refine o6z c _ (fun q hq=>hc q (Bm _ hq)) (fun x hx=> ?_);rcases E0 hx with hx | rfl
  .exact h x hx
  .exact hc p (C9 ..)
theorem s0v {d:u0k} (h:u1x d=true):u1x (flush d)=true/\(flush d).2= [] /\(flush d).1.length=d.1.length:=by
 unfold flush;rw[Al h];obtain⟨h1,h2,h3,h4⟩:=o6u.mp h;refine⟨o6u.mpr ⟨by rw[p0q];exact h1,by simp,o6z _ _ (fun p hp=>(h4 p hp).2) h3,fun p hp=>by cases hp⟩,rfl,p0q _ _⟩
theorem u9x (d:u0k) (hd:c08.wt d<=1073741824):u33 d=some (flush d):=by
 have h1:d.1.length<=1073741824:=A9 s2s hd;have h2:d.2.length<=1073741824:=A9 s5s hd;rw[p8x];unfold r88 flush;simp only[u6v d (by unfold u0m;omega),s81 d (by unfold u0m;omega),zOb];cases hk:u1x d with
 | false=>rfl | true=>
  obtain⟨k1,k2,k3,k4⟩:=o6u.mp hk
  have L:=u8m t41 d.2 (fun s i=>(d,([], []),(s,d.2),i)) s7x (fun s=> .inl (([], []),(s,d.2))) (fun _ s=>s.length=d.1.length)
   (fun s _=>by rw[r25];simp only[t4p,u0b,Am,Ah,Aa])
   (fun i hi s hs=>by
    refine⟨by rw[r59];exact hs,?_⟩;have hp:=(k4 d.2[i] (Ag hi)).1;have hg:y4o (d.2[i]).1 s.length=true:=by simp[y4o,hs,hp.1,hp.2]
    rw[r25];simp only[t4p,u0b,hi,Ae,Ad,y7p hi,zTn,y8f (t:=j4b) hi,hg];rw[y7h (by omega)];rfl) d.1 rfl
  simp only[Ap,Aa,L,zOb,Bl]
def p4s (keep:Hu Int) (i:Nat):Bool:=decide (i<keep.length)&& !decide (Int.tmod (rdL (Ty.int .i64) keep i) 2=0)
def u09 (keep:Hu Int):Nat->Int
 | 0=> -1 | n+1=>if p4s keep n then(n:Int) else u09 keep n
def t6d (tear:Int):Nat:=(if Int.tmod tear 65<0 then Int.tmod tear 65+65 else Int.tmod tear 65).toNat
def t3l (d:u0k) (keep:Hu Int) (last:Int) (n:Nat) (s:Hu Hs) (i:Nat):Hu Hs:=
 if p4s keep i then
  (if(i:Int)=last then s7x s ((rdL j4b d.2 i).1,(rdL j4b d.2 i).2.extract 0 n++(rdL Ty.str s (rdL j4b d.2 i).1.toNat).extract n (rdL Ty.str s (rdL j4b d.2 i).1.toNat).size)
   else s7x s (rdL j4b d.2 i))
 else s
def t19 (d:u0k) (keep:Hu Int) (tear:Int):u0k:=
 if u1x d then((List.range d.2.length).foldl (t3l d keep (u09 keep d.2.length) (t6d tear)) d.1, []) else d
theorem p90 (tear:Int):t6d tear<=64/\((t6d tear:Nat):Int)=(if Int.tmod tear 65<0 then Int.tmod tear 65+65 else Int.tmod tear 65):=by
 have h1:Int.tmod tear 65<65:=Int.tmod_lt_of_pos _ (by omega);have h2: -65<Int.tmod tear 65:=by
  have:=Int.lt_tmod_of_pos tear (show(0:Int)<65 by omega);exact this
 unfold t6d;split<;>omega
theorem o21 (keep:Hu Int):∀n,u09 keep n<(n:Int)/\ -1<=u09 keep n
 | 0=>by simp[u09]
 | n+1=>by
  have:=o21 keep n;unfold u09;split<;>omega
theorem p7n (keep:Hu Int):∀n i,i<n->p4s keep i=true->(i:Int)<=u09 keep n
 | 0,i,h,_=>by omega
 | n+1,i,h,hk=>by
  unfold u09;split
  .omega
  .rename_i hn;have:i≠n:=fun z=>by subst z;exact hn hk
   exact p7n keep n i (by omega) hk
theorem p32 (keep:Hu Int):∀n (i:Nat),u09 keep n=(i:Int)->p4s keep i=true
 | 0,i,h=>by simp[u09] at h
 | n+1,i,h=>by
  unfold u09 at h;split at h
  .rename_i hk;have:n=i:=by omega
   subst this;exact hk
  .exact p32 keep n i h
theorem j2y (keep:Hu Int) (m:Nat) (hm:keep.length<=m):∀n,m<=n->u09 keep n=u09 keep m:=by
 intro n
 induction n with
 | zero=>intro h;have:m=0:=by omega
         rw[this]
 | succ n ih=>
  intro h;by_cases e:m=n+1
  .rw[e]
  .rw[←ih (by omega)];show(if p4s keep n then(n:Int) else u09 keep n)=_;have:p4s keep n=false:=by
    unfold p4s;have:decide (n<keep.length)=false:=by simp;omega
    rw[this];rfl
   rw[this,Ao (by simp)]
theorem o3a {α:Type} (f:α->Nat->α) (a:α) (n:Nat):(List.range (n+1)).foldl f a=f ((List.range n).foldl f a) n:=by
 rw[List.range_succ,List.foldl_append];rfl
section
variable {d:u0k} (hk:u1x d=true) (keep:Hu Int)
include hk in
theorem o8j {n:Nat} (hn:n<=64) {last:Int} {s:Hu Hs} (hs:s.length=d.1.length/\ ∀x∈s,x.size=64) {i:Nat} (hi:i<d.2.length):
 (t3l d keep last n s i).length=d.1.length/\ ∀x∈t3l d keep last n s i,x.size=64:=by
 obtain⟨k1,k2,k3,k4⟩:=o6u.mp hk;have hp:=k4 d.2[i] (Ag hi);have hat:(d.2[i]).1.toNat<s.length:=by omega
 have hold:(rdL Ty.str s (d.2[i]).1.toNat).size=64:=by
  have e:rdL Ty.str s (d.2[i]).1.toNat=s[(d.2[i]).1.toNat] :=y8f (t:=Ty.str) hat;rw[e];exact hs.2 _ (Ag hat)
 unfold t3l;rw[y8f (t:=j4b) hi];split
 .split
  .refine⟨by rw[r59];exact hs.1,fun x hx=> ?_⟩;rcases E0 hx with hx | rfl
   .exact hs.2 x hx
   .simp only[Af,Bd];rw[hp.2,hold];omega
  .refine⟨by rw[r59];exact hs.1,fun x hx=> ?_⟩;rcases E0 hx with hx | rfl
   .exact hs.2 x hx
   .exact hp.2
 .exact hs
def s7e (d:u0k) (keep:Hu Int) (last:Int) (n i:Nat):Hu Hs:=(List.range i).foldl (t3l d keep last n) d.1
theorem r7p {last:Int} {n i:Nat} :s7e d keep last n (i+1)=t3l d keep last n (s7e d keep last n i) i:=o3a _ _ _
include hk in
theorem q6q {n:Nat} (hn:n<=64) {last:Int} :∀i,i<=d.2.length->(s7e d keep last n i).length=d.1.length/\ ∀x∈s7e d keep last n i,x.size=64
 | 0,_=>⟨rfl,(o6u.mp hk).2.2.1⟩ | i+1,h=>by
  rw[r7p];exact o8j hk keep hn (q6q hn i (by omega)) (by omega)
theorem j7u {last:Int} {n L N:Nat} (h:∀i,L<=i->i<N->p4s keep i=false):∀m,L<=m->m<=N->s7e d keep last n m=s7e d keep last n L:=by
 intro m
 induction m with
 | zero=>intro h _;have:L=0:=by omega
         rw[this]
 | succ m ih=>
  intro hm hN;by_cases e:L=m+1
  .rw[e]
  .rw[r7p,ih (by omega) (by omega)];unfold t3l;rw[h m (by omega) (by omega),Ao (by simp)]
include hk
theorem o8k (tear:Int):u1x (t19 d keep tear)=true/\(t19 d keep tear).2= [] /\(t19 d keep tear).1.length=d.1.length:=by
 unfold t19;rw[Al hk];have:=q6q hk keep (p90 tear).1 (last:=u09 keep d.2.length) d.2.length (Au _);have k1:=(o6u.mp hk).1;have hl:(s7e d keep (u09 keep d.2.length) (t6d tear) d.2.length).length=d.1.length:=this.1;show u1x (s7e d keep (u09 keep d.2.length) (t6d tear) d.2.length, [])=true/\_;exact⟨o6u.mpr ⟨by simp only[hl];exact k1,by simp,this.2,fun p hp=>by cases hp⟩,rfl,hl⟩
theorem d0e (tear:Int) (jk out:u0k):u6y (keep,tear,d,jk,out,-1,0)=some (.inl (keep,tear,d,jk,out,u09 keep d.2.length)):=by
 have k2:=(o6u.mp hk).2.1;obtain⟨m,hm⟩:∃m,m=min d.2.length keep.length:=⟨_,rfl⟩;have htop:u09 keep d.2.length=u09 keep m:=by
  by_cases h:keep.length<=d.2.length
  .exact j2y keep m (by omega) d.2.length (by omega)
  .have:m=d.2.length:=by omega
   rw[this]
 rw[htop];refine p0h u6y m (fun l i=>(keep,tear,d,jk,out,l,i)) (u09 keep) _ ?_ (fun i hi=> ?_)
 .rw[r21];simp only[t4m,u0b];by_cases h:m<d.2.length
  .have: ¬m<keep.length:=by omega
   simp only[h,this,Ae,Ah,Ad,Aa,zOb]
  .simp only[h,Ah,Aa,zOb]
 .have h1:i<d.2.length:=by omega
  have h2:i<keep.length:=by omega
  rw[r21];simp only[t4m,u0b,h1,h2,Ae,Ad,zOb,y7p h2,zTn];rw[y7h (by omega)];show _=u6y (keep,tear,d,jk,out,(if p4s keep i then(i:Int) else u09 keep i),((i+1:Nat):Int));unfold p4s;simp only[h2,Ae,Bz];cases decide (Int.tmod (rdL (Ty.int .i64) keep i) 2=0)<;>rfl
theorem o91 {n:Nat} (hn:n<=64) (jk:u0k):u54 (keep,d,jk,(d.1,d.2),u09 keep d.2.length,(n:Int),0)=some (.inl (jk,(s7e d keep (u09 keep d.2.length) n d.2.length,d.2))):=by
 obtain⟨k1,k2,k3,k4⟩:=o6u.mp hk;obtain⟨hl1,hl2⟩:=o21 keep d.2.length;obtain⟨L,hL⟩:∃L:Nat,(L:Int)=u09 keep d.2.length+1:=⟨(u09 keep d.2.length+1).toNat,by omega⟩;have htop:s7e d keep (u09 keep d.2.length) n d.2.length=s7e d keep (u09 keep d.2.length) n L:=j7u keep (N:=d.2.length) (fun i hi hid=>by
  cases q:p4s keep i with
  | false=>rfl | true=>
   have:=p7n keep d.2.length i hid q;omega) _ (by omega) (Au _)
 rw[htop];refine p0h u54 L (fun s i=>(keep,d,jk,(s,d.2),u09 keep d.2.length,(n:Int),i)) (s7e d keep (u09 keep d.2.length) n) _ ?_ (fun i hi=> ?_)
 .have: ¬(L:Int)<=u09 keep d.2.length:=by omega
  rw[r0t];simp only[t1u,this,Ah,Aa]
 .have hid:i<d.2.length:=by omega
  have hle:(i:Int)<=u09 keep d.2.length:=by omega
  have hkk:i<keep.length:=by
   obtain⟨l,hl⟩:∃l:Nat,u09 keep d.2.length=(l:Int):=⟨(u09 keep d.2.length).toNat,by omega⟩;have:=p32 keep d.2.length l hl;unfold p4s at this;simp only[Ai,Ar] at this;omega
  obtain⟨i1,i2⟩:=q6q hk keep hn (last:=u09 keep d.2.length) i (by omega);have hp:=k4 d.2[i] (Ag hid);rw[r7p];generalize hS:s7e d keep (u09 keep d.2.length) n i=S at*;have hat:(d.2[i]).1.toNat<S.length:=by omega
  have hg:y4o (d.2[i]).1 S.length=true:=by simp[y4o,i1,hp.1.1,hp.1.2]
  have hold:(rdL Ty.str S (d.2[i]).1.toNat).size=64:=by
   have e:rdL Ty.str S (d.2[i]).1.toNat=S[(d.2[i]).1.toNat] :=y8f (t:=Ty.str) hat;rw[e];exact i2 _ (Ag hat)
  have c1:(decide ((0:Int)<=0)&&decide ((0:Int)<=(n:Int))&&decide ((n:Int)<=((d.2[i]).2.size:Int)))=true:=by simp;omega
  have c2:(decide ((0:Int)<=(n:Int))&&decide ((n:Int)<=((rdL Ty.str S (d.2[i]).1.toNat).size:Int))&&decide (((rdL Ty.str S (d.2[i]).1.toNat).size:Int)<=((rdL Ty.str S (d.2[i]).1.toNat).size:Int)))=true:=by simp;omega
  have c3:decide (((d.2[i]).2.extract 0 n).size+((rdL Ty.str S (d.2[i]).1.toNat).extract n (rdL Ty.str S (d.2[i]).1.toNat).size).size<=140737488355328)=true:=by simp only[Bd,Ar];omega
  have z0:((0:Int)).toNat=0:=rfl;rw[r0t];simp only[t1u,hle,Ae,Ad,y7p hid,y7p hkk,zTn,y8f (t:=j4b) hid,hg,z0,c3];rw[y7h (by omega),c1,c2];unfold t3l p4s;rw[y8f (t:=j4b) hid];simp only[hkk,Ae,Bz];by_cases ho:Int.tmod (rdL (Ty.int .i64) keep i) 2=0
  .simp only[ho,Ae,Ad,Ap,Br,Bk]
  .simp only[ho,Ah,Aa,Bh,Bl];by_cases hl:(i:Int)=u09 keep d.2.length
   .simp only[hl,Ae,Ad,Bl];rfl
   .simp only[hl,Ah,Aa,Bk];rfl
end
theorem q7b (d:u0k) (keep:Hu Int) (tear:Int) (hd:c08.wt d<=1073741824):s02 (d,keep,tear)=some (t19 d keep tear):=by
 rw[p8v];unfold r86 t19;simp only[u6v d (by unfold u0m;omega),s81 d (by unfold u0m;omega),zOb];cases hk:u1x d with
 | false=>rfl | true=>
  obtain⟨t1,t2⟩:=p90 tear;have L1:=d0e hk keep tear ([], []) d;have L2:=o91 hk keep t1 ([], []);rw[t2] at L2;have hb: -65<Int.tmod tear 65:=Int.lt_tmod_of_pos tear (show(0:Int)<65 by omega);simp only[Ap,Aa,L1,zOb,Bl];by_cases h:Int.tmod tear 65<0
  .rw[Al h] at L2;have w:i64.wrap (i64.wrap (Int.tmod tear 65+64)+1)=Int.tmod tear 65+65:=by
    rw[y4x (n:=Int.tmod tear 65+64) (by omega) (by omega),y4x (by omega) (by omega)];omega
   simp only[h,Ae,Ad,w,L2,zOb];rfl
  .rw[Ao h] at L2;simp only[h,Ah,Aa,L2,zOb];rfl
theorem o0q (t:Hs):∀(m:Nat) (at_:Int) (acc:Hu Hs),0<=at_/\at_<=t.size->0<=(u76 t m at_ acc).2.1/\(u76 t m at_ acc).2.1<=t.size
 | 0,at_,acc,h=>h | m+1,at_,acc,h=>by
  unfold u76;split
  .rename_i hc;simp only[Ai] at hc;exact o0q t m _ _ (q5r hc.1)
  .simp
theorem p07 (d:u0k) (a:Int):0<=(u0f d a).2.1/\(u0f d a).2.1<=(100*c08.wt d:Nat):=by
 unfold u0f;split
 .have h1:=o0q (u93 d (u0h a+1) 47).1 (u08 d a).toNat 0 [] (by simp);have h2:=q5x d (u0h a+1) 47;omega
 .simp only[Bv,true_and];omega
def u07 (t:Hs):Hs:=y7c (s7y t.size)++t
theorem r2s (t:Hs):t.size<=(u07 t).size/\(u07 t).size<=2*t.size+1:=by
 unfold u07;rw[Af,u3z];have:=j6x t.size;omega
def t47 (d:u0k) (a:Int) (t:Hs):Ht u0k:=
 if(u0f d a).2.2=false\/t.size=0\/3008<t.size\/255<=u08 d a\/3008<(u0f d a).2.1+((u07 t).size:Int) then none
 else u4l d (u0h a+1) (u0f d a).2.1 (u07 t)
theorem o2w (d:u0k) (a:Int) (t:Hs) (hd:c08.wt d<=10000000) (ht:t.size<=1048576):s3g (d,a,t)=some (orD d (t47 d a t)):=by
 have hr:=p07 d a;have hs:=r2s t;have ha:=s5p a;rw[o2e];unfold q33 t47;simp only[r7d d a (by omega),u6v d (by unfold u0m;omega),s5l d a (by unfold u0m;omega),o2v t.size (by omega),t8m,zOb,p7y];have e1:decide ((t.size:Int) >(3008:Int))=decide (3008<t.size):=by simp only[Cu];omega
 have w1:i64.wrap ((3008:Int) - (u0f d a).2.1)=3008 - (u0f d a).2.1:=y4x (by omega) (by omega);have w2:i64.wrap (u0h a+1)=u0h a+1:=y4x (by omega) (by omega);rw[e1];cases h1:(u0f d a).2.2 with
 | false=>simp[orD] | true=>
  by_cases h2:t.size=0
  .simp[h2,orD]
  .by_cases h3:3008<t.size
   .simp[h2,h3,orD]
   .by_cases h4:255<=u08 d a
    .have:decide (u08 d a>=255)=true:=by simpa using h4
     simp[h2,h3,h4,orD]
    .have e4:decide (u08 d a>=255)=false:=by simp;omega
     have c:decide ((y7c (s7y t.size)).size+t.size<=140737488355328)=true:=by
      have h5:(u07 t).size=(y7c (s7y t.size)).size+t.size:=by unfold u07;rw[Af]
      simp;omega
     simp only[h2,h3,Ah,Ap,Aa,zOb,e4,c,Ad,w1,w2];have hsz:y7c (s7y t.size)++t=u07 t:=rfl;rw[hsz];by_cases h6:3008<(u0f d a).2.1+((u07 t).size:Int)
     .have:decide (((u07 t).size:Int) >3008 - (u0f d a).2.1)=true:=by simp;omega
      simp[this,h6,orD]
     .have:decide (((u07 t).size:Int) >3008 - (u0f d a).2.1)=false:=by simp;omega
      simp only[this,Aa,t5u d (u0h a+1) (u0f d a).2.1 (u07 t) (by omega) (by omega),zOb];rw[Ao (by simp[h2,h3,h6];omega)]
theorem j1h (t:Hs) (ht:t.size<=1048576):s00 t=some (if 20000<t.size then(emp,false) else(u07 t,true)):=by
 rw[p8k];unfold r8w;have e1:decide ((t.size:Int) >(20000:Int))=decide (20000<t.size):=by simp only[Cu];omega
 rw[e1];by_cases h:20000<t.size
 .simp only[h,Ae,Ad,Bl];rfl
 .have c:decide ((y7c (s7y t.size)).size+t.size<=140737488355328)=true:=by
   rw[u3z];have:=j6x t.size;simp;omega
  have hv:(0:Int)<=(t.size:Int)/\(t.size:Int)<=1000000000:=by omega
  simp only[h,Ah,Aa,q2v,Al hv,zOb,zTn,c,Ad,Bk];rfl
def t8s (n:Int):Hs:=y7c [u8.wrap n]
theorem u37 (n:Int):(t8s n).size=1:=by unfold t8s;rw[u3z];rfl
def r44 (d:u0k) (a n:Int):Ht u0k:=u4l d (u0h a) 0 (t8s n)
theorem p0x (d:u0k) (a n:Int) (hd:c08.wt d<=1073741824):t59 (d,a,n)=some (orD d (r44 d a n)):=by
 rw[o2f];unfold q34;have h1:t2j n=some (t8s n):=by rw[r7r];rfl
 simp only[t8m,h1,zOb,t5u d (u0h a) 0 (t8s n) hd (by rw[u37];omega)];rfl
theorem d1d:∀ {f:Nat} {d x:u0k} {k at_:Nat} {t:Hs},o7q f d k at_ t=some x->(u1x d=true->u1x x=true)/\x.1=d.1/\(t.size≠0->0<f->u1x x=true)
 | 0,d,x,k,at_,t,h=>by cases h;exact⟨id,rfl,fun _ h=>by omega⟩
 | f+1,d,x,k,at_,t,h=>by
  rw[o7q] at h;split at h
  .rename_i hz;cases h;exact⟨id,rfl,fun hne=>absurd hz hne⟩
  .split at h
   .cases hw:u73 d (k:Int) ((u0l d (k:Int)).1.extract 0 at_++t.extract 0 (min t.size (64 - at_))++(u0l d (k:Int)).1.extract (at_+min t.size (64 - at_)) 64) with
    | none=>rw[hw] at h;cases h | some y=>
     rw[hw] at h;simp only[zOb] at h;obtain⟨k1,k2⟩:=t6h hw;obtain⟨i1,i2,_⟩:=d1d h;exact⟨fun _=>i1 k1,by rw[i2,k2],fun _ _=>i1 k1⟩
   .cases h
theorem u72 {d x:u0k} {s at_:Int} {t:Hs} (h:u4l d s at_ t=some x):u1x d=true/\u1x x=true/\x.1=d.1:=by
 unfold u4l at h;split at h
 .rename_i hc;simp only[Ai] at hc;obtain⟨i1,i2,_⟩:=d1d h;exact⟨hc.2,i1 hc.2,i2⟩
 .cases h
theorem r1p {d x:u0k} {a:Int} {t:Hs} (h:t47 d a t=some x):u1x d=true/\u1x x=true/\x.1=d.1/\(u0f d a).2.2=true:=by
 unfold t47 at h;split at h
 .cases h
 .rename_i hc;have:=u72 h;simp only[Hr] at hc;exact⟨this.1,this.2.1,this.2.2,by simpa using hc.1⟩
theorem p02 {d:u0k} (hk:u1x d=true) (h2:d.2= []) {s:Int} (h0:0<=s) (h1:s<(d.1.length:Int)) {b:Hs} (hb:b.size=1):
 u4l d s 0 b=some (d.1, [(s,b++(rdL Ty.str d.1 s.toNat).extract 1 64)]):=by
 obtain⟨k1,k2,k3,k4⟩:=o6u.mp hk;have hlt:s.toNat<d.1.length:=by omega
 have hold:(rdL Ty.str d.1 s.toNat).size=64:=by
  have e:rdL Ty.str d.1 s.toNat=d.1[s.toNat] :=y8f (t:=Ty.str) hlt;rw[e];exact k3 _ (Ag hlt)
 have hs:((s.toNat:Nat):Int)=s:=by omega
 have hrd:u0l d s=(rdL Ty.str d.1 s.toNat,true):=by
  unfold u0l;rw[Al ⟨h0,h1⟩,h2];rfl
 have c:(q2f 0 0 6400&&q2f s 0 ((d.1.length:Int) - 1)&&u1x d)=true:=by
  rw[hk];simp[q2f];omega
 have e1:(rdL Ty.str d.1 s.toNat).extract 0 0=ByteArray.empty:=by
  apply Gf;simp
 have e2:b.extract 0 1=b:=by rw[←hb];exact Fu
 have hw:u73 d s (b++(rdL Ty.str d.1 s.toNat).extract 1 64)=some (d.1, [(s,b++(rdL Ty.str d.1 s.toNat).extract 1 64)]):=by
  unfold u73;rw[p0j,hk,h2];have:q2f s 0 ((d.1.length:Int) - 1)=true:=by simp[q2f];omega
  rw[this];have hz:(b++(rdL Ty.str d.1 s.toNat).extract 1 64).size=64:=by
   rw[Af,Bd,hb,hold];omega
  simp[hz]
 unfold u4l;rw[Al c];have z:(0:Int).toNat=0:=rfl;simp only[z,Nat.zero_div,Nat.zero_mod,Df,hb];rw[o7q,Ao (by omega)];rw[hs,hrd];simp only[hold,and_self,Bl,hb];have m1:min 1 (64 - 0)=1:=by decide
 rw[m1,e1,e2];have e3:ByteArray.empty++b++(rdL Ty.str d.1 s.toNat).extract (0+1) 64=b++(rdL Ty.str d.1 s.toNat).extract 1 64:=by
  rw[ByteArray.empty_append]
 rw[e3,hw];simp only[zOb];exact j0p _ _ _ _ (by rw[Bd,hb];decide)
def s5r (d:u0k) (a:Int):Int:=i64.wrap (u08 d a+1)
def o30 (d:u0k) (a:Int) (t:Hs):Ht u0k:=(t47 d a t).map fun x=>flush (orD (flush x) (r44 (flush x) a (s5r d a))).1
theorem j7q {d x:u0k} {a:Int} {t:Hs} (h:t47 d a t=some x):o92 a=true:=by
 have:=(r1p h).2.2.2;unfold u0f at this;split at this
 .rename_i hc;simp only[Ai] at hc;exact hc.1
 .cases this
theorem p9v {d x:u0k} {a n:Int} {t:Hs} (hlen:d.1.length=97) (h:t47 d a t=some x):∃y,r44 (flush x) a n=some y/\u1x y=true/\y.1.length=97:=by
 obtain⟨h1,h2,h3,_⟩:=r1p h;obtain⟨f1,f2,f3⟩:=s0v h2;have hl:(flush x).1.length=97:=by rw[f3,h3];exact hlen
 have ha:=s5p a;have ho:=p02 (s:=u0h a) f1 f2 (by omega) (by rw[hl];omega) (u37 n);have:=u72 ho;exact⟨_,ho,this.2.1,by rw[this.2.2];exact hl⟩
theorem u4e {d:u0k} (h:u2e d=true):u1x d=true/\d.1.length=97/\d.2= [] /\(u0f d 0).2.2=true/\(u0f d 1).2.2=true:=by
 unfold u2e at h;simp only[Ai,Ar] at h;obtain⟨⟨⟨⟨a,b⟩,c⟩,e⟩,f⟩:=h;exact⟨a,b,Dk.mp c,e,f⟩
theorem j2w (d:u0k) (a:Int) (t:Hs) (hd:c08.wt d<=10000000) (ht:t.size<=1048576) (hlen:d.1.length=97):s8v (d,a,t)=some (orD d (o30 d a t)):=by
 rw[o9o];unfold p2q o30;simp only[o2w d a t hd ht,zOb];cases hb:t47 d a t with
 | none=>rfl | some x=>
  have hx:=u45 (r1p hb).2.1;have hf:=u45 (s0v (r1p hb).2.1).1;obtain⟨y,hy,hy2,_⟩:=p9v (n:=s5r d a) hlen hb;have hyw:=u45 hy2;simp only[orD,Ap,Aa,u9x x (by omega),s5l d a (by unfold u0m;omega),zOb,p0x (flush x) a _ (by omega)];have hc:i64.wrap (u08 d a+1)=s5r d a:=rfl;rw[hc,hy];simp only[orD,u9x y (by omega),zOb,Dc,hy]
theorem o35 (d:u0k) (a:Int) (t:Hs) (hd:c08.wt d<=10000000) (ht:t.size<=1048576):s60 (d,a,t)=some (orD d (if u2e d then o30 d a t else none)):=by
 rw[p81];unfold r9c;simp only[q6l d (by omega),q6t,u6v d (by unfold u0m;omega),zOb];cases hl:u2e d with
 | false=>simp[orD] | true=>
  cases ha:o92 a with
  | false=>
   have hn:o30 d a t=none:=by
    unfold o30;cases hb:t47 d a t with
    | none=>rfl | some x=>rw[j7q hb] at ha;cases ha
   simp[hn,orD]
  | true=>
   simp only[Ap,Aa,zOb,j2w d a t hd ht (u4e hl).2.1,Bl];cases o30 d a t<;>simp[orD]
def append_ (d:u0k) (t:Hs):Ht u0k:=if u2e d then o30 d (u0r d) t else none
theorem t30 (d:u0k) (t:Hs) (hd:c08.wt d<=10000000) (ht:t.size<=1048576):u5p (d,t)=some (orD d (append_ d t)):=by
 rw[p8t];unfold r84 append_;simp only[s8a d (by unfold u0m;omega),zOb,o35 d _ t hd ht]
theorem j6s {d y:u0k} {a:Int} {t:Hs} (hlen:d.1.length=97) (h:o30 d a t=some y):∃x,t47 d a t=some x/\u1x x=true/\u1x y=true/\y.2= [] /\y.1.length=97/\y=flush (orD (flush x) (r44 (flush x) a (s5r d a))).1:=by
 unfold o30 at h;cases hb:t47 d a t with
 | none=>rw[hb] at h;cases h | some x=>
  rw[hb] at h;simp only[Dc,Ac] at h;obtain⟨z,hz,hz2,hz3⟩:=p9v (n:=s5r d a) hlen hb;rw[hz] at h;simp only[orD] at h;obtain⟨f1,f2,f3⟩:=s0v hz2;rw[←h];exact⟨x,rfl,(r1p hb).2.1,f1,f2,by rw[f3];exact hz3,by rw[hz];rfl⟩
def u7t (d:u0k) (t:Hs) (step:Int) (keep:Hu Int) (tear:Int):u0k:=
 match append_ d t with
 | none=>d | some y=>
  if step=0 then t19 (orD d (t47 d (u0r d) t)).1 keep tear
  else if step=1 then t19 (orD (flush (orD d (t47 d (u0r d) t)).1) (r44 (flush (orD d (t47 d (u0r d) t)).1) (u0r d) (s5r d (u0r d)))).1 keep tear
  else y
section
variable {d:u0k} {t:Hs} (hd:c08.wt d<=10000000) (ht:t.size<=1048576)
include hd ht
omit hd ht in
theorem q4c {y:u0k} (h:append_ d t=some y):u2e d=true/\ ∃x z,t47 d (u0r d) t=some x/\u1x x=true/\u1x (flush x)=true/\r44 (flush x) (u0r d) (s5r d (u0r d))=some z/\u1x z=true/\u1x y=true:=by
 unfold append_ at h;split at h
 .rename_i hl;obtain⟨x,h1,h2,h3,_⟩:=j6s (u4e hl).2.1 h;obtain⟨z,hz,hz2,_⟩:=p9v (n:=s5r d (u0r d)) (u4e hl).2.1 h1;exact⟨hl,x,z,h1,h2,(s0v h2).1,hz,hz2,h3⟩
 .cases h
theorem o33 (step:Int) (keep:Hu Int) (tear:Int):s6z (d,t,step,keep,tear)=some (u7t d t step keep tear):=by
 rw[p8w];unfold r87 u7t;simp only[t30 d t hd ht,u6v d (by unfold u0m;omega),s8a d (by unfold u0m;omega),s5l d _ (by unfold u0m;omega),zOb];cases ha:append_ d t with
 | none=>rfl | some y=>
  obtain⟨hl,x,z,hb,k1,k2,hz,k3,k4⟩:=q4c ha;have w1:=u45 k1;have w2:=u45 k2;have w3:=u45 k3;have hc:i64.wrap (u08 d (u0r d)+1)=s5r d (u0r d):=rfl;simp only[orD,Ap,Aa,o2w d _ t hd ht,hb,zOb,q7b x keep tear (by omega),u9x x (by omega),p0x (flush x) _ _ (by omega),hc,hz,q7b z keep tear (by omega)];by_cases h0:step=0
  .simp[h0]
  .by_cases h1:step=1
   .simp[h1]
   .simp[h0,h1]
omit ht in
theorem j1v (step:Int) (keep:Hu Int) (tear:Int):c08.wt (u7t d t step keep tear)<=10000000:=by
 unfold u7t;cases ha:append_ d t with
 | none=>exact hd | some y=>
  obtain⟨hl,x,z,hb,k1,k2,hz,k3,k4⟩:=q4c ha;simp only[hb,orD,hz];split
  .have:=u45 (o8k k1 keep tear).1;omega
  .split
   .have:=u45 (o8k k3 keep tear).1;omega
   .have:=u45 k4;omega
end
theorem p0d {d x:u0k} {k:Int} {s:Hs} (h:u73 d k s=some x) {j:Int} (hj:j≠k):u0l x j=u0l d j:=by
 have:=(t6h h).2;subst this;have hne: ¬k=j:=fun z=>hj z.symm
 unfold u0l;simp only[q5d,hne,Bk]
theorem q60:∀ {f:Nat} {d x:u0k} {k at_:Nat} {t:Hs},o7q f d k at_ t=some x->at_<64-> ∀j:Nat,¬(k<=j/\j*64<k*64+at_+t.size)->u0l x (j:Int)=u0l d (j:Int)
 | 0,d,x,k,at_,t,h,_,j,_=>by cases h;rfl
 | f+1,d,x,k,at_,t,h,hat,j,hj=>by
  rw[o7q] at h;split at h
  .cases h;rfl
  .rename_i hz;split at h
   .cases hw:u73 d (k:Int) ((u0l d (k:Int)).1.extract 0 at_++t.extract 0 (min t.size (64 - at_))++(u0l d (k:Int)).1.extract (at_+min t.size (64 - at_)) 64) with
    | none=>rw[hw] at h;cases h | some y=>
     rw[hw] at h;simp only[zOb] at h;have hne:j≠k:=fun z=>hj ⟨by omega,by omega⟩
     rw[←p0d hw (j:=(j:Int)) (by omega)];refine q60 h (by omega) j (fun z=>hj ?_);rw[Bd] at z;omega
   .cases h
theorem j3s {s:Hu Hs} {p:Int×Hs} {j:Int} (hp:0<=p.1) (hj0:0<=j) (hj:j.toNat<s.length):rdL Ty.str (s7x s p) j.toNat=if p.1=j then p.2 else rdL Ty.str s j.toNat:=by
 have h' :j.toNat<(s.set p.1.toNat p.2).length:=by rw[Dq];exact hj
 have e1:rdL Ty.str (s.set p.1.toNat p.2) j.toNat=(s.set p.1.toNat p.2)[j.toNat] :=y8f (t:=Ty.str) h';have e2:rdL Ty.str s j.toNat=s[j.toNat] :=y8f (t:=Ty.str) hj;show rdL Ty.str (s.set p.1.toNat p.2) j.toNat=_;rw[e1,e2,List.getElem_set];by_cases e:p.1=j
 .rw[Al (by rw[e]),Al e]
 .rw[Ao (by omega),Ao e]
theorem o60 {j:Int} (hj0:0<=j) (z:Hs):∀(c:Hu (Int×Hs)) (s:Hu Hs) (t:Ht Hs),(∀p∈c,0<=p.1)->j.toNat<s.length->rdL Ty.str s j.toNat=t.getD z->
 rdL Ty.str (c.foldl s7x s) j.toNat=(c.foldl (fun t p=>if p.1=j then some p.2 else t) t).getD z
 | [],s,t,_,_,h=>h | p::c,s,t,hc,hl,h=>by
  rw[Bs,Bs];refine o60 hj0 z c _ _ (fun q hq=>hc q (Bm _ hq)) (by rw[r59];exact hl) ?_;rw[j3s (hc p (C9 ..)) hj0 hl];split
  .rfl
  .exact h
theorem t5x {d:u0k} (hk:u1x d=true) (j:Int):u0l (flush d) j=u0l d j:=by
 obtain⟨_,f2,f3⟩:=s0v hk;obtain⟨k1,k2,k3,k4⟩:=o6u.mp hk;unfold u0l;rw[f3];split
 .rename_i hj;have e1:t4d (flush d).2 j=none:=by rw[f2];rfl
  rw[e1];have e2:(flush d).1=d.2.foldl s7x d.1:=by unfold flush;rw[Al hk]
  rw[e2];have:=o60 hj.1 (rdL Ty.str d.1 j.toNat) d.2 d.1 none (fun p hp=>(k4 p hp).1.1) (by omega) rfl;show(rdL Ty.str (d.2.foldl s7x d.1) j.toNat,true)=_;rw[this];rfl
 .rfl
theorem o3k {d d' :u0k} {from_:Int} :∀(m i:Nat) (acc:Hs),(∀q:Nat,i<=q->q<i+m->u0l d' (from_+(q:Int))=u0l d (from_+(q:Int)))->q68 d' from_ m i acc=q68 d from_ m i acc
 | 0,i,acc,h=>rfl | m+1,i,acc,h=>by
  unfold q68;rw[h i (by omega) (by omega)];split
  .exact o3k m (i+1) _ (fun q h1 h2=>h q (by omega) (by omega))
  .rfl
theorem t4a {d d' :u0k} {o:Int} (h:∀q:Nat,q<48->u0l d' (u0h o+(q:Int))=u0l d (u0h o+(q:Int))):u0f d' o=u0f d o:=by
 have h1:u93 d' (u0h o+1) 47=u93 d (u0h o+1) 47:=by
  unfold u93;rw[Al (by omega),Al (by omega)];refine o3k _ _ _ (fun q _ hq=> ?_);have:=h (q+1) (by simp at hq;omega);rw[show u0h o+1+(q:Int)=u0h o+((q+1:Nat):Int) by omega];exact this
 have h2:u08 d' o=u08 d o:=by
  unfold u08 u57;have:=h 0 (by omega);rw[show u0h o+((0:Nat):Int)=u0h o by omega] at this;rw[this]
 unfold u0f;rw[h1,h2]
def OnlyArea (a:Int) (d d' :u0k):Prop:= ∀j:Nat,¬(u0h a<=(j:Int)/\(j:Int)<u0h a+48)->u0l d' (j:Int)=u0l d (j:Int)
theorem OnlyArea.other {a o:Int} {d d' :u0k} (h:OnlyArea a d d') (ha:a=0\/a=1) (ho:o=1 - a):u0f d' o=u0f d o:=by
 refine t4a (fun q hq=> ?_);have hf:u0h o=1+o*48:=by unfold u0h;rw[Al (d2d.mpr (by omega))]
 have hfa:u0h a=1+a*48:=by unfold u0h;rw[Al (d2d.mpr ha)]
 obtain⟨j,hj⟩:∃j:Nat,u0h o+(q:Int)=(j:Int):=⟨(u0h o+(q:Int)).toNat,by rcases ha with rfl | rfl<;>omega⟩;rw[hj];exact h j (by rcases ha with rfl | rfl<;>omega)
theorem OnlyArea.trans {a:Int} {d d' e:u0k} (h1:OnlyArea a d d') (h2:OnlyArea a d' e):OnlyArea a d e:=fun j hj=>(h2 j hj).trans (h1 j hj)
theorem OnlyArea.flush {a:Int} {d d' :u0k} (h:OnlyArea a d d') (hk:u1x d' =true):OnlyArea a d (flush d'):=fun j hj=>(t5x hk _).trans (h j hj)
theorem q18 {d x:u0k} {s at_:Int} {t:Hs} (h:u4l d s at_ t=some x) {j:Nat} (hj: ¬(s<=(j:Int)/\(j:Int)*64<s*64+at_+(t.size:Int))):u0l x (j:Int)=u0l d (j:Int):=by
 unfold u4l at h;split at h
 .rename_i hc;simp only[Ai,q2f,Ar] at hc;refine q60 h (Ev _ (by omega)) j (fun z=>hj ?_);omega
 .cases h
theorem j7r {d x:u0k} {a:Int} {t:Hs} (h:t47 d a t=some x):OnlyArea a d x:=by
 have h0:=h;unfold t47 at h;split at h
 .cases h
 .rename_i hc;simp only[Hr] at hc;intro j hj;refine q18 h (fun z=>hj ?_);omega
theorem o6s {d x:u0k} {a n:Int} (h:r44 d a n=some x):OnlyArea a d x:=by
 intro j hj;refine q18 h (fun z=>hj ?_);rw[u37] at z;omega
theorem d2u {d y:u0k} {a:Int} {t:Hs} (hlen:d.1.length=97) (h:o30 d a t=some y):OnlyArea a d y:=by
 unfold o30 at h;cases hb:t47 d a t with
 | none=>rw[hb] at h;cases h | some x=>
  rw[hb] at h;simp only[Dc,Ac] at h;obtain⟨z,hz,hz2,hz3⟩:=p9v (n:=s5r d a) hlen hb;rw[hz] at h;subst h;exact(((j7r hb).flush (r1p hb).2.1).trans (o6s hz)).flush hz2
structure Mid (o:Int) (x:u0k):Prop where
 ok:u1x x=true
 len:x.1.length=97
 nil:x.2= []
 other:(u0f x o).2.2=true
theorem Mid.put {a o:Int} {x y:u0k} {t:Hs} (h:Mid o x) (ha:a=0\/a=1) (ho:o=1 - a) (hp:o30 x a t=some y):Mid o y:=by
 obtain⟨_,_,_,p1,p2,p3,_⟩:=j6s h.len hp;exact⟨p1,p3,p2,by rw[(d2u h.len hp).other ha ho];exact h.other⟩
def q9h (a:Int):Hu Hs->u0k->Ht u0k
 | [],x=>some x | t::l,x=>(o30 x a t).bind (q9h a l)
theorem o6w {a o:Int} (ha:a=0\/a=1) (ho:o=1 - a):∀ {l:Hu Hs} {x y:u0k},Mid o x->q9h a l x=some y->Mid o y
 | [],x,y,h,hy=>by cases hy;exact h
 | t::l,x,y,h,hy=>by
  unfold q9h at hy;cases hp:o30 x a t with
  | none=>rw[hp] at hy;cases hy | some z=>
   rw[hp] at hy;exact o6w ha ho (h.put ha ho hp) hy
theorem j2o {a o:Int} (ha:a=0\/a=1) (ho:o=1 - a) (jk:u0k) (list:Hu Hs) (hl:list.length<=1048576) (hs:∀t∈list,t.size<=1048576):∀(r i:Nat) (x:u0k),i+r=list.length->Mid o x->
 ∃q,t3f (list,jk,a,x,true,(i:Int))=some (.inl (jk,q))/\(match q9h a (list.drop i) x with
  | some y=>q=(y,true) | none=>q.2=false)
 | 0,i,x,hi,hm=>by
  have:i=list.length:=by omega
  subst this;rw[s68];simp only[t2u,u0b,Am,Ah,Aa,F5,q9h,zOb];exact⟨_,rfl,rfl⟩
 | r+1,i,x,hi,hm=>by
  have h:i<list.length:=by omega
  have hw:=u45 hm.ok;have hts:=hs list[i] (Ag h);have hr:rdL Ty.str list i=list[i] :=y8f (t:=Ty.str) h;rw[s68,Ce h];simp only[t2u,u0b,h,Ae,Ad,y7p h,zTn,hr,j2w x a list[i] (by omega) hts hm.len,zOb,q9h];rw[y7h (by omega)];cases hp:o30 x a list[i] with
  | none=>
   simp only[orD,Option.bind_none];rw[s68];simp only[t2u,u0b];cases decide (i+1<list.length)<;>exact⟨_,rfl,rfl⟩
  | some y=>
   simp only[orD,zOb];exact j2o ha ho jk list hl hs r (i+1) y (by omega) (hm.put ha ho hp)
def u7w (d:u0k):Int:=1 - u0r d
theorem s33 (d:u0k):(u7w d=0\/u7w d=1)/\u0r d=1 - u7w d:=by
 unfold u7w;have:=t18 d;omega
def r48 (d:u0k):u0k:=flush (orD d (r44 d (u7w d) 0)).1
def q4m (d:u0k) (l:Hu Hs):Ht u0k:=if u2e d then q9h (u7w d) l (r48 d) else none
def j8o (x:u0k):Ht u0k:=u4l x 0 0 (t8s (i64.wrap (u57 x 0+1)))
def r8g (d:u0k) (l:Hu Hs):Ht u0k:=(q4m d l).map fun x=>flush (orD x (j8o x)).1
theorem j1t {d:u0k} (hl:u2e d=true) (a n:Int):∃z,r44 d a n=some z/\u1x z=true/\z.1.length=97:=by
 obtain⟨h1,h2,h3,_⟩:=u4e hl;have ha:=s5p a;have ho:=p02 (s:=u0h a) h1 h3 (by omega) (by omega) (u37 n);have:=u72 ho;exact⟨_,ho,this.2.1,by rw[this.2.2];exact h2⟩
theorem j2m {d:u0k} (hl:u2e d=true):Mid (u0r d) (r48 d):=by
 obtain⟨z,hz,hz2,hz3⟩:=j1t hl (u7w d) 0;obtain⟨a1,a2⟩:=s33 d;obtain⟨h1,h2,h3,h4,h5⟩:=u4e hl;obtain⟨f1,f2,f3⟩:=s0v hz2;have e:r48 d=flush z:=by unfold r48;rw[hz];rfl
 have hr:(u0f d (u0r d)).2.2=true:=by
  rcases t18 d with h | h<;>rw[h] <;>assumption
 rw[e];exact⟨f1,by rw[f3];exact hz3,f2,by rw[((o6s hz).flush hz2).other a1 a2];exact hr⟩
theorem d5x {x:u0k} {o:Int} (h:Mid o x):∃y,j8o x=some y/\u1x y=true:=by
 have ho:=p02 (s:=0) h.ok h.nil (by omega) (by rw[h.len];omega) (u37 (i64.wrap (u57 x 0+1)));exact⟨_,ho,(u72 ho).2.1⟩
section
variable {d:u0k} {l:Hu Hs} (hd:c08.wt d<=10000000) (hl:l.length<=1048576) (hs:∀t∈l,t.size<=1048576)
include hd hl hs
omit hd hl hs in
theorem d50:i64.wrap ((1:Int) - u0r d)=u7w d:=by
 unfold u7w;have:=t18 d;rw[y4x (by omega) (by omega)]
omit hd hl hs in
theorem j92 {x:u0k} (h:q4m d l=some x):u2e d=true/\Mid (u0r d) x:=by
 unfold q4m at h;split at h
 .rename_i hlo;obtain⟨a1,a2⟩:=s33 d;exact⟨hlo,o6w a1 a2 (j2m hlo) h⟩
 .cases h
theorem j2v (hlo:u2e d=true):∃q,r4a (d,l)=some q/\(match q4m d l with
 | some y=>q=(y,true) | none=>q.2=false):=by
 obtain⟨z,hz,hz2,hz3⟩:=j1t hlo (u7w d) 0;have hzw:=u45 hz2;obtain⟨a1,a2⟩:=s33 d;have e:flush z=r48 d:=by unfold r48;rw[hz];rfl
 obtain⟨q,L,hq⟩:=j2o a1 a2 ([], []) l hl hs l.length 0 (r48 d) (by omega) (j2m hlo);have L:t3f (l,([], []),u7w d,r48 d,true,0)=_:=L;rw[Fh] at hq;refine⟨q,?_,by unfold q4m;rw[hlo,Al rfl];exact hq⟩;rw[o5p];unfold q8t;simp only[s8a d (by unfold u0m;omega),d50 (d:=d),p0x d _ _ (by omega),zOb,hz,orD,u9x z (by omega),e,L]
omit hd hl hs in
theorem j73 (x:u0k) (hx:c08.wt x<=10000000):r4b x=some (orD x (j8o x)):=by
 rw[o5q];unfold q8u;have h1:∀n,t2j n=some (t8s n):=fun n=>by rw[r7r];rfl
 simp only[q4r x 0 (by unfold u0m;omega),h1,zOb,t5u x 0 0 (t8s (i64.wrap (u57 x 0+1))) (by omega) (by rw[u37];omega)];rfl
theorem q7g:s06 (d,l)=some (orD d (r8g d l)):=by
 rw[p86];unfold r9h r8g;simp only[q6l d (by omega),u6v d (by unfold u0m;omega),zOb];cases hlo:u2e d with
 | false=>
  have:q4m d l=none:=by unfold q4m;rw[hlo];rfl
  rw[this];rfl
 | true=>
  obtain⟨q,hq,hq2⟩:=j2v hd hl hs hlo;simp only[Ap,Aa,hq,zOb];cases hf:q4m d l with
  | none=>
   rw[hf] at hq2;simp only at hq2;simp only[hq2,Bh,Ad];rfl
  | some x=>
   rw[hf] at hq2;simp only at hq2;subst hq2;obtain⟨_,hm⟩:=j92 hf;have hx:=u45 hm.ok;obtain⟨y,hy,hy2⟩:=d5x hm;have hyw:=u45 hy2;simp only[orD,Ap,Aa,j73 x (by omega),hy,zOb,u9x y (by omega),Dc]
def t5w (d:u0k) (l:Hu Hs) (step:Int) (keep:Hu Int) (tear:Int):u0k:=
 match q4m d l with
 | none=>d | some x=>
  if step=0 then t19 (orD d (r44 d (u7w d) 0)).1 keep tear
  else if step=1 then x
  else if step=2 then t19 (orD x (j8o x)).1 keep tear
  else flush (orD x (j8o x)).1
end
def s7g (s:Hs) (i:Nat):UInt8:=s.data.toList.getD i 0
theorem u7d (a b:Hs) (i:Nat):s7g (a++b) i=if i<a.size then s7g a i else s7g b (i - a.size):=by
 unfold s7g;have hs:a.size=a.data.toList.length:=by simp only[B6];rfl
 rw[Ft,Ha,A5,hs];split
 .rename_i h;rw[Aj h,A5]
 .rename_i h;rw[Aq (Fz h),A5]
theorem u3m (a:Hs) (b e i:Nat):s7g (a.extract b e) i=if i<min e a.size - b then s7g a (b+i) else 0:=by
 unfold s7g;have hd:(a.extract b e).data.toList=(a.data.toList.drop b).take (min e a.size - b):=by
  have hs:a.size=a.data.toList.length:=by simp only[B6];rfl
  rw[ByteArray.data_extract];rw[Array.toList_extract,F7];apply Gj;intro n;rw[Ca,Ca,Dg];split<;>split<;>first | rfl | skip
  .rename_i h1 h2;rw[Be (by omega)]
  .rename_i h1 h2;rw[Be (by omega)]
 rw[hd,A5,Ca];split
 .rw[Dg,A5]
 .rfl
theorem p3z {a b:Hs} (hs:a.size=b.size) (h:∀i,i<a.size->s7g a i=s7g b i):a=b:=by
 have ha:a.size=a.data.toList.length:=by simp only[B6];rfl
 have hb:b.size=b.data.toList.length:=by simp only[B6];rfl
 have:a.data.toList=b.data.toList:=by
  apply Gw (by omega);intro i h1 h2;have:=h i (by omega);unfold s7g at this;rw[A5,A5,A4 h1,A4 h2] at this;exact this
 apply Gf;apply Fj;exact this
theorem j0q {d x:u0k} {k:Int} {s:Hs} (h:u73 d k s=some x):u0l x k=(s,true):=by
 obtain⟨h1,h2⟩:=t6h h;obtain⟨_,_,_,h4⟩:=o6u.mp h1;subst h2;have:=(h4 (k,s) (by simp)).1;have hk:0<=k/\k<(d.1.length:Int):=this;unfold u0l;simp only[q5d];rw[Al hk];simp
theorem o7r:∀ {f:Nat} {d x:u0k} {k at_:Nat} {t:Hs},o7q f d k at_ t=some x->t.size<f->at_<64-> ∀(j i:Nat),i<64->j<d.1.length->
 s7g (u0l x (j:Int)).1 i=if k*64+at_<=j*64+i/\j*64+i<k*64+at_+t.size then s7g t (j*64+i - (k*64+at_)) else s7g (u0l d (j:Int)).1 i
 | 0,d,x,k,at_,t,h,hf,_,j,i,_,_=>by omega
 | f+1,d,x,k,at_,t,h,hf,hat,j,i,hi,hj=>by
  rw[o7q] at h;split at h
  .rename_i hz;cases h;rw[Ao (by omega)]
  .rename_i hz;split at h
   .rename_i hrd;cases hw:u73 d (k:Int) ((u0l d (k:Int)).1.extract 0 at_++t.extract 0 (min t.size (64 - at_))++(u0l d (k:Int)).1.extract (at_+min t.size (64 - at_)) 64) with
    | none=>rw[hw] at h;cases h | some y=>
     rw[hw] at h;simp only[zOb] at h;obtain⟨n,hn⟩:∃n,n=min t.size (64 - at_):=⟨_,rfl⟩;rw[←hn] at h hw;have hyl:y.1.length=d.1.length:=by rw[(t6h hw).2]
     have hsz:(t.extract n t.size).size=t.size - n:=by rw[Bd];omega
     have ih:=o7r h (by omega) (by omega) j i hi (by omega);rw[ih,hsz];by_cases hjk:j=k
     .subst hjk;rw[Ao (by omega),j0q hw];simp only;rw[u7d,u7d,u3m,u3m,u3m];simp only[Af,Bd,hrd.2];by_cases h1:i<at_
      .have e1:i<min at_ 64 - 0:=by omega
       rw[Al (by omega),Al e1,Al e1,Ao (by omega),Co]
      .by_cases h2:i<at_+n
       .rw[Al (by omega),Ao (by omega),Al (by omega),Al (by omega)];congr 1;omega
       .rw[Ao (by omega),Al (by omega),Ao (by omega)];congr 1;omega
     .have hfr:u0l y (j:Int)=u0l d (j:Int):=p0d hw (by omega);rw[hfr];by_cases h1:(k+1)*64+0<=j*64+i/\j*64+i<(k+1)*64+0+(t.size - n)
      .rw[Al h1,Al (by omega),u3m,Al (by omega)];congr 1;omega
      .rw[Ao h1,Ao (by omega)]
   .cases h
theorem j3t (a:Hs):a.size=a.data.toList.length:=by simp only[B6];rfl
theorem p30 {a:Hs} {i:Nat} (h:i<a.size):a.data.toList[i]? =some (s7g a i):=by
 unfold s7g;rw[j3t] at h;rw[A5,A4 h];rfl
theorem o3t:∀ {f i n:Nat} {l l' :Hu UInt8} {v k:Nat},r8h f i n l=some (v,k)->(∀q,q<k - i->l'[q]? =l[q]?)->r8h f i n l' =some (v,k)
 | 0,_,_,_,_,_,_,h,_=>by cases h
 | _+1,_,_, [],_,_,_,h,_=>by cases h
 | f+1,i,n,b::l,l',v,k,h,hl=>by
  have hk:=(j0o _ _ _ _ _ _ h).2.2;have h0:=hl 0 (by omega);cases l' with
  | nil=>simp at h0 | cons b' l' =>
   simp only[Bt,Ac] at h0;subst h0;simp only[r8h] at h ⊢;split at h
   .rename_i h1;rw[Al h1];exact h
   .rename_i h1;rw[Ao h1];exact o3t h (fun q hq=>by have:=hl (q+1) (by omega);simpa using this)
theorem j0f {T T' :Hs} {at_:Int} (h:(u0z T at_).2.2=true) (hs:T'.size=T.size) (hb:∀q:Nat,(q:Int)<(u0z T at_).2.1->s7g T' q=s7g T q):u0z T' at_=u0z T at_:=by
 have hok:=s1u h;unfold u0z at h hb hok ⊢;split at h
 .rename_i hc;rw[Al hc] at hb hok;rw[Al (by rw[hs];exact hc),Al hc];cases hv:r8h 5 0 0 (T.data.toList.drop at_.toNat) with
  | none=>rw[hv] at h;cases h | some r=>
   obtain⟨v,k⟩:=r;rw[hv] at hb hok;simp only[p4k] at hb hok;rw[o3t hv (fun q hq=>by
    have hlt:at_.toNat+q<T.size:=by omega
    rw[Dg,Dg,p30 (by omega),p30 hlt,hb (at_.toNat+q) (by omega)])]
 .cases h
theorem q91 {T:Hs} {at_:Int} (h:(u0s T at_).2.2=true):0<=at_/\at_<(u0s T at_).2.1/\(u0s T at_).2.1<=T.size:=by
 have h2:=q5r h;unfold u0s at h h2 ⊢;split at h
 .rename_i hc;rw[Al hc] at h2;rw[Al hc];have:=s1u hc.1;simp only at h2 ⊢;omega
 .cases h
theorem o3c {T T' :Hs} {at_:Int} (h:(u0s T at_).2.2=true) (hs:T'.size=T.size) (hb:∀q:Nat,(q:Int)<(u0s T at_).2.1->s7g T' q=s7g T q):u0s T' at_=u0s T at_:=by
 have hn:=q91 h;unfold u0s at h hb hn ⊢;split at h
 .rename_i hc;rw[Al hc] at hb hn;simp only at hb hn;have hok:=s1u hc.1;have e:u0z T' at_=u0z T at_:=j0f hc.1 hs (fun q hq=>hb q (by omega));rw[e,Al (by rw[hs];exact hc),Al hc];congr 1;apply p3z
  .rw[Bd,Bd,hs]
  .intro i hi;rw[Bd] at hi;rw[u3m,u3m,hs];split
   .exact hb _ (by omega)
   .rfl
 .cases h
theorem o6n {T:Hs} :∀ {m:Nat} {at_:Int} {acc l:Hu Hs} {E:Int},u76 T m at_ acc=(l,E,true)->at_<=E
 | 0,at_,acc,l,E,h=>by unfold u76 at h;cases h;exact Bv _
 | m+1,at_,acc,l,E,h=>by
  unfold u76 at h;split at h
  .rename_i hc;simp only[Ai] at hc;have h1:=(q91 hc.1).2.1;have h2:=o6n h;omega
  .cases h
theorem q4d {T T' :Hs} (hs:T'.size=T.size):∀ {m:Nat} {at_:Int} {acc l:Hu Hs} {E:Int},u76 T m at_ acc=(l,E,true)->(∀q:Nat,(q:Int)<E->s7g T' q=s7g T q)->u76 T' m at_ acc=(l,E,true)
 | 0,at_,acc,l,E,h,_=>by unfold u76 at h ⊢;exact h
 | m+1,at_,acc,l,E,h,hb=>by
  unfold u76 at h ⊢;split at h
  .rename_i hc;have hc' :=hc;simp only[Ai] at hc';have h2:=o6n h;rw[o3c hc'.1 hs (fun q hq=>hb q (by omega)),Al hc];exact q4d hs h hb
  .cases h
theorem o0r {T:Hs} {s:Hs} {nx:Int} :∀ {m:Nat} {at_:Int} {acc l:Hu Hs} {E:Int},u76 T m at_ acc=(l,E,true)->u0s T E=(s,nx,true)->s.size≠0->u76 T (m+1) at_ acc=(l++ [s],nx,true)
 | 0,at_,acc,l,E,h,hr,hne=>by
  unfold u76 at h;cases h;unfold u76;have:z7n s emp=false:=by
   have:=p7y (t:=s);rw[j91] at this;rw[this];simpa using hne
  rw[hr];simp only[this,Bh,Dt,Bl];rfl
 | m+1,at_,acc,l,E,h,hr,hne=>by
  unfold u76 at h;split at h
  .rename_i hc;unfold u76;rw[Al hc];exact o0r h hr hne
  .cases h
def u8s (l:Hu Int):Hu UInt8:=l.map fun n=>UInt8.ofNat n.toNat
theorem p6g:∀(f i acc n N:Nat) (r:Hu UInt8),0<f->n<128^f->acc+n*128^i=N->N<=1000000000->(s7y N).length=i+(s7y n).length->r8h f i acc (u8s (s7y n)++r)=some (N,i+(s7y n).length)
 | 0,i,acc,n,N,r,hf,_,_,_,_=>by omega
 | f+1,i,acc,n,N,r,_,hn,hN,hb,hl=>by
  by_cases h:n<128
  .rw[q5z h] at hl ⊢;have e:(UInt8.ofNat ((n:Int)).toNat).toNat=n:=by
    rw[zTn,Gg];omega
   simp only[u8s,C8,Eh,Ef,Cf,r8h,e,h,Bl,Aw] at hl ⊢;rw[Nat.mod_eq_of_lt h,hN,Al ⟨hb,hl⟩]
  .rw[p6f h] at hl ⊢;have e:(UInt8.ofNat (((n % 128+128:Nat):Int)).toNat).toNat=n % 128+128:=by
    rw[zTn,Gg];omega
   have hh: ¬n % 128+128<128:=by omega
   simp only[u8s,C8,Ef,r8h,e,hh,Bk,Bc] at hl ⊢;have e2:(n % 128+128) % 128=n % 128:=by omega
   rw[e2];have:=p6g f (i+1) (acc+n % 128*128^i) (n / 128) N r (by rcases f with _ | f<;>simp at hn ⊢;omega) (by rw[Gr] at hn;omega) (by
    rw[←hN,Gr];have:n=n % 128+128*(n / 128):=by omega
    conv=>rhs;rw[this]
    rw[Cl];have:n / 128*(128^i*128)=128*(n / 128)*128^i:=by rw[Fk (128^i) 128,←Nat.mul_assoc,Fk (n / 128) 128]
    omega) hb (by omega)
   show r8h f (i+1) (acc+n % 128*128^i) (u8s (s7y (n / 128))++r)=_;rw[this];congr 2;omega
end Go.Proofs.YtkphhjdbdnoekaaGreat.Ab
