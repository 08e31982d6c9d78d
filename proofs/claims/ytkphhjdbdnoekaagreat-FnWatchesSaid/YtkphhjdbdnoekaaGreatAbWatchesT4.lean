import Derived.Test.YtkphhjdbdnoekaaGreatAbWatchesT3
import Derived.Test.YtkphhjdbdnoekaaGreatAbK2
import Derived.Test.YtkphhjdbdnoekaaGreatAbF4
import Derived.Test.YtkphhjdbdnoekaaGreatAbS2
namespace Go.Proofs.YtkphhjdbdnoekaaGreat.Ab
open Go Go.IntKind
set_option linter.unusedVariables false
set_option linter.unusedSimpArgs false
set_option linter.unnecessarySimpa false
set_option linter.unusedSectionVars false
theorem d0b (l:Hu u0i) (n:Int):((List.range l.length).all fun i=>decide ((rdL u0v l i).1<n)&& !((l.take i).any fun y=>decide (y.1=(rdL u0v l i).1)))=p0s (u51 l) n:=by
 rw[Cd,Bg,q4o];unfold u51;constructor
 .intro h;constructor
  .intro x hx;obtain⟨t,ht,rfl⟩:=Bx.mp hx;obtain⟨i,hi,rfl⟩:=B7 ht;have:=h i (Bq.mpr hi);rw[Ai,Ar,y8f hi] at this;exact this.1
  .rw[D8,Dl,Cp];intro i j hi hj hij e;have:=h j (Bq.mpr hj);rw[Ai,Bj,y8f hj] at this;have hm:l[i] ∈l.take j:=by
    rw[Gy];exact⟨i,by simp;omega,by simp⟩
   have:=Ct.mp this.2 _ hm;simp only[Ar] at this;exact this e
 .rintro⟨h1,h2⟩ i hi
  have hi:=Bq.mp hi;rw[Ai,Ar,y8f hi,Bj];refine⟨h1 _ (Bx.mpr ⟨_,Ag hi,rfl⟩),?_⟩;rw[Ct];intro y hy;rw[Gy] at hy;obtain⟨j,hj,rfl⟩:=hy;simp only[Ec] at hj;rw[D8,Dl,Cp] at h2;simp only[Fc,Ar];exact h2 j i (by omega) hi (by omega)
theorem q9j (l:Hu u0i) (n:Int) (hl:l.length<=1099511627776):t3t (l,n)=some (p0s (u51 l) n):=by
 have hsome:∀(m:Hu u0i) (t:u0i),m.length<=1099511627776->u7x (m,t)=some (m.any fun y=>decide (y.1=t.1)):=by
  intro m t hm;have L:=Q.first (T:=u0v) (c:=u0i) (W:=u1g) (q:=s23) (p:=fun y:u0i=>decide (y.1=t.1)) (fun x=>u96 x) m t (by omega) (fun x _=>by rw[p3d];rfl);simp only[s8f,t44,u9y,u3r,t1f,u4r,L,zOb];rw[←o2p];by_cases h:u0y (fun y:u0i=>decide (y.1=t.1)) m<m.length
  .simp[h]
  .simp[h]
 have L:=t2v t4z l.length (fun i=>(l,n,l,(l.length:Int),i)) (fun i=>decide ((rdL u0v l i).1<n)&& !((l.take i).any fun y=>decide (y.1=(rdL u0v l i).1))) (.inl ()) (.inr false)
  (by rw[r2z];simp only[t4k,u0b,Am,Ah,Aa])
  (fun i hi=>by
   have e1:(decide ((0:Int)<=0)&&decide ((0:Int)<=(i:Int))&&decide ((i:Int)<=(l.length:Int)))=true:=by simp;omega
   have e2:(l.take i).drop ((0:Int)).toNat=l.take i:=by simp
   have e3:=hsome (l.take i) (rdL u0v l i) (by simp;omega);rw[r2z];simp only[t4k,u0b,hi,Ae,Ad,y7p hi,zTn,y7h (show i<4611686018427387904 by omega),p7l (rdL u0v l i).1 n,e1];rw[e2,e3];cases decide ((rdL u0v l i).1<n)
   .rfl
   .simp only[Ap,Aa,zOb,Bz];cases (l.take i).any fun y=>decide (y.1=(rdL u0v l i).1)<;>rfl)
 rw[d0b] at L;rw[p8p];unfold r80;simp only[L,zOb];cases p0s (u51 l) n<;>rfl
theorem q4e (b:u0j):d7k.wt b=(Ty.sl u0c).wt b.1+((Ty.sl u0v).wt b.2.1+((Ty.sl u0v).wt b.2.2.1+(0+0))):=rfl
theorem p09 {l:Hu u0i} {t:u0i} (h:t∈l):u0v.wt t<=(Ty.sl u0v).wt l:=by
 have h1:(Ty.sl u0v).wt l=l.length+(l.map u0v.wt).sum:=rfl;have h2:=o7t (f:=u0v.wt) h;omega
theorem gt3 (n:Nat):decide ((n:Int) >3)= !decide (n<=3):=by by_cases h:n<=3<;>simp[h] <;>omega
theorem gt4 (n:Nat):decide ((n:Int) >4)= !decide (n<=4):=by by_cases h:n<=4<;>simp[h] <;>omega
theorem p7m (t:u0i):s45 t=some (decide (t.2.1=2)):=by rw[o4x];rfl
theorem t1q (b:u0j) (hw:d7k.wt b<=u0m):u28 b=some (u8t b):=by
 have hb:u0m=1099511627776:=rfl;have hbw:=q4e b;have n1:=s3x (t:=u0c) b.1;have n2:=s3x (t:=u0v) b.2.1;have n3:=s3x (t:=u0v) b.2.2.1
 have L1:=t2v t5l b.1.length (fun i=>(b,b.1,(b.1.length:Int),i)) (fun i=>(fun v:u17=>decide (v.2.2.2<=b.2.2.2.1)) (rdL u0c b.1 i)) (.inl b) (.inr false)
  (by rw[q52];simp only[s1x,u0b,Am,Ah,Aa])
  (fun i hi=>by
   rw[q52];simp only[s1x,u0b,hi,Ae,Ad,y7p hi,zTn,y7h (show i<4611686018427387904 by omega),q4n (rdL u0c b.1 i).2.2.2 b.2.2.2.1];cases decide ((rdL u0c b.1 i).2.2.2<=b.2.2.2.1)<;>rfl)
 rw[s2p (t:=u0c) b.1 (fun v:u17=>decide (v.2.2.2<=b.2.2.2.1))] at L1
 have L2:=t2v t2w b.2.1.length (fun i=>(b,b.2.1,(b.2.1.length:Int),i)) (fun i=>(fun t:u0i=>u71 t&&(decide (t.2.1=3)&&decide (t.2.2.2.1<=b.2.2.2.1))) (rdL u0v b.2.1 i)&&(decide (i=0) || (fun x y:u0i=>decide (x.2.2.2.1<y.2.2.2.1)) (rdL u0v b.2.1 (i - 1)) (rdL u0v b.2.1 i))) (.inl b) (.inr false)
  (by rw[q06];simp only[t9d,u0b,Am,Ah,Aa])
  (fun i hi=>by
   have hm:rdL u0v b.2.1 i∈b.2.1:=by rw[y8f hi];exact Ag hi
   have ht:=p09 hm;have hk:=s8y (rdL u0v b.2.1 i) (by omega);rw[q06];simp only[t9d,u0b,hi,Ae,Ad,y7p hi,zTn,y7h (show i<4611686018427387904 by omega),q4n (rdL u0v b.2.1 i).2.2.2.1 b.2.2.2.1,s41,p0u,zOb];rw[hk];simp only[zOb];generalize u71 (rdL u0v b.2.1 i)=b1;generalize decide ((rdL u0v b.2.1 i).2.1=3)=b2;generalize decide ((rdL u0v b.2.1 i).2.2.2.1<=b.2.2.2.1)=b3;by_cases h0:i=0
   .subst h0;simp only[Ae,Ap,Aa,Dx,Cz];cases b1<;>cases b2<;>cases b3<;>rfl
   .simp only[h0,Ah,Bh,Ad,Ci,t9c (show i<4611686018427387904 by omega) h0,y7p (show i - 1<b.2.1.length by omega),zTn,p7l (rdL u0v b.2.1 (i - 1)).2.2.2.1 (rdL u0v b.2.1 i).2.2.2.1];generalize decide ((rdL u0v b.2.1 (i - 1)).2.2.2.1<(rdL u0v b.2.1 i).2.2.2.1)=b4;cases b1<;>cases b2<;>cases b3<;>cases b4<;>rfl)
 rw[r3o (t:=u0v) b.2.1 (fun t:u0i=>u71 t&&(decide (t.2.1=3)&&decide (t.2.2.2.1<=b.2.2.2.1))) (fun x y:u0i=>decide (x.2.2.2.1<y.2.2.2.1))] at L2
 have L3:=t2v t2x b.2.2.1.length (fun i=>(b,b.2.2.1,(b.2.2.1.length:Int),i)) (fun i=>(fun t:u0i=>u71 t&&(decide (t.2.1=2)&&decide (t.2.2.1<=b.2.2.2.1))) (rdL u0v b.2.2.1 i)&&(decide (i=0) || (fun x y:u0i=>y3b x.2.2.2.2.2.2.2 y.2.2.2.2.2.2.2) (rdL u0v b.2.2.1 (i - 1)) (rdL u0v b.2.2.1 i))) (.inl b) (.inr false)
  (by rw[q07];simp only[t9e,u0b,Am,Ah,Aa])
  (fun i hi=>by
   have hm:rdL u0v b.2.2.1 i∈b.2.2.1:=by rw[y8f hi];exact Ag hi
   have ht:=p09 hm;have hk:=s8y (rdL u0v b.2.2.1 i) (by omega);rw[q07];simp only[t9e,u0b,hi,Ae,Ad,y7p hi,zTn,y7h (show i<4611686018427387904 by omega),q4n (rdL u0v b.2.2.1 i).2.2.1 b.2.2.2.1,s41,p7m,zOb];rw[hk];simp only[zOb];generalize u71 (rdL u0v b.2.2.1 i)=b1;generalize decide ((rdL u0v b.2.2.1 i).2.1=2)=b2;generalize decide ((rdL u0v b.2.2.1 i).2.2.1<=b.2.2.2.1)=b3;by_cases h0:i=0
   .subst h0;simp only[Ae,Ap,Aa,Dx,Cz];cases b1<;>cases b2<;>cases b3<;>rfl
   .simp only[h0,Ah,Bh,Ad,Ci,t9c (show i<4611686018427387904 by omega) h0,y7p (show i - 1<b.2.2.1.length by omega),zTn];generalize y3b (rdL u0v b.2.2.1 (i - 1)).2.2.2.2.2.2.2 (rdL u0v b.2.2.1 i).2.2.2.2.2.2.2=b4;cases b1<;>cases b2<;>cases b3<;>cases b4<;>rfl)
 rw[r3o (t:=u0v) b.2.2.1 (fun t:u0i=>u71 t&&(decide (t.2.1=2)&&decide (t.2.2.1<=b.2.2.2.1))) (fun x y:u0i=>y3b x.2.2.2.2.2.2.2 y.2.2.2.2.2.2.2)] at L3;have hC:=o6d [b.2.1,b.2.2.1] (by simp only[List.flatten_cons,List.flatten_nil,Bw,Ba];omega) (by simp);have hf: [b.2.1,b.2.2.1].flatten=b.2.1++b.2.2.1:=by simp
 rw[hf] at hC;have hI:=q9j (b.2.1++b.2.2.1) b.2.2.2.2 (by rw[Ba];omega);have hV:=o0h b.1 (by omega);rw[o8n];unfold p1m;rw[hV];simp only[q61,d9q,gt3,zOb];unfold u8t j6p j0g;generalize u59 b.1=c1;generalize inB b.2.2.2.1 0 9999=c3;generalize inB b.2.2.2.2 1 9999=c4;generalize decide (b.2.1.length<=12)=c5;generalize decide (b.2.2.1.length<=3)=c6;generalize ha1:b.1.all (fun v:u17=>decide (v.2.2.2<=b.2.2.2.1))=a1 at L1;generalize ha2:b.2.1.all (fun t:u0i=>u71 t&&(decide (t.2.1=3)&&decide (t.2.2.2.1<=b.2.2.2.1)))=a2 at L2;generalize ha3:o4a u0v (fun x y:u0i=>decide (x.2.2.2.1<y.2.2.2.1)) b.2.1=a3 at L2;generalize ha4:b.2.2.1.all (fun t:u0i=>u71 t&&(decide (t.2.1=2)&&decide (t.2.2.1<=b.2.2.2.1)))=a4 at L3;generalize ha5:o4a u0v (fun x y:u0i=>y3b x.2.2.2.2.2.2.2 y.2.2.2.2.2.2.2) b.2.2.1=a5 at L3;generalize p0s (u51 (b.2.1++b.2.2.1)) b.2.2.2.2=a6 at hI;have hR:((t5l (b,b.1,(b.1.length:Int),0)).bind fun r5=>match r5 with
  | .inl o6=>(t2w (o6,o6.2.1,(o6.2.1.length:Int),0)).bind fun r10=>match r10 with
   | .inl o11=>(t2x (o11,o11.2.2.1,(o11.2.2.1.length:Int),0)).bind fun r15=>match r15 with
    | .inl o16=>(u4f [o16.2.1,o16.2.2.1]).bind fun y17=>(t3t (y17,o16.2.2.2.2)).bind fun y18=>some y18
    | .inr z19=>some z19
   | .inr z20=>some z20
  | .inr z21=>some z21)=some (a1&&((a2&&a3)&&((a4&&a5)&&a6))):=by
  rw[L1];cases a1
  .rfl
  .simp only[Ad,zOb,Bz];rw[L2];cases (a2&&a3)
   .rfl
   .simp only[Ad,zOb,Bz];rw[L3];cases (a4&&a5)
    .rfl
    .simp only[Ad,zOb,Bz];rw[hC];simp only[zOb];rw[hI];rfl
 cases c1<;>cases c3<;>cases c4<;>cases c5<;>cases c6<;>simp only[Ap,Bh,Ad,Aa,zOb,Fx,Fy,Bz,Cz]
 exact hR
theorem j70 (l:Hu Int) (n:Int):((List.range l.length).all fun i=>((List.range i).all fun j=> !decide (rdL (Ty.int .i64) l j=rdL (Ty.int .i64) l i))&&decide (rdL (Ty.int .i64) l i<n))=p0s l n:=by
 rw[Cd,Bg,q4o];constructor
 .intro h;constructor
  .intro x hx;obtain⟨i,hi,rfl⟩:=B7 hx;have:=h i (Bq.mpr hi);rw[Ai,Ar,y8f (t:=Ty.int .i64) hi] at this;exact this.2
  .rw[D8,Cp];intro i j hi hj hij e;have:=h j (Bq.mpr hj);rw[Ai,Bg] at this;have:=this.1 i (Bq.mpr hij);rw[y8f (t:=Ty.int .i64) hi,y8f (t:=Ty.int .i64) hj,Bj,Bu] at this;exact this e
 .rintro⟨h1,h2⟩ i hi
  have hi:=Bq.mp hi;rw[Ai,Ar,y8f (t:=Ty.int .i64) hi,Bg];refine⟨fun j hj=> ?_,h1 _ (Ag hi)⟩;have hj:=Bq.mp hj;rw[D8,Cp] at h2;rw[y8f (t:=Ty.int .i64) (show j<l.length by omega),Bj,Bu];exact h2 j i (by omega) hi hj
theorem j0x (b:u0j) (l:Hu Int) (hl:l.length<=1099511627776):u80 (b,l,0)=some (bif p0s l b.2.2.2.2 then .inl () else .inr false):=by
 have inner:∀i:Nat,i<l.length->t25 (b,l,(i:Int),0)=some (bif (List.range i).all (fun j=> !decide (rdL (Ty.int .i64) l j=rdL (Ty.int .i64) l i)) then .inl (b,l,(i:Int)) else .inr false):=by
  intro i hi
  exact t2v t25 i (fun j=>(b,l,(i:Int),j)) (fun j=> !decide (rdL (Ty.int .i64) l j=rdL (Ty.int .i64) l i)) (.inl (b,l,(i:Int))) (.inr false)
   (by rw[q1m];simp only[t9s,u0b,Am,Ah,Aa])
   (fun j hj=>by
    rw[q1m];simp only[t9s,u0b,hj,Ae,Ad,y7p hi,y7p (show j<l.length by omega),zTn,y7h (show j<4611686018427387904 by omega)];by_cases e:rdL (Ty.int .i64) l j=rdL (Ty.int .i64) l i
    .rw[Bb e];rfl
    .rw[A7 e];rfl)
 have L:=t2v u80 l.length (fun i=>(b,l,i)) (fun i=>((List.range i).all fun j=> !decide (rdL (Ty.int .i64) l j=rdL (Ty.int .i64) l i))&&decide (rdL (Ty.int .i64) l i<b.2.2.2.2)) (.inl ()) (.inr false)
  (by rw[q1l];simp only[t9r,u0b,Am,Ah,Aa])
  (fun i hi=>by
   rw[q1l];simp only[t9r,u0b,hi,Ae,Ad];rw[inner i hi];cases (List.range i).all fun j=> !decide (rdL (Ty.int .i64) l j=rdL (Ty.int .i64) l i)
   .rfl
   .simp only[Ad,zOb,y7p hi,zTn,y7h (show i<4611686018427387904 by omega),Bz];rw[p7l];cases decide (rdL (Ty.int .i64) l i<b.2.2.2.2)<;>rfl)
 rw[j70] at L;exact L
theorem j6f (l:Hu u0i) {i:Nat} (h:i<l.length):u51 (l.take i)++ [(rdL u0v l i).1] =u51 (l.take (i+1)):=by
 rw[y8f h];unfold u51;rw[Gm,A4 h,Dh];rfl
theorem s3y (b:u0j) (hw:d7k.wt b<=549755813888):u9s b=some (u8t b):=by
 have hb:u0m=1099511627776:=rfl;have hbw:=q4e b;have n1:=s3x (t:=u0c) b.1;have n2:=s3x (t:=u0v) b.2.1;have n3:=s3x (t:=u0v) b.2.2.1
 have L1:=t2v t5n b.1.length (fun i=>(b,i)) (fun i=>(fun v:u17=>decide (v.2.2.2<=b.2.2.2.1)) (rdL u0c b.1 i)) (.inl b) (.inr false)
  (by rw[q59];simp only[s14,u0b,Am,Ah,Aa])
  (fun i hi=>by
   rw[q59];simp only[s14,u0b,hi,Ae,Ad,y7p hi,zTn,y7h (show i<4611686018427387904 by omega),q4n (rdL u0c b.1 i).2.2.2 b.2.2.2.1];cases decide ((rdL u0c b.1 i).2.2.2<=b.2.2.2.1)<;>rfl)
 rw[s2p (t:=u0c) b.1 (fun v:u17=>decide (v.2.2.2<=b.2.2.2.1))] at L1;have il:∀(l:Hu u0i) (i:Nat),i<=l.length->(u51 (l.take i)).length=i:=fun l i h=>by unfold u51;simp;omega
 have L2:=t2v u8z b.2.1.length (fun i=>(b,u51 (b.2.1.take i.toNat),i)) (fun i=>(fun t:u0i=>u71 t&&(decide (t.2.1=3)&&decide (t.2.2.2.1<=b.2.2.2.1))) (rdL u0v b.2.1 i)&&(decide (i=0) || (fun x y:u0i=>decide (x.2.2.2.1<y.2.2.2.1)) (rdL u0v b.2.1 (i - 1)) (rdL u0v b.2.1 i))) (.inl (b,u51 b.2.1)) (.inr false)
  (by rw[q1j];simp only[t9p,u0b,Am,Ah,Aa,zTn,Cq])
  (fun i hi=>by
   have hm:rdL u0v b.2.1 i∈b.2.1:=by rw[y8f hi];exact Ag hi
   have ht:=p09 hm;have hk:=s1j (rdL u0v b.2.1 i) (by omega);rw[q1j];simp only[t9p,u0b,hi,Ae,Ad,y7p hi,zTn,y7h (show i<4611686018427387904 by omega),q4n (rdL u0v b.2.1 i).2.2.2.1 b.2.2.2.1,s41,zOb];rw[hk];have hc:Nat.ble ((u51 (b.2.1.take i)).length+ [(rdL u0v b.2.1 i).1].length) z7v=true:=u0q (by rw[il _ _ (by omega)];simp;omega);simp only[zOb];rw[hc,j6f _ hi];generalize u71 (rdL u0v b.2.1 i)=b1;generalize decide ((rdL u0v b.2.1 i).2.1=3)=b2;generalize decide ((rdL u0v b.2.1 i).2.2.2.1<=b.2.2.2.1)=b3;by_cases h0:i=0
   .subst h0;simp only[Ae,Ap,Aa,Dx,Cz];cases b1<;>cases b2<;>cases b3<;>rfl
   .simp only[h0,Ah,Bh,Ad,Ci,t9c (show i<4611686018427387904 by omega) h0,y7p (show i - 1<b.2.1.length by omega),zTn,p7l (rdL u0v b.2.1 (i - 1)).2.2.2.1 (rdL u0v b.2.1 i).2.2.2.1];generalize decide ((rdL u0v b.2.1 (i - 1)).2.2.2.1<(rdL u0v b.2.1 i).2.2.2.1)=b4;cases b1<;>cases b2<;>cases b3<;>cases b4<;>rfl)
 rw[r3o (t:=u0v) b.2.1 (fun t:u0i=>u71 t&&(decide (t.2.1=3)&&decide (t.2.2.2.1<=b.2.2.2.1))) (fun x y:u0i=>decide (x.2.2.2.1<y.2.2.2.1))] at L2
 have L3:=t2v t24 b.2.2.1.length (fun i=>(b,u51 b.2.1++u51 (b.2.2.1.take i.toNat),i)) (fun i=>(fun t:u0i=>u71 t&&(decide (t.2.1=2)&&decide (t.2.2.1<=b.2.2.2.1))) (rdL u0v b.2.2.1 i)&&(decide (i=0) || (fun x y:u0i=>y3b x.2.2.2.2.2.2.2 y.2.2.2.2.2.2.2) (rdL u0v b.2.2.1 (i - 1)) (rdL u0v b.2.2.1 i))) (.inl (b,u51 (b.2.1++b.2.2.1))) (.inr false)
  (by rw[q1k];simp only[t9q,u0b,Am,Ah,Aa,zTn,Cq];unfold u51;rw[Dh])
  (fun i hi=>by
   have hm:rdL u0v b.2.2.1 i∈b.2.2.1:=by rw[y8f hi];exact Ag hi
   have ht:=p09 hm;have hk:=s1j (rdL u0v b.2.2.1 i) (by omega);rw[q1k];simp only[t9q,u0b,hi,Ae,Ad,y7p hi,zTn,y7h (show i<4611686018427387904 by omega),q4n (rdL u0v b.2.2.1 i).2.2.1 b.2.2.2.1,s41,zOb];rw[hk];have hz:(u51 b.2.1).length=b.2.1.length:=by unfold u51;simp
   have hc:Nat.ble ((u51 b.2.1++u51 (b.2.2.1.take i)).length+ [(rdL u0v b.2.2.1 i).1].length) z7v=true:=u0q (by rw[Ba,il _ _ (by omega),hz];simp;omega);simp only[zOb];rw[hc,Bi,j6f _ hi];generalize u71 (rdL u0v b.2.2.1 i)=b1;generalize decide ((rdL u0v b.2.2.1 i).2.1=2)=b2;generalize decide ((rdL u0v b.2.2.1 i).2.2.1<=b.2.2.2.1)=b3;by_cases h0:i=0
   .subst h0;simp only[Ae,Ap,Aa,Dx,Cz];cases b1<;>cases b2<;>cases b3<;>rfl
   .simp only[h0,Ah,Bh,Ad,Ci,t9c (show i<4611686018427387904 by omega) h0,y7p (show i - 1<b.2.2.1.length by omega),zTn];generalize y3b (rdL u0v b.2.2.1 (i - 1)).2.2.2.2.2.2.2 (rdL u0v b.2.2.1 i).2.2.2.2.2.2.2=b4;cases b1<;>cases b2<;>cases b3<;>cases b4<;>rfl)
 rw[r3o (t:=u0v) b.2.2.1 (fun t:u0i=>u71 t&&(decide (t.2.1=2)&&decide (t.2.2.1<=b.2.2.2.1))) (fun x y:u0i=>y3b x.2.2.2.2.2.2.2 y.2.2.2.2.2.2.2)] at L3;have L2' :u8z (b, [],0)=_:=L2;have e:u51 b.2.1++u51 (b.2.2.1.take (0:Int).toNat)=u51 b.2.1:=by simp[u51]
 rw[e] at L3;have hI:=j0x b (u51 (b.2.1++b.2.2.1)) (by unfold u51;rw[Da,Ba];omega);have hV:=o0i b.1 (by omega);rw[o83];unfold p14;rw[hV];simp only[r5a,d9q,gt3,zOb];unfold u8t j6p j0g;generalize u59 b.1=c1;generalize inB b.2.2.2.1 0 9999=c3;generalize inB b.2.2.2.2 1 9999=c4;generalize decide (b.2.1.length<=12)=c5;generalize decide (b.2.2.1.length<=3)=c6;generalize ha1:b.1.all (fun v:u17=>decide (v.2.2.2<=b.2.2.2.1))=a1 at L1;generalize ha2:b.2.1.all (fun t:u0i=>u71 t&&(decide (t.2.1=3)&&decide (t.2.2.2.1<=b.2.2.2.1)))=a2 at L2';generalize ha3:o4a u0v (fun x y:u0i=>decide (x.2.2.2.1<y.2.2.2.1)) b.2.1=a3 at L2';generalize ha4:b.2.2.1.all (fun t:u0i=>u71 t&&(decide (t.2.1=2)&&decide (t.2.2.1<=b.2.2.2.1)))=a4 at L3;generalize ha5:o4a u0v (fun x y:u0i=>y3b x.2.2.2.2.2.2.2 y.2.2.2.2.2.2.2) b.2.2.1=a5 at L3;generalize p0s (u51 (b.2.1++b.2.2.1)) b.2.2.2.2=a6 at hI;have hR:((t5n (b,0)).bind fun r5=>match r5 with
  | .inl o6=>(u8z (o6, [],0)).bind fun r9=>match r9 with
   | .inl o10=>(t24 (o10.1,o10.2,0)).bind fun r13=>match r13 with
    | .inl o14=>(u80 (o14.1,o14.2,0)).bind fun r18=>match r18 with
     | .inl o19=>some true | .inr z20=>some z20
    | .inr z21=>some z21
   | .inr z22=>some z22
  | .inr z23=>some z23)=some (a1&&((a2&&a3)&&((a4&&a5)&&a6))):=by
  rw[L1];cases a1
  .rfl
  .simp only[Ad,zOb,Bz];rw[L2'];cases (a2&&a3)
   .rfl
   .simp only[Ad,zOb,Bz];rw[L3];cases (a4&&a5)
    .rfl
    .simp only[Ad,zOb,Bz];rw[hI];cases a6<;>rfl
 cases c1<;>cases c3<;>cases c4<;>cases c5<;>cases c6<;>simp only[Ap,Bh,Ad,Aa,zOb,Fx,Fy,Bz,Cz]
 exact hR
theorem j6c (e:u21):d42.wt e=d7k.wt e.1+(Ty.sl u0v).wt e.2:=rfl
theorem o7y (e:u21) (hw:d42.wt e<=u0m):s90 e=some (o55 e):=by
 have hb:u0m=1099511627776:=rfl;have hew:=j6c e;have hbw:=q4e e.1;have n1:=s3x (t:=u0v) e.2;have n2:=s3x (t:=u0v) e.1.2.1;have n3:=s3x (t:=u0v) e.1.2.2.1
 have L:=t2v t7d e.2.length (fun i=>(e,e.2,(e.2.length:Int),i)) (fun i=>(fun t:u0i=>u71 t&&(decide (t.2.1=1)&&decide (t.2.2.1<=e.1.2.2.2.1))) (rdL u0v e.2 i)&&(decide (i=0) || (fun x y:u0i=>decide (x.1<y.1)) (rdL u0v e.2 (i - 1)) (rdL u0v e.2 i))) (.inl ()) (.inr false)
  (by rw[r6f];simp only[t6k,u0b,Am,Ah,Aa])
  (fun i hi=>by
   have hm:rdL u0v e.2 i∈e.2:=by rw[y8f hi];exact Ag hi
   have ht:=p09 hm;have hk:=s8y (rdL u0v e.2 i) (by omega);rw[r6f];simp only[t6k,u0b,hi,Ae,Ad,y7p hi,zTn,y7h (show i<4611686018427387904 by omega),q4n (rdL u0v e.2 i).2.2.1 e.1.2.2.2.1,s41,zOb];rw[hk];simp only[zOb];generalize u71 (rdL u0v e.2 i)=b1;generalize decide ((rdL u0v e.2 i).2.1=1)=b2;generalize decide ((rdL u0v e.2 i).2.2.1<=e.1.2.2.2.1)=b3;by_cases h0:i=0
   .subst h0;simp only[Ae,Ap,Aa,Dx,Cz];cases b1<;>cases b2<;>cases b3<;>rfl
   .simp only[h0,Ah,Bh,Ad,Ci,t9c (show i<4611686018427387904 by omega) h0,y7p (show i - 1<e.2.length by omega),zTn,p7l (rdL u0v e.2 (i - 1)).1 (rdL u0v e.2 i).1];generalize decide ((rdL u0v e.2 (i - 1)).1<(rdL u0v e.2 i).1)=b4;cases b1<;>cases b2<;>cases b3<;>cases b4<;>rfl)
 rw[r3o (t:=u0v) e.2 (fun t:u0i=>u71 t&&(decide (t.2.1=1)&&decide (t.2.2.1<=e.1.2.2.2.1))) (fun x y:u0i=>decide (x.1<y.1))] at L;have hC:=o6d [e.1.2.1,e.1.2.2.1,e.2] (by simp only[List.flatten_cons,List.flatten_nil,Bw,Ba];omega) (by simp);have hf: [e.1.2.1,e.1.2.2.1,e.2].flatten=e.1.2.1++e.1.2.2.1++e.2:=by simp
 rw[hf] at hC;have hI:=q9j (e.1.2.1++e.1.2.2.1++e.2) e.1.2.2.2.2 (by rw[Ba,Ba];omega);have hB:=t1q e.1 (by omega);rw[o03];unfold q21;rw[hB];simp only[zOb,gt4];rw[hC];simp only[zOb];rw[hI];simp only[zOb];rw[L];unfold o55 j6l;cases u8t e.1<;>cases decide (e.2.length<=4)<;>cases p0s (u51 (e.1.2.1++e.1.2.2.1++e.2)) e.1.2.2.2.2<;>try rfl
 all_goals
  cases e.2.all (fun t:u0i=>u71 t&&(decide (t.2.1=1)&&decide (t.2.2.1<=e.1.2.2.2.1)))<;>cases o4a u0v (fun x y:u0i=>decide (x.1<y.1)) e.2<;>rfl
theorem d2a {b:u0j} {o:Hu u0i} (hb:p0s (u51 (b.2.1++b.2.2.1)) b.2.2.2.2=true) (ho:o4a u0v (fun x y:u0i=>decide (x.1<y.1)) o=true):
 p0s (u51 (b.2.1++b.2.2.1++o)) b.2.2.2.2=o.all (fun t=>decide (t.1<b.2.2.2.2)&&((b.2.1.all fun x=> !decide (x.1=t.1))&&(b.2.2.1.all fun x=> !decide (x.1=t.1)))):=by
 rw[c1i (f:=fun t=>t.1)] at ho;obtain⟨h1,h2⟩:=q4o.mp hb;rw[Cd,q4o,Bg];simp only[Ai,Ar,Bg,Bj,Bu];unfold u51 at*;constructor
 .rintro⟨k1,k2⟩ t ht
  rw[Dh,Gp] at k2;refine⟨k1 _ (Bx.mpr ⟨t,by simp[ht],rfl⟩),fun x hx=> ?_,fun x hx=> ?_⟩
  .exact k2.2.2 _ (Bx.mpr ⟨x,by simp[hx],rfl⟩) _ (Bx.mpr ⟨t,ht,rfl⟩)
  .exact k2.2.2 _ (Bx.mpr ⟨x,by simp[hx],rfl⟩) _ (Bx.mpr ⟨t,ht,rfl⟩)
 .intro k;constructor
  .intro x hx;obtain⟨t,ht,rfl⟩:=Bx.mp hx;rcases Ay.mp ht with q | q
   .exact h1 _ (Bx.mpr ⟨t,q,rfl⟩)
   .exact(k t q).1
  .rw[Dh,Gp];refine⟨h2,?_,?_⟩
   .rw[D8,Dl];exact ho.imp fun {a b} q e=>by omega
   .intro a ha c hc e;obtain⟨x,hx,rfl⟩:=Bx.mp ha;obtain⟨t,ht,rfl⟩:=Bx.mp hc;rcases Ay.mp hx with q | q
    .exact(k t ht).2.1 x q e
    .exact(k t ht).2.2 x q e
theorem p1f (e:u21) (hw:d42.wt e<=549755813888):s26 e=some (o55 e):=by
 have hb:u0m=1099511627776:=rfl;have hew:=j6c e;have hbw:=q4e e.1;have n1:=s3x (t:=u0v) e.2;have n2:=s3x (t:=u0v) e.1.2.1;have n3:=s3x (t:=u0v) e.1.2.2.1;have I1:∀(j:Int) (t:u0i),u9h (e,j,t,0)=some (bif (e.1.2.1.all fun x=> !decide (x.1=t.1)) then .inl (e,j,t) else .inr false):=fun j t=>by
  have L:=t2v u9h e.1.2.1.length (fun i=>(e,j,t,i)) (fun i=>(fun x:u0i=> !decide (x.1=t.1)) (rdL u0v e.1.2.1 i)) (.inl (e,j,t)) (.inr false)
   (by rw[r22];simp only[t4n,u0b,Am,Ah,Aa])
   (fun i hi=>by
    rw[r22];simp only[t4n,u0b,hi,Ae,Ad,y7p hi,zTn,y7h (show i<4611686018427387904 by omega)];cases decide ((rdL u0v e.1.2.1 i).1=t.1)<;>rfl)
  rw[s2p (t:=u0v) e.1.2.1 (fun x:u0i=> !decide (x.1=t.1))] at L;exact L
 have I2:∀(j:Int) (t:u0i),u6z (e,j,t,0)=some (bif (e.1.2.2.1.all fun x=> !decide (x.1=t.1)) then .inl (e,j) else .inr false):=fun j t=>by
  have L:=t2v u6z e.1.2.2.1.length (fun i=>(e,j,t,i)) (fun i=>(fun x:u0i=> !decide (x.1=t.1)) (rdL u0v e.1.2.2.1 i)) (.inl (e,j)) (.inr false)
   (by rw[r23];simp only[t4o,u0b,Am,Ah,Aa])
   (fun i hi=>by
    rw[r23];simp only[t4o,u0b,hi,Ae,Ad,y7p hi,zTn,y7h (show i<4611686018427387904 by omega)];cases decide ((rdL u0v e.1.2.2.1 i).1=t.1)<;>rfl)
  rw[s2p (t:=u0v) e.1.2.2.1 (fun x:u0i=> !decide (x.1=t.1))] at L;exact L
 have L:=t2v u8f e.2.length (fun i=>(e,i)) (fun i=>(fun t:u0i=>(u71 t&&(decide (t.2.1=1)&&decide (t.2.2.1<=e.1.2.2.2.1)))&&(decide (t.1<e.1.2.2.2.2)&&((e.1.2.1.all fun x=> !decide (x.1=t.1))&&(e.1.2.2.1.all fun x=> !decide (x.1=t.1))))) (rdL u0v e.2 i)&&(decide (i=0) || (fun x y:u0i=>decide (x.1<y.1)) (rdL u0v e.2 (i - 1)) (rdL u0v e.2 i))) (.inl ()) (.inr false)
  (by rw[r6q];simp only[t6v,u0b,Am,Ah,Aa])
  (fun i hi=>by
   have hm:rdL u0v e.2 i∈e.2:=by rw[y8f hi];exact Ag hi
   have ht:=p09 hm;have hk:=s1j (rdL u0v e.2 i) (by omega);have k1:=I1 (i:Int) (rdL u0v e.2 i);have k2:=I2 (i:Int) (rdL u0v e.2 i);rw[r6q];simp only[t6v,u0b,hi,Ae,Ad,y7p hi,zTn,y7h (show i<4611686018427387904 by omega),q4n (rdL u0v e.2 i).2.2.1 e.1.2.2.2.1,p7l (rdL u0v e.2 i).1 e.1.2.2.2.2,s41,zOb];rw[hk,k1];simp only[zOb];generalize u71 (rdL u0v e.2 i)=b1;generalize decide ((rdL u0v e.2 i).2.1=1)=b2;generalize decide ((rdL u0v e.2 i).2.2.1<=e.1.2.2.2.1)=b3;generalize decide ((rdL u0v e.2 i).1<e.1.2.2.2.2)=b5;generalize (e.1.2.1.all fun x=> !decide (x.1=(rdL u0v e.2 i).1))=b6;generalize (e.1.2.2.1.all fun x=> !decide (x.1=(rdL u0v e.2 i).1))=b7 at k2 ⊢;have tail:((bif b6 then Sum.inl (e,(i:Int),rdL u0v e.2 i) else Sum.inr false:(u21×Int×u0i)⊕Bool) |>fun r5=>(match r5 with
    | .inl o6=>(u6z (o6.1,o6.2.1,o6.2.2,0)).bind fun r7=>match r7 with
     | .inl o8=>u8f (o8.1,i64.wrap (o8.2+1)) | .inr z9=>some (.inr z9)
    | .inr z10=>some (.inr z10)))=bif b6&&b7 then u8f (e,((i+1:Nat):Int)) else some (.inr false):=by
    cases b6
    .rfl
    .simp only[Ad];rw[k2];cases b7
     .rfl
     .simp only[Ad,zOb,y7h (show i<4611686018427387904 by omega)];rfl
   by_cases h0:i=0
   .subst h0;simp only[Ae,Ap,Aa,Dx,Cz];cases b1<;>cases b2<;>cases b3<;>cases b5<;>try rfl
    exact tail
   .simp only[h0,Ah,Bh,Ad,Ci,t9c (show i<4611686018427387904 by omega) h0,y7p (show i - 1<e.2.length by omega),zTn,p7l (rdL u0v e.2 (i - 1)).1 (rdL u0v e.2 i).1];generalize decide ((rdL u0v e.2 (i - 1)).1<(rdL u0v e.2 i).1)=b4;cases b1<;>cases b2<;>cases b3<;>cases b5<;>cases b4<;>(first | rfl | (rw[Fy];rfl) | (rw[Cz];exact tail)))
 rw[r3o (t:=u0v) e.2 (fun t:u0i=>(u71 t&&(decide (t.2.1=1)&&decide (t.2.2.1<=e.1.2.2.2.1)))&&(decide (t.1<e.1.2.2.2.2)&&((e.1.2.1.all fun x=> !decide (x.1=t.1))&&(e.1.2.2.1.all fun x=> !decide (x.1=t.1))))) (fun x y:u0i=>decide (x.1<y.1)),j9r] at L;have hB:=s3y e.1 (by omega);rw[o1n];unfold q3k;rw[hB];simp only[zOb,gt4];rw[L];unfold o55 j6l;cases h1:u8t e.1
 .rfl
 .have hbi:p0s (u51 (e.1.2.1++e.1.2.2.1)) e.1.2.2.2.2=true:=by
   have:=o6q.mp h1;exact q4o.mpr ⟨this.below,this.nodup⟩
  cases ha:o4a u0v (fun x y:u0i=>decide (x.1<y.1)) e.2
  .cases decide (e.2.length<=4)<;>simp
  .rw[d2a hbi ha];cases decide (e.2.length<=4)
   .rfl
   .simp only[Ap,Aa,zOb,Bz,Cz];cases (e.2.all fun t:u0i=>u71 t&&(decide (t.2.1=1)&&decide (t.2.2.1<=e.1.2.2.2.1)))
    .rfl
    .simp only[Bz];cases (e.2.all fun t:u0i=>decide (t.1<e.1.2.2.2.2)&&((e.1.2.1.all fun x=> !decide (x.1=t.1))&&(e.1.2.2.1.all fun x=> !decide (x.1=t.1))))<;>rfl
theorem d9s (n:Nat):decide ((n:Int)=0)=decide (n=0):=by simp
theorem d2p (t:u0i):s97 t=some (noT t):=by
 rw[o1i];unfold q3f noT;simp only[d9s,t7t];cases decide (t.1=0)<;>cases decide (t.2.1=0)<;>cases decide (t.2.2.1=0)<;>cases decide (t.2.2.2.1=0)<;>cases decide (t.2.2.2.2.1.length=0)<;>cases decide (t.2.2.2.2.2.1.length=0)<;>cases t.2.2.2.2.2.2.1<;>rfl
theorem d2q (t:u0i):s3j t=some (noT t):=by
 rw[o2i];unfold q37 noT;simp only[d9s,t7t];cases decide (t.1=0)<;>cases decide (t.2.1=0)<;>cases decide (t.2.2.1=0)<;>cases decide (t.2.2.2.1=0)<;>cases decide (t.2.2.2.2.1.length=0)<;>cases decide (t.2.2.2.2.2.1.length=0)<;>cases t.2.2.2.2.2.2.1<;>rfl
theorem d2m (b:u0j):s6y b=some (noB b):=by
 rw[p8n];unfold r8y noB;simp only[d9s];cases decide (b.1.length=0)<;>cases decide (b.2.1.length=0)<;>cases decide (b.2.2.1.length=0)<;>cases decide (b.2.2.2.1=0)<;>rfl
theorem d2n (b:u0j):s62 b=some (noB b):=by
 rw[p89];unfold r9k noB;simp only[d9s];cases decide (b.1.length=0)<;>cases decide (b.2.1.length=0)<;>cases decide (b.2.2.1.length=0)<;>cases decide (b.2.2.2.1=0)<;>cases decide (b.2.2.2.2=0)<;>rfl
theorem q5u (r:r03):c09.wt r=0+(u0v.wt r.2.1+(r.2.2.1.size+(0+d7k.wt r.2.2.2.2))):=rfl
theorem p1i (r:r03) (hw:c09.wt r<=549755813888):s2y r=some (u70 r):=by
 have hb:u0m=1099511627776:=rfl;have hr:=q5u r;have k1:=s8y r.2.1 (by omega);have k2:=t1q r.2.2.2.2 (by omega);have k3:=s8x r.2.2.1 (by omega);rw[o08];unfold q26;rw[d2p,d2m];simp only[k1,k2,k3,p0u,p7m,zOb,t7t];unfold u70;generalize u71 r.2.1=c1;generalize u8t r.2.2.2.2=c2;generalize u7u r.2.2.1=c3;generalize noT r.2.1=c4;generalize noB r.2.2.2.2=c5;generalize decide (r.2.2.1.size=0)=c6;generalize decide (r.2.1.2.1=3)=c7;generalize decide (r.2.1.2.1=2)=c8;generalize r.2.2.2.1=c9;by_cases h1:r.1=1
 .simp only[h1,Ae,Ad,Bl];cases c1<;>cases c5<;>cases c6<;>cases c7<;>cases c9<;>rfl
 .by_cases h2:r.1=2
  .simp only[h2,Ae,Ad,Bl];cases c1<;>cases c5<;>cases c6<;>cases c8<;>cases c9<;>rfl
  .by_cases h3:r.1=3
   .simp only[h3,Ae,Ad,Bl];cases c3<;>cases c4<;>cases c5<;>cases c9<;>rfl
   .by_cases h4:r.1=4
    .simp only[h4,Ae,Ad,Bl];cases c2<;>cases c4<;>cases c6<;>cases c9<;>rfl
    .simp only[h1,h2,h3,h4,Ah,Aa,Bk]
theorem p1j (r:r03) (hw:c09.wt r<=549755813888):s3a r=some (u70 r):=by
 have hb:u0m=1099511627776:=rfl;have hr:=q5u r;have k1:=s1j r.2.1 (by omega);have k2:=s3y r.2.2.2.2 (by omega);have k3:=s1h r.2.2.1 (by omega);rw[o1v];unfold q3s;simp only[k1,k2,k3,r5a,d2q,d2n,zOb,t7t];unfold u70;generalize u71 r.2.1=c1;generalize u8t r.2.2.2.2=c2;generalize u7u r.2.2.1=c3;generalize noT r.2.1=c4;generalize noB r.2.2.2.2=c5;generalize decide (r.2.2.1.size=0)=c6;generalize r.2.2.2.1=c9;by_cases h1:r.1=1
 .simp only[h1,show inB 1 1 4=true from rfl,Ae,Ad,Bl];generalize decide (r.2.1.2.1=3)=c7;generalize decide (r.2.1.2.1=2)=c8;cases c1<;>cases c5<;>cases c6<;>cases c7<;>cases c8<;>cases c9<;>rfl
 .by_cases h2:r.1=2
  .simp only[h2,show inB 2 1 4=true from rfl,Ae,Ad,Bl];generalize decide (r.2.1.2.1=3)=c7;generalize decide (r.2.1.2.1=2)=c8;cases c1<;>cases c5<;>cases c6<;>cases c7<;>cases c8<;>cases c9<;>rfl
  .by_cases h3:r.1=3
   .simp only[h3,show inB 3 1 4=true from rfl,Ae,Ad,Bl];cases c3<;>cases c4<;>cases c5<;>cases c9<;>rfl
   .by_cases h4:r.1=4
    .simp only[h4,show inB 4 1 4=true from rfl,Ae,Ad,Bl];cases c2<;>cases c4<;>cases c6<;>cases c9<;>rfl
    .have:inB r.1 1 4=false:=by
      cases h:inB r.1 1 4
      .rfl
      .have:=p52.mp h;omega
     simp only[h1,h2,h3,h4,this,Ah,Aa,Bk,Bh,Ad]
theorem q89 {α:Type} {P:Prop} [Decidable P] {a b:α} (h:P):(bif decide P then a else b)=a:=by rw[Bb h];rfl
theorem p4r {α:Type} {n:Nat} {a b:α} (h:n<=1099511627776):(bif Nat.ble n z7v then a else b)=a:=by rw[u0q h];rfl
theorem u7i {n:Int} (h0:0<=n) (h1:n<=1000000000):u15 n=some (q50 n):=by
 obtain⟨m,rfl⟩:∃m:Nat,n=m:=⟨n.toNat,by omega⟩;rw[o2v m (by omega)];rfl
theorem j5v {n:Int} (h0:0<=n) (h1:n<=1000000000):t35 n=some (q50 n,true):=by
 rw[q2v,Al ⟨h0,h1⟩];rfl
theorem s1i {s:Hs} (h:s.size<=10000):u3y s=some (u07 s):=by
 rw[o2h];unfold q36;rw[u7i (by omega) (by omega)];simp only[zOb];have:=u16 (n:=(s.size:Int)) (by omega);rw[q89 (by omega)];rfl
theorem j7k {s:Hs} (h:s.size<=10000):s00 s=some (u07 s,true):=by
 rw[j1h s (by omega),Ao (by omega)]
theorem p9q (b:Bool):t71 b=some (j42 b):=by
 rw[o9s];unfold p2u;cases b<;>rfl
theorem p4a {r:s6l} (h:r.1.size<=100/\r.2.size<=100):(j4f r).size<=204:=by
 have q1:=u1a (s:=r.1) (by omega);have q2:=u1a (s:=r.2) (by omega);unfold j4f;rw[Af];omega
theorem s4z {E:Type} (f:E->Hs) (l:Hu E) (s:Hs):l.foldl (fun s x=>s++f x) s=s++q2b f l:=p26 f l s
theorem s5n (t:u0i) (ht:u0v.wt t<=549755813888):t39 t=some (if u71 t=true then(t1g t,true) else(emp,false)):=by
 have hb:u0m=1099511627776:=rfl;rw[o5h];unfold q8k;rw[s1j t (by omega)];simp only[zOb];cases hc:u71 t
 .rfl
 .have h:=p4g.mp hc;obtain⟨z1,z2,z3,z4,z5⟩:=h.small;have hi:=h.id;have hst:=h.st;have hsn:=h.snap;have hrl:=h.rlen;have v1:=u16 (n:=t.1) (by omega);have v2:=u16 (n:=t.2.1) (by omega);have v3:=u16 (n:=t.2.2.1) (by omega);have v4:=u16 (n:=t.2.2.2.1) (by omega);have v5:=u16 (n:=(t.2.2.2.2.1.length:Int)) (by omega);have v6:=u16 (n:=(t.2.2.2.2.2.1.length:Int)) (by omega);have v7:=u1a (s:=t.2.2.2.2.2.2.2) (by omega);have L1:∀A:Hs,A.size<=1000->t3e (t,A,0)=some (.inl (t,A++q2b j4f t.2.2.2.2.1)):=fun A hA=>by
   have:=u8m t3e t.2.2.2.2.1 (fun(A:Hs) i=>(t,A,i)) (fun A r=>A++j4f r) (fun A=> .inl (t,A)) (fun i A=>A.size<=1000+i*204)
    (fun A _=>by rw[q11];simp only[t97,u0b,Am,Ah,Aa])
    (fun i hi A hP=>by
     have hr:=z1 _ (Ag hi);have hs:=p4a (r:=t.2.2.2.2.1[i]) (by omega);have hs' :=hs;unfold j4f at hs';rw[Af] at hs';refine⟨by rw[Af,C7];omega,?_⟩;rw[q11];simp only[t97,u0b,hi,Ae,Ad,y7p hi,zTn,y8f (t:=t3k) hi,y7h (show i<4611686018427387904 by omega)];rw[s1i (by omega),s1i (by omega)];simp only[zOb];rw[q89 (by omega),q89 (by rw[Af];omega),t0l];rfl) A (by omega)
   rw[s4z] at this;exact this
  have L2:∀A:Hs,A.size<=10000->t0w (t,A,0)=some (.inl (t,A++q2b wrT t.2.2.2.2.2.1)):=fun A hA=>by
   have:=u8m t0w t.2.2.2.2.2.1 (fun(A:Hs) i=>(t,A,i)) (fun A r=>A++wrT r) (fun A=> .inl (t,A)) (fun i A=>A.size<=10000+i*304)
    (fun A _=>by rw[r62];simp only[t67,u0b,Am,Ah,Aa])
    (fun i hi A hP=>by
     have hr:=z2 _ (Ag hi);have q1:=u1a (s:=(t.2.2.2.2.2.1[i]).1) (by omega);have q2:=u1a (s:=(t.2.2.2.2.2.1[i]).2.1) (by omega);have q3:=u3s (t.2.2.2.2.2.1[i]).2.2;refine⟨by unfold wrT;simp only[Af,C7];omega,?_⟩;rw[r62];simp only[t67,u0b,hi,Ae,Ad,y7p hi,zTn,y8f (t:=u2l) hi,y7h (show i<4611686018427387904 by omega)];rw[s1i (by omega),s1i (by omega),p9q];simp only[zOb];rw[q89 (by omega),q89 (by rw[Af];omega),q89 (by simp only[Af];omega),t0l,t0l];rfl) A (by omega)
   rw[s4z] at this;exact this
  have n1:(q2b j4f t.2.2.2.2.1).size<=t.2.2.2.2.1.length*204:=s2r fun r hr=>p4a (by have:=z1 r hr;omega)
  have n2:(q2b wrT t.2.2.2.2.2.1).size<=t.2.2.2.2.2.1.length*304:=s2r fun w hw=>by
   have:=z2 w hw;have q1:=u1a (s:=w.1) (by omega);have q2:=u1a (s:=w.2.1) (by omega);unfold wrT;rw[Af,Af,u3s];omega
  simp only[Ap,Aa,Bl];rw[u7i (n:=t.1) (by omega) (by omega),u7i (n:=t.2.1) (by omega) (by omega),u7i (n:=t.2.2.1) (by omega) (by omega),u7i (n:=t.2.2.2.1) (by omega) (by omega),u7i (n:=(t.2.2.2.2.1.length:Int)) (by omega) (by omega)];simp only[zOb];rw[q89 (by omega),q89 (by simp only[Af];omega),q89 (by simp only[Af];omega),q89 (by simp only[Af];omega),L1 _ (by simp only[Af];omega)];simp only[zOb];rw[u7i (n:=(t.2.2.2.2.2.1.length:Int)) (by omega) (by omega)];simp only[zOb];rw[q89 (by simp only[Af];omega),L2 _ (by simp only[Af];omega)];simp only[zOb];rw[p9q,s1i (by omega)];simp only[zOb];rw[q89 (by simp only[Af,u3s];omega),q89 (by simp only[Af,u3s];omega)];unfold t1g;simp only[t0l]
theorem d08 {l:Hu u0i} {t:u0i} (h:t∈l) (hl:(Ty.sl u0v).wt l<=549755813888):u0v.wt t<=549755813888:=A9 (p09 h) hl
theorem j1m (l:Hu u0i) (hl:(Ty.sl u0v).wt l<=549755813888) (hn:l.length<=10000) (h:∀t∈l,TxnR t):s5g l=some (r6c l):=by
 have v1:=u16 (n:=(l.length:Int)) (by omega);have L:t3h (l,q50 (l.length:Int),0)=some (.inl (q50 (l.length:Int)++q2b t1g l)):=by
  have:=u8m t3h l (fun(A:Hs) i=>(l,A,i)) (fun A r=>A++t1g r) (fun A=> .inl A) (fun i A=>A.size<=2+i*300)
   (fun A _=>by rw[q16];simp only[s0c,u0b,Am,Ah,Aa])
   (fun i hi A hP=>by
    have hm:=Ag hi;have hr:=s3m (h _ hm);refine⟨by rw[Af,C7];omega,?_⟩;rw[q16];simp only[s0c,u0b,hi,Ae,Ad,y7p hi,zTn,y8f (t:=u0v) hi,y7h (show i<4611686018427387904 by omega)];rw[s5n _ (d08 hm hl),Al (p4g.mpr (h _ hm))];simp only[zOb];rw[q89 (by omega)]) (q50 (l.length:Int)) (by omega)
  rw[s4z] at this;exact this
 rw[o5w];unfold q80;rw[u7i (by omega) (by omega)];simp only[zOb];rw[L];rfl
theorem o7x (b:u0j) (hw:d7k.wt b<=549755813888):r0a b=some (if u8t b=true then(s5q b,true) else(emp,false)):=by
 have hbw:=q4e b;rw[o1m];unfold q3j;rw[s3y b hw];simp only[zOb];cases hc:u8t b
 .rfl
 .have h:=o6q.mp hc;obtain⟨w1,w2,w3⟩:=d1p.mp h.vs;have hcs:=h.cs;have hx:=h.next;have hp:=h.plen;have hr:=h.rlen;have q1:=u16 (n:=b.2.2.2.1) (by omega);have q2:=u16 (n:=b.2.2.2.2) (by omega);have q3:=u16 (n:=(b.1.length:Int)) (by omega);have q4:=s2r (f:=j31) (k:=22) (l:=b.1) (fun v hv=>p4l (w1 v hv));have q5:=s80 (l:=b.2.1) (by omega) (fun t ht=>(h.past t ht).1);have q6:=s80 (l:=b.2.2.1) (by omega) (fun t ht=>(h.ready t ht).1);have L:∀A:Hs,A.size<=1000->t0r (b,A,0)=some (.inl (b,A++q2b j31 b.1)):=fun A hA=>by
   have:=u8m t0r b.1 (fun(A:Hs) i=>(b,A,i)) (fun A r=>A++j31 r) (fun A=> .inl (b,A)) (fun i A=>A.size<=1000+i*22)
    (fun A _=>by rw[r6p];simp only[t6u,u0b,Am,Ah,Aa])
    (fun i hi A hP=>by
     have hm:=w1 _ (Ag hi);have hr:=p4l hm;have hv:=r0p hm;have s1:=u1a (s:=(b.1[i]).1) (by omega);have s2:=u1a (s:=(b.1[i]).2.1) (by omega);have s3:=u3s (b.1[i]).2.2.1;have s4:=u16 (n:=(b.1[i]).2.2.2) (by omega);refine⟨by rw[Af,C7];omega,?_⟩;rw[r6p];simp only[t6u,u0b,hi,Ae,Ad,y7p hi,zTn,y8f (t:=u0c) hi,y7h (show i<4611686018427387904 by omega)];rw[s1i (by omega),s1i (by omega),p9q,u7i (by omega) (by omega)];simp only[zOb];rw[q89 (by omega),q89 (by simp only[Af];omega),q89 (by simp only[Af];omega),q89 (by simp only[Af];omega)];unfold j31;simp only[t0l]) A (by omega)
   rw[s4z] at this;exact this
  simp only[Ap,Aa,Bl];rw[u7i (n:=b.2.2.2.1) (by omega) (by omega),u7i (n:=b.2.2.2.2) (by omega) (by omega),u7i (n:=(b.1.length:Int)) (by omega) (by omega)];simp only[zOb];rw[q89 (by omega),q89 (by simp only[Af];omega),L _ (by simp only[Af];omega)];simp only[zOb];rw[j1m b.2.1 (by omega) (by omega) (fun t ht=>(h.past t ht).1),j1m b.2.2.1 (by omega) (by omega) (fun t ht=>(h.ready t ht).1)];simp only[zOb];rw[q89 (by simp only[Af];omega),q89 (by simp only[Af];omega)];unfold s5q;simp only[t0l]
theorem s9w (A:Hs) (ns:Hu Int) (hn:∀n∈ns,0<=n/\n<16384) (hl:ns.length<=10) (hA:A.size<=1000000):u6p (z7s A,ns)=some (z7s (A++q2b q50 ns)):=by
 have:=u8m t7k ns (fun(A:Hs) i=>(z7s A,ns,(ns.length:Int),i)) (fun A n=>A++q50 n) (fun A=> .inl (z7s A)) (fun i A=>A.size<=1000000+i*2)
  (fun A _=>by rw[r6o];simp only[t6t,u0b,Am,Ah,Aa])
  (fun i hi A hP=>by
   have hm:=hn _ (Ag hi);have hv:=u16 (n:=ns[i]) hm.2;refine⟨by rw[Af,C7];omega,?_⟩;rw[r6o];simp only[t6t,u0b,hi,Ae,Ad,y7p hi,zTn,y8f (t:=Ty.int .i64) hi,y7h (show i<4611686018427387904 by omega)];rw[j5v hm.1 (by omega)];simp only[zOb];rw[p4r (by rw[u84,u84];omega),s1o]) A (by omega)
 rw[s4z] at this;rw[o1j];unfold q3g;simp only;rw[this];rfl
theorem s54 (A:Hs) (ns:Hu Hs) (hn:∀n∈ns,n.size<=100) (hl:ns.length<=10) (hA:A.size<=1000000):u7e (z7s A,ns)=some (z7s (A++q2b u07 ns)):=by
 have:=u8m t40 ns (fun(A:Hs) i=>(z7s A,ns,(ns.length:Int),i)) (fun A n=>A++u07 n) (fun A=> .inl (z7s A)) (fun i A=>A.size<=1000000+i*102)
  (fun A _=>by rw[r20];simp only[t4l,u0b,Am,Ah,Aa])
  (fun i hi A hP=>by
   have hm:=hn _ (Ag hi);have hv:=u1a (s:=ns[i]) (by omega);refine⟨by rw[Af,C7];omega,?_⟩;rw[r20];simp only[t4l,u0b,hi,Ae,Ad,y7p hi,zTn,y8f (t:=Ty.str) hi,y7h (show i<4611686018427387904 by omega)];rw[j7k (by omega)];simp only[zOb];rw[p4r (by rw[u84,u84];omega),s1o]) A (by omega)
 rw[s4z] at this;rw[p8r];unfold r82;simp only;rw[this];rfl
theorem r2j (A:Hs) (b:Bool) (hA:A.size<=1000000):u87 (z7s A,b)=some (z7s (A++j42 b)):=by
 rw[p8q];unfold r81;have e:z7s (j42 b)= [if b then 1 else 0] :=by cases b<;>rfl
 rw[s1o,e];cases b
 .simp only[Aa];rw[p4r (by rw[u84];simp;omega)];rfl
 .simp only[Ad];rw[p4r (by rw[u84];simp;omega)];rfl
theorem p7q (ns:Hu Int) (hn:∀n∈ns,0<=n/\n<16384) (hl:ns.length<=10):u6p (([] :Hu Int),ns)=some (z7s (q2b q50 ns)):=by
 have:=s9w emp ns hn hl (by simp[emp,ByteArray.size]);rw[j47] at this;exact this
theorem r7o {E:Type} (f:E->Hs) (a:E):q2b f [a] =f a:=by rw[s9g,o8i,j40]
theorem p9u {E:Type} (f:E->Hs) (a b:E):q2b f [a,b] =f a++f b:=by rw[s9g,r7o]
theorem o6r {E:Type} (f:E->Hs) (a b c:E):q2b f [a,b,c] =f a++(f b++f c):=by rw[s9g,p9u]
theorem j9x {E:Type} (f:E->Hs) (a b c d e:E):q2b f [a,b,c,d,e] =f a++(f b++(f c++(f d++f e))):=by rw[s9g,s9g,o6r]
theorem s5m (t:u0i) (ht:u0v.wt t<=549755813888):t34 t=some (if u71 t=true then(t1g t,true) else(emp,false)):=by
 have hb:u0m=1099511627776:=rfl;rw[o4t];unfold q7w;rw[s8y t (by omega)];simp only[zOb];cases hc:u71 t
 .rfl
 .have h:=p4g.mp hc;obtain⟨z1,z2,z3,z4,z5⟩:=h.small;have hi:=h.id;have hst:=h.st;have hsn:=h.snap;have hrl:=h.rlen;have v1:=u16 (n:=t.1) (by omega);have v2:=u16 (n:=t.2.1) (by omega);have v3:=u16 (n:=t.2.2.1) (by omega);have v4:=u16 (n:=t.2.2.2.1) (by omega);have v5:=u16 (n:=(t.2.2.2.2.1.length:Int)) (by omega);have v6:=u16 (n:=(t.2.2.2.2.2.1.length:Int)) (by omega);have v7:=u1a (s:=t.2.2.2.2.2.2.2) (by omega);have L1:∀A:Hs,A.size<=1000->t23 (t,z7s A,t.2.2.2.2.1,(t.2.2.2.2.1.length:Int),0)=some (.inl (t,z7s (A++q2b j4f t.2.2.2.2.1))):=fun A hA=>by
   have:=u8m t23 t.2.2.2.2.1 (fun(A:Hs) i=>(t,z7s A,t.2.2.2.2.1,(t.2.2.2.2.1.length:Int),i)) (fun A r=>A++j4f r) (fun A=> .inl (t,z7s A)) (fun i A=>A.size<=1000+i*204)
    (fun A _=>by rw[q1i];simp only[t9o,u0b,Am,Ah,Aa])
    (fun i hi A hP=>by
     have hr:=z1 _ (Ag hi);have hs:=p4a (r:=t.2.2.2.2.1[i]) (by omega);refine⟨by rw[Af,C7];omega,?_⟩;rw[q1i];simp only[t9o,u0b,hi,Ae,Ad,y7p hi,zTn,y8f (t:=t3k) hi,y7h (show i<4611686018427387904 by omega)];rw[s54 A [(t.2.2.2.2.1[i]).1,(t.2.2.2.2.1[i]).2] (by intro n hn;simp only[A8,Du,Em] at hn;rcases hn with rfl | rfl<;>omega) (by simp) (by omega)];simp only[zOb];rw[p9u];rfl) A (by omega)
   rw[s4z] at this;exact this
  have L2:∀A:Hs,A.size<=10000->t0q (t,z7s A,t.2.2.2.2.2.1,(t.2.2.2.2.2.1.length:Int),0)=some (.inl (t,z7s (A++q2b wrT t.2.2.2.2.2.1))):=fun A hA=>by
   have:=u8m t0q t.2.2.2.2.2.1 (fun(A:Hs) i=>(t,z7s A,t.2.2.2.2.2.1,(t.2.2.2.2.2.1.length:Int),i)) (fun A r=>A++wrT r) (fun A=> .inl (t,z7s A)) (fun i A=>A.size<=10000+i*304)
    (fun A _=>by rw[r6l];simp only[t6q,u0b,Am,Ah,Aa])
    (fun i hi A hP=>by
     have hr:=z2 _ (Ag hi);have q1:=u1a (s:=(t.2.2.2.2.2.1[i]).1) (by omega);have q2:=u1a (s:=(t.2.2.2.2.2.1[i]).2.1) (by omega);have q3:=u3s (t.2.2.2.2.2.1[i]).2.2;refine⟨by unfold wrT;simp only[Af,C7];omega,?_⟩;rw[r6l];simp only[t6q,u0b,hi,Ae,Ad,y7p hi,zTn,y8f (t:=u2l) hi,y7h (show i<4611686018427387904 by omega)];rw[s54 A [(t.2.2.2.2.2.1[i]).1,(t.2.2.2.2.2.1[i]).2.1] (by intro n hn;simp only[A8,Du,Em] at hn;rcases hn with rfl | rfl<;>omega) (by simp) (by omega)];simp only[zOb];rw[p9u,r2j _ _ (by simp only[Af];omega)];simp only[zOb];unfold wrT;simp only[t0l]) A (by omega)
   rw[s4z] at this;exact this
  have n1:(q2b j4f t.2.2.2.2.1).size<=t.2.2.2.2.1.length*204:=s2r fun r hr=>p4a (by have:=z1 r hr;omega)
  have n2:(q2b wrT t.2.2.2.2.2.1).size<=t.2.2.2.2.2.1.length*304:=s2r fun w hw=>by
   have:=z2 w hw;have q1:=u1a (s:=w.1) (by omega);have q2:=u1a (s:=w.2.1) (by omega);unfold wrT;rw[Af,Af,u3s];omega
  simp only[Ap,Aa,Bl];rw[p7q [t.1,t.2.1,t.2.2.1,t.2.2.2.1,(t.2.2.2.2.1.length:Int)] (by intro n hn;simp only[A8,Du,Em] at hn;rcases hn with rfl | rfl | rfl | rfl | rfl<;>omega) (by simp)];simp only[zOb];rw[j9x,L1 _ (by simp only[Af];omega)];simp only[zOb];rw[s9w _ [(t.2.2.2.2.2.1.length:Int)] (by intro n hn;simp only[A8,Du,Em] at hn;subst hn;omega) (by simp) (by simp only[Af];omega)];simp only[zOb];rw[r7o,L2 _ (by simp only[Af];omega)];simp only[zOb];rw[r2j _ _ (by simp only[Af];omega)];simp only[zOb];rw[s54 _ [t.2.2.2.2.2.2.2] (by intro n hn;simp only[A8,Du,Em] at hn;subst hn;omega) (by simp) (by simp only[Af,u3s];omega)];simp only[zOb];rw[r7o,s1f];unfold t1g;simp only[t0l]
theorem o7w (b:u0j) (hw:d7k.wt b<=549755813888):s9y b=some (if u8t b=true then(s5q b,true) else(emp,false)):=by
 have hb:u0m=1099511627776:=rfl;have hbw:=q4e b;rw[o01];unfold q2z;rw[t1q b (by omega)];simp only[zOb];cases hc:u8t b
 .rfl
 .have h:=o6q.mp hc;obtain⟨w1,w2,w3⟩:=d1p.mp h.vs;have hcs:=h.cs;have hx:=h.next;have hp:=h.plen;have hr:=h.rlen;have q1:=u16 (n:=b.2.2.2.1) (by omega);have q2:=u16 (n:=b.2.2.2.2) (by omega);have q3:=u16 (n:=(b.1.length:Int)) (by omega);have q4:=s2r (f:=j31) (k:=22) (l:=b.1) (fun v hv=>p4l (w1 v hv));have q5:=s80 (l:=b.2.1) (by omega) (fun t ht=>(h.past t ht).1);have q6:=s80 (l:=b.2.2.1) (by omega) (fun t ht=>(h.ready t ht).1);have L:∀A:Hs,A.size<=1000->t0p (b,z7s A,b.1,(b.1.length:Int),0)=some (.inl (b,z7s (A++q2b j31 b.1))):=fun A hA=>by
   have:=u8m t0p b.1 (fun(A:Hs) i=>(b,z7s A,b.1,(b.1.length:Int),i)) (fun A r=>A++j31 r) (fun A=> .inl (b,z7s A)) (fun i A=>A.size<=1000+i*22)
    (fun A _=>by rw[r6e];simp only[t6j,u0b,Am,Ah,Aa])
    (fun i hi A hP=>by
     have hm:=w1 _ (Ag hi);have hr:=p4l hm;have hv:=r0p hm;have s1:=u1a (s:=(b.1[i]).1) (by omega);have s2:=u1a (s:=(b.1[i]).2.1) (by omega);have s3:=u3s (b.1[i]).2.2.1;refine⟨by rw[Af,C7];omega,?_⟩;rw[r6e];simp only[t6j,u0b,hi,Ae,Ad,y7p hi,zTn,y8f (t:=u0c) hi,y7h (show i<4611686018427387904 by omega)];rw[s54 A [(b.1[i]).1,(b.1[i]).2.1] (by intro n hn;simp only[A8,Du,Em] at hn;rcases hn with rfl | rfl<;>omega) (by simp) (by omega)];simp only[zOb];rw[p9u,r2j _ _ (by simp only[Af];omega)];simp only[zOb];rw[s9w _ [(b.1[i]).2.2.2] (by intro n hn;simp only[A8,Du,Em] at hn;subst hn;omega) (by simp) (by simp only[Af];omega)];simp only[zOb];rw[r7o];unfold j31;simp only[t0l]) A (by omega)
   rw[s4z] at this;exact this
  have IN:∀(A:Hs) (g:Hu (Hu u0i)) (n k:Int) (l:Hu u0i),A.size<=100000->l.length<=100->(Ty.sl u0v).wt l<=549755813888->(∀t∈l,TxnR t)->
   u9f (z7s A,g,n,k,l,(l.length:Int),0)=some (.inl (z7s (A++q2b t1g l),g,n,k)):=fun A g n k l hA hl hlw hok=>by
   have:=u8m u9f l (fun(A:Hs) i=>(z7s A,g,n,k,l,(l.length:Int),i)) (fun A r=>A++t1g r) (fun A=> .inl (z7s A,g,n,k)) (fun i A=>A.size<=100000+i*300)
    (fun A _=>by rw[r2v];simp only[t4g,u0b,Am,Ah,Aa])
    (fun i hi A hP=>by
     have hm:=Ag hi;have hr:=s3m (hok _ hm);refine⟨by rw[Af,C7];omega,?_⟩;rw[r2v];simp only[t4g,u0b,hi,Ae,Ad,y7p hi,zTn,y8f (t:=u0v) hi,y7h (show i<4611686018427387904 by omega)];rw[s5m _ (d08 hm hlw),Al (p4g.mpr (hok _ hm))];simp only[zOb];rw[p4r (by rw[u84,u84];omega),s1o]) A (by omega)
   rw[s4z] at this;exact this
  have O:∀A:Hs,A.size<=10000->t4y (z7s A, [b.2.1,b.2.2.1],2,0)=some (.inl (z7s (A++r6c b.2.1++r6c b.2.2.1))):=fun A hA=>by
   have v1:=u16 (n:=(b.2.1.length:Int)) (by omega);have v2:=u16 (n:=(b.2.2.1.length:Int)) (by omega);have e0:y4o 0 [b.2.1,b.2.2.1].length=true:=rfl;have e1:y4o 1 [b.2.1,b.2.2.1].length=true:=rfl;have r0:rdL (Ty.sl u0v) [b.2.1,b.2.2.1] (0:Int).toNat=b.2.1:=rfl;have r1:rdL (Ty.sl u0v) [b.2.1,b.2.2.1] (1:Int).toNat=b.2.2.1:=rfl;have w0:i64.wrap ((0:Int)+1)=1:=rfl;have w1:i64.wrap ((1:Int)+1)=2:=rfl;rw[s3n];simp only[u89];rw[q89 (by omega),e0,r0,s9w A [(b.2.1.length:Int)] (by intro n hn;simp only[A8,Du,Em] at hn;subst hn;omega) (by simp) (by omega)];simp only[Ad,zOb];rw[r7o,IN _ _ _ _ b.2.1 (by simp only[Af];omega) (by omega) (by omega) (fun t ht=>(h.past t ht).1)];simp only[zOb];rw[w0,s3n];simp only[u89];have n1:(A++q50 (b.2.1.length:Int)++q2b t1g b.2.1).size<=20000:=by
    have:A++q50 (b.2.1.length:Int)++q2b t1g b.2.1=A++r6c b.2.1:=by unfold r6c;rw[t0l]
    rw[this,Af];omega
   rw[q89 (by omega),e1,r1,s9w _ [(b.2.2.1.length:Int)] (by intro n hn;simp only[A8,Du,Em] at hn;subst hn;omega) (by simp) (by omega)];simp only[Ad,zOb];rw[r7o,IN _ _ _ _ b.2.2.1 (by rw[Af];omega) (by omega) (by omega) (fun t ht=>(h.ready t ht).1)];simp only[zOb];rw[w1,s3n];simp only[u89];unfold r6c;simp[t0l]
  simp only[Ap,Aa,Bl];rw[p7q [b.2.2.2.1,b.2.2.2.2,(b.1.length:Int)] (by intro n hn;simp only[A8,Du,Em] at hn;rcases hn with rfl | rfl | rfl<;>omega) (by simp)];simp only[zOb];rw[o6r,L _ (by simp only[Af];omega)];simp only[zOb];have e2:(([b.2.1,b.2.2.1] :Hu (Hu u0i)).length:Int)=2:=rfl;rw[e2,O _ (by simp only[Af];omega)];simp only[zOb];rw[s1f];unfold s5q;simp only[t0l]
theorem j6u {W:Int×Hs×Int×Int->Ht ((Int×Hs×Int)⊕Unit)}
 (hW:∀x,W x=(bif decide (x.2.2.2<(8:Int)) then(bif decide (Int.tmod x.1 (2:Int)=(1:Int)) then W (u32.wrap ((BitVec.ofInt u32.bits (u32.wrap (Int.tdiv x.1 (2:Int)))^^^BitVec.ofInt u32.bits (3558460437:Int)).toNat:Int),x.2.1,x.2.2.1,i64.wrap (x.2.2.2+(1:Int)))
  else W (u32.wrap (Int.tdiv x.1 (2:Int)),x.2.1,x.2.2.1,i64.wrap (x.2.2.2+(1:Int)))) else some (.inl (x.1,x.2.1,x.2.2.1)))) (t:Hs) (k:Int):
 ∀(n:Nat) (x:Int) (i:Nat),i+n=8->W (x,t,k,(i:Int))=some (.inl (o3m n x,t,k)):=by
 intro n
 induction n with
 | zero=>
  intro x i hi;have:i=8:=by omega
  subst this;rw[hW];rfl
 | succ n ih=>
  intro x i hi;rw[hW];simp only;rw[q89 (by omega),y7h (by omega),ih _ (i+1) (by omega),ih _ (i+1) (by omega)];rw[show o3m (n+1) x=o3m n (d06 x) from rfl];unfold d06 d52;cases decide (Int.tmod x 2=1)<;>rfl
theorem j6v (f:Int->UInt8->Int) (t:Hs) {W:Int×Hs×Int->Ht (Int⊕Unit)} (ht:t.size<=1099511627776)
 (hend:∀x,W (x,t,(t.size:Int))=some (.inl x))
 (hstep:∀(i:Nat),i<t.size-> ∀x,W (x,t,(i:Int))=W (f x (t.data.toList.getD i 0),t,((i+1:Nat):Int))) (x:Int):W (x,t,0)=some (.inl (t.data.toList.foldl f x)):=by
 have e:t.size=t.data.toList.length:=p0i t
 exact u8m W t.data.toList (fun x i=>(x,t,i)) f (fun x=> .inl x) (fun _ _=>True) (fun x _=>by rw[←e];exact hend x)
  (fun i hi x _=>⟨trivial,by
   rw[hstep i (by rw[e];exact hi) x];congr 2;rw[A5,A4 hi];rfl⟩) x trivial
theorem j1i (x:Int) (t:Hs) (ht:t.size<=1099511627776):r3y (x,t)=some (t.data.toList.foldl o3n x):=by
 have L:=j6v o3n t (W:=s0i) ht
  (fun x=>by rw[q1d];simp only[t9j,u0b,Am,Ah,Aa])
  (fun i hi x=>by
   rw[q1d];simp only[t9j,u0b,hi,Ae,Ad,y7p hi,zTn];have:=j6u (W:=s0j) (fun x=>p9j x) t (i:Int) 8 (d52 x (u32.wrap ((t.data.toList.getD i 0).toNat:Int))) 0 rfl;unfold d52 at this;rw[show((0:Nat):Int)=0 from rfl] at this;rw[this];simp only[zOb,y7h (show i<4611686018427387904 by omega)];rfl) x
 rw[o4p];unfold q7s;simp only[L,zOb]
theorem p6r (x:Int) (t:Hs) (ht:t.size<=1099511627776):r38 (x,t)=some (t.data.toList.foldl o3n x):=by
 have L:=j6v o3n t (W:=s0q) ht
  (fun x=>by rw[q1x];simp only[t93,u0b,Am,Ah,Aa])
  (fun i hi x=>by
   rw[q1x];simp only[t93,u0b,hi,Ae,Ad,y7p hi,zTn];have:=j6u (W:=s0r) (fun x=>p9l x) t (i:Int) 8 (d52 x (u32.wrap ((t.data.toList.getD i 0).toNat:Int))) 0 rfl;unfold d52 at this;rw[show((0:Nat):Int)=0 from rfl] at this;rw[this];simp only[zOb,y7h (show i<4611686018427387904 by omega)];rfl) x
 rw[o5d];unfold q8g;simp only[L,zOb]
theorem s85 (t:Hs) (ht:t.size<=1099511627776):t7x t=some (o3i t):=by
 rw[o8v];unfold p1u o3i;have e1:decide ((t.size:Int) >20000)= !decide (t.size<=20000):=by by_cases h:t.size<=20000<;>simp[h] <;>omega
 rw[e1,j18];unfold p6y;rw[j1i _ _ ht];simp only[zOb];by_cases h:t.size<=20000
 .rw[Bb h,Al h];simp only[Ap,Aa];rw[q89 (by rw[u3z];simp;omega)];rfl
 .rw[A7 h,Ao h];rfl
theorem r7h (t:Hs) (ht:t.size<=1099511627776):s3b t=some (o3i t):=by
 rw[o9f];unfold p2g o3i;have e1:decide ((t.size:Int) >20000)= !decide (t.size<=20000):=by by_cases h:t.size<=20000<;>simp[h] <;>omega
 rw[e1,p7i];unfold q3w;rw[p6r _ _ ht];simp only[zOb];rw[q9d];unfold q8q;simp only[zOb];by_cases h:t.size<=20000
 .rw[Bb h,Al h];simp only[Ap,Aa];rw[q89 (by rw[u3z];simp;omega)];rfl
 .rw[A7 h,Ao h];rfl
theorem t2e (k:Int):(y7c [k]).size=1:=u3z _
theorem q6o {k:Int} (h0:0<=k) (h1:k<=255): [u8.wrap k] =z7s (y7c [u8.wrap k]):=by
 obtain⟨n,rfl⟩:∃n:Nat,k=n:=⟨k.toNat,by omega⟩;rw[j5w,show((n:Int) % 256)=n by omega];unfold z7s y7c;simp;omega
theorem t0o (r:r03) (hw:c09.wt r<=549755813888):u29 r=some (u04 r):=by
 have hr:=q5u r;rw[p5s];unfold r4v u04;rw[p1j r hw];simp only[zOb];cases hc:u70 r
 .rfl
 .have h:=d34.mp hc;have hz:=s8z h;simp only[Ap,Aa,Bl];cases h with
  | thr t h hs=>
   have:=s3m h
   have ht:=s5n t (by have:u0v.wt t<=c09.wt (1,t,emp,false,u2t):=by rw[hr];simp only;omega
                      omega)
   rw[Al (p4g.mpr h)] at ht;simp only[Int.reduceEq,Ae,Ah,Ad,Aa];rw[ht];simp only[zOb];rw[q89 (by rw[t2e];omega),r7h _ (by rw[Af,t2e];omega)];rfl
  | rdy t h hs=>
   have:=s3m h
   have ht:=s5n t (by have:u0v.wt t<=c09.wt (2,t,emp,false,u2t):=by rw[hr];simp only;omega
                      omega)
   rw[Al (p4g.mpr h)] at ht;simp only[Int.reduceEq,Ae,Ah,Ad,Aa];rw[ht];simp only[zOb];rw[q89 (by rw[t2e];omega),r7h _ (by rw[Af,t2e];omega)];rfl
  | fin n y h=>
   have:=u27 h;have q:=u1a (s:=n) (by omega);simp only[Int.reduceEq,Ae,Ah,Ad,Aa];rw[s1i (by omega)];simp only[zOb];rw[q89 (by rw[t2e];omega),p9q];simp only[zOb];rw[q89 (by simp only[Af,t2e,u3s];omega),r7h _ (by simp only[Af,t2e,u3s];omega),t0l];rfl
  | bas b h=>
   have:=p48 h;have a1:=(d1p.mp h.vs).2.2;have a2:=h.plen;have a3:=h.rlen
   have ht:=o7x b (by have:d7k.wt b<=c09.wt (4,u5u,emp,false,b):=by rw[hr];simp only;omega
                      omega)
   rw[Al (o6q.mpr h)] at ht;simp only[Int.reduceEq,Ae,Ah,Ad,Aa];rw[ht];simp only[zOb];rw[q89 (by rw[t2e];omega),r7h _ (by rw[Af,t2e];omega)];rfl
theorem s83 (r:r03) (hw:c09.wt r<=549755813888):t04 r=some (u04 r):=by
 have hr:=q5u r;rw[p5h];unfold r4k u04;rw[p1i r hw];simp only[zOb];cases hc:u70 r
 .rfl
 .have h:=d34.mp hc;have hz:=s8z h;simp only[Ap,Aa,Bl];cases h with
  | thr t h hs=>
   have:=s3m h
   have ht:=s5m t (by have:u0v.wt t<=c09.wt (1,t,emp,false,u2t):=by rw[hr];simp only;omega
                      omega)
   rw[Al (p4g.mpr h)] at ht;simp only[Int.reduceEq,Ae,Ah,Ad,Aa];rw[ht];simp only[zOb];rw[p4r (by rw[u84];simp;omega),q6o (k:=1) (by omega) (by omega),←s1o,s1f,s85 _ (by rw[Af,t2e];omega)];rfl
  | rdy t h hs=>
   have:=s3m h
   have ht:=s5m t (by have:u0v.wt t<=c09.wt (2,t,emp,false,u2t):=by rw[hr];simp only;omega
                      omega)
   rw[Al (p4g.mpr h)] at ht;simp only[Int.reduceEq,Ae,Ah,Ad,Aa];rw[ht];simp only[zOb];rw[p4r (by rw[u84];simp;omega),q6o (k:=2) (by omega) (by omega),←s1o,s1f,s85 _ (by rw[Af,t2e];omega)];rfl
  | fin n y h=>
   have:=u27 h;have q:=u1a (s:=n) (by omega);simp only[Int.reduceEq,Ae,Ah,Ad,Aa];rw[q6o (k:=3) (by omega) (by omega),s54 _ [n] (by intro m hm;simp only[A8,Du,Em] at hm;subst hm;omega) (by simp) (by rw[t2e];omega)];simp only[zOb];rw[r7o,r2j _ _ (by rw[Af,t2e];omega)];simp only[zOb];rw[s1f,s85 _ (by simp only[Af,t2e,u3s];omega),t0l];rfl
  | bas b h=>
   have:=p48 h;have a1:=(d1p.mp h.vs).2.2;have a2:=h.plen;have a3:=h.rlen
   have ht:=o7w b (by have:d7k.wt b<=c09.wt (4,u5u,emp,false,b):=by rw[hr];simp only;omega
                      omega)
   rw[Al (o6q.mpr h)] at ht;simp only[Int.reduceEq,Ae,Ah,Ad,Aa];rw[ht];simp only[zOb];rw[p4r (by rw[u84];simp;omega),q6o (k:=4) (by omega) (by omega),←s1o,s1f,s85 _ (by rw[Af,t2e];omega)];rfl
def inT (s:Hs) (c:Cur):Prop:=0<=c.1/\c.1<=(s.size:Int)
def bad (c:Cur) (k:Int):Int:=if c.2=true then k else 0
theorem u2d {s:Hs} {c:Cur} (h:inT s c):inT s (u2s s c).2/\0<=(u2s s c).1/\(u2s s c).1<=1000000000/\c.1+1<=(u2s s c).2.1+bad (u2s s c).2 1:=by
 unfold u2s;split
 .refine⟨h,by simp,by simp,?_⟩;simp only[bad,Bl];omega
 .rename_i q;simp only[Hr,Ey,Bool.not_eq_false] at q;have:=s1u q.2;refine⟨⟨?_,?_⟩,?_,?_,?_⟩
  .simp only;omega
  .simp only;omega
  .simp only;omega
  .simp only;omega
  .simp only[bad,Br,Bk];omega
theorem o6a {t:Hs} {a:Int} (h:(u0s t a).2.2=true):a+1+((u0s t a).1.size:Int)<=(u0s t a).2.1/\0<=a:=by
 unfold u0s at h ⊢;split at h
 .rename_i hc;rw[Al hc];have:=s1u hc.1;simp only[Bd];omega
 .cases h
theorem u9w {s:Hs} {c:Cur} (h:inT s c):inT s (u20 s c).2/\c.1+1+((u20 s c).1.size:Int)<=(u20 s c).2.1+bad (u20 s c).2 1:=by
 unfold u20;split
 .refine⟨h,?_⟩;simp only[bad,Bl,emp,ByteArray.size];simp
 .rename_i q;simp only[Hr,Ey,Bool.not_eq_false] at q;have h1:=q5r q.2;have h2:=o6a q.2;refine⟨⟨?_,?_⟩,?_⟩
  .simp only;omega
  .simp only;omega
  .simp only[bad,Br,Bk];omega
theorem j6t {s:Hs} {c:Cur} (h:inT s c):inT s (p4t s c).2/\c.1+1<=(p4t s c).2.1+bad (p4t s c).2 1:=by
 unfold p4t;split
 .refine⟨h,?_⟩;simp only[bad,Bl];omega
 .rename_i q;simp only[Hr,Decidable.not_not] at q;unfold inT;simp only[bad,Br,Bk];omega
theorem t00 (c:Cur) {k:Int} (hk:0<=k):0<=bad c k/\bad c k<=k:=by unfold bad;split<;>omega
theorem p25 {c c' :Cur} (h:c.2=true->c'.2=true) {k:Int} (hk:0<=k):bad c k<=bad c' k:=by
 unfold bad;by_cases q:c.2=true
 .rw[Al q,Al (h q)];omega
 .rw[Ao q];split<;>omega
def d4r {E:Type} (w:E->Nat) (k:Int) (s:Hs) (f:Cur->E×Cur):Prop:= ∀c,inT s c->inT s (f c).2/\c.1+1+(w (f c).1:Int)<=(f c).2.1+bad (f c).2 k
theorem t9a {E:Type} {w:E->Nat} {k:Int} {s:Hs} {f:Cur->E×Cur} (hk:0<=k) (hf:d4r w k s f):∀(n:Nat) (c:Cur) (a:Hu E),inT s c->
 inT s (u23 f n c a).2/\c.1+((u23 f n c a).1.length+((u23 f n c a).1.map w).sum:Nat)<=(u23 f n c a).2.1+(a.length+(a.map w).sum:Nat)+bad (u23 f n c a).2 k
 | 0,c,a,h=>⟨h,by have:=t00 (u23 f 0 c a).2 hk;simp only[u23] at*;omega⟩ | n+1,c,a,h=>by
  simp only[u23];split
  .exact⟨h,by have:=t00 c hk;simp only;omega⟩
  .obtain⟨h1,h2⟩:=hf c h;obtain⟨h3,h4⟩:=t9a hk hf n (f c).2 (a++ [(f c).1]) h1;refine⟨h3,?_⟩;have e1:(a++ [(f c).1]).length=a.length+1:=by simp
   have e2:((a++ [(f c).1]).map w).sum=(a.map w).sum+w (f c).1:=by simp
   rw[e1,e2] at h4;have hm:bad (f c).2 k<=bad (u23 f n (f c).2 (a++ [(f c).1])).2 k/\(bad (f c).2 k≠0->u23 f n (f c).2 (a++ [(f c).1])=(a++ [(f c).1],(f c).2)):=by
    by_cases q:(f c).2.2=true
    .rw[t89 q];exact⟨Bv _,fun _=>rfl⟩
    .have:bad (f c).2 k=0:=by unfold bad;rw[Ao q]
     rw[this];exact⟨(t00 _ hk).1,fun h=>absurd rfl h⟩
   by_cases z:bad (f c).2 k=0
   .omega
   .have e:=hm.2 z;rw[e];simp only[e1,e2];omega
theorem q5m (s:Hs):d4r t3k.wt 2 s (j0c s):=fun c h=>by
 obtain⟨h1,h2⟩:=u9w h;obtain⟨h3,h4⟩:=u9w h1;have b1:=p25 (c:=(u20 s c).2) (c' :=(u20 s (u20 s c).2).2) r58 (k:=1) (by omega);have b2:bad (u20 s (u20 s c).2).2 2=2*bad (u20 s (u20 s c).2).2 1:=by unfold bad;split<;>omega
 refine⟨h3,?_⟩;have e:t3k.wt (j0c s c).1=(u20 s c).1.size+(u20 s (u20 s c).2).1.size:=rfl;have e2:(j0c s c).2=(u20 s (u20 s c).2).2:=rfl;rw[e,e2];omega
theorem p39 (s:Hs):d4r u2l.wt 3 s (rWr s):=fun c h=>by
 obtain⟨h1,h2⟩:=u9w h;obtain⟨h3,h4⟩:=u9w h1;obtain⟨h5,h6⟩:=j6t h3;have b1:=p25 (c:=(u20 s c).2) (c' :=(u20 s (u20 s c).2).2) r58 (k:=1) (by omega);have b2:=p25 (c:=(u20 s (u20 s c).2).2) (c' :=(p4t s (u20 s (u20 s c).2).2).2) p38 (k:=1) (by omega);have b3:bad (p4t s (u20 s (u20 s c).2).2).2 3=3*bad (p4t s (u20 s (u20 s c).2).2).2 1:=by unfold bad;split<;>omega
 refine⟨h5,?_⟩;have e:u2l.wt (rWr s c).1=(u20 s c).1.size+((u20 s (u20 s c).2).1.size+0):=rfl;have e2:(rWr s c).2=(p4t s (u20 s (u20 s c).2).2).2:=rfl;rw[e,e2];omega
theorem q5o (s:Hs):d4r u0c.wt 4 s (j0e s):=fun c h=>by
 obtain⟨h1,h2⟩:=p39 s c h;obtain⟨h3,h4,h5,h6⟩:=u2d h1;have b1:=p25 (c:=(rWr s c).2) (c' :=(u2s s (rWr s c).2).2) t2l (k:=3) (by omega);have b3:bad (u2s s (rWr s c).2).2 4=bad (u2s s (rWr s c).2).2 1+bad (u2s s (rWr s c).2).2 3:=by unfold bad;split<;>omega
 refine⟨h3,?_⟩;have e:u0c.wt (j0e s c).1=u2l.wt (rWr s c).1:=rfl;have e2:(j0e s c).2=(u2s s (rWr s c).2).2:=rfl;rw[e,e2];omega
theorem o28 (m:Nat) (s:Hs):d4r u0v.wt 20 s (p9y m s):=fun c h=>by
 unfold p9y;simp only;obtain⟨a1,a2,a3,a4⟩:=u2d h;generalize hA:u2s s c=A at a1 a2 a3 a4 ⊢;obtain⟨b1,b2,b3,b4⟩:=u2d a1;have mB:A.2.2=true->(u2s s A.2).2.2=true:=t2l;generalize hB:u2s s A.2=B at b1 b2 b3 b4 mB ⊢;obtain⟨d1,d2,d3,d4⟩:=u2d b1;have mD:B.2.2=true->(u2s s B.2).2.2=true:=t2l;generalize hD:u2s s B.2=D at d1 d2 d3 d4 mD ⊢;obtain⟨e1,e2,e3,e4⟩:=u2d d1;have mE:D.2.2=true->(u2s s D.2).2.2=true:=t2l;generalize hE:u2s s D.2=E at e1 e2 e3 e4 mE ⊢;obtain⟨f1,f2,f3,f4⟩:=u2d e1;have mF:E.2.2=true->(u2s s E.2).2.2=true:=t2l;generalize hF:u2s s E.2=F at f1 f2 f3 f4 mF ⊢;obtain⟨g1,g2⟩:=t9a (by omega) (q5m s) (min F.1.toNat m) F.2 [] f1;have mG:F.2.2=true->(u23 (j0c s) (min F.1.toNat m) F.2 []).2.2=true:=fun q=>by rw[t89 q];exact q
 generalize hG:u23 (j0c s) (min F.1.toNat m) F.2 [] =G at g1 g2 mG ⊢;obtain⟨k1,k2,k3,k4⟩:=u2d g1;have mK:G.2.2=true->(u2s s G.2).2.2=true:=t2l;generalize hK:u2s s G.2=K at k1 k2 k3 k4 mK ⊢;obtain⟨l1,l2⟩:=t9a (by omega) (p39 s) (min K.1.toNat m) K.2 [] k1;have mL:K.2.2=true->(u23 (rWr s) (min K.1.toNat m) K.2 []).2.2=true:=fun q=>by rw[t89 q];exact q
 generalize hL:u23 (rWr s) (min K.1.toNat m) K.2 [] =L at l1 l2 mL ⊢;obtain⟨o1,o2⟩:=j6t l1;have mO:L.2.2=true->(p4t s L.2).2.2=true:=p38;generalize hO:p4t s L.2=O at o1 o2 mO ⊢;obtain⟨p1,p2⟩:=u9w o1;have mP:O.2.2=true->(u20 s O.2).2.2=true:=r58;generalize hP:u20 s O.2=P at p1 p2 mP ⊢;refine⟨p1,?_⟩;have e:u0v.wt (A.1,B.1,D.1,E.1,G.1,L.1,O.1,P.1)=0+(0+(0+(0+((Ty.sl t3k).wt G.1+((Ty.sl u2l).wt L.1+(0+P.1.size)))))):=rfl;have eG:(Ty.sl t3k).wt G.1=G.1.length+(G.1.map t3k.wt).sum:=rfl;have eL:(Ty.sl u2l).wt L.1=L.1.length+(L.1.map u2l.wt).sum:=rfl;simp only[Cc,Eh,Gq] at g2 l2;rw[e,eG,eL];by_cases q:P.2.2=true
 .have:bad P.2 20=20:=by unfold bad;rw[Al q]
  rw[this];have t1:=(t00 A.2 (k:=1) (by omega)).2;have t2:=(t00 B.2 (k:=1) (by omega)).2;have t3:=(t00 D.2 (k:=1) (by omega)).2;have t4:=(t00 E.2 (k:=1) (by omega)).2;have t5:=(t00 F.2 (k:=1) (by omega)).2;have t6:=(t00 G.2 (k:=2) (by omega)).2;have t7:=(t00 K.2 (k:=1) (by omega)).2;have t8:=(t00 L.2 (k:=3) (by omega)).2;have t9:=(t00 O.2 (k:=1) (by omega)).2;have t10:=(t00 P.2 (k:=1) (by omega)).2;omega
 .have zP:P.2.2=false:=by simpa using q
  have z:∀ {x y:Cur},(x.2=true->y.2=true)->y.2=false->x.2=false:=fun {x y} i j=>by
   cases w:x.2
   .rfl
   .rw[i w] at j;cases j
  have zO:=z mP zP;have zL:=z mO zO;have zK:=z mL zL;have zG:=z mK zK;have zF:=z mG zG;have zE:=z mF zF;have zD:=z mE zE;have zB:=z mD zD;have zA:=z mB zB;simp only[bad,zP,zO,zL,zK,zG,zF,zE,zD,zB,zA,Br,Bk] at*;omega
theorem r55 (m:Nat) (s:Hs):d4r u0v.wt 20 s (u7v m s):=fun c h=>by
 obtain⟨h1,h2⟩:=o28 m s c h;refine⟨h1,?_⟩;have:bad (p9y m s c).2 20<=bad (u7v m s c).2 20:=p25 (fun q=>by unfold u7v;simp only[q,Dx]) (by omega);have e1:(u7v m s c).1=(p9y m s c).1:=rfl;have e2:(u7v m s c).2.1=(p9y m s c).2.1:=rfl;rw[e1,e2];omega
theorem s0w {s:Hs} (c:Cur) (hs:s.size<=u0m):u1l (s,c)=some ((u2s s c).1,s,(u2s s c).2):=by
 rw[p5n];unfold r4q u2s;simp only[p6p s c.1 hs,zOb];cases h1:c.2
 .cases h2:(u0z s c.1).2.2<;>simp
 .simp
theorem s6c {s:Hs} (c:Cur) (hs:s.size<=u0m):u2j (s,c)=some ((u20 s c).1,s,(u20 s c).2):=by
 rw[p3g];unfold r1d u20;simp only[q7e s c.1 hs,zOb];cases h1:c.2
 .cases h2:(u0s s c.1).2.2
  .simp[emp]
  .simp
 .simp[emp]
theorem gt1 (n:Nat):decide ((n:Int) >1)=decide (1<n):=by simp;omega
theorem eq1 (n:Nat):decide ((n:Int)=1)=decide (n=1):=by simp;omega
theorem p3w {s:Hs} (c:Cur) (hs:s.size<=u0m):u64 (s,c)=some ((p4t s c).1,s,(p4t s c).2):=by
 have hb:u0m=1099511627776:=rfl;rw[p3f];unfold r1c p4t;simp only[s6j];rw[y4x (n:=(s.size:Int) - 1) (by omega) (by omega)];cases h1:c.2
 .by_cases h2:0<=c.1/\c.1<(s.size:Int)
  .obtain⟨k,hk⟩:∃k:Nat,c.1=k:=⟨c.1.toNat,by omega⟩;have e1:q2f c.1 0 ((s.size:Int) - 1)=true:=by rw[r3t];exact Bb (by omega)
   have e2:i64.wrap (i64.wrap (c.1+1) - 1)=c.1:=by rw[y4x (n:=c.1+1) (by omega) (by omega),y4x (by omega) (by omega)];omega
   have e3:i64.wrap (c.1+1)=c.1+1:=y4x (by omega) (by omega);rw[hk] at e1 e2 e3 ⊢;have e4:i64.wrap (k:Int)=k:=y4x (by omega) (by omega);have e5:i64.wrap ((k:Int)+1 - 1)=k:=by rw[y4x (by omega) (by omega)];omega
   simp only[e1,e2,e3,e5,Aa,zOb,Ap,y7p (show k<s.size by omega),Ad,zTn,gt1,eq1];rw[show(s.data.toList.getD k 0).toNat=u8u s k from rfl];by_cases h3:1<u8u s k
   .simp[h3]
   .have h3' :u8u s k<=1:=by omega
    have h4:((k:Int)<(s.size:Int)):=by omega
    simp[h3,h3',show k<s.size by omega,e4,y7p (show k<s.size by omega)]
  .have e1:q2f c.1 0 ((s.size:Int) - 1)=false:=by rw[r3t];exact A7 (by omega)
   simp only[e1,Aa,zOb,Bh,Ad];rw[Al (.inr (.inl h2))]
 .simp
theorem s5v {E X R U:Type} {s:Hs} (W:X->Ht (R⊕U)) (mk:Cur->Hu E->Int->X) (res:Cur->Hu E->R) (f:Cur->E×Cur) (N:Nat)
 (hf:∀c,inT s c->inT s (f c).2)
 (hend:∀c a (i:Nat),(N<=i\/c.2=true)->W (mk c a (i:Int))=some (.inl (res c a)))
 (hstep:∀c a (i:Nat),i<N->c.2=false->inT s c->a.length<=i->W (mk c a (i:Int))=W (mk (f c).2 (a++ [(f c).1]) ((i+1:Nat):Int))):
 ∀(k i:Nat) c a,i+k=N->inT s c->a.length<=i->W (mk c a (i:Int))=some (.inl (res (u23 f k c a).2 (u23 f k c a).1)):=by
 intro k
 induction k with
 | zero=>intro i c a hi hc ha;exact hend c a i (.inl (by omega)) | succ k ih=>
  intro i c a hi hc ha;simp only[u23];split
  .rename_i q;exact hend c a i (.inr q)
  .rename_i q;rw[hstep c a i (by omega) (by simpa using q) hc ha,ih (i+1) _ _ (by omega) (hf c hc) (by simp;omega)]
theorem p27 {n:Int} {i:Nat} {c:Cur} (h:n.toNat<=i\/c.2=true):((bif decide ((i:Int)<n) then some (!c.2) else some false:Ht Bool))=some false:=by
 rcases h with h | h
 .rw[A7 (by omega)];rfl
 .rw[h];cases decide ((i:Int)<n)<;>rfl
theorem q4f {n:Int} {i:Nat} {c:Cur} (h:i<n.toNat) (hc:c.2=false):((bif decide ((i:Int)<n) then some (!c.2) else some false:Ht Bool))=some true:=by
 rw[Bb (by omega),hc];rfl
theorem q4l {E:Type} {w:E->Nat} {k:Int} {s:Hs} {f:Cur->E×Cur} (h:d4r w k s f):∀c,inT s c->inT s (f c).2:=fun c hc=>(h c hc).1
theorem d00 {s:Hs} (hs:s.size<=u0m) (t:u0i) (ht:t.2.2.2.2.1= []) {c:Cur} (hc:inT s c):
 u3u ((s,c),t,())=some ((s,(u23 (j0c s) (min (u2s s c).1.toNat 1000000000) (u2s s c).2 []).2),
  (t.1,t.2.1,t.2.2.1,t.2.2.2.1,(u23 (j0c s) (min (u2s s c).1.toNat 1000000000) (u2s s c).2 []).1,t.2.2.2.2.2),()):=by
 obtain⟨h1,h2,h3,h4⟩:=u2d hc;rw[t8t];unfold u74;simp only;rw[s0w c hs];simp only[zOb];generalize u2s s c=y at h1 h2 h3 h4 ⊢
 have L:=s5v (s:=s) u1h (fun(c:Cur) (a:Hu s6l) i=>((s,c),(((t.1,t.2.1,t.2.2.1,t.2.2.2.1,a,t.2.2.2.2.2):u0i),()),y.1,i))
  (fun(c:Cur) (a:Hu s6l)=>((s,c),((t.1,t.2.1,t.2.2.1,t.2.2.2.1,a,t.2.2.2.2.2):u0i),())) (j0c s) y.1.toNat (q4l (q5m s))
  (fun c a i h=>by rw[u67];simp only[u2a];rw[p27 h];rfl)
  (fun c a i h hc2 hin ha=>by
   rw[u67];simp only[u2a];rw[q4f h hc2];simp only[zOb,Ad];rw[p0l];unfold s88;simp only;rw[s6c c hs];simp only[zOb];rw[s6c _ hs];simp only[zOb];rw[p4r (by simp;omega),y7h (by omega)];rfl) y.1.toNat 0 y.2 [] (by omega) h1 (by simp)
 rw[show min y.1.toNat 1000000000=y.1.toNat by omega];obtain⟨t1,t2,t3,t4,t5,t6⟩:=t;simp only at ht;subst ht;have L' :u1h ((s,y.2),(((t1,t2,t3,t4, [],t6):u0i),()),y.1,0)=some (.inl ((s,(u23 (j0c s) y.1.toNat y.2 []).2),((t1,t2,t3,t4,(u23 (j0c s) y.1.toNat y.2 []).1,t6):u0i),())):=L;rw[L'];rfl
theorem d3e {s:Hs} (hs:s.size<=u0m) (t:u0i) (ht:t.2.2.2.2.2.1= []) {c:Cur} (hc:inT s c):
 u3v ((s,c),(),t)=some ((s,(u23 (rWr s) (min (u2s s c).1.toNat 1000000000) (u2s s c).2 []).2),(),
  (t.1,t.2.1,t.2.2.1,t.2.2.2.1,t.2.2.2.2.1,(u23 (rWr s) (min (u2s s c).1.toNat 1000000000) (u2s s c).2 []).1,t.2.2.2.2.2.2)):=by
 obtain⟨h1,h2,h3,h4⟩:=u2d hc;rw[t8u];unfold u75;simp only;rw[s0w c hs];simp only[zOb];generalize u2s s c=y at h1 h2 h3 h4 ⊢
 have L:=s5v (s:=s) u1i (fun(c:Cur) (a:Hu WrT) i=>((s,c),((),((t.1,t.2.1,t.2.2.1,t.2.2.2.1,t.2.2.2.2.1,a,t.2.2.2.2.2.2):u0i)),y.1,i))
  (fun(c:Cur) (a:Hu WrT)=>((s,c),(),((t.1,t.2.1,t.2.2.1,t.2.2.2.1,t.2.2.2.2.1,a,t.2.2.2.2.2.2):u0i))) (rWr s) y.1.toNat (q4l (p39 s))
  (fun c a i h=>by rw[u68];simp only[u2b];rw[p27 h];rfl)
  (fun c a i h hc2 hin ha=>by
   rw[u68];simp only[u2b];rw[q4f h hc2];simp only[zOb,Ad];rw[p0m];unfold s89;simp only;rw[s6c c hs];simp only[zOb];rw[s6c _ hs];simp only[zOb];rw[p3w _ hs];simp only[zOb];rw[p4r (by simp;omega),y7h (by omega)];rfl) y.1.toNat 0 y.2 [] (by omega) h1 (by simp)
 rw[show min y.1.toNat 1000000000=y.1.toNat by omega];obtain⟨t1,t2,t3,t4,t5,t6,t7⟩:=t;simp only at ht;subst ht;have L' :u1i ((s,y.2),((),((t1,t2,t3,t4,t5, [],t7):u0i)),y.1,0)=some (.inl ((s,(u23 (rWr s) y.1.toNat y.2 []).2),(),((t1,t2,t3,t4,t5,(u23 (rWr s) y.1.toNat y.2 []).1,t7):u0i))):=L;rw[L'];rfl
theorem j0m {s:Hs} (hs:s.size<=1048576) {c:Cur} (hc:inT s c):t07 (s,c)=some ((u7v 1000000000 s c).1,s,(u7v 1000000000 s c).2):=by
 have hb:u0m=1099511627776:=rfl;have hs' :s.size<=u0m:=by omega
 have hw:=o28 1000000000 s c hc;have hin:=hc;unfold inT at hin;have hwt:u0v.wt (p9y 1000000000 s c).1<=u0m:=by
  have h1:=hw.1;unfold inT at h1;have:=(t00 (p9y 1000000000 s c).2 (k:=20) (by omega)).2;have:=hw.2;omega
 have hk:=s8y _ hwt;rw[p5o];unfold r4r;unfold u7v;unfold p9y at hk ⊢;simp only at hk ⊢;rw[s0w c hs'];simp only[zOb];have i1:=(u2d hc).1;rw[s0w _ hs'];simp only[zOb];have i2:=(u2d i1).1;rw[s0w _ hs'];simp only[zOb];have i3:=(u2d i2).1;rw[s0w _ hs'];simp only[zOb];have i4:=(u2d i3).1;rw[d00 hs' _ rfl i4];simp only[zOb];have i5:=(t9a (by omega) (q5m s) (min (u2s s (u2s s (u2s s (u2s s (u2s s c).2).2).2).2).1.toNat 1000000000) (u2s s (u2s s (u2s s (u2s s (u2s s c).2).2).2).2).2 [] (u2d i4).1).1;rw[d3e hs' _ rfl i5];simp only[zOb];rw[p3w _ hs'];simp only[zOb];rw[s6c _ hs'];simp only[zOb];rw[hk];simp only[zOb];generalize u20 s _=z;cases h:z.2.2
 .simp
 .simp
def d5h:Lim:=⟨1000000000,1000000000,1000000000,1000000000⟩
theorem d5i:d5h.ok:=⟨by decide,by decide,by decide,by decide⟩
theorem j0d {m k:Nat} {s:Hs} {c:Cur} (h:inT s c):inT s (t3y m k s c).2/\c.1+((Ty.sl u0v).wt (t3y m k s c).1:Nat)<=(t3y m k s c).2.1+20+1:=by
 obtain⟨h1,h2,h3,h4⟩:=u2d h;obtain⟨g1,g2⟩:=t9a (by omega) (r55 m s) (min (u2s s c).1.toNat k) (u2s s c).2 [] h1;refine⟨g1,?_⟩;have e:(Ty.sl u0v).wt (t3y m k s c).1=(t3y m k s c).1.length+((t3y m k s c).1.map u0v.wt).sum:=rfl;rw[e];have t1:=(t00 (u2s s c).2 (k:=1) (by omega)).2;have t2:=(t00 (u23 (u7v m s) (min (u2s s c).1.toNat k) (u2s s c).2 []).2 (k:=20) (by omega)).2;unfold t3y;simp only[Cc,Eh,Gq] at g2;omega
theorem j0b (m:Lim) {s:Hs} {c:Cur} (h:inT s c):inT s (r57 m s c).2/\(d7k.wt (r57 m s c).1:Int)<=(s.size:Int)+100:=by
 unfold r57;simp only;obtain⟨a1,a2,a3,a4⟩:=u2d h;obtain⟨b1,b2,b3,b4⟩:=u2d a1;obtain⟨d1,d2,d3,d4⟩:=u2d b1;obtain⟨g1,g2⟩:=t9a (by omega) (q5o s) (min (u2s s (u2s s (u2s s c).2).2).1.toNat m.v) (u2s s (u2s s (u2s s c).2).2).2 [] d1;obtain⟨p1,p2⟩:=j0d (m:=m.t) (k:=m.p) g1;obtain⟨q1,q2⟩:=j0d (m:=m.t) (k:=m.r) p1;refine⟨q1,?_⟩;have t1:=(t00 (u23 (j0e s) (min (u2s s (u2s s (u2s s c).2).2).1.toNat m.v) (u2s s (u2s s (u2s s c).2).2).2 []).2 (k:=4) (by omega)).2;have u1:=(t00 (u2s s c).2 (k:=1) (by omega)).2;have u2:=(t00 (u2s s (u2s s c).2).2 (k:=1) (by omega)).2;have u3:=(t00 (u2s s (u2s s (u2s s c).2).2).2 (k:=1) (by omega)).2;generalize u23 (j0e s) (min (u2s s (u2s s (u2s s c).2).2).1.toNat m.v) (u2s s (u2s s (u2s s c).2).2).2 [] =vs at*;simp only[Cc,Eh,Gq] at g2;have e:=q4e (vs.1,(t3y m.t m.p s vs.2).1,(t3y m.t m.r s (t3y m.t m.p s vs.2).2).1,(u2s s c).1,(u2s s (u2s s c).2).1);simp only at e;have eV:(Ty.sl u0c).wt vs.1=vs.1.length+(vs.1.map u0c.wt).sum:=rfl
 unfold inT at q1 h;rw[e,eV];omega
theorem d1b {s:Hs} (hs:s.size<=u0m) (b:u0j) (ht:b.1= []) {c:Cur} (hc:inT s c):
 u3e ((s,c),(),b)=some ((s,(u23 (j0e s) (min (u2s s c).1.toNat 1000000000) (u2s s c).2 []).2),(),
  ((u23 (j0e s) (min (u2s s c).1.toNat 1000000000) (u2s s c).2 []).1,b.2)):=by
 obtain⟨h1,h2,h3,h4⟩:=u2d hc;rw[t8f];unfold u7q;simp only;rw[s0w c hs];simp only[zOb];generalize u2s s c=y at h1 h2 h3 h4 ⊢
 have L:=s5v (s:=s) u1d (fun(c:Cur) (a:Hu u17) i=>((s,c),((),((a,b.2):u0j)),y.1,i))
  (fun(c:Cur) (a:Hu u17)=>((s,c),(),((a,b.2):u0j))) (j0e s) y.1.toNat (q4l (q5o s))
  (fun c a i h=>by rw[u6s];simp only[u11];rw[p27 h];rfl)
  (fun c a i h hc2 hin ha=>by
   rw[u6s];simp only[u11];rw[q4f h hc2];simp only[zOb,Ad];rw[q65];unfold s7b;simp only;rw[s6c c hs];simp only[zOb];rw[s6c _ hs];simp only[zOb];rw[p3w _ hs];simp only[zOb];rw[s0w _ hs];simp only[zOb];rw[p4r (by simp;omega),y7h (by omega)];rfl) y.1.toNat 0 y.2 [] (by omega) h1 (by simp)
 rw[show min y.1.toNat 1000000000=y.1.toNat by omega];obtain⟨b1,b2⟩:=b;simp only at ht;subst ht;have L' :u1d ((s,y.2),((),(([],b2):u0j)),y.1,0)=some (.inl ((s,(u23 (j0e s) y.1.toNat y.2 []).2),(),(((u23 (j0e s) y.1.toNat y.2 []).1,b2):u0j))):=L;rw[L'];rfl
theorem d0l {s:Hs} (hs:s.size<=1048576) (b:u0j) (ht:b.2.1= []) {c:Cur} (hc:inT s c):
 u3f ((s,c),b,())=some ((s,(t3y 1000000000 1000000000 s c).2),(b.1,(t3y 1000000000 1000000000 s c).1,b.2.2),()):=by
 have hb:u0m=1099511627776:=rfl;obtain⟨h1,h2,h3,h4⟩:=u2d hc;rw[t8g];unfold u7r t3y;simp only;rw[s0w c (by omega)];simp only[zOb];generalize u2s s c=y at h1 h2 h3 h4 ⊢
 have L:=s5v (s:=s) u1e (fun(c:Cur) (a:Hu u0i) i=>((s,c),(((b.1,a,b.2.2):u0j),()),y.1,i))
  (fun(c:Cur) (a:Hu u0i)=>((s,c),((b.1,a,b.2.2):u0j),())) (u7v 1000000000 s) y.1.toNat (q4l (r55 _ s))
  (fun c a i h=>by rw[u6t];simp only[u12];rw[p27 h];rfl)
  (fun c a i h hc2 hin ha=>by
   rw[u6t];simp only[u12];rw[q4f h hc2];simp only[zOb,Ad];rw[q66];unfold s7c;simp only;rw[j0m hs hin];simp only[zOb];rw[p4r (by simp;omega),y7h (by omega)];rfl) y.1.toNat 0 y.2 [] (by omega) h1 (by simp)
 rw[show min y.1.toNat 1000000000=y.1.toNat by omega];obtain⟨b1,b2,b3⟩:=b;simp only at ht;subst ht;have L' :u1e ((s,y.2),(((b1, [],b3):u0j),()),y.1,0)=some (.inl ((s,(u23 (u7v 1000000000 s) y.1.toNat y.2 []).2),((b1,(u23 (u7v 1000000000 s) y.1.toNat y.2 []).1,b3):u0j),())):=L;rw[L'];rfl
theorem j8c {s:Hs} (hs:s.size<=1048576) (b:u0j) (ht:b.2.2.1= []) {c:Cur} (hc:inT s c):
 u3g ((s,c),b,())=some ((s,(t3y 1000000000 1000000000 s c).2),(b.1,b.2.1,(t3y 1000000000 1000000000 s c).1,b.2.2.2),()):=by
 have hb:u0m=1099511627776:=rfl;obtain⟨h1,h2,h3,h4⟩:=u2d hc;rw[t8h];unfold u7s t3y;simp only;rw[s0w c (by omega)];simp only[zOb];generalize u2s s c=y at h1 h2 h3 h4 ⊢
 have L:=s5v (s:=s) u1f (fun(c:Cur) (a:Hu u0i) i=>((s,c),(((b.1,b.2.1,a,b.2.2.2):u0j),()),y.1,i))
  (fun(c:Cur) (a:Hu u0i)=>((s,c),((b.1,b.2.1,a,b.2.2.2):u0j),())) (u7v 1000000000 s) y.1.toNat (q4l (r55 _ s))
  (fun c a i h=>by rw[u6u];simp only[u13];rw[p27 h];rfl)
  (fun c a i h hc2 hin ha=>by
   rw[u6u];simp only[u13];rw[q4f h hc2];simp only[zOb,Ad];rw[q67];unfold s7d;simp only;rw[j0m hs hin];simp only[zOb];rw[p4r (by simp;omega),y7h (by omega)];rfl) y.1.toNat 0 y.2 [] (by omega) h1 (by simp)
 rw[show min y.1.toNat 1000000000=y.1.toNat by omega];obtain⟨b1,b2,b3,b4⟩:=b;simp only at ht;subst ht;have L' :u1f ((s,y.2),(((b1,b2, [],b4):u0j),()),y.1,0)=some (.inl ((s,(u23 (u7v 1000000000 s) y.1.toNat y.2 []).2),((b1,b2,(u23 (u7v 1000000000 s) y.1.toNat y.2 []).1,b4):u0j),())):=L;rw[L'];rfl
theorem j9t {s:Hs} (hs:s.size<=1048576) {c:Cur} (hc:inT s c):s25 (s,c)=some ((t8b d5h s c).1,s,(t8b d5h s c).2):=by
 have hb:u0m=1099511627776:=rfl;have hs' :s.size<=u0m:=by omega
 have hw:=j0b d5h (s:=s) hc;have hk:=t1q (r57 d5h s c).1 (by have:=hw.2;omega);rw[p3e];unfold r1b;unfold t8b;unfold r57 at hk ⊢;simp only at hk ⊢;rw[s0w c hs'];simp only[zOb];have i1:=(u2d hc).1;rw[s0w _ hs'];simp only[zOb];have i2:=(u2d i1).1;rw[d1b hs' _ rfl i2];simp only[zOb];have i3:=(t9a (by omega) (q5o s) (min (u2s s (u2s s (u2s s c).2).2).1.toNat 1000000000) (u2s s (u2s s (u2s s c).2).2).2 [] (u2d i2).1).1;rw[d0l hs _ rfl i3];simp only[zOb];have i4:=(j0d (m:=1000000000) (k:=1000000000) i3).1;rw[j8c hs _ rfl i4];simp only[zOb];rw[show d5h.v=1000000000 from rfl,show d5h.t=1000000000 from rfl,show d5h.p=1000000000 from rfl,show d5h.r=1000000000 from rfl] at hk ⊢;rw[hk];simp only[zOb];generalize t3y 1000000000 1000000000 s (t3y 1000000000 1000000000 s _).2=z;cases h:z.2.2
 .simp
 .simp
theorem s2u {s:Hs} (c:Cur) (hs:s.size<=u0m):u3b (s,c)=some ((u2s s c).1,s,(u2s s c).2):=by
 rw[o9u];unfold p2w u2s;simp only[p6q s c.1 hs,zOb];cases h1:c.2
 .cases h2:(u0z s c.1).2.2<;>simp
 .simp
theorem s6d {s:Hs} (c:Cur) (hs:s.size<=u0m):u19 (s,c)=some ((u20 s c).1,s,(u20 s c).2):=by
 rw[p0n];unfold s9d u20;simp only[q7f s c.1 hs,zOb];cases h1:c.2
 .cases h2:(u0s s c.1).2.2
  .simp[emp]
  .simp
 .simp[emp]
theorem p3x {s:Hs} {c:Cur} (hc:inT s c) (hs:s.size<=u0m):u8k (s,c)=some ((p4t s c).1,s,(p4t s c).2):=by
 have hb:u0m=1099511627776:=rfl;unfold inT at hc;obtain⟨k,hk⟩:∃k:Nat,c.1=k:=⟨c.1.toNat,by omega⟩;rw[p5y];unfold r41 p4t;simp only[hk];cases h1:c.2
 .by_cases h2:k<s.size
  .have e1:decide ((k:Int)>=(s.size:Int))=false:=A7 (by omega);have e3:i64.wrap ((k:Int)+1)=(k:Int)+1:=y4x (by omega) (by omega);have e5:i64.wrap ((k:Int)+1 - 1)=k:=by rw[y4x (by omega) (by omega)];omega
   rw[e1,e3,e5];simp only[Aa,zOb,y7p h2,Ad,zTn,gt1,eq1];rw[show(s.data.toList.getD k 0).toNat=u8u s k from rfl];by_cases h3:1<u8u s k
   .simp[h3]
   .have h3' :u8u s k<=1:=by omega
    simp[h3,h3',h2]
  .have e1:decide ((k:Int)>=(s.size:Int))=true:=Bb (by omega);rw[e1];simp only[Aa,zOb,Ad];rw[Al (.inr (.inl (by omega)))]
 .simp
theorem o0w {n k:Int} {i:Nat} {c:Cur} (h:min n.toNat k.toNat<=i\/c.2=true):((bif decide ((i:Int)<n) then(bif decide ((i:Int)<k) then some (!c.2) else some false) else some false:Ht Bool))=some false:=by
 rcases h with h | h
 .by_cases q:(i:Int)<n
  .rw[Bb q,A7 (show ¬(i:Int)<k by omega)];rfl
  .rw[A7 q];rfl
 .rw[h];cases decide ((i:Int)<n)<;>cases decide ((i:Int)<k)<;>rfl
theorem p5b {n k:Int} {i:Nat} {c:Cur} (h:i<min n.toNat k.toNat) (hc:c.2=false):((bif decide ((i:Int)<n) then(bif decide ((i:Int)<k) then some (!c.2) else some false) else some false:Ht Bool))=some true:=by
 rw[Bb (show(i:Int)<n by omega),Bb (show(i:Int)<k by omega),hc];rfl
theorem d01 {s:Hs} (hs:s.size<=u0m) (z t:u0i) (n:Int) {c:Cur} (hc:inT s c) (ht:t.2.2.2.2.1= []):
 t3a (z,(s,c),t,n,0)=some (.inl (z,(s,(u23 (j0c s) (min n.toNat 10) c []).2),(t.1,t.2.1,t.2.2.1,t.2.2.2.1,(u23 (j0c s) (min n.toNat 10) c []).1,t.2.2.2.2.2))):=by
 have L:=s5v (s:=s) t3a (fun(c:Cur) (a:Hu s6l) i=>(z,(s,c),((t.1,t.2.1,t.2.2.1,t.2.2.2.1,a,t.2.2.2.2.2):u0i),n,i))
  (fun(c:Cur) (a:Hu s6l)=>(z,(s,c),((t.1,t.2.1,t.2.2.1,t.2.2.2.1,a,t.2.2.2.2.2):u0i))) (j0c s) (min n.toNat 10) (q4l (q5m s))
  (fun c a i h=>by rw[q1u];simp only[t91];rw[o0w (k:=10) h];rfl)
  (fun c a i h hc2 hin ha=>by
   rw[q1u];simp only[t91];rw[p5b (k:=10) h hc2];simp only[zOb,Ad];rw[s6d c hs];simp only[zOb];rw[s6d _ hs];simp only[zOb];rw[p4r (by simp;omega),y7h (by omega)];rfl) (min n.toNat 10) 0 c [] (by omega) hc (by simp)
 obtain⟨t1,t2,t3,t4,t5,t6⟩:=t;simp only at ht;subst ht;exact L
theorem d3f {s:Hs} (hs:s.size<=u0m) (z t:u0i) (n:Int) {c:Cur} (hc:inT s c) (ht:t.2.2.2.2.2.1= []):
 t0t (z,(s,c),t,n,0)=some (.inl (z,(s,(u23 (rWr s) (min n.toNat 10) c []).2),(t.1,t.2.1,t.2.2.1,t.2.2.2.1,t.2.2.2.2.1,(u23 (rWr s) (min n.toNat 10) c []).1,t.2.2.2.2.2.2))):=by
 have L:=s5v (s:=s) t0t (fun(c:Cur) (a:Hu WrT) i=>(z,(s,c),((t.1,t.2.1,t.2.2.1,t.2.2.2.1,t.2.2.2.2.1,a,t.2.2.2.2.2.2):u0i),n,i))
  (fun(c:Cur) (a:Hu WrT)=>(z,(s,c),((t.1,t.2.1,t.2.2.1,t.2.2.2.1,t.2.2.2.2.1,a,t.2.2.2.2.2.2):u0i))) (rWr s) (min n.toNat 10) (q4l (p39 s))
  (fun c a i h=>by rw[r6w];simp only[t61];rw[o0w (k:=10) h];rfl)
  (fun c a i h hc2 hin ha=>by
   rw[r6w];simp only[t61];rw[p5b (k:=10) h hc2];simp only[zOb,Ad];rw[s6d c hs];simp only[zOb];rw[s6d _ hs];simp only[zOb];rw[p3x (u9w (u9w hin).1).1 hs];simp only[zOb];rw[p4r (by simp;omega),y7h (by omega)];rfl) (min n.toNat 10) 0 c [] (by omega) hc (by simp)
 obtain⟨t1,t2,t3,t4,t5,t6,t7⟩:=t;simp only at ht;subst ht;exact L
theorem j6w {s:Hs} (hs:s.size<=1048576) {a:Int} (hc:inT s (a,false)):
 s49 (s,a)=some (if(u7v 10 s (a,false)).2.2=true then(u5u,0,false) else((u7v 10 s (a,false)).1,(u7v 10 s (a,false)).2.1,true)):=by
 have hb:u0m=1099511627776:=rfl;have hs' :s.size<=u0m:=by omega
 have hw:=o28 10 s (a,false) hc;have hin:=hc;unfold inT at hin;simp only at hin;have hwt:u0v.wt (p9y 10 s (a,false)).1<=u0m:=by
  have h1:=hw.1;unfold inT at h1;have:=(t00 (p9y 10 s (a,false)).2 (k:=20) (by omega)).2;have:=hw.2;simp only at this;omega
 have hk:=s1j _ hwt;rw[o49];unfold q8c;unfold u7v;unfold p9y at hk ⊢;simp only at hk ⊢;rw[s2u _ hs'];simp only[zOb];have i1:=(u2d hc).1;rw[s2u _ hs'];simp only[zOb];have i2:=(u2d i1).1;rw[s2u _ hs'];simp only[zOb];have i3:=(u2d i2).1;rw[s2u _ hs'];simp only[zOb];have i4:=(u2d i3).1;rw[s2u _ hs'];simp only[zOb];have i5:=(u2d i4).1;rw[d01 hs' _ _ _ i5 rfl];simp only[zOb];have i6:=(t9a (by omega) (q5m s) (min (u2s s (u2s s (u2s s (u2s s (u2s s (a,false)).2).2).2).2).1.toNat 10) (u2s s (u2s s (u2s s (u2s s (u2s s (a,false)).2).2).2).2).2 [] i5).1;rw[s2u _ hs'];simp only[zOb];have i7:=(u2d i6).1;rw[d3f hs' _ _ _ i7 rfl];simp only[zOb];rw[p3x (t9a (by omega) (p39 s) _ _ [] i7).1 hs'];simp only[zOb];rw[s6d _ hs'];simp only[zOb];rw[hk];simp only[zOb];generalize u20 s _=z;generalize u71 _=o;cases h:z.2.2<;>cases o<;>simp[u5u,emp]
theorem j3z {s:Hs} (hs:s.size<=1048576) (m:Nat) (hm:m<=1000) {c:Cur} (hc:inT s c):
 ∃(l:Hu u0i) (c' :Cur),t5a ((s,c),(m:Int))=some (l,s,c')/\inT s c' /\c'.2=(t3y 10 (m+1) s c).2.2/\c.1+((Ty.sl u0v).wt l:Nat)<=c'.1+22/\(c'.2=false->(l,c')=t3y 10 (m+1) s c):=by
 have hb:u0m=1099511627776:=rfl;obtain⟨h1,h2,h3,h4⟩:=u2d hc;rw[p3s];unfold r1k t3y;simp only;rw[s2u c (by omega)];simp only[zOb];generalize u2s s c=y at h1 h2 h3 h4 ⊢
 have key:∀(k i:Nat) (d:Cur) (a:Hu u0i),i+k=min y.1.toNat (m+1)->inT s d->a.length<=i->y.2.1+((a.length+(a.map u0v.wt).sum:Nat):Int)<=d.1+bad d 20->
  ∃(r:((Hs×Cur)×Hu u0i)⊕((Hs×Cur)×Hu u0i)) (l:Hu u0i) (c' :Cur),u7p ((s,d),(m:Int),a,y.1,(i:Int))=some r/\(r= .inl ((s,c'),l)\/r= .inr ((s,c'),l))/\inT s c' /\c'.2=(u23 (u7v 10 s) k d a).2.2/\
   y.2.1+((l.length+(l.map u0v.wt).sum:Nat):Int)<=c'.1+bad c' 20/\(c'.2=false->(l,c')=u23 (u7v 10 s) k d a):=by
  intro k
  induction k with
  | zero=>
   intro i d a hi hd ha hw;refine⟨_,a,d,?_, .inl rfl,hd,rfl,hw,fun _=>rfl⟩;rw[t0n];simp only[u5c];have:(bif decide ((i:Int)<y.1) then(bif decide ((i:Int)<=(m:Int)) then some (!d.2) else some false) else some false:Ht Bool)=some false:=by
    by_cases q:(i:Int)<y.1
    .rw[Bb q,A7 (show ¬(i:Int)<=m by omega)];rfl
    .rw[A7 q];rfl
   rw[this];rfl
  | succ k ih=>
   intro i d a hi hd ha hw;by_cases q:d.2=true
   .refine⟨_,a,d,?_, .inl rfl,hd,by rw[t89 q],hw,fun z=>by rw[q] at z;cases z⟩;rw[t0n];simp only[u5c];have:(bif decide ((i:Int)<y.1) then(bif decide ((i:Int)<=(m:Int)) then some (!d.2) else some false) else some false:Ht Bool)=some false:=by
     rw[q];cases decide ((i:Int)<y.1)<;>cases decide ((i:Int)<=(m:Int))<;>rfl
    rw[this];rfl
   .have q' :d.2=false:=by simpa using q
    have ed:d=(d.1,false):=by rw[←q']
    have hx:=j6w hs (a:=d.1) (by rw[←ed];exact hd);rw[←ed] at hx;have he:=r55 10 s d hd;have hbd:bad d 20=0:=by unfold bad;rw[Ao q]
    have c1:(bif decide ((i:Int)<y.1) then(bif decide ((i:Int)<=(m:Int)) then some (!d.2) else some false) else some false:Ht Bool)=some true:=by
     rw[Bb (show(i:Int)<y.1 by omega),Bb (show(i:Int)<=m by omega),q'];rfl
    simp only[u23];rw[Ao q];cases z:(u7v 10 s d).2.2
    .rw[Ao (by rw[z];simp)] at hx;have hbz:bad (u7v 10 s d).2 20=0:=by unfold bad;rw[Ao (by rw[z];simp)]
     obtain⟨r,l,c',e1,e2,e3,e4,e5,e6⟩:=ih (i+1) (u7v 10 s d).2 (a++ [(u7v 10 s d).1]) (by omega) he.1 (by simp;omega) (by
      have:=he.2;rw[hbd] at hw;rw[hbz] at this ⊢;simp only[Ba,Aw,Dh,C8,Eh,Fn,Ge,Gq];omega)
     refine⟨r,l,c',?_,e2,e3,e4,e5,e6⟩;rw[←e1,t0n];simp only[u5c];rw[c1];simp only[zOb,Ad];rw[hx];simp only[zOb,Ap,Aa];rw[p4r (by simp;omega),y7h (by omega),q'];have:(u7v 10 s d).2=((u7v 10 s d).2.1,false):=by rw[←z]
     rw[this]
    .rw[Al z] at hx;refine⟨_,a,(d.1,true),?_, .inr rfl,hd,by rw[t89 z,z],?_,fun w=>by cases w⟩
     .rw[t0n];simp only[u5c];rw[c1];simp only[zOb,Ad];rw[hx];rfl
     .rw[hbd] at hw;have:bad ((d.1,true):Cur) 20=20:=rfl;rw[this];simp only;omega
 have hb0:0<=bad y.2 20:=(t00 _ (by omega)).1;obtain⟨r,l,c',e1,e2,e3,e4,e5,e6⟩:=key (min y.1.toNat (m+1)) 0 y.2 [] (by omega) h1 (by simp) (by simp only[Cc,Eh,Gq];omega);have e1' :u7p ((s,y.2),(m:Int), [],y.1,0)=some r:=e1;refine⟨l,c',?_,e3,e4,?_,e6⟩
 .rw[e1'];rcases e2 with e2 | e2<;>rw[e2] <;>rfl
 .have e:(Ty.sl u0v).wt l=l.length+(l.map u0v.wt).sum:=rfl;rw[e];have t1:=(t00 y.2 (k:=1) (by omega)).2;have t2:=(t00 c' (k:=20) (by omega)).2;omega
def d2h:Lim:=⟨10,130,13,4⟩
theorem d5j:d2h.ok:=⟨by decide,by decide,by decide,by decide⟩
theorem d1c {s:Hs} (hs:s.size<=u0m) (z b:u0j) (n:Int) {c:Cur} (hc:inT s c) (ht:b.1= []):
 t0s (z,(s,c),b,n,0)=some (.inl (z,(s,(u23 (j0e s) (min n.toNat 130) c []).2),((u23 (j0e s) (min n.toNat 130) c []).1,b.2))):=by
 have L:=s5v (s:=s) t0s (fun(c:Cur) (a:Hu u17) i=>(z,(s,c),((a,b.2):u0j),n,i))
  (fun(c:Cur) (a:Hu u17)=>(z,(s,c),((a,b.2):u0j))) (j0e s) (min n.toNat 130) (q4l (q5o s))
  (fun c a i h=>by rw[r6v];simp only[t60];rw[o0w (k:=130) h];rfl)
  (fun c a i h hc2 hin ha=>by
   rw[r6v];simp only[t60];rw[p5b (k:=130) h hc2];simp only[zOb,Ad];rw[s6d c hs];simp only[zOb];rw[s6d _ hs];simp only[zOb];rw[p3x (u9w (u9w hin).1).1 hs];simp only[zOb];rw[s2u _ hs];simp only[zOb];rw[p4r (by simp;omega),y7h (by omega)];rfl) (min n.toNat 130) 0 c [] (by omega) hc (by simp)
 obtain⟨b1,b2⟩:=b;simp only at ht;subst ht;exact L
theorem j9u {s:Hs} (hs:s.size<=1048576) {a:Int} (hc:inT s (a,false)):
 r0c (s,a)=some (if(t8b d2h s (a,false)).2.2=true then(u2t,0,false) else((t8b d2h s (a,false)).1,(t8b d2h s (a,false)).2.1,true)):=by
 have hb:u0m=1099511627776:=rfl;have hs' :s.size<=u0m:=by omega
 have hw:=j0b d2h (s:=s) hc;have hk:=s3y (r57 d2h s (a,false)).1 (by have:=hw.2;omega);rw[o1u];unfold q3r;unfold t8b;unfold r57 at hk ⊢;simp only at hk ⊢;rw[s2u _ hs'];simp only[zOb];have i1:=(u2d hc).1;rw[s2u _ hs'];simp only[zOb];have i2:=(u2d i1).1;rw[s2u _ hs'];simp only[zOb];have i3:=(u2d i2).1;rw[d1c hs' _ _ _ i3 rfl];simp only[zOb];have i4f:=t9a (by omega) (q5o s) (min (u2s s (u2s s (u2s s (a,false)).2).2).1.toNat 130) (u2s s (u2s s (u2s s (a,false)).2).2).2 [] i3;rw[show d2h.v=130 from rfl,show d2h.t=10 from rfl,show d2h.p=12+1 from rfl,show d2h.r=3+1 from rfl] at hk ⊢;generalize hvs:u23 (j0e s) (min (u2s s (u2s s (u2s s (a,false)).2).2).1.toNat 130) (u2s s (u2s s (u2s s (a,false)).2).2).2 [] =vs at hk i4f ⊢;obtain⟨i4,i4w⟩:=i4f;obtain⟨l1,d1,e1,e2,e3,e4,e5⟩:=j3z hs 12 (by omega) i4;obtain⟨l2,d2,f1,f2,f3,f4,f5⟩:=j3z hs 3 (by omega) e2;rw[show((12:Nat):Int)=12 from rfl] at e1;rw[show((3:Nat):Int)=3 from rfl] at f1
 rw[e1];simp only[zOb];rw[f1];simp only[zOb];cases z:d2.2
 .have z1:d1.2=false:=by
   cases w:d1.2
   .rfl
   .have:(t3y 10 (3+1) s d1).2.2=true:=q5n w;rw[←f3,z] at this;cases this
  have g1:=e5 z1;have g2:=f5 z;rw[←g1];rw[←g1] at hk;simp only at hk ⊢;rw[←g2];rw[←g2] at hk;simp only at hk ⊢;rw[hk];simp only[zOb,z,Aa,Ci];generalize u8t _=o;cases o<;>simp[u2t]
 .have zz:(t3y 10 (3+1) s (t3y 10 (12+1) s vs.2).2).2.2=true:=by
   cases w:d1.2
   .have g1:=e5 w;rw[←g1];show(t3y 10 (3+1) s d1).2.2=true;rw[←f3];exact z
   .exact q5n (by rw[←e3];exact w)
  rw[zz];simp[u2t]
theorem o77 (t:Hs) (ht:t.size<=u0m):s94 t=some (match t74 t with
 | some s=>(s,true) | none=>(emp,false)):=by
 have hb:u0m=1099511627776:=rfl;rw[o1c];unfold q29 t74;by_cases h4:t.size<4
 .rw[Bb (by omega),Ao (by omega)];rfl
 .rw[A7 (by omega),y4x (n:=(t.size:Int) - 4) (by omega) (by omega)];have c1:(decide ((0:Int)<=0)&&decide ((0:Int)<=(t.size:Int) - 4)&&decide ((t.size:Int) - 4<=(t.size:Int)))=true:=by simp;omega
  have e1:((t.size:Int) - 4).toNat=t.size - 4:=by omega
  rw[c1,e1,show((0:Int)).toNat=0 from rfl];have hz:(t.extract 0 (t.size - 4)).size=t.size - 4:=by simp
  simp only[Aa,Ad];rw[s85 _ (by rw[hz];omega)];simp only[zOb];unfold o3i;rw[hz];by_cases h5:t.size - 4<=20000
  .rw[Al h5];simp only[Ap,Aa,zOb];by_cases h6:q5w (t.extract 0 (t.size - 4))=t
   .rw[Al ⟨by omega,h5,h6⟩,y7b.mpr h6];rfl
   .rw[Ao (fun q=>h6 q.2.2),j5q.mpr h6];rfl
  .rw[Ao h5,Ao (fun q=>h5 q.2.1)];rfl
theorem j3p {t:Hs} (h:4<=t.size):q5w (t.extract 0 (t.size - 4))=t↔t.extract (t.size - 4) t.size=d9p (d5u (t.extract 0 (t.size - 4))):=by
 have e:t.extract 0 (t.size - 4)++t.extract (t.size - 4) t.size=t:=by
  rw[ByteArray.extract_append_extract,Nat.zero_min,Nat.max_eq_right (by omega)];exact Fu
 unfold q5w;constructor
 .intro q;have:=e.trans q.symm;exact ByteArray.append_right_inj (t.extract 0 (t.size - 4)) |>.mp this
 .intro q;rw[←q,e]
theorem j7n (t:Hs) (ht:t.size<=1099511627776):r2p t=some (d5u t):=by
 rw[p7i];unfold q3w;rw[p6r _ _ ht];rfl
theorem j87 (x:Int):s5c x=some (d9p x):=by
 rw[q9d];rfl
theorem o78 (t:Hs) (ht:t.size<=u0m):r0f t=some (match t74 t with
 | some s=>(s,true) | none=>(emp,false)):=by
 have hb:u0m=1099511627776:=rfl;rw[o1z];unfold q3x t74;rw[y4x (n:=(t.size:Int) - 4) (by omega) (by omega)];by_cases h4:t.size<4
 .rw[Bb (show(t.size:Int) - 4<0 by omega),Ao (by omega)];rfl
 .rw[A7 (show ¬(t.size:Int) - 4<0 by omega)];have c1:(decide ((0:Int)<=0)&&decide ((0:Int)<=(t.size:Int) - 4)&&decide ((t.size:Int) - 4<=(t.size:Int)))=true:=by simp;omega
  have c2:(decide ((0:Int)<=(t.size:Int) - 4)&&decide ((t.size:Int) - 4<=(t.size:Int))&&decide ((t.size:Int)<=(t.size:Int)))=true:=by simp;omega
  have e1:((t.size:Int) - 4).toNat=t.size - 4:=by omega
  rw[c1,c2,e1,show((0:Int)).toNat=0 from rfl,zTn];have hz:(t.extract 0 (t.size - 4)).size=t.size - 4:=by simp
  simp only[Aa,Ad];by_cases h5:t.size - 4<=20000
  .rw[A7 (show ¬(t.size:Int) - 4 >20000 by omega),j7n _ (by rw[hz];omega)];simp only[zOb,Aa];rw[j87];simp only[zOb];by_cases h6:q5w (t.extract 0 (t.size - 4))=t
   .rw[Al ⟨by omega,h5,h6⟩,(j3p (by omega)).mp h6,y6k];rfl
   .rw[Ao (fun q=>h6 q.2.2),j5q.mpr (mt (j3p (t:=t) (by omega)).mpr h6)];rfl
  .rw[Bb (show(t.size:Int) - 4 >20000 by omega),Ao (fun q=>h5 q.2.1)];rfl
def noR:r03:=(0,u5u,emp,false,u2t)
def t9b (t:Hs):r03×Bool:=match u5f t with
 | some r=>(r,true) | none=>(noR,false)
theorem d2z {t:Hs} {r:r03} (h:u04 r=(t,true)):u5f t=some r:=by
 have hr:u70 r=true:=by
  cases q:u70 r with
  | true=>rfl | false=>
   unfold u04 at h;rw[Ao (by simp[q])] at h;simp at h
 have hR:=d34.mp hr;rw[t6c hR] at h;rw[←(Dv h).1];exact q5p hR
theorem d2y {t s:Hs} {r:r03} (hu:t74 t=some s) (h:u5f t=some r):RecR r/\s=q5t r/\u04 r=(t,true):=by
 obtain⟨h1,h2⟩:=p4b h;have hs:=s8z h1;have:=p4h (t:=q5t r) (by omega);rw[←h2,hu] at this;exact⟨h1,Ds this,by rw[t6c h1,←h2]⟩
theorem q6r {t s:Hs} {r' :r03} {b:Bool} (hu:t74 t=some s) (hr:∀r,RecR r->s=q5t r->r' =r/\b=false):
 (((bif b then some true else(bif (!(u04 r').2) then some true else some (!z7n (u04 r').1 t))):Ht Bool).bind fun j=>bif j then some (noR,false) else some (r',true))=some (t9b t):=by
 unfold t9b;cases h:u5f t with
 | some r=>
  obtain⟨h1,h2,h3⟩:=d2y hu h;obtain⟨e1,e2⟩:=hr r h1 h2;subst e1;rw[e2,h3];simp only[Aa,Ap,y6k,zOb]
 | none=>
  cases b
  .cases h2:(u04 r').2
   .rfl
   .have:z7n (u04 r').1 t=false:=by
     rw[j5q];intro e;have:=d2z (t:=t) (r:=r') (by rw[←e,←h2]);rw[h] at this;cases this
    rw[this];rfl
  .rfl
theorem j58 (s:Hs):((s.data.toList.getD 0 0).toNat:Int)=(u8u s 0:Int):=rfl
theorem j1s (s:Hs) (i:Nat):u8u s i<256:=by unfold u8u;exact Fw _
theorem p4i {t s:Hs} (h:t74 t=some s):s.size<=20000:=by
 unfold t74 at h;split at h
 .rename_i q;have:=Ds h;rw[←this];simp;omega
 .cases h
theorem c5a (k:Nat):decide ((k:Int)=3)=decide (k=3):=by simp;omega
theorem c5b (k:Nat):decide ((k:Int)=4)=decide (k=4):=by simp;omega
theorem p4q:u0v.wt u5u=0:=rfl
theorem p4p:d7k.wt u2t=0:=rfl
theorem j6k (m:Nat) {s:Hs} (hs:s.size<=20000) (h1:1<=s.size):u0v.wt (u7v m s (1,false)).1<=30000:=by
 have h:=r55 m s (1,false) ⟨by simp,by simp;omega⟩;have h2:=h.1;unfold inT at h2;have:=(t00 (u7v m s (1,false)).2 (k:=20) (by omega)).2;have:=h.2;simp only at this;omega
theorem j29 (m:Lim) {s:Hs} (hs:s.size<=20000) (h1:1<=s.size):d7k.wt (t8b m s (1,false)).1<=30000:=by
 have h:=j0b m (s:=s) (c:=(1,false)) ⟨by simp,by simp;omega⟩;have e:(t8b m s (1,false)).1=(r57 m s (1,false)).1:=rfl;rw[e];have:=h.2;omega
theorem o0c (t:Hs) (ht:t.size<=u0m):s35 t=some (t9b t):=by
 have hb:u0m=1099511627776:=rfl;rw[p5f];unfold r4i;rw[o77 t ht];simp only[zOb];cases hu:t74 t with
 | none=>
  unfold t9b u5f;rw[hu];rfl
 | some s=>
  have hs:=p4i hu;simp only[t7t];by_cases h0:s.size=0
  .unfold t9b u5f;rw[hu];simp only;rw[Al h0,Bb h0];rfl
  .have hin:inT s (1,false):=⟨by simp,by simp;omega⟩;rw[A7 h0];simp only[Ap,Aa,zOb];rw[show y4o (0:Int) s.size=true from y7p (i:=0) (by omega)];simp only[Ad,show((0:Int)).toNat=0 from rfl,j58];rw[y4x (n:=(u8u s 0:Int)) (by omega) (by have:=j1s s 0;omega),c5a,c5b];by_cases h3:u8u s 0=3
   .rw[Bb h3,s6c _ (by omega)];simp only[Ad,zOb];rw[p3w _ (by omega)];simp only[zOb];have hf:=(u9w hin).2;have hg:=(u9w hin).1;unfold inT at hg;have:=(t00 (u20 s (1,false)).2 (k:=1) (by omega)).2;simp only at hf;have hk:=s83 ((u8u s 0:Int),u5u,(u20 s (1,false)).1,(p4t s (u20 s (1,false)).2).1,u2t) (by rw[q5u];simp only[p4q,p4p];omega);rw[show((0:Int),(0:Int),(0:Int),(0:Int),([] :Hu s6l),([] :Hu WrT),false,(⟨#[]⟩:Hs))=u5u from rfl];rw[show(([] :Hu u17),([] :Hu u0i),([] :Hu u0i),(0:Int),(0:Int))=u2t from rfl];rw[hk];simp only[zOb];refine q6r hu (b:=(p4t s (u20 s (1,false)).2).2.2) fun r h1 h2=> ?_
    have:=s4d h1;rw[←h2] at this;unfold t5c at this;rw[Al h3] at this;rw[h3];exact⟨(Dv this).1,(Dv this).2⟩
   .rw[A7 h3];by_cases h4:u8u s 0=4
    .rw[Bb h4,j9t (by omega) hin];simp only[Ad,Aa,zOb];have hk:=s83 ((u8u s 0:Int),u5u,emp,false,(t8b d5h s (1,false)).1) (by rw[q5u];simp only[p4q];have:=j29 d5h hs (by omega);simp only[emp,ByteArray.size];simp;omega);rw[show((0:Int),(0:Int),(0:Int),(0:Int),([] :Hu s6l),([] :Hu WrT),false,(⟨#[]⟩:Hs))=u5u from rfl];rw[show(([] :Hu u17),([] :Hu u0i),([] :Hu u0i),(0:Int),(0:Int))=u2t from rfl];rw[show((⟨#[]⟩:Hs))=emp from rfl];rw[hk];simp only[zOb];refine q6r hu (b:=(t8b d5h s (1,false)).2.2) fun r h1 h2=> ?_
     have:=s4d h1;rw[←h2] at this;unfold t5c at this;rw[Ao h3,Al h4] at this;have hl:=o65 j5c d5i (Dv this).2;rw[h4,hl];exact⟨(Dv this).1,(Dv this).2⟩
    .rw[A7 h4,j0m (by omega) hin];simp only[Ad,Aa,zOb];have hk:=s83 ((u8u s 0:Int),(u7v 1000000000 s (1,false)).1,emp,false,u2t) (by rw[q5u];simp only[p4p];have:=j6k 1000000000 hs (by omega);simp only[emp,ByteArray.size];simp;omega);rw[show((0:Int),(0:Int),(0:Int),(0:Int),([] :Hu s6l),([] :Hu WrT),false,(⟨#[]⟩:Hs))=u5u from rfl];rw[show(([] :Hu u17),([] :Hu u0i),([] :Hu u0i),(0:Int),(0:Int))=u2t from rfl];rw[show((⟨#[]⟩:Hs))=emp from rfl];rw[hk];simp only[zOb];refine q6r hu (b:=(u7v 1000000000 s (1,false)).2.2) fun r h1 h2=> ?_
     have:=s4d h1;rw[←h2] at this;unfold t5c at this;rw[Ao h3,Ao h4] at this;have hl:=o24 (m:=9) (m' :=1000000000) (by omega) (by omega) (Dv this).2;rw[hl];exact⟨(Dv this).1,(Dv this).2⟩
theorem o0d (t:Hs) (ht:t.size<=u0m):s39 t=some (t9b t):=by
 have hb:u0m=1099511627776:=rfl;rw[p5q];unfold r4t;rw[o78 t ht];simp only[zOb];cases hu:t74 t with
 | none=>
  unfold t9b u5f;rw[hu];rfl
 | some s=>
  have hs:=p4i hu;simp only[t7t];by_cases h0:s.size=0
  .unfold t9b u5f;rw[hu];simp only;rw[Al h0,Bb h0];rfl
  .have hin:inT s (1,false):=⟨by simp,by simp;omega⟩;rw[A7 h0];simp only[Ap,Aa,zOb];rw[show y4o (0:Int) s.size=true from y7p (i:=0) (by omega)];simp only[Ad,show((0:Int)).toNat=0 from rfl,j58];rw[y4x (n:=(u8u s 0:Int)) (by omega) (by have:=j1s s 0;omega),c5a,c5b];by_cases h3:u8u s 0=3
   .rw[Bb h3,s6d _ (by omega)];simp only[Ad,zOb];rw[p3x (u9w hin).1 (by omega)];simp only[zOb];have hf:=(u9w hin).2;have hg:=(u9w hin).1;unfold inT at hg;have:=(t00 (u20 s (1,false)).2 (k:=1) (by omega)).2;simp only at hf;have hk:=t0o ((u8u s 0:Int),u5u,(u20 s (1,false)).1,(p4t s (u20 s (1,false)).2).1,u2t) (by rw[q5u];simp only[p4q,p4p];omega);rw[show((0:Int),(0:Int),(0:Int),(0:Int),([] :Hu s6l),([] :Hu WrT),false,(⟨#[]⟩:Hs))=u5u from rfl];rw[show(([] :Hu u17),([] :Hu u0i),([] :Hu u0i),(0:Int),(0:Int))=u2t from rfl];rw[hk];simp only[zOb];refine q6r hu (b:=false) fun r h1 h2=> ?_
    have:=s4d h1;rw[←h2] at this;unfold t5c at this;rw[Al h3] at this;rw[h3];exact⟨(Dv this).1,rfl⟩
   .rw[A7 h3];by_cases h4:u8u s 0=4
    .rw[Bb h4,j9u (by omega) hin];simp only[Ad,Aa,zOb];generalize hy:(if(t8b d2h s (1,false)).2.2=true then(u2t,(0:Int),false) else((t8b d2h s (1,false)).1,(t8b d2h s (1,false)).2.1,true))=y;have hyw:d7k.wt y.1<=30000:=by
      rw[←hy];split
      .rw[p4p];omega
      .exact j29 d2h hs (by omega)
     have hk:=t0o ((u8u s 0:Int),u5u,emp,false,y.1) (by rw[q5u];simp only[p4q];simp only[emp,ByteArray.size];simp;omega);rw[show((0:Int),(0:Int),(0:Int),(0:Int),([] :Hu s6l),([] :Hu WrT),false,(⟨#[]⟩:Hs))=u5u from rfl];rw[show(([] :Hu u17),([] :Hu u0i),([] :Hu u0i),(0:Int),(0:Int))=u2t from rfl];rw[show((⟨#[]⟩:Hs))=emp from rfl];rw[hk];simp only[zOb];refine q6r hu (b:=false) fun r h1 h2=> ?_
     have:=s4d h1;rw[←h2] at this;unfold t5c at this;rw[Ao h3,Al h4] at this;have hl:=o65 j5c d5j (Dv this).2;rw[hl,Ao (by rw[(Dv this).2];simp)] at hy;rw[h4,←hy];exact⟨(Dv this).1,rfl⟩
    .rw[A7 h4,j6w (by omega) hin];simp only[Ad,Aa,zOb];generalize hy:(if(u7v 10 s (1,false)).2.2=true then(u5u,(0:Int),false) else((u7v 10 s (1,false)).1,(u7v 10 s (1,false)).2.1,true))=y;have hyw:u0v.wt y.1<=30000:=by
      rw[←hy];split
      .rw[p4q];omega
      .exact j6k 10 hs (by omega)
     have hk:=t0o ((u8u s 0:Int),y.1,emp,false,u2t) (by rw[q5u];simp only[p4p];simp only[emp,ByteArray.size];simp;omega);rw[show((0:Int),(0:Int),(0:Int),(0:Int),([] :Hu s6l),([] :Hu WrT),false,(⟨#[]⟩:Hs))=u5u from rfl];rw[show(([] :Hu u17),([] :Hu u0i),([] :Hu u0i),(0:Int),(0:Int))=u2t from rfl];rw[show((⟨#[]⟩:Hs))=emp from rfl];rw[hk];simp only[zOb];refine q6r hu (b:=false) fun r h1 h2=> ?_
     have:=s4d h1;rw[←h2] at this;unfold t5c at this;rw[Ao h3,Ao h4] at this;have hl:=o24 (m:=9) (m' :=10) (by omega) (by omega) (Dv this).2;rw[hl,Ao (by rw[(Dv this).2];simp)] at hy;rw[←hy];exact⟨(Dv this).1,rfl⟩
theorem j4m (l:Hu u0i) (c:Hs) (hl:l.length<=8388608):u2n (l,c)=some (l.filter fun x=> !z7n x.2.2.2.2.2.2.2 c):=by
 have hq:∀x∈l,u85 (x,c)=some (z7n x.2.2.2.2.2.2.2 c):=fun x _=>by rw[p8d];rfl
 have L:=Q.first (T:=u0v) (c:=Hs) (W:=u1o) (q:=u85) (p:=fun x:u0i=>z7n x.2.2.2.2.2.2.2 c) (fun x=>t1i x) l c (by omega) hq;rw[t2b];unfold u43;simp only[t3n,u5i,L,zOb];by_cases hk:u0y (fun x:u0i=>z7n x.2.2.2.2.2.2.2 c) l<l.length
 .obtain⟨a,e1,e2,e3⟩:=Q.delete (T:=u0v) (c:=Hs) (W:=u1j) (q:=u85) (p:=fun x:u0i=>z7n x.2.2.2.2.2.2.2 c) (fun x=>t1c x) l c (by omega) hq hk;have hn:=t3q (fun x:u0i=> !z7n x.2.2.2.2.2.2.2 c) l;obtain⟨n,hne⟩:∃n,n=(l.filter fun x:u0i=> !z7n x.2.2.2.2.2.2.2 c).length:=⟨_,rfl⟩;rw[←hne] at e1 e3 hn;have c1:decide (((u0y (fun x:u0i=>z7n x.2.2.2.2.2.2.2 c) l:Nat):Int)= -1)=false:=by simp
  have c2:decide ((0:Int)<=(n:Int))=true:=by simp
  have c3:decide ((n:Int)<=(a.length:Int))=true:=by simp;omega
  have c4:decide ((a.length:Int)<=(a.length:Int))=true:=by simp
  have hw:=y7h (i:=u0y (fun x:u0i=>z7n x.2.2.2.2.2.2.2 c) l) (by omega);simp only[Al hk,zOb,c1,Aa,hw,e1,c2,c3,c4,Dt,Ad,zTn,Ae,Bv];have c5:decide ((n:Int)<=((a.take n++List.replicate (a.length - n) u0v.zero++a.drop (n+(a.length - n))).length:Int))=true:=by simp;omega
  have c6:(a.take n++List.replicate (a.length - n) u0v.zero++a.drop (n+(a.length - n))).take (n - (0:Int).toNat)=l.filter fun x:u0i=> !z7n x.2.2.2.2.2.2.2 c:=by
   rw[Bi,Ho,Nat.sub_zero,p5c a n (by omega),e3]
  simp only[c5,Dt,Ad,c6]
 .have hall:(l.filter fun x:u0i=> !z7n x.2.2.2.2.2.2.2 c)=l:=by
   rw[F9];intro x hx;obtain⟨i,hi,rfl⟩:=B7 hx;rw[t32 (p:=fun x:u0i=>z7n x.2.2.2.2.2.2.2 c) hi (by omega)];rfl
  simp only[Ao hk,zOb,Ae,Ad,hall]
theorem j00 (b:u0j) (n:Hs) (hb:fewB b):t8w (b,n)=some (s1c b n):=by
 rw[o4g];unfold q7j;simp only;rw[s3z b hb];simp only[zOb];rw[j4m _ _ (by have:=hb.2.2.1;omega)];rfl
theorem p6l (b:u0j) (n:Hs) (hb:fewB b):s46 (b,n)=some (s1c b n):=by
 obtain⟨hb1,hb2,hb3⟩:=hb
 have L:=s1k t27 b.2.2.1 (fun(a:Hu u0i) i=>(n,b,u2t,((b.1,b.2.1,a,b.2.2.2):u0j),i)) (fun x:u0i=> !z7n x.2.2.2.2.2.2.2 n) (fun x=>x) (fun a=> .inl (u2t,((b.1,b.2.1,a,b.2.2.2):u0j))) (by have:=hb3.1;omega)
  (fun a _=>by rw[q1o];simp only[t9v,u0b,Am,Ah,Aa])
  (fun i hi a ha=>by
   have hm:=Ag hi;have:=hb3.1;rw[q1o];simp only[t9v,u0b,hi,Ae,Ad,y7p hi,zTn,y8f (t:=u0v) hi,y7h (show i<4611686018427387904 by omega)];rw[t2q _ (hb3.2 _ hm)];simp only[zOb];rw[p4r (by simp;omega)])
 rw[Er] at L;rw[o42];unfold q75;simp only;rw[s1g b ⟨hb1,hb2,hb3⟩];simp only[zOb];have L' :t27 (n,b,(([], [], [],0,0):u0j),((b.1,b.2.1, [],b.2.2.2):u0j),0)=_:=L;rw[L'];rfl
theorem d0c {n i:Int} :y8d n (i+1)=u14 n i:=by
 unfold y8d u14;by_cases h:i<n
 .rw[Al h,Ao (by omega)]
 .rw[Ao h,Al (by omega)]
theorem d0j (p:u0i->Bool) (l:Hu u0i):∀(a:Hu u0i×Hu u0i),l.foldl (fun a x=>if p x=true then(a.1++ [x],a.2) else(a.1,a.2++ [x])) a=(a.1++l.filter p,a.2++l.filter fun x=> !p x):=by
 induction l with
 | nil=>intro a;simp | cons x l ih=>
  intro a;rw[Bs,ih];cases h:p x<;>simp[h]
theorem j6o (p q:u0i->Bool) (l:Hu u0i) (d:u0i) (hl:l.length<=4194304):(l.filter p).length+ [d].length<=1099511627776/\(l.filter p++ [d]).length+(l.filter q).length<=1099511627776/\(l.filter p++ [d]).length<=8000000:=by
 have f1:=t3q p l;have f2:=t3q q l;rw[Ba,Aw];omega
theorem o7g (b z:u0j) (t d:u0i) (n:Hs) (hb:fewB b):u6x (n,t,z,b,d, [], [],(),(b.2.2.1.length:Int),0)=
 some (.inl (t,z,b,d,b.2.2.1.filter (fun x=>y3b x.2.2.2.2.2.2.2 n),b.2.2.1.filter fun x=> !y3b x.2.2.2.2.2.2.2 n)):=by
 have hl:=hb.2.2.1
 have L:=u8m u6x b.2.2.1 (fun(a:Hu u0i×Hu u0i) i=>(n,t,z,b,d,a.1,a.2,(),(b.2.2.1.length:Int),i)) (fun a x=>if y3b x.2.2.2.2.2.2.2 n=true then(a.1++ [x],a.2) else(a.1,a.2++ [x]))
  (fun a=> .inl (t,z,b,d,a.1,a.2)) (fun i a=>a.1.length<=i/\a.2.length<=i)
  (fun a _=>by rw[r2w];simp only[t4h,u0b,Am,Ah,Aa])
  (fun i hi a ha=>by
   rw[r2w];simp only[t4h,u0b,hi,Ae,Ad,y7p hi,zTn,y8f (t:=u0v) hi,y7h (show i<4611686018427387904 by omega)];cases y3b (b.2.2.1[i]).2.2.2.2.2.2.2 n
   .simp only[Br,Bk,Aa];refine⟨⟨by omega,by simp;omega⟩,?_⟩;rw[p4r (by simp;omega)]
   .simp only[Bl,Ad];refine⟨⟨by simp;omega,by omega⟩,?_⟩;rw[p4r (by simp;omega)]) ([], []) ⟨by simp,by simp⟩
 rw[d0j (fun x=>y3b x.2.2.2.2.2.2.2 n)] at L;simpa using L
theorem o34 (b:u0j) (t:u0i) (n:Hs) (hb:fewB b) (ht:q2e t) (hi:j80 t.1):s6v (b,t,n)=some (u2y b t n):=by
 have hl:=hb.2.2.1;rw[p8f];unfold r8r;simp only;rw[s3z b hb];simp only[zOb];rw[p95 t ht];simp only[zOb];rw[o6i t b.2.1 ht hb.2.1];simp only[zOb];rw[o7g _ _ _ _ _ hb,o7g _ _ _ _ _ hb];simp only[zOb,s3o hi,d0c];have pl:=fun d=>j6o (fun x:u0i=>y3b x.2.2.2.2.2.2.2 n) (fun x:u0i=> !y3b x.2.2.2.2.2.2.2 n) b.2.2.1 d hl
 rw[p4r (pl _).1,p4r (pl _).2.1,p4r (pl _).1,p4r (pl _).2.1];unfold u2y u6r;cases t.2.2.2.2.2.2.1<;>rfl
theorem o3d (b z:u0j) (t d:u0i) (n:Hs) (hb:fewB b):u60 (n,b,t,z,((b.1,b.2.1, [],b.2.2.2):u0j),d,0)=
 some (.inl (n,b,t,z,((b.1,b.2.1,b.2.2.1.filter (fun x=>y3b x.2.2.2.2.2.2.2 n),b.2.2.2):u0j),d)):=by
 have hl:=hb.2.2.1
 have L:=s1k u60 b.2.2.1 (fun(a:Hu u0i) i=>(n,b,t,z,((b.1,b.2.1,a,b.2.2.2):u0j),d,i)) (fun x:u0i=>y3b x.2.2.2.2.2.2.2 n) (fun x=>x) (fun a=> .inl (n,b,t,z,((b.1,b.2.1,a,b.2.2.2):u0j),d)) (by omega)
  (fun a _=>by rw[r26];simp only[t4q,u0b,Am,Ah,Aa])
  (fun i hi a ha=>by
   have hm:=Ag hi;rw[r26];simp only[t4q,u0b,hi,Ae,Ad,y7p hi,zTn,y8f (t:=u0v) hi,y7h (show i<4611686018427387904 by omega)];rw[t2q _ (hb.2.2.2 _ hm)];simp only[zOb];rw[p4r (by simp;omega)])
 rw[Er] at L;exact L
theorem p7w (b z:u0j) (t:u0i) (n:Hs) (hb:fewB b) (pre:Hu u0i) (hp:pre.length<=8000000):u55 (n,b,t,z,((b.1,b.2.1,pre,b.2.2.2):u0j),0)=
 some (.inl (t,z,((b.1,b.2.1,pre++b.2.2.1.filter (fun x=> !y3b x.2.2.2.2.2.2.2 n),b.2.2.2):u0j))):=by
 have hl:=hb.2.2.1
 have L:=s1k u55 b.2.2.1 (fun(a:Hu u0i) i=>(n,b,t,z,((b.1,b.2.1,pre++a,b.2.2.2):u0j),i)) (fun x:u0i=> !y3b x.2.2.2.2.2.2.2 n) (fun x=>x) (fun a=> .inl (t,z,((b.1,b.2.1,pre++a,b.2.2.2):u0j))) (by omega)
  (fun a _=>by rw[r0v];simp only[t1w,u0b,Am,Ah,Aa])
  (fun i hi a ha=>by
   have hm:=Ag hi;rw[r0v];simp only[t1w,u0b,hi,Ae,Ad,y7p hi,zTn,y8f (t:=u0v) hi,y7h (show i<4611686018427387904 by omega)];rw[t2q _ (hb.2.2.2 _ hm)];simp only[zOb];rw[p4r (by simp;omega),Bi])
 rw[Er,Bw] at L;exact L
theorem q7c (b:u0j) (t:u0i) (n:Hs) (hb:fewB b) (ht:q2e t) (hi:j80 t.1):u7g (b,t,n)=some (u2y b t n):=by
 have hl:=hb.2.2.1;have pl:=fun d=>j6o (fun x:u0i=>y3b x.2.2.2.2.2.2.2 n) (fun x:u0i=> !y3b x.2.2.2.2.2.2.2 n) b.2.2.1 d hl
 rw[p8z];unfold r9a;simp only;rw[s1g b hb];simp only[zOb];rw[t2q t ht];simp only[zOb];rw[p42 t b.2.1 ht hb.2.1];simp only[zOb];rw[o3d _ _ _ _ _ hb,o3d _ _ _ _ _ hb];simp only[zOb];rw[p4r (pl _).1,p4r (pl _).1,p7w _ _ _ _ hb _ (pl _).2.2,p7w _ _ _ _ hb _ (pl _).2.2];simp only[zOb,s3o hi]
 have key:∀(o:Bool),(bif decide (t.1>=b.2.2.2.2) then some ((b.1,b.2.1,(b.2.2.1.filter fun x=>y3b x.2.2.2.2.2.2.2 n)++ [((t.1,(2:Int),t.2.2.1,t.2.2.2.1,t.2.2.2.2.1,t.2.2.2.2.2.1,o,n):u0i)] ++(b.2.2.1.filter fun x=> !y3b x.2.2.2.2.2.2.2 n),b.2.2.2.1,t.1+1):u0j)
  else some (b.1,b.2.1,(b.2.2.1.filter fun x=>y3b x.2.2.2.2.2.2.2 n)++ [((t.1,(2:Int),t.2.2.1,t.2.2.2.1,t.2.2.2.2.1,t.2.2.2.2.2.1,o,n):u0i)] ++(b.2.2.1.filter fun x=> !y3b x.2.2.2.2.2.2.2 n),b.2.2.2))=
  some (b.1,b.2.1,(b.2.2.1.filter fun x=>y3b x.2.2.2.2.2.2.2 n)++ [((t.1,(2:Int),t.2.2.1,t.2.2.2.1,t.2.2.2.2.1,t.2.2.2.2.2.1,o,n):u0i)] ++(b.2.2.1.filter fun x=> !y3b x.2.2.2.2.2.2.2 n),b.2.2.2.1,u14 b.2.2.2.2 t.1):=fun o=>by
  unfold u14;by_cases h:t.1<b.2.2.2.2
  .rw[A7 (by omega),Al h];rfl
  .rw[Bb (by omega),Ao h];rfl
 unfold u2y u6r;cases t.2.2.2.2.2.2.1
 .exact key _
 .exact key _
structure tinyT (t:u0i):Prop where
 rl:t.2.2.2.2.1.length<=100
 rs:∀r∈t.2.2.2.2.1,r.1.size<=100/\r.2.size<=100
 wl:t.2.2.2.2.2.1.length<=100
 ws:∀w∈t.2.2.2.2.2.1,w.1.size<=100/\w.2.1.size<=100
 nm:t.2.2.2.2.2.2.2.size<=100
structure tinyB (b:u0j):Prop where
 vl:b.1.length<=10000
 vs:∀v∈b.1,v.1.size<=100/\v.2.1.size<=100
 pl:b.2.1.length<=1000
 ps:∀t∈b.2.1,tinyT t
 rl:b.2.2.1.length<=1000
 rs:∀t∈b.2.2.1,tinyT t
theorem s6b {α:Type} {f:α->Nat} {k:Nat} :∀ {l:Hu α},(∀x∈l,f x<=k)->(l.map f).sum<=l.length*k
 | [],_=>by simp
 | x::l,h=>by
  rw[C8,Ge,Bc,C7];have h1:=h x (by simp);have h2:=s6b (l:=l) (fun y hy=>h y (by simp[hy]));omega
theorem tinyT.wt {t:u0i} (h:tinyT t):u0v.wt t<=50000:=by
 have e1:(Ty.sl t3k).wt t.2.2.2.2.1=t.2.2.2.2.1.length+(t.2.2.2.2.1.map t3k.wt).sum:=rfl;have e2:(Ty.sl u2l).wt t.2.2.2.2.2.1=t.2.2.2.2.2.1.length+(t.2.2.2.2.2.1.map u2l.wt).sum:=rfl;have s1:(t.2.2.2.2.1.map t3k.wt).sum<=t.2.2.2.2.1.length*200:=s6b fun r hr=>by
  have:=h.rs r hr;have e:t3k.wt r=r.1.size+r.2.size:=rfl;omega
 have s2:(t.2.2.2.2.2.1.map u2l.wt).sum<=t.2.2.2.2.2.1.length*200:=s6b fun w hw=>by
  have:=h.ws w hw;have e:u2l.wt w=w.1.size+(w.2.1.size+0):=rfl;omega
 have:=h.rl;have:=h.wl;have:=h.nm;rw[d09,e1,e2];omega
theorem tinyT.few {t:u0i} (h:tinyT t):q2e t:=⟨by have:=h.rl;omega,by have:=h.wl;omega⟩
theorem TxnR.tiny {t:u0i} (h:TxnR t):tinyT t:=by
 obtain⟨z1,z2,z3,z4,z5⟩:=h.small;exact⟨by have:=h.rlen;omega,fun r hr=>by have:=z1 r hr;omega,by omega,fun w hw=>by have:=z2 w hw;omega,by omega⟩
theorem tinyT.like {t u:u0i} (h:tinyT t) (e1:u.2.2.2.2.1=t.2.2.2.2.1) (e2:u.2.2.2.2.2.1=t.2.2.2.2.2.1) (e3:u.2.2.2.2.2.2.2.size<=100):tinyT u:=
 ⟨by rw[e1];exact h.rl,by rw[e1];exact h.rs,by rw[e2];exact h.wl,by rw[e2];exact h.ws,e3⟩
theorem p91 {l:Hu u0i} (hl:l.length<=1000) (h:∀t∈l,tinyT t):(Ty.sl u0v).wt l<=60000000:=by
 have e:(Ty.sl u0v).wt l=l.length+(l.map u0v.wt).sum:=rfl;have s:(l.map u0v.wt).sum<=l.length*50000:=s6b fun t ht=>(h t ht).wt
 rw[e];omega
theorem tinyB.wt {b:u0j} (h:tinyB b):d7k.wt b<=200000000:=by
 have e:(Ty.sl u0c).wt b.1=b.1.length+(b.1.map u0c.wt).sum:=rfl;have s:(b.1.map u0c.wt).sum<=b.1.length*200:=s6b fun v hv=>by
  have:=h.vs v hv;have e:u0c.wt v=v.1.size+(v.2.1.size+(0+0)):=rfl;omega
 have h1:=p91 h.pl h.ps;have h2:=p91 h.rl h.rs;have:=h.vl;rw[q4e,e];omega
theorem q5y {l:Hu u0i} (hl:l.length<=1000) (h:∀t∈l,tinyT t):o3y l:=⟨by omega,fun t ht=>(h t ht).few⟩
theorem tinyB.few {b:u0j} (h:tinyB b):fewB b:=⟨by have:=h.vl;omega,q5y h.pl h.ps,q5y h.rl h.rs⟩
theorem BaseR.tiny {b:u0j} (h:BaseR b):tinyB b:=by
 obtain⟨w1,w2,w3⟩:=d1p.mp h.vs;exact⟨by omega,fun v hv=>by have:=r0p (w1 v hv);omega,by have:=h.plen;omega,fun t ht=>(h.past t ht).1.tiny,by have:=h.rlen;omega,fun t ht=>(h.ready t ht).1.tiny⟩
theorem t2n {b:u0j} (h:tinyB b) (o:Hu u0i):tinyB (u4k b o):=
 ⟨A9 (j5t _ _) h.vl,fun v hv=>h.vs v ((t2o _ _).subset hv),A9 (t3q _ _) h.pl,fun t ht=>h.ps t (A6.mp ht).1,h.rl,h.rs⟩
theorem r2t {b:u0j} {t:u0i} (h:BaseR b) (ht:tinyT t):tinyB (u1v b t):=by
 obtain⟨w1,w2,w3⟩:=d1p.mp h.vs;have hb:=h.tiny;refine⟨?_,fun v hv=> ?_,?_,fun x hx=> ?_,?_,fun x hx=> ?_⟩
 .show(s1d b.1 t.2.2.2.2.2.1 (b.2.2.2.1+1)).length<=10000;rw[s56];have:=ht.wl;have e:(t.2.2.2.2.2.1:Hu u2l.den).length=t.2.2.2.2.2.1.length:=rfl;omega
 .rcases(s2t _ _ _).mp hv with q | ⟨w,hw,rfl⟩
  .exact hb.vs v q
  .exact ht.ws w hw
 .show(b.2.1++ [s8e b t]).length<=1000;have:=h.plen;rw[Ba,Aw];omega
 .rcases Ay.mp hx with q | q
  .exact hb.ps x q
  .rw[Ax.mp q];exact ht.like rfl rfl (Cn _)
 .show((b.2.2.1.filter fun x=> !decide (x.1=t.1)).map (p7k (s8e b t))).length<=1000;rw[Da];exact A9 (t3q _ _) hb.rl
 .obtain⟨y,hy,rfl⟩:=Bx.mp hx;have:=hb.rs y (A6.mp hy).1;exact this.like rfl rfl this.nm
theorem p6c {b:u0j} {t:u0i} {n:Hs} (h:BaseR b) (ht:tinyT t) (hn:n.size<=100):tinyB (u2y b t n):=by
 have hb:=h.tiny;refine⟨hb.vl,hb.vs,hb.pl,hb.ps,?_,fun x hx=> ?_⟩
 .show((b.2.2.1.filter fun x=>y3b x.2.2.2.2.2.2.2 n)++ [u6r b t n] ++(b.2.2.1.filter fun x=> !y3b x.2.2.2.2.2.2.2 n)).length<=1000;have f1:=t3q (fun x:u0i=>y3b x.2.2.2.2.2.2.2 n) b.2.2.1;have f2:=t3q (fun x:u0i=> !y3b x.2.2.2.2.2.2.2 n) b.2.2.1;have:=h.rlen;rw[Ba,Ba,Aw];omega
 .rcases Ay.mp hx with q | q
  .rcases Ay.mp q with q | q
   .exact hb.rs x (A6.mp q).1
   .rw[Ax.mp q];exact ht.like rfl rfl hn
  .exact hb.rs x (A6.mp q).1
theorem p51 {b:u0j} {n:Hs} (hb:tinyB b):tinyB (s1c b n):=
 ⟨hb.vl,hb.vs,hb.pl,hb.ps,A9 (t3q _ _) hb.rl,fun x hx=>hb.rs x (A6.mp hx).1⟩
structure tinyR (r:r03):Prop where
 t:tinyT r.2.1
 n:r.2.2.1.size<=100
 b:tinyB r.2.2.2.2
theorem tinyR.wt {r:r03} (h:tinyR r):c09.wt r<=549755813888:=by
 have:=h.t.wt;have:=h.n;have:=h.b.wt;rw[q5u];omega
theorem s4f:tinyT u5u:=⟨by decide,fun r hr=>(by cases hr),by decide,fun r hr=>(by cases hr),by decide⟩
theorem t1e:tinyB u2t:=⟨by decide,fun r hr=>(by cases hr),by decide,fun r hr=>(by cases hr),by decide,fun r hr=>(by cases hr)⟩
theorem d2o:tinyR noR:=⟨s4f,by decide,t1e⟩
theorem RecR.tiny {r:r03} (h:RecR r):tinyR r:=by
 cases h with
 | thr t h hs=>exact⟨h.tiny,Cn 100,t1e⟩ | rdy t h hs=>exact⟨h.tiny,Cn 100,t1e⟩ | fin n y h=>exact⟨s4f,by have:=u27 h;show n.size<=100;omega,t1e⟩ | bas b h=>exact⟨s4f,Cn 100,h.tiny⟩
def s8j (b:u0j) (r:r03):u0j×Bool:=match u8v b r with
 | some x=>(x,true) | none=>(b,false)
theorem o23 {n:Int} (h:0<=n/\n<=9999):j80 n:=⟨by omega,by omega⟩
theorem p01 {n:Int} (h:1<=n/\n<=9999):j80 n:=⟨by omega,by omega⟩
theorem q6u {b x:u0j} {r:r03} (hb:u8t b=true/\u70 r=true) {o:Bool} (hx:u2h b r=if o=true then some x else none):
 (((bif (!o) then some true else some (!u8t (u4k x []))):Ht Bool).bind fun j=>bif j then some (b,false) else some (u4k x [],true))=some (s8j b r):=by
 unfold s8j u8v;rw[Al hb,hx];cases o
 .rfl
 .simp only[Bl,Ap,Aa,zOb];cases u8t (u4k x [])<;>rfl
theorem j4v (b:u0j) (r:r03) (hb:tinyB b) (hr:tinyR r):r7y (b,r)=some (s8j b r):=by
 have hq:u0m=1099511627776:=rfl;rw[o8t];unfold p1s;simp only;rw[t1q b (by have:=hb.wt;omega),p1i r hr.wt,s3z b hb.few];simp only[zOb];cases h1:u8t b
 .unfold s8j u8v;rw[Ao (by simp[h1])];rfl
 .cases h2:u70 r
  .unfold s8j u8v;rw[Ao (by simp[h2])];rfl
  .have hB:=o6q.mp h1;have hR:=d34.mp h2;have hbr:u8t b=true/\u70 r=true:=⟨h1,h2⟩;simp only[Ap,Aa,zOb];have thr:∀t:u0i,TxnR t->t33 (b,t)=some (u1v b t)/\u31 (u1v b t, [])=some (u4k (u1v b t) [])/\u28 (u4k (u1v b t) [])=some (u8t (u4k (u1v b t) [])):=fun t ht=>by
    have h3:=r2t hB ht.tiny;refine⟨?_,t5k _ _ h3.few (by simp),t1q _ (by have:=(t2n h3 []).wt;omega)⟩;rw[p6s b t hb.few ht.tiny.few,o3p (o23 hB.cs) (p01 ht.id)]
   cases hR with
   | thr t h hs=>
    obtain⟨t1,t2,t3⟩:=thr t h;simp only[Ae,Ad];rw[t1];simp only[zOb];rw[t2];simp only[zOb];rw[t3];simp only[zOb];rw[s3o (o23 hB.cs)];refine q6u (o:=decide (t.2.2.2.1=b.2.2.2.1+1)) hbr ?_;unfold u2h;simp only[Bl,Ar]
   | rdy t h hs=>
    have hn:=u27 (h.name hs);have h3:=p6c (n:=t.2.2.2.2.2.2.2) hB h.tiny (by omega);simp only[show decide ((2:Int)=1)=false from rfl,Ae,Ad,Aa];rw[q2p b _ (by have:=hB.rlen;omega)];simp only[zOb];rw[o34 b t _ hb.few h.tiny.few (p01 h.id)];simp only[zOb];rw[t5k _ _ h3.few (by simp),];simp only[zOb];rw[t1q _ (by have:=(t2n h3 []).wt;omega)];simp only[zOb];have e:(bif decide ((b.2.2.1.length:Int)<3) then some (decide (u0o b t.2.2.2.2.2.2.2<0)) else some false:Ht Bool)=some (decide (b.2.2.1.length<3/\u0o b t.2.2.2.2.2.2.2<0)):=by
     by_cases q:b.2.2.1.length<3
     .rw[Bb (show(b.2.2.1.length:Int)<3 by omega)];simp[q]
     .rw[A7 (show ¬(b.2.2.1.length:Int)<3 by omega)];simp[q]
    rw[e];simp only[zOb];refine q6u (o:=decide (b.2.2.1.length<3/\u0o b t.2.2.2.2.2.2.2<0)) hbr ?_;unfold u2h;simp only[show((2:Int)=1)=False by simp,Bk,Bl,Ar]
   | fin n y h=>
    simp only[show decide ((3:Int)=1)=false from rfl,show decide ((3:Int)=2)=false from rfl,Ae,Ad,Aa];rw[q2p b _ (by have:=hB.rlen;omega)];simp only[zOb];have h4:=p51 (b:=b) (n:=n) hb;have giv:t8w (b,n)=some (s1c b n):=j00 b n hb.few;have raw:∀x,(0<=u0o b n->y=true->x=u1v b (rdL u0v b.2.2.1 (u0o b n).toNat))->(y=false->x=s1c b n)->(0<=u0o b n\/True)->u2h b (3,u5u,n,y,u2t)=if decide (u0o b n>=0)=true then some x else none:=fun x hx hx2 _=>by
     unfold u2h;simp only[show((3:Int)=1)=False by simp,show((3:Int)=2)=False by simp,Bk,Bl];by_cases q:u0o b n<0
     .rw[Al q,A7 (show ¬u0o b n>=0 by omega)];rfl
     .rw[Ao q,Bb (show u0o b n>=0 by omega)];cases hy:y
      .rw[hx2 hy];rfl
      .rw[hx (by omega) hy];rfl
    by_cases q:0<=u0o b n
    .rw[Bb (show u0o b n>=0 from q)];cases hy:y
     .simp only[Ad,zOb,Aa];rw[giv];simp only[zOb];rw[t5k _ _ h4.few (by simp)];simp only[zOb];rw[t1q _ (by have:=(t2n h4 []).wt;omega)];simp only[zOb];have:=raw (s1c b n) (fun _ k=>by rw[hy] at k;cases k) (fun _=>rfl) (.inr trivial);rw[hy] at this hbr;rw[Bb (show u0o b n>=0 from q)] at this;exact q6u (o:=true) hbr this
     .simp only[Ad,zOb,Aa];have hk:(u0o b n).toNat<b.2.2.1.length:=by
       unfold u0o at q ⊢;split
       .rename_i z;rw[zTn];exact z
       .rename_i z;rw[Ao z] at q;omega
      obtain⟨k,hkk⟩:∃k:Nat,u0o b n=k:=⟨(u0o b n).toNat,by omega⟩;have hg:y4o (u0o b n) b.2.2.1.length=true:=by rw[hkk];exact y7p (by rw[hkk] at hk;simpa using hk)
      rw[hg];simp only[Ad];have hT:TxnR (rdL u0v b.2.2.1 (u0o b n).toNat):=by
       rw[y8f hk];exact(hB.ready _ (Ag hk)).1
      obtain⟨t1,t2,t3⟩:=thr _ hT;rw[t1];simp only[zOb];rw[t2];simp only[zOb];rw[t3];simp only[zOb];have:=raw (u1v b (rdL u0v b.2.2.1 (u0o b n).toNat)) (fun _ _=>rfl) (fun k=>by rw[hy] at k;cases k) (.inr trivial);rw[hy] at this hbr;rw[Bb (show u0o b n>=0 from q)] at this;exact q6u (o:=true) hbr this
    .rw[A7 (show ¬u0o b n>=0 from q)];simp only[Aa,zOb];rw[giv];simp only[zOb];rw[t5k _ _ h4.few (by simp)];simp only[zOb];have:=raw (s1c b n) (fun k=>absurd k q) (fun _=>rfl) (.inr trivial);rw[A7 (show ¬u0o b n>=0 from q)] at this;exact q6u (o:=false) hbr this
   | bas c h=>
    simp only[show decide ((4:Int)=1)=false from rfl,show decide ((4:Int)=2)=false from rfl,show decide ((4:Int)=3)=false from rfl,Aa];rw[s3z c h.tiny.few];simp only[zOb];rw[t5k _ _ h.tiny.few (by simp)];simp only[zOb];rw[t1q _ (by have:=(t2n h.tiny []).wt;omega)];simp only[zOb];exact q6u (o:=true) hbr (by unfold u2h;simp)
theorem j9n {s:Src} (h:s.ok) {n:Nat} (hn:n<=5000):Dr (s5b (s,(n:Int))) (fun t=>t.size=n):=by
 have key:∀(r i:Nat) (s:Src) (a:Hu Int),s.ok->a.length=i->i+r=n-> ∃(s' :Src) (a' :Hu Int),u82 (s,(n:Int),a,(i:Int))=some (.inl (s',a'))/\s'.ok/\a'.length=n:=by
  intro r
  induction r with
  | zero=>
   intro i s a hs ha hi;have:i=n:=by omega
   subst this;rw[q12];simp only[t98,u0b,Am,Ah,Aa];exact⟨s,a,rfl,hs,ha⟩
  | succ r ih=>
   intro i s a hs ha hi;obtain⟨y,s1,e1,k1,r1⟩:=p4y hs;have hlt:i<n:=by omega
   have hc:Nat.ble (a.length+([u8.wrap y] :Hu Int).length) z7v=true:=u0q (by simp;omega);rw[q12];simp only[t98,u0b,hlt,Ae,Ad,e1,zOb];rw[hc,y7h (by omega)];exact ih (i+1) s1 (a++ [u8.wrap y]) k1 (by simp[ha]) (by omega)
 obtain⟨s',a',e1,k1,r1⟩:=key n 0 s [] h rfl (by omega);have e1:u82 (s,(n:Int), [],0)=_:=e1;rw[o5m];unfold q8p;have h5:decide ((n:Int) >5000)=false:=by simp;omega
 simp only[h5,Aa,e1,zOb];exact⟨_,_,rfl,k1,by show(y7c a').size=n;rw[u3z];exact r1⟩
theorem d45:∃t,s5d ()=some t/\t.size=64/\s7g t 0=0:=by
 have hset:∀i,(List.replicate 64 (0:Int)).set i 0=List.replicate 64 0:=fun i=>by
  apply Gw (by simp);intro j h1 h2;rw[List.getElem_set,List.getElem_replicate];split
  .rfl
  .rfl
 have key:∀(r i:Nat),i+r=64->u30 ((64:Int),0,List.replicate 64 0,(i:Int))=some (.inl (List.replicate 64 0)):=by
  intro r
  induction r with
  | zero=>
   intro i hi;have:i=64:=by omega
   subst this;rw[u88];rfl
  | succ r ih=>
   intro i hi;have hlt:decide ((i:Int)<64)=true:=by simp;omega
   have hg:y4o (i:Int) (List.replicate 64 (0:Int)).length=true:=y7p (by simp;omega);rw[u88];simp only[u8x,hlt,Ad,hg,hset];rw[y7h (by omega)];exact ih (i+1) (by omega)
 have e1:u30 ((64:Int),0,List.replicate 64 0,0)=_:=key 64 0 rfl;refine⟨y7c (List.replicate 64 0),?_,by rw[u3z];simp,by unfold s7g;rw[r0m];rfl⟩;rw[q9e];unfold r3k;rw[r3r];unfold s4x;have hc:(decide ((0:Int)<=64)&&decide ((64:Int)<=1099511627776))=true:=rfl;have hr:List.replicate ((64:Int)).toNat (Ty.int .u8).zero=List.replicate 64 (0:Int):=rfl;simp only[hc,Ad,hr,e1,zOb]
theorem r69:∃d,t7y ()=some d/\u2e d=true/\u0e d= [] :=by
 obtain⟨z,hz,hz1,hz2⟩:=d45;have key:∀(r i:Nat),i+r=97->u7a ((97:Int),([], []),(List.replicate i z, []),(i:Int))=some (.inl (([], []),(List.replicate 97 z, []))):=by
  intro r
  induction r with
  | zero=>
   intro i hi;have:i=97:=by omega
   subst this;rw[s09];rfl
  | succ r ih=>
   intro i hi;have hlt:decide ((i:Int)<97)=true:=by simp;omega
   have hc:Nat.ble ((List.replicate i z).length+([z] :Hu Hs).length) z7v=true:=u0q (by simp;omega);rw[s09];simp only[t9u,hlt,Ad,hz,zOb,hc];rw[y7h (by omega)];have e:List.replicate i z++ [z] =List.replicate (i+1) z:=by rw[List.replicate_succ']
   rw[e];exact ih (i+1) (by omega)
 have e1:u7a ((97:Int),([], []),([], []),0)=_:=key 97 0 rfl;have hs:u8j ()=some 97:=by rw[s32];rfl
 refine⟨(List.replicate 97 z, []),?_,?_⟩
 .rw[p3j];unfold r7k;simp only[hs,zOb];rw[q9c];unfold r3j;have hi:q2f 97 1 100=true:=rfl;simp only[s40,hi,zOb,Ap,Aa,e1]
 .have hk:u1x (List.replicate 97 z,([] :Hu (Int×Hs)))=true:=o6u.mpr ⟨by simp,by simp,fun s hs=>by rw[List.eq_of_mem_replicate hs];exact hz1,fun p hp=>by cases hp⟩;have hl:(List.replicate 97 z,([] :Hu (Int×Hs))).1.length=97:=by simp
  have hf:=s9j hk hl;have hc:∀a:Int,a=0\/a=1->u08 (List.replicate 97 z, []) a=0:=fun a ha=>by
   obtain⟨f1,_⟩:=u9n ha;unfold u08 u57;rw[d2d.mpr ha,Al rfl];have hk2:u0h a=(((u0h a).toNat:Nat):Int):=by rcases ha with rfl | rfl<;>omega
   rw[hk2,r8c rfl (by rw[hl];rcases ha with rfl | rfl<;>omega)];have hlt:(u0h a).toNat<(List.replicate 97 z).length:=by simp;rcases ha with rfl | rfl<;>omega
   have e:rdL Ty.str (List.replicate 97 z) (u0h a).toNat=(List.replicate 97 z)[(u0h a).toNat] :=y8f (t:=Ty.str) hlt;simp only[e,List.getElem_replicate];rw[p49,hz2];rfl
  refine⟨p33 hk hl rfl ?_ ?_,?_⟩
  .rw[t2m hf (.inl rfl),hc 0 (.inl rfl)];rfl
  .rw[t2m hf (.inr rfl),hc 1 (.inr rfl)];rfl
  .unfold u0e;rw[t2m hf (t18 _),hc _ (t18 _)];rfl
theorem j9j:∃d,t7y ()=some d/\u2e d=true:=by
 obtain⟨d,h1,h2,_⟩:=r69;exact⟨d,h1,h2⟩
theorem t48 {d:u0k} (h:u2e d=true):c08.wt d<=10000000:=A9 (u45 (u4e h).1) (by omega)
theorem j1o {d:u0k} (h:u2e d=true) (t:Hs):u2e (orD d (append_ d t)).1=true:=by
 cases ha:append_ d t with
 | none=>exact h | some y=>exact(q6n ha).2.1
theorem j0l {t:Hs} (h:t.size<=100):(u07 t).size<=201:=by
 have:=r2s t;omega
theorem j8h {d:u0k} (h:u2e d=true) {t:Hs} (h0:t.size≠0) (h1:t.size<=100):∃x y,q4m d [t] =some x/\r8g d [t] =some y/\u2e y=true/\u0e y= [t] :=by
 have hs:=j0l h1;obtain⟨x,x1,x2,x3,x4,x5⟩:=j6d (l:= [t]) h (by simp) (by simp[j5p];omega) (fun u hu=>by simp at hu;subst hu;exact⟨h0,by omega⟩);obtain⟨y,y1,y2,y3,_⟩:=o6x x1 x2 x3 x4 x5 h;exact⟨x,y,x1,y1,y2,y3⟩
theorem d7c {s:Src} (h:s.ok):∃(d:u0k) (s' :Src),s8u s=some (d,s')/\s'.ok/\u2e d=true:=by
 have key:∀(r i:Nat) (s:Src) (d:u0k),s.ok->u2e d=true->6<=i+r->i<=5-> ∃(s' :Src) (d' :u0k),t5s (s,([], []),d,(i:Int))=some (.inl (s',([], []),d'))/\s'.ok/\u2e d' =true:=by
  intro r
  induction r with
  | zero=>intro i s d _ _ h1 h2;omega | succ r ih=>
   intro i s d hs hd hr hi;obtain⟨y,s1,e1,k1,r1⟩:=u1m hs (n:=6) (by omega);rw[o3w];simp only[s84,e1,zOb];by_cases hy:(i:Int)<y
   .obtain⟨y2,s2,e2,k2,_⟩:=s6m k1 (n:=5) (by omega);simp only[hy,Ae,Ad,e2,zOb];have hw:=t48 hd;cases y2 with
    | true=>
     obtain⟨y3,s3,e3,k3,r3⟩:=u1m k2 (n:=9) (by omega);obtain⟨n,hn⟩:∃n:Nat,(n:Int)=1+y3:=⟨(1+y3).toNat,by omega⟩;have w1:i64.wrap ((1:Int)+y3)=(n:Int):=by rw[y4x (by omega) (by omega)];omega
     obtain⟨t,s4,e4,k4,r4⟩:=j9n k3 (n:=n) (by omega);obtain⟨x,z,z1,z2,z3,_⟩:=j8h hd (t:=t) (by omega) (by omega);have hsw:=q7g (l:= [t]) hw (by simp) (fun u hu=>by simp at hu;subst hu;omega);simp only[Ad,e3,w1,e4,zOb,hsw,z2,orD];rw[y7h (by omega)];exact ih (i+1) s4 z k4 z3 (by omega) (by omega)
    | false=>
     obtain⟨y3,s3,e3,k3,r3⟩:=u1m k2 (n:=90) (by omega);obtain⟨n,hn⟩:∃n:Nat,(n:Int)=1+y3:=⟨(1+y3).toNat,by omega⟩;have w1:i64.wrap ((1:Int)+y3)=(n:Int):=by rw[y4x (by omega) (by omega)];omega
     obtain⟨t,s4,e4,k4,r4⟩:=j9n k3 (n:=n) (by omega);simp only[Aa,e3,w1,e4,zOb,t30 d t hw (by omega)];rw[y7h (by omega)];exact ih (i+1) s4 _ k4 (j1o hd t) (by omega) (by omega)
   .simp only[hy,Ah,Aa];exact⟨s1,d,rfl,k1,hd⟩
 obtain⟨d0,hd0,hl0⟩:=j9j;obtain⟨s',d',e1,k1,r1⟩:=key 6 0 s d0 h hl0 (by omega) (by omega);have e1:t5s (s,([], []),d0,0)=_:=e1;have hX:s8u s=some (d',s'):=by
  rw[o9n];unfold p2o;simp only[hd0,zOb,e1]
 exact⟨d',s',hX,k1,r1⟩
theorem r7a (d:u0k) (hd:c08.wt d<=1073741824):t57 d=some (u0e d):=by
 rw[o1q];unfold q3n;simp only[s8a d (show c08.wt d<=u0m by unfold u0m;omega),r7d d _ hd,zOb];rfl
theorem o38 (a b:u0k) (ha:c08.wt a<=1073741824) (hb:c08.wt b<=1073741824):s61 (a,b)=some (d02 a b):=by
 rw[p85];unfold r9g d02 d77;have h1:(u0e a).length<256:=p7u a (u0r a);simp only[r7a a ha,r7a b hb,zOb];generalize u0e a=a at h1;generalize u0e b=b;by_cases h:a.length=b.length
 .have hz:(a.zip b).length=a.length:=by simp[h]
  have L:=s6r t43 (a.zip b) (fun i=>(a,b,i)) (fun p=> !z7n p.1 p.2) (.inr false) (.inl ())
   (by rw[r3c,hz];simp only[t4v,u0b,Am,Ah,Aa])
   (fun i hi=>by
    have hi1:i<a.length:=by omega
    have hi2:i<b.length:=by omega
    rw[r3c];simp only[t4v,u0b,hi1,Ae,Ad,y7p hi1,y7p hi2,zTn,y8f (t:=Ty.str) hi1,y8f (t:=Ty.str) hi2,List.getElem_zip];rw[y7h (by omega)])
  have e1:decide ((a.length:Int)=(b.length:Int))=true:=by simp[h]
  simp only[e1,Ap,Aa,L,zOb];rw[←j8d h];cases (a.zip b).any fun p=> !z7n p.1 p.2<;>rfl
 .have e1:decide ((a.length:Int)=(b.length:Int))=false:=by simp;omega
  have e2:decide (a=b)=false:=by
   rw[Bu];intro e;exact h (by rw[e])
  rw[e1,e2];rfl
theorem s5k {d:u0k} (h:c08.wt d<=1000000) (s at_:Int) (t:Hs):c08.wt (orD d (u4l d s at_ t)).1<=1000000:=by
 cases hw:u4l d s at_ t with
 | none=>exact h | some x=>exact A9 (u45 (u72 hw).2.1) (by omega)
theorem j35 {d:u0k} (h:c08.wt d<=1000000) (k:Int) (t:Hs):c08.wt (orD d (u73 d k t)).1<=1000000:=by
 cases hw:u73 d k t with
 | none=>exact h | some x=>exact A9 (u45 (t6h hw).1) (by omega)
theorem j2q {d:u0k} (h:c08.wt d<=1000000):c08.wt (flush d)<=1000000:=by
 by_cases hd:u1x d=true
 .exact A9 (u45 (s0v hd).1) (by omega)
 .unfold flush;simp[hd];exact h
theorem j7j {s:Src} (h:s.ok) (l:Hu Int) (hl:0<l.length) (hm:l.length<=1000):Dr (t7z (s,l)) (fun y=>y∈l):=by
 obtain⟨y,s1,e1,k1,r1⟩:=u1m h (n:=(l.length:Int)) (by omega);rw[p5x];unfold r40;have hi:y.toNat<l.length:=by omega
 have hg:y4o y l.length=true:=y7o.mpr ⟨r1.1,r1.2⟩;simp only[e1,zOb,hg,Ad];refine⟨_,_,rfl,k1,?_⟩;show l.getD y.toNat 0∈l;rw[A5,A4 hi];exact Ag hi
theorem d7d (n:Int):t2j n=some (t8s n):=by
 rw[r7r];unfold p2p;rfl
theorem j7e {s:Src} (h:s.ok):Dr (r75 s) (fun d=>c08.wt d<=1000000):=by
 rw[o9m];unfold p2n;obtain⟨k,s1,e1,k1,r1⟩:=u1m h (n:=10) (by omega);obtain⟨x,s2,e2,k2,r2⟩:=u1m k1 (n:=60) (by omega);obtain⟨d,s3,e3,k3,hl⟩:=d7c k2;have hw:c08.wt d<=1000000:=A9 (u45 (u4e hl).1) (by omega);have hlen:=(u4e hl).2.1;simp only[e1,e2,e3,u6v d (by unfold u0m;omega),zOb];by_cases q0:k=0
 .have hg:(decide ((0:Int)<=0)&&decide ((0:Int)<=x)&&decide (x<=(d.1.length:Int)))=true:=by simp;omega
  simp only[q0,Ae,Ad,hg];refine⟨_,_,rfl,k3,?_⟩;rw[j9y] at hw ⊢;simp only[Ho,Fh,Nat.sub_zero];have:((d.1.take x.toNat).map ByteArray.size).sum<=(d.1.map ByteArray.size).sum:=by
   have e:=Dj (fun l=>(l.map ByteArray.size).sum) (En x.toNat d.1);simp only[Dh,Fn] at e;omega
  have:(d.1.take x.toNat).length<=d.1.length:=by simp;omega
  omega
 .by_cases q1:k=1
  .simp only[q0,q1,Ae,Ah,Ad,Aa,t8m,d7d,t5u d _ _ (t8s x) (by omega) (by rw[u37];omega),u9x _ (show c08.wt (orD d (u4l d (u0h (Int.tmod x 2)) 0 (t8s x))).1<=1073741824 from A9 (s5k hw _ _ _) (by omega)),zOb];exact⟨_,_,rfl,k3,j2q (s5k hw _ _ _)⟩
  .by_cases q2:k=2
   .obtain⟨t,e4,h4⟩:=j4s 64 (u8.wrap x) (by omega);have e4:u8d ((64:Int),u8.wrap x)=_:=e4;simp only[q0,q1,q2,Ae,Ah,Ad,Aa,e4,r8n d _ t (by omega) (by omega),zOb];exact⟨_,_,rfl,k3,j35 hw _ _⟩
   .by_cases q3:k=3
    .simp only[q0,q1,q2,q3,Ae,Ah,Ad,Aa,t5u d _ _ (⟨#[255,255]⟩:Hs) (by omega) (by show 2<=1048576;omega),u9x _ (show c08.wt (orD d (u4l d 2 0 ⟨#[255,255]⟩)).1<=1073741824 from A9 (s5k hw _ _ _) (by omega)),zOb];exact⟨_,_,rfl,k3,j2q (s5k hw _ _ _)⟩
    .simp only[q0,q1,q2,q3,Ah,Aa];exact⟨_,_,rfl,k3,hw⟩
end Go.Proofs.YtkphhjdbdnoekaaGreat.Ab
