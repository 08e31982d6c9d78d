import Derived.Test.YtkdpclfhapphhaaGreatAbFixesT1
import Derived.Test.YtkdpclfhapphhaaGreatAbK2
import Derived.Test.YtkdpclfhapphhaaGreatAbF4
import Derived.Test.YtkdpclfhapphhaaGreatAbS2
namespace Go.Proofs.YtkdpclfhapphhaaGreat.Ab
open Go
set_option linter.unusedVariables false
set_option linter.unusedSimpArgs false
set_option linter.unnecessarySimpa false
section
section
theorem o7x (l:Hu u0h) (n:Int):((List.range l.length).all fun i=>decide ((rdL u00 l i).1<n)&& !((l.take i).any fun y=>decide (y.1=(rdL u00 l i).1)))=q2f (u43 l) n:=by
 rw[Cd,Bg,r7a]
 unfold u43
 constructor
 ·intro h
  constructor
  ·intro x hx
   obtain⟨t,ht,rfl⟩:=Bx.mp hx
   obtain⟨i,hi,rfl⟩:=B7 ht
   have:=h i (Bq.mpr hi)
   rw[Ai,Ar,y8k hi] at this
   exact this.1
  ·rw[D8,Dl,Cp]
   intro i j hi hj hij e
   have:=h j (Bq.mpr hj)
   rw[Ai,Bj,y8k hj] at this
   have hm:l[i] ∈l.take j:=by
    rw[Gy]
    exact⟨i,by simp;omega,by simp⟩
   have:=Ct.mp this.2 _ hm
   simp only[Ar] at this
   exact this e
 ·rintro⟨h1,h2⟩ i hi
  have hi:=Bq.mp hi
  rw[Ai,Ar,y8k hi,Bj]
  refine⟨h1 _ (Bx.mpr ⟨_,Ag hi,rfl⟩),?_⟩
  rw[Ct]
  intro y hy
  rw[Gy] at hy
  obtain⟨j,hj,rfl⟩:=hy
  simp only[Ec] at hj
  rw[D8,Dl,Cp] at h2
  simp only[Fc,Ar]
  exact h2 j i (by omega) hi (by omega)
theorem q1f (l:Hu u0h) (n:Int) (hl:l.length≤1099511627776):t08 (l,n)=some (q2f (u43 l) n):=by
 have hsome:∀(m:Hu u0h) (t:u0h),m.length≤1099511627776→u6g (m,t)=some (m.any fun y=>decide (y.1=t.1)):=by
  intro m t hm
  have L:=Q.first (T:=u00) (c:=u0h) (W:=u08) (q:=t89) (p:=fun y:u0h=>decide (y.1=t.1)) (fun x=>u77 x) m t (by omega) (fun x _=>by rw[q4n];rfl)
  simp only[s3c,t2f,u73,u3b,u85,u3x,L,zOb]
  rw[←p2k]
  by_cases h:u0s (fun y:u0h=>decide (y.1=t.1)) m<m.length
  ·simp[h]
  ·simp[h]
 have L:=t2s t2a l.length (fun i=>(l,n,l,(l.length:Int),i)) (fun i=>decide ((rdL u00 l i).1<n)&& !((l.take i).any fun y=>decide (y.1=(rdL u00 l i).1))) (.inl ()) (.inr false)
  (by rw[s68];simp only[t1x,u0b,Am,Ah,Aa])
  (fun i hi=>by
   have e1:(decide ((0:Int)≤0)&&decide ((0:Int)≤(i:Int))&&decide ((i:Int)≤(l.length:Int)))=true:=by simp;omega
   have e2:(l.take i).drop ((0:Int)).toNat=l.take i:=by simp
   have e3:=hsome (l.take i) (rdL u00 l i) (by simp;omega)
   rw[s68];simp only[t1x,u0b,hi,Ae,Ad,y7t hi,zTn,y7l (show i<4611686018427387904 by omega),q8d (rdL u00 l i).1 n,e1]
   rw[e2,e3]
   cases decide ((rdL u00 l i).1<n)
   ·rfl
   ·simp only[Ap,Aa,zOb,Bz]
    cases (l.take i).any fun y=>decide (y.1=(rdL u00 l i).1)<;>rfl)
 rw[o7x] at L
 rw[q9d];unfold r2q
 simp only[L,zOb]
 cases q2f (u43 l) n<;>rfl
theorem r64 (b:u0j):j35.wt b=(Ty.sl u0e).wt b.1+((Ty.sl u00).wt b.2.1+((Ty.sl u00).wt b.2.2.1+(0+0))):=rfl
theorem q2s {l:Hu u0h} {t:u0h} (h:t∈l):u00.wt t≤(Ty.sl u00).wt l:=by
 have h1:(Ty.sl u00).wt l=l.length+(l.map u00.wt).sum:=rfl
 have h2:=p62 (f:=u00.wt) h
 omega
theorem gt3 (n:Nat):decide ((n:Int) >3)= !decide (n≤3):=by by_cases h:n≤3<;>simp[h] <;>omega
theorem gt4 (n:Nat):decide ((n:Int) >4)= !decide (n≤4):=by by_cases h:n≤4<;>simp[h] <;>omega
theorem q8e (t:u0h):s03 t=some (decide (t.2.1=2)):=by rw[p4h];rfl
theorem u9g (b:u0j) (hw:j35.wt b≤u0k):u2y b=some (u63 b):=by
 have hb:u0k=1099511627776:=rfl
 have hbw:=r64 b
 have n1:=t9x (t:=u0e) b.1
 have n2:=t9x (t:=u00) b.2.1
 have n3:=t9x (t:=u00) b.2.2.1
 have L1:=t2s t2t b.1.length (fun i=>(b,b.1,(b.1.length:Int),i)) (fun i=>(fun v:u2b=>decide (v.2.2.2≤b.2.2.2.1)) (rdL u0e b.1 i)) (.inl b) (.inr false)
  (by rw[r8b];simp only[t8d,u0b,Am,Ah,Aa])
  (fun i hi=>by
   rw[r8b];simp only[t8d,u0b,hi,Ae,Ad,y7t hi,zTn,y7l (show i<4611686018427387904 by omega),q41 (rdL u0e b.1 i).2.2.2 b.2.2.2.1]
   cases decide ((rdL u0e b.1 i).2.2.2≤b.2.2.2.1)<;>rfl)
 rw[s1i (t:=u0e) b.1 (fun v:u2b=>decide (v.2.2.2≤b.2.2.2.1))] at L1
 have L2:=t2s t0f b.2.1.length (fun i=>(b,b.2.1,(b.2.1.length:Int),i)) (fun i=>(fun t:u0h=>u60 t&&(decide (t.2.1=3)&&decide (t.2.2.2.1≤b.2.2.2.1))) (rdL u00 b.2.1 i)&&(decide (i=0) || (fun x y:u0h=>decide (x.2.2.2.1<y.2.2.2.1)) (rdL u00 b.2.1 (i - 1)) (rdL u00 b.2.1 i))) (.inl b) (.inr false)
  (by rw[r4j];simp only[t5z,u0b,Am,Ah,Aa])
  (fun i hi=>by
   have hm:rdL u00 b.2.1 i∈b.2.1:=by rw[y8k hi];exact Ag hi
   have ht:=q2s hm
   have hk:=s3r (rdL u00 b.2.1 i) (by omega)
   rw[r4j];simp only[t5z,u0b,hi,Ae,Ad,y7t hi,zTn,y7l (show i<4611686018427387904 by omega),q41 (rdL u00 b.2.1 i).2.2.2.1 b.2.2.2.1,s0w,p2o,zOb]
   rw[hk]
   simp only[zOb]
   generalize u60 (rdL u00 b.2.1 i)=b1
   generalize decide ((rdL u00 b.2.1 i).2.1=3)=b2
   generalize decide ((rdL u00 b.2.1 i).2.2.2.1≤b.2.2.2.1)=b3
   by_cases h0:i=0
   ·subst h0;simp only[Ae,Ap,Aa,Dx,Cz]
    cases b1<;>cases b2<;>cases b3<;>rfl
   ·simp only[h0,Ah,Bh,Ad,Ci,t5y (show i<4611686018427387904 by omega) h0,y7t (show i - 1<b.2.1.length by omega),zTn,q8d (rdL u00 b.2.1 (i - 1)).2.2.2.1 (rdL u00 b.2.1 i).2.2.2.1]
    generalize decide ((rdL u00 b.2.1 (i - 1)).2.2.2.1<(rdL u00 b.2.1 i).2.2.2.1)=b4
    cases b1<;>cases b2<;>cases b3<;>cases b4<;>rfl)
 rw[s7n (t:=u00) b.2.1 (fun t:u0h=>u60 t&&(decide (t.2.1=3)&&decide (t.2.2.2.1≤b.2.2.2.1))) (fun x y:u0h=>decide (x.2.2.2.1<y.2.2.2.1))] at L2
 have L3:=t2s t0g b.2.2.1.length (fun i=>(b,b.2.2.1,(b.2.2.1.length:Int),i)) (fun i=>(fun t:u0h=>u60 t&&(decide (t.2.1=2)&&decide (t.2.2.1≤b.2.2.2.1))) (rdL u00 b.2.2.1 i)&&(decide (i=0) || (fun x y:u0h=>y3c x.2.2.2.2.2.2.2 y.2.2.2.2.2.2.2) (rdL u00 b.2.2.1 (i - 1)) (rdL u00 b.2.2.1 i))) (.inl b) (.inr false)
  (by rw[r4k];simp only[t52,u0b,Am,Ah,Aa])
  (fun i hi=>by
   have hm:rdL u00 b.2.2.1 i∈b.2.2.1:=by rw[y8k hi];exact Ag hi
   have ht:=q2s hm
   have hk:=s3r (rdL u00 b.2.2.1 i) (by omega)
   rw[r4k];simp only[t52,u0b,hi,Ae,Ad,y7t hi,zTn,y7l (show i<4611686018427387904 by omega),q41 (rdL u00 b.2.2.1 i).2.2.1 b.2.2.2.1,s0w,q8e,zOb]
   rw[hk]
   simp only[zOb]
   generalize u60 (rdL u00 b.2.2.1 i)=b1
   generalize decide ((rdL u00 b.2.2.1 i).2.1=2)=b2
   generalize decide ((rdL u00 b.2.2.1 i).2.2.1≤b.2.2.2.1)=b3
   by_cases h0:i=0
   ·subst h0;simp only[Ae,Ap,Aa,Dx,Cz]
    cases b1<;>cases b2<;>cases b3<;>rfl
   ·simp only[h0,Ah,Bh,Ad,Ci,t5y (show i<4611686018427387904 by omega) h0,y7t (show i - 1<b.2.2.1.length by omega),zTn]
    generalize y3c (rdL u00 b.2.2.1 (i - 1)).2.2.2.2.2.2.2 (rdL u00 b.2.2.1 i).2.2.2.2.2.2.2=b4
    cases b1<;>cases b2<;>cases b3<;>cases b4<;>rfl)
 rw[s7n (t:=u00) b.2.2.1 (fun t:u0h=>u60 t&&(decide (t.2.1=2)&&decide (t.2.2.1≤b.2.2.2.1))) (fun x y:u0h=>y3c x.2.2.2.2.2.2.2 y.2.2.2.2.2.2.2)] at L3
 have hC:=p5y [b.2.1,b.2.2.1] (by simp only[List.flatten_cons,List.flatten_nil,Bw,Ba];omega) (by simp)
 have hf: [b.2.1,b.2.2.1].flatten=b.2.1++b.2.2.1:=by simp
 rw[hf] at hC
 have hI:=q1f (b.2.1++b.2.2.1) b.2.2.2.2 (by rw[Ba];omega)
 have hV:=p0t b.1 (by omega)
 rw[p7s];unfold q24
 rw[hV]
 simp only[r82,j50,gt3,zOb]
 unfold u63 o41 p9d
 generalize u7n b.1=c1
 generalize inB b.2.2.2.1 0 9999=c3
 generalize inB b.2.2.2.2 1 9999=c4
 generalize decide (b.2.1.length≤12)=c5
 generalize decide (b.2.2.1.length≤3)=c6
 generalize ha1:b.1.all (fun v:u2b=>decide (v.2.2.2≤b.2.2.2.1))=a1 at L1
 generalize ha2:b.2.1.all (fun t:u0h=>u60 t&&(decide (t.2.1=3)&&decide (t.2.2.2.1≤b.2.2.2.1)))=a2 at L2
 generalize ha3:p3x u00 (fun x y:u0h=>decide (x.2.2.2.1<y.2.2.2.1)) b.2.1=a3 at L2
 generalize ha4:b.2.2.1.all (fun t:u0h=>u60 t&&(decide (t.2.1=2)&&decide (t.2.2.1≤b.2.2.2.1)))=a4 at L3
 generalize ha5:p3x u00 (fun x y:u0h=>y3c x.2.2.2.2.2.2.2 y.2.2.2.2.2.2.2) b.2.2.1=a5 at L3
 generalize q2f (u43 (b.2.1++b.2.2.1)) b.2.2.2.2=a6 at hI
 have hR:((t2t (b,b.1,(b.1.length:Int),0)).bind fun r5=>match r5 with
  | .inl o6=>(t0f (o6,o6.2.1,(o6.2.1.length:Int),0)).bind fun r10=>match r10 with
   | .inl o11=>(t0g (o11,o11.2.2.1,(o11.2.2.1.length:Int),0)).bind fun r15=>match r15 with
    | .inl o16=>(u3o [o16.2.1,o16.2.2.1]).bind fun y17=>(t08 (y17,o16.2.2.2.2)).bind fun y18=>some y18
    | .inr z19=>some z19
   | .inr z20=>some z20
  | .inr z21=>some z21)=some (a1&&((a2&&a3)&&((a4&&a5)&&a6))):=by
  rw[L1]
  cases a1
  ·rfl
  ·simp only[Ad,zOb,Bz]
   rw[L2]
   cases (a2&&a3)
   ·rfl
   ·simp only[Ad,zOb,Bz]
    rw[L3]
    cases (a4&&a5)
    ·rfl
    ·simp only[Ad,zOb,Bz]
     rw[hC]
     simp only[zOb]
     rw[hI];rfl
 cases c1<;>cases c3<;>cases c4<;>cases c5<;>cases c6<;>simp only[Ap,Bh,Ad,Aa,zOb,Fx,Fy,Bz,Cz]
 exact hR
theorem o52 (l:Hu Int) (n:Int):((List.range l.length).all fun i=>((List.range i).all fun j=> !decide (rdL (Ty.int .i64) l j=rdL (Ty.int .i64) l i))&&decide (rdL (Ty.int .i64) l i<n))=q2f l n:=by
 rw[Cd,Bg,r7a]
 constructor
 ·intro h
  constructor
  ·intro x hx
   obtain⟨i,hi,rfl⟩:=B7 hx
   have:=h i (Bq.mpr hi)
   rw[Ai,Ar,y8k (t:=Ty.int .i64) hi] at this
   exact this.2
  ·rw[D8,Cp]
   intro i j hi hj hij e
   have:=h j (Bq.mpr hj)
   rw[Ai,Bg] at this
   have:=this.1 i (Bq.mpr hij)
   rw[y8k (t:=Ty.int .i64) hi,y8k (t:=Ty.int .i64) hj,Bj,Bu] at this
   exact this e
 ·rintro⟨h1,h2⟩ i hi
  have hi:=Bq.mp hi
  rw[Ai,Ar,y8k (t:=Ty.int .i64) hi,Bg]
  refine⟨fun j hj=> ?_,h1 _ (Ag hi)⟩
  have hj:=Bq.mp hj
  rw[D8,Cp] at h2
  rw[y8k (t:=Ty.int .i64) (show j<l.length by omega),Bj,Bu]
  exact h2 j i (by omega) hi hj
theorem p9v (b:u0j) (l:Hu Int) (hl:l.length≤1099511627776):u7a (b,l,0)=some (bif q2f l b.2.2.2.2 then .inl () else .inr false):=by
 have inner:∀i:Nat,i<l.length→t0m (b,l,(i:Int),0)=some (bif (List.range i).all (fun j=> !decide (rdL (Ty.int .i64) l j=rdL (Ty.int .i64) l i)) then .inl (b,l,(i:Int)) else .inr false):=by
  intro i hi
  exact t2s t0m i (fun j=>(b,l,(i:Int),j)) (fun j=> !decide (rdL (Ty.int .i64) l j=rdL (Ty.int .i64) l i)) (.inl (b,l,(i:Int))) (.inr false)
   (by rw[r4x];simp only[t6g,u0b,Am,Ah,Aa])
   (fun j hj=>by
    rw[r4x];simp only[t6g,u0b,hj,Ae,Ad,y7t hi,y7t (show j<l.length by omega),zTn,y7l (show j<4611686018427387904 by omega)]
    by_cases e:rdL (Ty.int .i64) l j=rdL (Ty.int .i64) l i
    ·rw[Bb e];rfl
    ·rw[A7 e];rfl)
 have L:=t2s u7a l.length (fun i=>(b,l,i)) (fun i=>((List.range i).all fun j=> !decide (rdL (Ty.int .i64) l j=rdL (Ty.int .i64) l i))&&decide (rdL (Ty.int .i64) l i<b.2.2.2.2)) (.inl ()) (.inr false)
  (by rw[r4w];simp only[t6f,u0b,Am,Ah,Aa])
  (fun i hi=>by
   rw[r4w];simp only[t6f,u0b,hi,Ae,Ad]
   rw[inner i hi]
   cases (List.range i).all fun j=> !decide (rdL (Ty.int .i64) l j=rdL (Ty.int .i64) l i)
   ·rfl
   ·simp only[Ad,zOb,y7t hi,zTn,y7l (show i<4611686018427387904 by omega),Bz]
    rw[q8d]
    cases decide (rdL (Ty.int .i64) l i<b.2.2.2.2)<;>rfl)
 rw[o52] at L
 exact L
theorem o4u (l:Hu u0h) {i:Nat} (h:i<l.length):u43 (l.take i)++ [(rdL u00 l i).1] =u43 (l.take (i+1)):=by
 rw[y8k h];unfold u43
 rw[Gm,A4 h,Dh];rfl
theorem t9y (b:u0j) (hw:j35.wt b≤549755813888):u7z b=some (u63 b):=by
 have hb:u0k=1099511627776:=rfl
 have hbw:=r64 b
 have n1:=t9x (t:=u0e) b.1
 have n2:=t9x (t:=u00) b.2.1
 have n3:=t9x (t:=u00) b.2.2.1
 have L1:=t2s t2v b.1.length (fun i=>(b,i)) (fun i=>(fun v:u2b=>decide (v.2.2.2≤b.2.2.2.1)) (rdL u0e b.1 i)) (.inl b) (.inr false)
  (by rw[r8h];simp only[t8j,u0b,Am,Ah,Aa])
  (fun i hi=>by
   rw[r8h];simp only[t8j,u0b,hi,Ae,Ad,y7t hi,zTn,y7l (show i<4611686018427387904 by omega),q41 (rdL u0e b.1 i).2.2.2 b.2.2.2.1]
   cases decide ((rdL u0e b.1 i).2.2.2≤b.2.2.2.1)<;>rfl)
 rw[s1i (t:=u0e) b.1 (fun v:u2b=>decide (v.2.2.2≤b.2.2.2.1))] at L1
 have il:∀(l:Hu u0h) (i:Nat),i≤l.length→(u43 (l.take i)).length=i:=fun l i h=>by unfold u43;simp;omega
 have L2:=t2s u69 b.2.1.length (fun i=>(b,u43 (b.2.1.take i.toNat),i)) (fun i=>(fun t:u0h=>u60 t&&(decide (t.2.1=3)&&decide (t.2.2.2.1≤b.2.2.2.1))) (rdL u00 b.2.1 i)&&(decide (i=0) || (fun x y:u0h=>decide (x.2.2.2.1<y.2.2.2.1)) (rdL u00 b.2.1 (i - 1)) (rdL u00 b.2.1 i))) (.inl (b,u43 b.2.1)) (.inr false)
  (by rw[r4u];simp only[t6d,u0b,Am,Ah,Aa,zTn,Cq])
  (fun i hi=>by
   have hm:rdL u00 b.2.1 i∈b.2.1:=by rw[y8k hi];exact Ag hi
   have ht:=q2s hm
   have hk:=t7w (rdL u00 b.2.1 i) (by omega)
   rw[r4u];simp only[t6d,u0b,hi,Ae,Ad,y7t hi,zTn,y7l (show i<4611686018427387904 by omega),q41 (rdL u00 b.2.1 i).2.2.2.1 b.2.2.2.1,s0w,zOb]
   rw[hk]
   have hc:Nat.ble ((u43 (b.2.1.take i)).length+ [(rdL u00 b.2.1 i).1].length) z7w=true:=u0r (by rw[il _ _ (by omega)];simp;omega)
   simp only[zOb]
   rw[hc,o4u _ hi]
   generalize u60 (rdL u00 b.2.1 i)=b1
   generalize decide ((rdL u00 b.2.1 i).2.1=3)=b2
   generalize decide ((rdL u00 b.2.1 i).2.2.2.1≤b.2.2.2.1)=b3
   by_cases h0:i=0
   ·subst h0;simp only[Ae,Ap,Aa,Dx,Cz]
    cases b1<;>cases b2<;>cases b3<;>rfl
   ·simp only[h0,Ah,Bh,Ad,Ci,t5y (show i<4611686018427387904 by omega) h0,y7t (show i - 1<b.2.1.length by omega),zTn,q8d (rdL u00 b.2.1 (i - 1)).2.2.2.1 (rdL u00 b.2.1 i).2.2.2.1]
    generalize decide ((rdL u00 b.2.1 (i - 1)).2.2.2.1<(rdL u00 b.2.1 i).2.2.2.1)=b4
    cases b1<;>cases b2<;>cases b3<;>cases b4<;>rfl)
 rw[s7n (t:=u00) b.2.1 (fun t:u0h=>u60 t&&(decide (t.2.1=3)&&decide (t.2.2.2.1≤b.2.2.2.1))) (fun x y:u0h=>decide (x.2.2.2.1<y.2.2.2.1))] at L2
 have L3:=t2s t0l b.2.2.1.length (fun i=>(b,u43 b.2.1++u43 (b.2.2.1.take i.toNat),i)) (fun i=>(fun t:u0h=>u60 t&&(decide (t.2.1=2)&&decide (t.2.2.1≤b.2.2.2.1))) (rdL u00 b.2.2.1 i)&&(decide (i=0) || (fun x y:u0h=>y3c x.2.2.2.2.2.2.2 y.2.2.2.2.2.2.2) (rdL u00 b.2.2.1 (i - 1)) (rdL u00 b.2.2.1 i))) (.inl (b,u43 (b.2.1++b.2.2.1))) (.inr false)
  (by rw[r4v];simp only[t6e,u0b,Am,Ah,Aa,zTn,Cq];unfold u43;rw[Dh])
  (fun i hi=>by
   have hm:rdL u00 b.2.2.1 i∈b.2.2.1:=by rw[y8k hi];exact Ag hi
   have ht:=q2s hm
   have hk:=t7w (rdL u00 b.2.2.1 i) (by omega)
   rw[r4v];simp only[t6e,u0b,hi,Ae,Ad,y7t hi,zTn,y7l (show i<4611686018427387904 by omega),q41 (rdL u00 b.2.2.1 i).2.2.1 b.2.2.2.1,s0w,zOb]
   rw[hk]
   have hz:(u43 b.2.1).length=b.2.1.length:=by unfold u43;simp
   have hc:Nat.ble ((u43 b.2.1++u43 (b.2.2.1.take i)).length+ [(rdL u00 b.2.2.1 i).1].length) z7w=true:=u0r (by rw[Ba,il _ _ (by omega),hz];simp;omega)
   simp only[zOb]
   rw[hc,Bi,o4u _ hi]
   generalize u60 (rdL u00 b.2.2.1 i)=b1
   generalize decide ((rdL u00 b.2.2.1 i).2.1=2)=b2
   generalize decide ((rdL u00 b.2.2.1 i).2.2.1≤b.2.2.2.1)=b3
   by_cases h0:i=0
   ·subst h0;simp only[Ae,Ap,Aa,Dx,Cz]
    cases b1<;>cases b2<;>cases b3<;>rfl
   ·simp only[h0,Ah,Bh,Ad,Ci,t5y (show i<4611686018427387904 by omega) h0,y7t (show i - 1<b.2.2.1.length by omega),zTn]
    generalize y3c (rdL u00 b.2.2.1 (i - 1)).2.2.2.2.2.2.2 (rdL u00 b.2.2.1 i).2.2.2.2.2.2.2=b4
    cases b1<;>cases b2<;>cases b3<;>cases b4<;>rfl)
 rw[s7n (t:=u00) b.2.2.1 (fun t:u0h=>u60 t&&(decide (t.2.1=2)&&decide (t.2.2.1≤b.2.2.2.1))) (fun x y:u0h=>y3c x.2.2.2.2.2.2.2 y.2.2.2.2.2.2.2)] at L3
 have L2' :u69 (b, [],0)=_:=L2
 have e:u43 b.2.1++u43 (b.2.2.1.take (0:Int).toNat)=u43 b.2.1:=by simp[u43]
 rw[e] at L3
 have hI:=p9v b (u43 (b.2.1++b.2.2.1)) (by unfold u43;rw[Da,Ba];omega)
 have hV:=p0u b.1 (by omega)
 rw[p74];unfold q3i
 rw[hV]
 simp only[s87,j50,gt3,zOb]
 unfold u63 o41 p9d
 generalize u7n b.1=c1
 generalize inB b.2.2.2.1 0 9999=c3
 generalize inB b.2.2.2.2 1 9999=c4
 generalize decide (b.2.1.length≤12)=c5
 generalize decide (b.2.2.1.length≤3)=c6
 generalize ha1:b.1.all (fun v:u2b=>decide (v.2.2.2≤b.2.2.2.1))=a1 at L1
 generalize ha2:b.2.1.all (fun t:u0h=>u60 t&&(decide (t.2.1=3)&&decide (t.2.2.2.1≤b.2.2.2.1)))=a2 at L2'
 generalize ha3:p3x u00 (fun x y:u0h=>decide (x.2.2.2.1<y.2.2.2.1)) b.2.1=a3 at L2'
 generalize ha4:b.2.2.1.all (fun t:u0h=>u60 t&&(decide (t.2.1=2)&&decide (t.2.2.1≤b.2.2.2.1)))=a4 at L3
 generalize ha5:p3x u00 (fun x y:u0h=>y3c x.2.2.2.2.2.2.2 y.2.2.2.2.2.2.2) b.2.2.1=a5 at L3
 generalize q2f (u43 (b.2.1++b.2.2.1)) b.2.2.2.2=a6 at hI
 have hR:((t2v (b,0)).bind fun r5=>match r5 with
  | .inl o6=>(u69 (o6, [],0)).bind fun r9=>match r9 with
   | .inl o10=>(t0l (o10.1,o10.2,0)).bind fun r13=>match r13 with
    | .inl o14=>(u7a (o14.1,o14.2,0)).bind fun r18=>match r18 with
     | .inl o19=>some true
     | .inr z20=>some z20
    | .inr z21=>some z21
   | .inr z22=>some z22
  | .inr z23=>some z23)=some (a1&&((a2&&a3)&&((a4&&a5)&&a6))):=by
  rw[L1]
  cases a1
  ·rfl
  ·simp only[Ad,zOb,Bz]
   rw[L2']
   cases (a2&&a3)
   ·rfl
   ·simp only[Ad,zOb,Bz]
    rw[L3]
    cases (a4&&a5)
    ·rfl
    ·simp only[Ad,zOb,Bz]
     rw[hI]
     cases a6<;>rfl
 cases c1<;>cases c3<;>cases c4<;>cases c5<;>cases c6<;>simp only[Ap,Bh,Ad,Aa,zOb,Fx,Fy,Bz,Cz]
 exact hR
theorem o4s (e:u3a):j63.wt e=j35.wt e.1+(Ty.sl u00).wt e.2:=rfl
theorem p66 (e:u3a) (hw:j63.wt e≤u0k):s4p e=some (o04 e):=by
 have hb:u0k=1099511627776:=rfl
 have hew:=o4s e
 have hbw:=r64 e.1
 have n1:=t9x (t:=u00) e.2
 have n2:=t9x (t:=u00) e.1.2.1
 have n3:=t9x (t:=u00) e.1.2.2.1
 have L:=t2s t39 e.2.length (fun i=>(e,e.2,(e.2.length:Int),i)) (fun i=>(fun t:u0h=>u60 t&&(decide (t.2.1=1)&&decide (t.2.2.1≤e.1.2.2.2.1))) (rdL u00 e.2 i)&&(decide (i=0) || (fun x y:u0h=>decide (x.1<y.1)) (rdL u00 e.2 (i - 1)) (rdL u00 e.2 i))) (.inl ()) (.inr false)
  (by rw[s97];simp only[t3k,u0b,Am,Ah,Aa])
  (fun i hi=>by
   have hm:rdL u00 e.2 i∈e.2:=by rw[y8k hi];exact Ag hi
   have ht:=q2s hm
   have hk:=s3r (rdL u00 e.2 i) (by omega)
   rw[s97];simp only[t3k,u0b,hi,Ae,Ad,y7t hi,zTn,y7l (show i<4611686018427387904 by omega),q41 (rdL u00 e.2 i).2.2.1 e.1.2.2.2.1,s0w,zOb]
   rw[hk]
   simp only[zOb]
   generalize u60 (rdL u00 e.2 i)=b1
   generalize decide ((rdL u00 e.2 i).2.1=1)=b2
   generalize decide ((rdL u00 e.2 i).2.2.1≤e.1.2.2.2.1)=b3
   by_cases h0:i=0
   ·subst h0;simp only[Ae,Ap,Aa,Dx,Cz]
    cases b1<;>cases b2<;>cases b3<;>rfl
   ·simp only[h0,Ah,Bh,Ad,Ci,t5y (show i<4611686018427387904 by omega) h0,y7t (show i - 1<e.2.length by omega),zTn,q8d (rdL u00 e.2 (i - 1)).1 (rdL u00 e.2 i).1]
    generalize decide ((rdL u00 e.2 (i - 1)).1<(rdL u00 e.2 i).1)=b4
    cases b1<;>cases b2<;>cases b3<;>cases b4<;>rfl)
 rw[s7n (t:=u00) e.2 (fun t:u0h=>u60 t&&(decide (t.2.1=1)&&decide (t.2.2.1≤e.1.2.2.2.1))) (fun x y:u0h=>decide (x.1<y.1))] at L
 have hC:=p5y [e.1.2.1,e.1.2.2.1,e.2] (by simp only[List.flatten_cons,List.flatten_nil,Bw,Ba];omega) (by simp)
 have hf: [e.1.2.1,e.1.2.2.1,e.2].flatten=e.1.2.1++e.1.2.2.1++e.2:=by simp
 rw[hf] at hC
 have hI:=q1f (e.1.2.1++e.1.2.2.1++e.2) e.1.2.2.2.2 (by rw[Ba,Ba];omega)
 have hB:=u9g e.1 (by omega)
 rw[p1d];unfold r5y
 rw[hB]
 simp only[zOb,gt4]
 rw[hC]
 simp only[zOb]
 rw[hI]
 simp only[zOb]
 rw[L]
 unfold o04 o4z
 cases u63 e.1<;>cases decide (e.2.length≤4)<;>cases q2f (u43 (e.1.2.1++e.1.2.2.1++e.2)) e.1.2.2.2.2<;>try rfl
 all_goals
  cases e.2.all (fun t:u0h=>u60 t&&(decide (t.2.1=1)&&decide (t.2.2.1≤e.1.2.2.2.1)))<;>cases p3x u00 (fun x y:u0h=>decide (x.1<y.1)) e.2<;>rfl
theorem o9o {b:u0j} {o:Hu u0h} (hb:q2f (u43 (b.2.1++b.2.2.1)) b.2.2.2.2=true) (ho:p3x u00 (fun x y:u0h=>decide (x.1<y.1)) o=true):
 q2f (u43 (b.2.1++b.2.2.1++o)) b.2.2.2.2=o.all (fun t=>decide (t.1<b.2.2.2.2)&&((b.2.1.all fun x=> !decide (x.1=t.1))&&(b.2.2.1.all fun x=> !decide (x.1=t.1)))):=by
 rw[j7c (f:=fun t=>t.1)] at ho
 obtain⟨h1,h2⟩:=r7a.mp hb
 rw[Cd,r7a,Bg]
 simp only[Ai,Ar,Bg,Bj,Bu]
 unfold u43 at*
 constructor
 ·rintro⟨k1,k2⟩ t ht
  rw[Dh,Gp] at k2
  refine⟨k1 _ (Bx.mpr ⟨t,by simp[ht],rfl⟩),fun x hx=> ?_,fun x hx=> ?_⟩
  ·exact k2.2.2 _ (Bx.mpr ⟨x,by simp[hx],rfl⟩) _ (Bx.mpr ⟨t,ht,rfl⟩)
  ·exact k2.2.2 _ (Bx.mpr ⟨x,by simp[hx],rfl⟩) _ (Bx.mpr ⟨t,ht,rfl⟩)
 ·intro k
  constructor
  ·intro x hx
   obtain⟨t,ht,rfl⟩:=Bx.mp hx
   rcases Ay.mp ht with q | q
   ·exact h1 _ (Bx.mpr ⟨t,q,rfl⟩)
   ·exact(k t q).1
  ·rw[Dh,Gp]
   refine⟨h2,?_,?_⟩
   ·rw[D8,Dl]
    exact ho.imp fun {a b} q e=>by omega
   ·intro a ha c hc e
    obtain⟨x,hx,rfl⟩:=Bx.mp ha
    obtain⟨t,ht,rfl⟩:=Bx.mp hc
    rcases Ay.mp hx with q | q
    ·exact(k t ht).2.1 x q e
    ·exact(k t ht).2.2 x q e
theorem p67 (e:u3a) (hw:j63.wt e≤549755813888):s41 e=some (o04 e):=by
 have hb:u0k=1099511627776:=rfl
 have hew:=o4s e
 have hbw:=r64 e.1
 have n1:=t9x (t:=u00) e.2
 have n2:=t9x (t:=u00) e.1.2.1
 have n3:=t9x (t:=u00) e.1.2.2.1
 have I1:∀(j:Int) (t:u0h),u7v (e,j,t,0)=some (bif (e.1.2.1.all fun x=> !decide (x.1=t.1)) then .inl (e,j,t) else .inr false):=fun j t=>by
  have L:=t2s u7v e.1.2.1.length (fun i=>(e,j,t,i)) (fun i=>(fun x:u0h=> !decide (x.1=t.1)) (rdL u00 e.1.2.1 i)) (.inl (e,j,t)) (.inr false)
   (by rw[s7b];simp only[t11,u0b,Am,Ah,Aa])
   (fun i hi=>by
    rw[s7b];simp only[t11,u0b,hi,Ae,Ad,y7t hi,zTn,y7l (show i<4611686018427387904 by omega)]
    cases decide ((rdL u00 e.1.2.1 i).1=t.1)<;>rfl)
  rw[s1i (t:=u00) e.1.2.1 (fun x:u0h=> !decide (x.1=t.1))] at L
  exact L
 have I2:∀(j:Int) (t:u0h),u5r (e,j,t,0)=some (bif (e.1.2.2.1.all fun x=> !decide (x.1=t.1)) then .inl (e,j) else .inr false):=fun j t=>by
  have L:=t2s u5r e.1.2.2.1.length (fun i=>(e,j,t,i)) (fun i=>(fun x:u0h=> !decide (x.1=t.1)) (rdL u00 e.1.2.2.1 i)) (.inl (e,j)) (.inr false)
   (by rw[s7c];simp only[t12,u0b,Am,Ah,Aa])
   (fun i hi=>by
    rw[s7c];simp only[t12,u0b,hi,Ae,Ad,y7t hi,zTn,y7l (show i<4611686018427387904 by omega)]
    cases decide ((rdL u00 e.1.2.2.1 i).1=t.1)<;>rfl)
  rw[s1i (t:=u00) e.1.2.2.1 (fun x:u0h=> !decide (x.1=t.1))] at L
  exact L
 have L:=t2s u6u e.2.length (fun i=>(e,i)) (fun i=>(fun t:u0h=>(u60 t&&(decide (t.2.1=1)&&decide (t.2.2.1≤e.1.2.2.2.1)))&&(decide (t.1<e.1.2.2.2.2)&&((e.1.2.1.all fun x=> !decide (x.1=t.1))&&(e.1.2.2.1.all fun x=> !decide (x.1=t.1))))) (rdL u00 e.2 i)&&(decide (i=0) || (fun x y:u0h=>decide (x.1<y.1)) (rdL u00 e.2 (i - 1)) (rdL u00 e.2 i))) (.inl ()) (.inr false)
  (by rw[r0j];simp only[t3w,u0b,Am,Ah,Aa])
  (fun i hi=>by
   have hm:rdL u00 e.2 i∈e.2:=by rw[y8k hi];exact Ag hi
   have ht:=q2s hm
   have hk:=t7w (rdL u00 e.2 i) (by omega)
   have k1:=I1 (i:Int) (rdL u00 e.2 i)
   have k2:=I2 (i:Int) (rdL u00 e.2 i)
   rw[r0j];simp only[t3w,u0b,hi,Ae,Ad,y7t hi,zTn,y7l (show i<4611686018427387904 by omega),q41 (rdL u00 e.2 i).2.2.1 e.1.2.2.2.1,q8d (rdL u00 e.2 i).1 e.1.2.2.2.2,s0w,zOb]
   rw[hk,k1]
   simp only[zOb]
   generalize u60 (rdL u00 e.2 i)=b1
   generalize decide ((rdL u00 e.2 i).2.1=1)=b2
   generalize decide ((rdL u00 e.2 i).2.2.1≤e.1.2.2.2.1)=b3
   generalize decide ((rdL u00 e.2 i).1<e.1.2.2.2.2)=b5
   generalize (e.1.2.1.all fun x=> !decide (x.1=(rdL u00 e.2 i).1))=b6
   generalize (e.1.2.2.1.all fun x=> !decide (x.1=(rdL u00 e.2 i).1))=b7 at k2 ⊢
   have tail:((bif b6 then Sum.inl (e,(i:Int),rdL u00 e.2 i) else Sum.inr false:(u3a×Int×u0h)⊕Bool) |>fun r5=>(match r5 with
    | .inl o6=>(u5r (o6.1,o6.2.1,o6.2.2,0)).bind fun r7=>match r7 with
     | .inl o8=>u6u (o8.1,IntKind.i64.wrap (o8.2+1))
     | .inr z9=>some (.inr z9)
    | .inr z10=>some (.inr z10)))=bif b6&&b7 then u6u (e,((i+1:Nat):Int)) else some (.inr false):=by
    cases b6
    ·rfl
    ·simp only[Ad]
     rw[k2]
     cases b7
     ·rfl
     ·simp only[Ad,zOb,y7l (show i<4611686018427387904 by omega)];rfl
   by_cases h0:i=0
   ·subst h0;simp only[Ae,Ap,Aa,Dx,Cz]
    cases b1<;>cases b2<;>cases b3<;>cases b5<;>try rfl
    exact tail
   ·simp only[h0,Ah,Bh,Ad,Ci,t5y (show i<4611686018427387904 by omega) h0,y7t (show i - 1<e.2.length by omega),zTn,q8d (rdL u00 e.2 (i - 1)).1 (rdL u00 e.2 i).1]
    generalize decide ((rdL u00 e.2 (i - 1)).1<(rdL u00 e.2 i).1)=b4
    cases b1<;>cases b2<;>cases b3<;>cases b5<;>cases b4<;>(first | rfl | (rw[Fy];rfl) | (rw[Cz];exact tail)))
 rw[s7n (t:=u00) e.2 (fun t:u0h=>(u60 t&&(decide (t.2.1=1)&&decide (t.2.2.1≤e.1.2.2.2.1)))&&(decide (t.1<e.1.2.2.2.2)&&((e.1.2.1.all fun x=> !decide (x.1=t.1))&&(e.1.2.2.1.all fun x=> !decide (x.1=t.1))))) (fun x y:u0h=>decide (x.1<y.1)),o7l] at L
 have hB:=t9y e.1 (by omega)
 rw[p10];unfold r6k
 rw[hB]
 simp only[zOb,gt4]
 rw[L]
 unfold o04 o4z
 cases h1:u63 e.1
 ·rfl
 ·have hbi:q2f (u43 (e.1.2.1++e.1.2.2.1)) e.1.2.2.2.2=true:=by
   have:=p6a.mp h1
   exact r7a.mpr ⟨this.below,this.nodup⟩
  cases ha:p3x u00 (fun x y:u0h=>decide (x.1<y.1)) e.2
  ·cases decide (e.2.length≤4)<;>simp
  ·rw[o9o hbi ha]
   cases decide (e.2.length≤4)
   ·rfl
   ·simp only[Ap,Aa,zOb,Bz,Cz]
    cases (e.2.all fun t:u0h=>u60 t&&(decide (t.2.1=1)&&decide (t.2.2.1≤e.1.2.2.2.1)))
    ·rfl
    ·simp only[Bz]
     cases (e.2.all fun t:u0h=>decide (t.1<e.1.2.2.2.2)&&((e.1.2.1.all fun x=> !decide (x.1=t.1))&&(e.1.2.2.1.all fun x=> !decide (x.1=t.1))))<;>rfl
end
section
theorem q55 {E:Type} (a:Hu E) (n:Nat) (h:n≤a.length) (z:Hu E):(a.take n++z).take n=a.take n:=by
 rw[List.take_append_of_le_length (by rw[Ec];omega),List.take_take,Nat.min_self]
theorem t27 {E:Type} (p:E→Bool) (l:Hu E):(l.filter p).length≤l.length:=Cs _ _
theorem o2x (l:Hu u0h) (c:Int) (hl:l.length≤8388608):u2h (l,c)=some (l.filter fun x=> !decide (x.2.2.2.1≤c)):=by
 have hq:∀x∈l,u8v (x,c)=some (decide (x.2.2.2.1≤c)):=fun x _=>by rw[p1l];rfl
 have L:=Q.first (T:=u00) (c:=Int) (W:=u1l) (q:=u8v) (p:=fun x:u0h=>decide (x.2.2.2.1≤c)) (fun x=>u98 x) l c (by omega) hq
 rw[t02];unfold u4p
 simp only[t1n,u42,L,zOb]
 by_cases hk:u0s (fun x:u0h=>decide (x.2.2.2.1≤c)) l<l.length
 ·obtain⟨a,e1,e2,e3⟩:=Q.delete (T:=u00) (c:=Int) (W:=u1f) (q:=u8v) (p:=fun x:u0h=>decide (x.2.2.2.1≤c)) (fun x=>u86 x) l c (by omega) hq hk
  have hn:=t27 (fun x:u0h=> !decide (x.2.2.2.1≤c)) l
  obtain⟨n,hne⟩:∃n,n=(l.filter fun x:u0h=> !decide (x.2.2.2.1≤c)).length:=⟨_,rfl⟩
  rw[←hne] at e1 e3 hn
  have c1:decide (((u0s (fun x:u0h=>decide (x.2.2.2.1≤c)) l:Nat):Int)= -1)=false:=by simp
  have c2:decide ((0:Int)≤(n:Int))=true:=by simp
  have c3:decide ((n:Int)≤(a.length:Int))=true:=by simp;omega
  have c4:decide ((a.length:Int)≤(a.length:Int))=true:=by simp
  have hw:=y7l (i:=u0s (fun x:u0h=>decide (x.2.2.2.1≤c)) l) (by omega)
  simp only[Al hk,zOb,c1,Aa,hw,e1,c2,c3,c4,Dt,Ad,zTn,Ae,Bv]
  have c5:decide ((n:Int)≤((a.take n++List.replicate (a.length - n) u00.zero++a.drop (n+(a.length - n))).length:Int))=true:=by simp;omega
  have c6:(a.take n++List.replicate (a.length - n) u00.zero++a.drop (n+(a.length - n))).take (n - (0:Int).toNat)=l.filter fun x:u0h=> !decide (x.2.2.2.1≤c):=by
   rw[Bi,Ho,Nat.sub_zero,q55 a n (by omega),e3]
  simp only[c5,Dt,Ad,c6]
 ·have hall:(l.filter fun x:u0h=> !decide (x.2.2.2.1≤c))=l:=by
   rw[F9]
   intro x hx
   obtain⟨i,hi,rfl⟩:=B7 hx
   rw[t1g (p:=fun x:u0h=>decide (x.2.2.2.1≤c)) hi (by omega)]
   rfl
  simp only[Ao hk,zOb,Ae,Ad,hall]
end
section
def u34 (b:u0j) (o:Hu u0h):u0j:=(u2j b.1 (t9w b o),b.2.1.filter (fun x=> !decide (x.2.2.2.1≤t9w b o)),b.2.2)
theorem t90 (b:u0j) (o:Hu u0h) (hb:fewB b) (ho:o.length≤4194304):u6f (b,o)=some (u34 b o):=by
 have h1:=t9z b hb
 have h2:=o20 b o ho
 have h3:=o2x b.2.1 (t9w b o) (by have:=hb.2.1.1;omega)
 have h4:=o0d b.1 (t9w b o) (by have:=hb.1;omega)
 rw[p7z];unfold q3b u34
 simp only[h1,h2,h3,h4,zOb]
theorem r06 (b:u0j) (o:Hu u0h) (hb:fewB b) (ho:o.length≤4194304):t4w (b,o)=some (u34 b o):=by
 have h1:=t7t b hb
 have h2:=o21 b o ho
 have h4:=o0e b.1 (t9w b o) (by have:=hb.1;omega)
 have hl:=hb.2.1.1
 have L:=s3y t8x b.2.1 (fun a i=>(b,(([], [], [],0,0):u0j),(b.1,a,b.2.2),t9w b o,i)) (fun x=> !decide (x.2.2.2.1≤t9w b o)) (fun x=>x) (fun a=> .inl (b,(([], [], [],0,0):u0j),(b.1,a,b.2.2),t9w b o)) (by omega)
  (fun a _=>by rw[r8n];simp only[t8n,u0b,Am,Ah,Aa])
  (fun i hi a ha=>by
   have hc:=t0a b.2.1[i] (hb.2.1.2 _ (Ag hi))
   rw[r8n]
   simp only[t8n,u0b,hi,Ae,Ad,y7t hi,zTn,y8k (t:=u00) hi,hc,zOb,Aw,u0r (show a.length+1≤1099511627776 by omega)]
   rw[y7l (by omega)]
   by_cases h:b.2.1[i].2.2.2.1≤t9w b o
   ·have h' : ¬b.2.1[i].2.2.2.1 >t9w b o:=Hk.mpr h
    simp[h,h']
   ·have h' :b.2.1[i].2.2.2.1 >t9w b o:=Int.not_le.mp h
    simp[h,h'])
 rw[Er] at L
 rw[p8i];unfold q3w u34
 simp only[h1,h2,zOb,L,h4]
end
section
theorem o5l (l:Hu u0h) (c:u0h) (hl:l.length≤8388608):u1m (l,c)=some (l.filter fun x=> !decide (x.1=c.1)):=by
 have hq:∀x∈l,u7j (x,c)=some (decide (x.1=c.1)):=fun x _=>by rw[q87];rfl
 have L:=Q.first (T:=u00) (c:=u0h) (W:=u1i) (q:=u7j) (p:=fun x:u0h=>decide (x.1=c.1)) (fun x=>u89 x) l c (by omega) hq
 rw[u90];unfold u4b
 simp only[t05,u4s,L,zOb]
 by_cases hk:u0s (fun x:u0h=>decide (x.1=c.1)) l<l.length
 ·obtain⟨a,e1,e2,e3⟩:=Q.delete (T:=u00) (c:=u0h) (W:=u1c) (q:=u7j) (p:=fun x:u0h=>decide (x.1=c.1)) (fun x=>u84 x) l c (by omega) hq hk
  have hn:=t27 (fun x:u0h=> !decide (x.1=c.1)) l
  obtain⟨n,hne⟩:∃n,n=(l.filter fun x:u0h=> !decide (x.1=c.1)).length:=⟨_,rfl⟩
  rw[←hne] at e1 e3 hn
  have c1:decide (((u0s (fun x:u0h=>decide (x.1=c.1)) l:Nat):Int)= -1)=false:=by simp
  have c2:decide ((0:Int)≤(n:Int))=true:=by simp
  have c3:decide ((n:Int)≤(a.length:Int))=true:=by simp;omega
  have c4:decide ((a.length:Int)≤(a.length:Int))=true:=by simp
  have hw:=y7l (i:=u0s (fun x:u0h=>decide (x.1=c.1)) l) (by omega)
  simp only[Al hk,zOb,c1,Aa,hw,e1,c2,c3,c4,Dt,Ad,zTn,Ae,Bv]
  have c5:decide ((n:Int)≤((a.take n++List.replicate (a.length - n) u00.zero++a.drop (n+(a.length - n))).length:Int))=true:=by simp;omega
  have c6:(a.take n++List.replicate (a.length - n) u00.zero++a.drop (n+(a.length - n))).take (n - (0:Int).toNat)=l.filter fun x:u0h=> !decide (x.1=c.1):=by
   rw[Bi,Ho,Nat.sub_zero,q55 a n (by omega),e3]
  simp only[c5,Dt,Ad,c6]
 ·have hall:(l.filter fun x:u0h=> !decide (x.1=c.1))=l:=by
   rw[F9]
   intro x hx
   obtain⟨i,hi,rfl⟩:=B7 hx
   rw[t1g (p:=fun x:u0h=>decide (x.1=c.1)) hi (by omega)]
   rfl
  simp only[Ao hk,zOb,Ae,Ad,hall]
def q9z (d x:u0h):u0h:=(x.1,x.2.1,x.2.2.1,x.2.2.2.1,x.2.2.2.2.1,x.2.2.2.2.2.1,(x.2.2.2.2.2.2.1 || ahead x d),x.2.2.2.2.2.2.2)
end
section
theorem o4e (t:u0h) (b0:u0j) (v:Hu u2b) (p R:Hu u0h) (c n:Int) (d:u0h) (hR:q9y R) (hd:q5u d):
 u68 (t,b0,(v,p,R,c,n),d,(),(R.length:Int),0)=some (.inl (t,b0,(v,p,R.map (q9z d),c,n),d)):=by
 have hl:=hR.1
 have L:=p0v u68 R.length (fun(a:Hu u0h) i=>(t,b0,((v,p,a,c,n):u0j),d,(),(R.length:Int),i)) (fun i=>(R.take i).map (q9z d)++R.drop i) (.inl (t,b0,((v,p,R.map (q9z d),c,n):u0j),d))
  (by
   rw[r4o]
   simp only[t57,u0b,Am,Ah,Aa,Cq,F5,Bw])
  (fun i hi=>by
   have hm:((R.take i).map (q9z d)).length=i:=by simp;omega
   have hd1:R.drop i=R[i] ::R.drop (i+1):=Ce hi
   have hal:i<((R.take i).map (q9z d)++R.drop i).length:=by simp;omega
   have hg:((R.take i).map (q9z d)++R.drop i)[i] =R[i] :=by
    rw[Cv (by omega),List.getElem_drop]
    congr 1
    omega
   have hset:∀y:u0h,((R.take i).map (q9z d)++R.drop i).set i y=(R.take i).map (q9z d)++y::R.drop (i+1):=fun y=>by
    rw[List.set_append_right _ _ (by omega),hm,Dw,hd1,Hj]
   have hnx:(R.take (i+1)).map (q9z d)++R.drop (i+1)=(R.take i).map (q9z d)++q9z d R[i] ::R.drop (i+1):=by
    rw[B9 hi,Dh]
    simp
   have ha:=p5v R[i] d (s3f (hR.2 _ (Ag hi)).1) (s3f hd.2)
   rw[r4o]
   simp only[t57,u0b,hi,Ae,Ad,y7t hal,zTn,y8k (t:=u00) hal,hg,ha,zOb,hset]
   rw[y7l (by omega),hnx]
   unfold q9z
   cases h1:R[i].2.2.2.2.2.2.1 with
   | true=>simp
   | false=>simp)
 simpa using L
end
section
def p6f (b:u0j) (t:u0h):u0h:=(t.1,(3:Int),t.2.2.1,IntKind.i64.wrap (b.2.2.2.1+1),t.2.2.2.2.1,t.2.2.2.2.2.1,(t.2.2.2.2.2.2.1 || q60 t b.2.1),(⟨#[]⟩:Hs))
def s3o (b:u0j) (t:u0h):u0j:=
 (t8a b.1 t.2.2.2.2.2.1 (IntKind.i64.wrap (b.2.2.2.1+1)),b.2.1++ [p6f b t],(b.2.2.1.filter fun x=> !decide (x.1=t.1)).map (q9z (p6f b t)),IntKind.i64.wrap (b.2.2.2.1+1),y8h b.2.2.2.2 (IntKind.i64.wrap (t.1+1)))
theorem o0a (b:u0j) (t:u0h) (hb:fewB b) (ht:q5u t):t5m (b,t)=some (s3o b t):=by
 have h1:=t9z b hb
 have h2:=p0i t ht
 have h3:=q8r b.1 t.2.2.2.2.2.1 (IntKind.i64.wrap (b.2.2.2.1+1)) (by have:=hb.1;have:=ht.2;omega)
 have h4:=o5l b.2.2.1 t (by have:=hb.2.2.1;omega)
 have h5:=p53 t b.2.1 ht hb.2.1
 have hf:q9y (b.2.2.1.filter fun x=> !decide (x.1=t.1)):=⟨A9 (t27 _ _) hb.2.2.1,fun x hx=>hb.2.2.2 x (A6.mp hx).1⟩
 have hp:=hb.2.1.1
 have hc:∀d:u0h,Nat.ble (b.2.1.length+([d] :Hu u0h).length) z7w=true:=fun d=>u0r (by simp;omega)
 rw[p39];unfold r9u s3o p6f
 simp only[h1,h2,h3,h4,h5,zOb]
 cases ho:t.2.2.2.2.2.2.1 with
 | true=>
  have hd:q5u ((t.1,(3:Int),t.2.2.1,IntKind.i64.wrap (b.2.2.2.1+1),t.2.2.2.2.1,t.2.2.2.2.2.1,true,(⟨#[]⟩:Hs)):u0h):=ht
  have L:=o4e t ([], [], [],0,0) (t8a b.1 t.2.2.2.2.2.1 (IntKind.i64.wrap (b.2.2.2.1+1))) b.2.1 (b.2.2.1.filter fun x=> !decide (x.1=t.1)) (IntKind.i64.wrap (b.2.2.2.1+1)) b.2.2.2.2 _ hf hd
  simp only[Ad,L,zOb,hc,Dx]
 | false=>
  have hd:q5u ((t.1,(3:Int),t.2.2.1,IntKind.i64.wrap (b.2.2.2.1+1),t.2.2.2.2.1,t.2.2.2.2.2.1,q60 t b.2.1,(⟨#[]⟩:Hs)):u0h):=ht
  have L:=o4e t ([], [], [],0,0) (t8a b.1 t.2.2.2.2.2.1 (IntKind.i64.wrap (b.2.2.2.1+1))) b.2.1 (b.2.2.1.filter fun x=> !decide (x.1=t.1)) (IntKind.i64.wrap (b.2.2.2.1+1)) b.2.2.2.2 _ hf hd
  simp only[Aa,Ad,h5,zOb,L,hc,Ci]
end
section
def p0e (b:u0j) (t:u0h):u0j:=
 ((s3o b t).1,(s3o b t).2.1,(s3o b t).2.2.1,(s3o b t).2.2.2.1,if t.1≥b.2.2.2.2 then IntKind.i64.wrap (t.1+1) else b.2.2.2.2)
theorem p99 (b:u0j) (t:u0h) (b0:u0j) (v:Hu u2b) (p:Hu u0h) (c n:Int) (d:u0h) (hb:fewB b) (hd:q5u d):
 u6v (b,t,b0,(v,p, [],c,n),d,0)=some (.inl (t,b0,(v,p,(b.2.2.1.filter fun x=> !decide (x.1=t.1)).map (q9z d),c,n))):=by
 have hl:=hb.2.2.1
 exact s3y u6v b.2.2.1 (fun a i=>(b,t,b0,((v,p,a,c,n):u0j),d,i)) (fun x=> !decide (x.1=t.1)) (q9z d) (fun a=> .inl (t,b0,((v,p,a,c,n):u0j))) (by omega)
  (fun a _=>by rw[r0p];simp only[t33,u0b,Am,Ah,Aa])
  (fun i hi a ha=>by
   have h1:=t0a b.2.2.1[i] (hb.2.2.2 _ (Ag hi))
   have h2:=t3i b.2.2.1[i] d (s3f (hb.2.2.2 _ (Ag hi)).1) (s3f hd.2)
   rw[r0p]
   simp only[t33,u0b,hi,Ae,Ad,y7t hi,zTn,y8k (t:=u00) hi,h1,h2,zOb,Aw,u0r (show a.length+1≤1099511627776 by omega)]
   rw[y7l (by omega)]
   cases decide (b.2.2.1[i].1=t.1) with
   | true=>rfl
   | false=>
    simp only[Aa,Bh,Ad]
    unfold q9z
    cases ahead b.2.2.1[i] d with
    | true=>simp
    | false=>simp)
end
section
theorem q7l (b:u0j) (t:u0h) (hb:fewB b) (ht:q5u t):u6p (b,t)=some (p0e b t):=by
 have h1:=t7t b hb
 have h2:=t0a t ht
 have h3:=r12 b.1 t.2.2.2.2.2.1 (IntKind.i64.wrap (b.2.2.2.1+1)) (by have:=hb.1;have:=ht.2;omega)
 have h5:=q50 t b.2.1 ht hb.2.1
 have hp:=hb.2.1.1
 have hc:∀d:u0h,Nat.ble (b.2.1.length+([d] :Hu u0h).length) z7w=true:=fun d=>u0r (by simp;omega)
 rw[p4y];unfold q0j p0e s3o p6f
 simp only[h1,h2,h3,h5,zOb]
 cases ho:t.2.2.2.2.2.2.1 with
 | true=>
  have hd:q5u ((t.1,(3:Int),t.2.2.1,IntKind.i64.wrap (b.2.2.2.1+1),t.2.2.2.2.1,t.2.2.2.2.2.1,true,(⟨#[]⟩:Hs)):u0h):=ht
  have L:=fun p=>p99 b t ([], [], [],0,0) (t8a b.1 t.2.2.2.2.2.1 (IntKind.i64.wrap (b.2.2.2.1+1))) p (IntKind.i64.wrap (b.2.2.2.1+1)) b.2.2.2.2 _ hb hd
  simp only[Ad,L,zOb,hc,Dx]
  by_cases h:t.1≥b.2.2.2.2<;>simp[h]
 | false=>
  have hd:q5u ((t.1,(3:Int),t.2.2.1,IntKind.i64.wrap (b.2.2.2.1+1),t.2.2.2.2.1,t.2.2.2.2.2.1,q60 t b.2.1,(⟨#[]⟩:Hs)):u0h):=ht
  have L:=fun p=>p99 b t ([], [], [],0,0) (t8a b.1 t.2.2.2.2.2.1 (IntKind.i64.wrap (b.2.2.2.1+1))) p (IntKind.i64.wrap (b.2.2.2.1+1)) b.2.2.2.2 _ hb hd
  simp only[Aa,Ad,h5,zOb,L,hc,Ci]
  by_cases h:t.1≥b.2.2.2.2<;>simp[h]
end
section
def d0b (b:u0j):Prop:=b.1.length≤1048576∧(b.2.1.length≤1048576∧ ∀t∈b.2.1,q5u t)∧b.2.2.1.length≤1048576∧ ∀t∈b.2.2.1,q5u t
end
section
def q6t (b:u0j):Bool:=decide ((b.2.1.length:Int)≥12) || (decide ((b.1.length:Int) >100) || decide (b.2.2.2.1≥9999))
theorem o1a (b:u0j):s1d b=some (q6t b):=by
 rw[p5j];unfold q05 q6t
 cases decide ((b.2.1.length:Int)≥12)<;>cases decide ((b.1.length:Int) >100)<;>rfl
theorem o6d (b:u0j) {n:Hs} {i:Nat} (hi:i<b.2.2.1.length) (hn:b.2.2.1[i].2.2.2.2.2.2.2=n):∃k:Nat,k<b.2.2.1.length∧u0p b n=(k:Int):=by
 have h:u0s (fun x:u0h=>z7o x.2.2.2.2.2.2.2 n) b.2.2.1<b.2.2.1.length:=by
  rcases B8 (u0s (fun x:u0h=>z7o x.2.2.2.2.2.2.2 n) b.2.2.1) b.2.2.1.length with q | q
  ·exact q
  ·have:=t1g (p:=fun x:u0h=>z7o x.2.2.2.2.2.2.2 n) hi (by omega)
   rw[y7f.mpr hn] at this
   cases this
 exact⟨_,h,Al h⟩
end
section
def u1z (n i:Int):Int:=if i<n then n else i+1
def s3b (b:u0j) (t:u0h):u0h:=(t.1,(3:Int),t.2.2.1,b.2.2.2.1+1,t.2.2.2.2.1,t.2.2.2.2.2.1,(t.2.2.2.2.2.2.1 || q60 t b.2.1),(⟨#[]⟩:Hs))
def u1n (b:u0j) (t:u0h):u0j:=
 (t8a b.1 t.2.2.2.2.2.1 (b.2.2.2.1+1),b.2.1++ [s3b b t],(b.2.2.1.filter fun x=> !decide (x.1=t.1)).map (q9z (s3b b t)),b.2.2.2.1+1,u1z b.2.2.2.2 t.1)
def u5m (b:u0j) (t:u0h) (n:Hs):u0h:=(t.1,(2:Int),t.2.2.1,t.2.2.2.1,t.2.2.2.2.1,t.2.2.2.2.2.1,(t.2.2.2.2.2.2.1 || q60 t b.2.1),n)
def u2r (b:u0j) (t:u0h) (n:Hs):u0j:=
 (b.1,b.2.1,(b.2.2.1.filter fun x=>y3c x.2.2.2.2.2.2.2 n)++ [u5m b t n] ++(b.2.2.1.filter fun x=> !y3c x.2.2.2.2.2.2.2 n),b.2.2.2.1,u1z b.2.2.2.2 t.1)
def t7n (b:u0j) (n:Hs):u0j:=(b.1,b.2.1,(b.2.2.1.filter fun x=> !z7o x.2.2.2.2.2.2.2 n),b.2.2.2.1,b.2.2.2.2)
def o84 (n:Int):Prop:= -1000000≤n∧n≤1000000
theorem s3p {n:Int} (h:o84 n):IntKind.i64.wrap (n+1)=n+1:=by
 obtain⟨h1,h2⟩:=h
 rw[y4y (by omega) (by omega)]
theorem p3g {b:u0j} {t:u0h} (hc:o84 b.2.2.2.1) (hi:o84 t.1):s3o b t=u1n b t:=by
 have e:p6f b t=s3b b t:=by unfold p6f s3b;rw[s3p hc]
 unfold s3o u1n
 rw[e,s3p hc,s3p hi]
 unfold y8h u1z
 congr 4
 by_cases h:t.1<b.2.2.2.2
 ·rw[Al h,Ao (by omega)]
 ·rw[Ao h,Al (by omega)]
theorem p3h {b:u0j} {t:u0h} (hc:o84 b.2.2.2.1) (hi:o84 t.1):p0e b t=u1n b t:=by
 unfold p0e
 rw[p3g hc hi,s3p hi]
 unfold u1n u1z
 congr 4
 by_cases h:t.1<b.2.2.2.2
 ·rw[Al h,Ao (by omega)]
 ·rw[Ao h,Al (by omega)]
def uq (l:Hu u0h):Prop:=l.Pairwise fun a b=>a.1≠b.1
theorem p6y {l:Hu u0h} :(u43 l).Nodup↔uq l:=by
 unfold u43 uq;rw[D8,Dl]
theorem d0d {a b:Hu u0h} :uq (a++b)↔uq a∧uq b∧ ∀x∈a,∀y∈b,x.1≠y.1:=Cg
theorem p3j {l:Hu u0h} (h:uq l) (p:u0h→Bool):uq (l.filter p):=Dz p h
theorem j4y {l:Hu u0h} (f:u0h→u0h) (hf:∀x,(f x).1=x.1) (h:uq l):uq (l.map f):=by
 unfold uq;rw[Dl];simp only[hf];exact h
theorem j07 {t:u0h} :uq [t] :=Eu _ _
theorem j4z {l:Hu u0h} :uq l→ ∀x∈l,∀y∈l,x.1=y.1→x=y:=by
 induction l with
 | nil=>intro _ x hx;cases hx
 | cons z l ih=>
  intro h x hx y hy e
  have h' :=Ch.mp h
  rcases A8.mp hx with rfl | hx' <;>rcases A8.mp hy with rfl | hy'
  ·rfl
  ·exact absurd e (h'.1 y hy')
  ·exact absurd e.symm (h'.1 x hx')
  ·exact ih h'.2 x hx' y hy' e
theorem s38 {l:Hu u0h} {n:Int} :(∀x∈u43 l,x<n)↔ ∀t∈l,t.1<n:=by
 unfold u43
 constructor
 ·exact fun h t ht=>h _ (Bx.mpr ⟨t,ht,rfl⟩)
 ·intro h x hx
  obtain⟨t,ht,rfl⟩:=Bx.mp hx
  exact h t ht
theorem j4g {d x:u0h} (h:TxnR x) (hs:x.2.1=2):TxnR (q9z d x):=
 ⟨h.id,h.st,h.snap,h.rlen,h.ws,h.rs,h.done,h.nocs,h.name,h.noname,fun e=>by have e:x.2.1=1:=e;omega⟩
theorem o3d {b:u0j} {t:u0h} (ht:TxnR t) (hs:t.2.2.1≤b.2.2.2.1) (hc:b.2.2.2.1<9999):TxnR (s3b b t):=
 ⟨ht.id,⟨by show(1:Int)≤3;omega,by show(3:Int)≤3;omega⟩,ht.snap,ht.rlen,ht.ws,ht.rs,fun _=>⟨by show t.2.2.1+1≤b.2.2.2.1+1;omega,by show b.2.2.2.1+1≤9999;omega⟩,
   fun e=>absurd rfl e,fun e=>by have e:(3:Int)=2:=e;omega,fun _=>rfl,fun e=>by have e:(3:Int)=1:=e;omega⟩
theorem p9e {b:u0j} {t:u0h} {n:Hs} (ht:TxnR t) (hs:t.2.1≠3) (hn:u66 n=true):TxnR (u5m b t n):=
 ⟨ht.id,⟨by show(1:Int)≤2;omega,by show(2:Int)≤3;omega⟩,ht.snap,ht.rlen,ht.ws,ht.rs,fun e=>by have e:(2:Int)=3:=e;omega,
   fun _=>ht.nocs hs,fun _=>hn,fun e=>absurd rfl e,fun e=>by have e:(2:Int)=1:=e;omega⟩
theorem j0m {w:WrT} {c:Int} (h:u26 w=true) (h1:1≤c) (h2:c≤9999):q2t (w.1,w.2.1,w.2.2,c)=true:=by
 unfold u26 at h
 unfold q2t
 simp only[Ai,q6v] at h ⊢
 exact⟨h.1,h.2.1,h.2.2,h1,h2⟩
theorem o94 {l:Hu u2b} {ws:Hu WrT} {c:Int} (hl:u7n l=true) (hv:∀v∈l,v.2.2.2≤c) (hw:u4k ws=true) (h0:0≤c) (h9:c<9999) (hn:l.length≤112):
 u7n (t8a l ws (c+1))=true∧ ∀v∈t8a l ws (c+1),v.2.2.2≤c+1:=by
 obtain⟨h1,h2,h3⟩:=o85.mp hl
 obtain⟨w1,w2,w3⟩:=j08.mp hw
 refine⟨o85.mpr ⟨fun v h=> ?_,q46 ws h2 (o2n hw) fun x hx w _ q=>by have:=hv x hx;have:vCs x=c+1:=q.2;unfold vCs at this;omega,by rw[q47];omega⟩,fun v h=> ?_⟩
 ·rcases(t80 ws l (c+1)).mp h with h | ⟨w,hw,rfl⟩
  ·exact h1 v h
  ·exact j0m (w1 w hw) (by omega) (by omega)
 ·rcases(t80 ws l (c+1)).mp h with h | ⟨w,hw,rfl⟩
  ·have:=hv v h;omega
  ·exact Bv _
theorem o1k {n i:Int} (h:i<n):u1z n i=n:=Al h
theorem s1o (n i:Int):n≤u1z n i∧i<u1z n i:=by unfold u1z;split<;>omega
theorem o2g {b:u0j} {t:u0h} (hb:BaseR b) (ht:TxnR t) (hs:t.2.2.1≤b.2.2.2.1) (hc:b.2.2.2.1<9999) (hp:b.2.1.length<12) (hv:b.1.length≤112)
 (hid:∀x∈b.2.1,x.1≠t.1) (hn:t.1<9999):BaseR (u1n b t):=by
 have c0:=hb.cs.1
 obtain⟨v1,v2⟩:=o94 hb.vs hb.vcs ht.ws c0 hc hv
 have hu:=p6y.mp hb.nodup
 have hbl:=s38.mp hb.below
 obtain⟨u1,u2,u3⟩:=d0d.mp hu
 have hg:=s1o b.2.2.2.2 t.1
 have hnx:u1z b.2.2.2.2 t.1≤9999:=by have:=hb.next.2;unfold u1z;split<;>omega
 refine⟨v1,v2,⟨by show 0≤b.2.2.2.1+1;omega,by show b.2.2.2.1+1≤9999;omega⟩,⟨by show 1≤u1z b.2.2.2.2 t.1;have:=hb.next.1;omega,hnx⟩,?_,?_,?_,?_,?_,?_,?_,?_⟩
 ·show(b.2.1++ [s3b b t]).length≤12
  simp only[Ba,Aw];omega
 ·intro x hx
  rcases Ay.mp hx with hx | hx
  ·obtain⟨q1,q2,q3⟩:=hb.past x hx
   exact⟨q1,q2,by show x.2.2.2.1≤b.2.2.2.1+1;omega⟩
  ·rw[Ax] at hx
   subst hx
   exact⟨o3d ht hs hc,rfl,Bv _⟩
 ·show(b.2.1++ [s3b b t]).Pairwise _
  rw[Cg]
  refine⟨hb.pasc,Eu _ _,fun x hx y hy=> ?_⟩
  rw[Ax] at hy
  subst hy
  have:=(hb.past x hx).2.2
  show x.2.2.2.1<b.2.2.2.1+1
  omega
 ·show((b.2.2.1.filter _).map _).length≤3
  rw[Da]
  exact A9 (Cs _ _) hb.rlen
 ·intro x hx
  obtain⟨y,hy,rfl⟩:=Bx.mp hx
  obtain⟨q1,q2,q3⟩:=hb.ready y (A6.mp hy).1
  exact⟨j4g q1 q2,q2,by show y.2.2.1≤b.2.2.2.1+1;omega⟩
 ·show((b.2.2.1.filter _).map _).Pairwise _
  rw[Dl]
  exact(Dz _ hb.rasc)
 ·rw[s38]
  intro x hx
  show x.1<u1z b.2.2.2.2 t.1
  rcases Ay.mp hx with hx | hx
  ·rcases Ay.mp hx with hx | hx
   ·have:=hbl x (Bf _ hx);omega
   ·rw[Ax] at hx;subst hx;exact hg.2
  ·obtain⟨y,hy,rfl⟩:=Bx.mp hx
   have:=hbl y (Az _ (A6.mp hy).1)
   show y.1<_
   omega
 ·rw[p6y]
  refine d0d.mpr ⟨d0d.mpr ⟨u1,j07,fun x hx y hy=> ?_⟩,j4y _ (fun _=>rfl) (p3j u2 _),fun x hx y hy=> ?_⟩
  ·rw[Ax] at hy;subst hy;exact hid x hx
  ·obtain⟨z,hz,rfl⟩:=Bx.mp hy
   obtain⟨z1,z2⟩:=A6.mp hz
   show x.1≠z.1
   rcases Ay.mp hx with hx | hx
   ·exact u3 x hx z z1
   ·rw[Ax] at hx;subst hx
    intro e
    simp only[Bj,Bu] at z2
    exact z2 e.symm
theorem s1e {b:u0j} (hb:BaseR b) (o:Hu u0h):BaseR (u34 b o):=by
 obtain⟨h1,h2,h3⟩:=o85.mp hb.vs
 have sv:=u75 b.1 (t9w b o)
 have sp:(b.2.1.filter fun x=> !decide (x.2.2.2.1≤t9w b o)).Sublist b.2.1:=Fg
 have si:((b.2.1.filter fun x=> !decide (x.2.2.2.1≤t9w b o))++b.2.2.1).Sublist (b.2.1++b.2.2.1):=sp.append (Dm _)
 refine⟨o85.mpr ⟨fun v h=>h1 v (sv.subset h),h2.sublist sv,A9 sv.length_le h3⟩,fun v h=>hb.vcs v (sv.subset h),hb.cs,hb.next,A9 sp.length_le hb.plen,
  fun t h=>hb.past t (sp.subset h),hb.pasc.sublist sp,hb.rlen,hb.ready,hb.rasc,?_,?_⟩
 ·rw[s38]
  intro x hx
  exact s38.mp hb.below x (si.subset hx)
 ·rw[p6y]
  exact Ez si (p6y.mp hb.nodup)
theorem q2k {b:u0j} {t:u0h} {n:Hs} (hb:BaseR b) (ht:TxnR t) (h3:t.2.1≠3) (hs:t.2.2.1≤b.2.2.2.1) (hk:u66 n=true) (hl:b.2.2.1.length<3)
 (hn:∀x∈b.2.2.1,x.2.2.2.2.2.2.2≠n) (hid:∀x∈b.2.1++b.2.2.1,x.1≠t.1) (h9:t.1<9999):BaseR (u2r b t n):=by
 have hu:=p6y.mp hb.nodup
 have hbl:=s38.mp hb.below
 obtain⟨u1,u2,u3⟩:=d0d.mp hu
 have hg:=s1o b.2.2.2.2 t.1
 have hnx:u1z b.2.2.2.2 t.1≤9999:=by have:=hb.next.2;unfold u1z;split<;>omega
 have mem:∀ {x:u0h},x∈(b.2.2.1.filter fun x=>y3c x.2.2.2.2.2.2.2 n)++ [u5m b t n] ++(b.2.2.1.filter fun x=> !y3c x.2.2.2.2.2.2.2 n)→x∈b.2.2.1∨x=u5m b t n:=fun {x} hx=>by
  rcases Ay.mp hx with hx | hx
  ·rcases Ay.mp hx with hx | hx
   ·exact .inl (A6.mp hx).1
   ·rw[Ax] at hx;exact .inr hx
  ·exact .inl (A6.mp hx).1
 have len:∀(l:Hu u0h) (p:u0h→Bool),(l.filter p).length+(l.filter fun x=> !p x).length=l.length:=fun l p=>by
  induction l with
  | nil=>rfl
  | cons x l ih=>cases hp:p x<;>simp[Di,hp] <;>omega
 refine⟨hb.vs,hb.vcs,hb.cs,⟨by show 1≤u1z b.2.2.2.2 t.1;have:=hb.next.1;omega,hnx⟩,hb.plen,hb.past,hb.pasc,?_,?_,?_,?_,?_⟩
 ·show((b.2.2.1.filter fun x=>y3c x.2.2.2.2.2.2.2 n)++ [u5m b t n] ++(b.2.2.1.filter fun x=> !y3c x.2.2.2.2.2.2.2 n)).length≤3
  have:=len b.2.2.1 fun x=>y3c x.2.2.2.2.2.2.2 n
  simp only[Ba,Aw]
  omega
 ·intro x hx
  rcases mem hx with hx | rfl
  ·exact hb.ready x hx
  ·exact⟨p9e ht h3 hk,rfl,hs⟩
 ·show((b.2.2.1.filter fun x=>y3c x.2.2.2.2.2.2.2 n)++ [u5m b t n] ++(b.2.2.1.filter fun x=> !y3c x.2.2.2.2.2.2.2 n)).Pairwise _
  have up:∀y∈b.2.2.1,(!y3c y.2.2.2.2.2.2.2 n)=true→y3c n y.2.2.2.2.2.2.2=true:=fun y hy h=>by
   rcases q2q y.2.2.2.2.2.2.2 n with c | c | c
   ·rw[c] at h;cases h
   ·exact absurd c (hn y hy)
   ·exact c
  rw[Bi,Cg]
  refine⟨Dz _ hb.rasc,?_,?_⟩
  ·rw[Fs,Ch]
   refine⟨fun y hy=> ?_,Dz _ hb.rasc⟩
   obtain⟨y1,y2⟩:=A6.mp hy
   exact up y y1 y2
  ·intro x hx y hy
   obtain⟨x1,x2⟩:=A6.mp hx
   rcases Ay.mp hy with hy | hy
   ·rw[Ax] at hy;subst hy;exact x2
   ·obtain⟨y1,y2⟩:=A6.mp hy
    exact q5d x2 (up y y1 y2)
 ·rw[s38]
  intro x hx
  show x.1<u1z b.2.2.2.2 t.1
  rcases Ay.mp hx with hx | hx
  ·have:=hbl x (Bf _ hx);omega
  ·rcases mem hx with hx | rfl
   ·have:=hbl x (Az _ hx);omega
   ·exact hg.2
 ·rw[p6y]
  refine d0d.mpr ⟨u1,?_,fun x hx y hy=> ?_⟩
  ·show uq ((b.2.2.1.filter fun x=>y3c x.2.2.2.2.2.2.2 n)++ [u5m b t n] ++(b.2.2.1.filter fun x=> !y3c x.2.2.2.2.2.2.2 n))
   rw[Bi]
   refine d0d.mpr ⟨p3j u2 _,?_,fun x hx y hy=> ?_⟩
   ·rw[Fs]
    refine Ch.mpr ⟨fun y hy=> ?_,p3j u2 _⟩
    exact(hid y (Az _ (A6.mp hy).1)).symm
   ·obtain⟨x1,x2⟩:=A6.mp hx
    rcases Ay.mp hy with hy | hy
    ·rw[Ax] at hy;subst hy
     exact hid x (Az _ x1)
    ·obtain⟨y1,y2⟩:=A6.mp hy
     intro e
     have:=j4z u2 x x1 y y1 e
     subst this
     rw[x2] at y2;cases y2
  ·rcases mem hy with hy | rfl
   ·exact u3 x hx y hy
   ·exact hid x (Bf _ hx)
theorem p2l {b:u0j} (hb:BaseR b) (n:Hs):BaseR (t7n b n):=by
 have sp:(b.2.2.1.filter fun x=> !z7o x.2.2.2.2.2.2.2 n).Sublist b.2.2.1:=Fg
 have si:(b.2.1++(b.2.2.1.filter fun x=> !z7o x.2.2.2.2.2.2.2 n)).Sublist (b.2.1++b.2.2.1):=(Dm _).append sp
 refine⟨hb.vs,hb.vcs,hb.cs,hb.next,hb.plen,hb.past,hb.pasc,A9 sp.length_le hb.rlen,fun t h=>hb.ready t (sp.subset h),hb.rasc.sublist sp,?_,?_⟩
 ·rw[s38]
  intro x hx
  exact s38.mp hb.below x (si.subset hx)
 ·rw[p6y]
  exact Ez si (p6y.mp hb.nodup)
end
section
def j54 (id snap:Int):u0h:=(id,(1:Int),snap,(0:Int), [], [],false,(⟨#[]⟩:Hs))
def j01 (e:u3a):u3a:=((e.1.1,e.1.2.1,e.1.2.2.1,e.1.2.2.2.1,e.1.2.2.2.2+1),e.2++ [j54 e.1.2.2.2.2 e.1.2.2.2.1])
def o30 (e:u3a) (k:Nat) (t:u0h):u3a:=(e.1,e.2.set k t)
def r75 (e:u3a) (id:Int):Hu u0h:=e.2.filter fun x=> !decide (x.1=id)
def s9x (e:u3a) (id:Int):u3a:=(u34 e.1 (r75 e id),r75 e id)
def p05 (e:u3a) (t:u0h):u3a:=(u34 (u1n e.1 t) (r75 e t.1),r75 e t.1)
def o78 (e:u3a) (t:u0h) (n:Hs):u3a:=(u34 (u2r e.1 t n) (r75 e t.1),r75 e t.1)
def j7l (e:u3a) (t:u0h):u3a:=(u34 (u1n e.1 t) e.2,e.2)
def noE (e:u3a) (n:Hs):u3a:=(u34 (t7n e.1 n) e.2,e.2)
theorem EngR.uq {e:u3a} (h:EngR e):uq (e.1.2.1++e.1.2.2.1++e.2):=p6y.mp h.nodup
theorem EngR.bel {e:u3a} (h:EngR e):∀t∈e.1.2.1++e.1.2.2.1++e.2,t.1<e.1.2.2.2.2:=s38.mp h.below
theorem EngR.apart {e:u3a} (h:EngR e):∀x∈e.1.2.1++e.1.2.2.1,∀y∈e.2,x.1≠y.1:=(d0d.mp h.uq).2.2
theorem EngR.uqo {e:u3a} (h:EngR e):Ab.uq e.2:=(d0d.mp h.uq).2.1
theorem o1i {e:u3a} {b:u0j} {o:Hu u0h} (h:EngR e) (hb:BaseR b) (ho:o.Sublist e.2) (hc:e.1.2.2.2.1≤b.2.2.2.1) (hn:e.1.2.2.2.2≤b.2.2.2.2) (hu:∀x∈b.2.1++b.2.2.1,∀y∈o,x.1≠y.1):EngR (b,o):=by
 refine⟨hb,A9 ho.length_le h.olen,fun t ht=> ?_,h.oasc.sublist ho,?_,?_⟩
 ·obtain⟨q1,q2,q3⟩:=h.open_ t (ho.subset ht)
  exact⟨q1,q2,by show t.2.2.1≤b.2.2.2.1;omega⟩
 ·rw[s38]
  intro x hx
  rcases Ay.mp hx with hx | hx
  ·exact s38.mp hb.below x hx
  ·have:=h.bel x (Az _ (ho.subset hx))
   show x.1<b.2.2.2.2
   omega
 ·rw[p6y]
  exact d0d.mpr ⟨p6y.mp hb.nodup,Ez ho h.uqo,hu⟩
theorem s93 {b:u0j} {o:Hu u0h} {x:u0h} (h:x∈(u34 b o).2.1++(u34 b o).2.2.1):x∈b.2.1++b.2.2.1:=by
 rcases Ay.mp h with h | h
 ·exact Bf _ (A6.mp h).1
 ·exact Az _ h
theorem r1w (e:u3a) (id:Int):(r75 e id).Sublist e.2:=Fg
theorem o8f {e:u3a} {id:Int} {x:u0h} (h:x∈r75 e id):x.1≠id:=by
 have:=(A6.mp h).2
 simpa using this
theorem j1w {e:u3a} (h:EngR e) (hl:e.2.length<4) (hn:e.1.2.2.2.2<9999):EngR (j01 e):=by
 have hb:=h.base
 have n1:=hb.next.1
 have hT:TxnR (j54 e.1.2.2.2.2 e.1.2.2.2.1):=
  ⟨⟨n1,by show e.1.2.2.2.2≤9999;omega⟩,⟨by show(1:Int)≤1;omega,by show(1:Int)≤3;omega⟩,hb.cs,Cn _,rfl,fun r hr=>(by cases hr),fun e=>by have e:(1:Int)=3:=e;omega,fun _=>rfl,fun e=>by have e:(1:Int)=2:=e;omega,fun _=>rfl,fun _=>rfl⟩
 have hbel:=h.bel
 refine⟨⟨hb.vs,hb.vcs,hb.cs,⟨by show 1≤e.1.2.2.2.2+1;omega,by show e.1.2.2.2.2+1≤9999;omega⟩,hb.plen,hb.past,hb.pasc,hb.rlen,hb.ready,hb.rasc,?_,hb.nodup⟩,?_,?_,?_,?_,?_⟩
 ·rw[s38]
  intro x hx
  have:=hbel x (Bf _ hx)
  show x.1<e.1.2.2.2.2+1
  omega
 ·show(e.2++ [_]).length≤4
  simp only[Ba,Aw];omega
 ·intro t ht
  rcases Ay.mp ht with ht | ht
  ·exact h.open_ t ht
  ·rw[Ax] at ht;subst ht
   exact⟨hT,rfl,Bv _⟩
 ·show(e.2++ [_]).Pairwise _
  rw[Cg]
  refine⟨h.oasc,Eu _ _,fun x hx y hy=> ?_⟩
  rw[Ax] at hy;subst hy
  exact hbel x (Az _ hx)
 ·rw[s38]
  intro x hx
  show x.1<e.1.2.2.2.2+1
  have hx:x∈e.1.2.1++e.1.2.2.1++(e.2++ [j54 e.1.2.2.2.2 e.1.2.2.2.1]):=hx
  rw[←Bi] at hx
  rcases Ay.mp hx with hx | hx
  ·have:=hbel x hx;omega
  ·rw[Ax] at hx;subst hx
   show e.1.2.2.2.2<_
   omega
 ·rw[p6y]
  show uq (e.1.2.1++e.1.2.2.1++(e.2++ [j54 e.1.2.2.2.2 e.1.2.2.2.1]))
  rw[←Bi]
  refine d0d.mpr ⟨h.uq,j07,fun x hx y hy=> ?_⟩
  rw[Ax] at hy;subst hy
  have:=hbel x hx
  show x.1≠e.1.2.2.2.2
  omega
theorem o1g {α β:Type} (f:α→β) (l:Hu α) (k:Nat) (a:α) (h:k<l.length) (ha:f a=f l[k]):(l.set k a).map f=l.map f:=by
 apply Gw (by simp)
 intro i h1 h2
 simp only[F6,List.getElem_set]
 split
 ·rename_i e;subst e;exact ha
 ·rfl
theorem p9h {α:Type} {l:Hu α} {k:Nat} {a x:α} (h:x∈l.set k a):x∈l∨x=a:=E0 h
theorem o2a {e:u3a} (h:EngR e) {k:Nat} (hk:k<e.2.length) {t:u0h} (ht:TxnR t) (h1:t.1=e.2[k].1) (h2:t.2.1=1) (h3:t.2.2.1=e.2[k].2.2.1):EngR (o30 e k t):=by
 have hm:u43 (e.2.set k t)=u43 e.2:=o1g _ _ _ _ hk h1
 have hid:u43 (e.1.2.1++e.1.2.2.1++e.2.set k t)=u43 (e.1.2.1++e.1.2.2.1++e.2):=by
  have:∀a b:Hu u0h,u43 (a++b)=u43 a++u43 b:=fun a b=>by simp[u43]
  rw[this,hm,←this]
 refine⟨h.base,by show(e.2.set k t).length≤4;rw[Dq];exact h.olen,fun x hx=> ?_,?_,?_,?_⟩
 ·rcases p9h hx with hx | rfl
  ·exact h.open_ x hx
  ·have:=(h.open_ _ (Ag hk)).2.2
   exact⟨ht,h2,by rw[h3];exact this⟩
 ·have q:(u43 (e.2.set k t)).Pairwise fun a b=>a<b:=by
   rw[hm];unfold u43;rw[Dl];exact h.oasc
  unfold u43 at q
  rw[Dl] at q
  exact q
 ·show ∀x∈u43 (e.1.2.1++e.1.2.2.1++e.2.set k t),x<e.1.2.2.2.2
  rw[hid];exact h.below
 ·show(u43 (e.1.2.1++e.1.2.2.1++e.2.set k t)).Nodup
  rw[hid];exact h.nodup
theorem j2b {e:u3a} (h:EngR e) (id:Int):EngR (s9x e id):=
 o1i h (s1e h.base _) (r1w e id) (Bv _) (Bv _) fun x hx y hy=>h.apart x (s93 hx) y ((r1w e id).subset hy)
theorem p80 {b:u0j} (h:q6t b=false):b.2.1.length<12∧b.1.length≤100∧b.2.2.2.1<9999:=by
 unfold q6t at h
 simp only[Es,Bu] at h
 obtain⟨h1,h2,h3⟩:=h
 exact⟨by omega,by omega,by omega⟩
theorem r8y {e:u3a} (h:EngR e) {t:u0h} (ht:t∈e.2∨t∈e.1.2.2.1) (hf:q6t e.1=false):BaseR (u1n e.1 t):=by
 obtain⟨f1,f2,f3⟩:=p80 hf
 have hq:TxnR t∧t.2.2.1≤e.1.2.2.2.1:=by
  rcases ht with ht | ht
  ·exact⟨(h.open_ t ht).1,(h.open_ t ht).2.2⟩
  ·exact⟨(h.base.ready t ht).1,(h.base.ready t ht).2.2⟩
 have hlt:t.1<e.1.2.2.2.2:=by
  rcases ht with ht | ht
  ·exact h.bel t (Az _ ht)
  ·exact h.bel t (Bf _ (Az _ ht))
 refine o2g h.base hq.1 hq.2 f3 f1 (by omega) (fun x hx=> ?_) (by have:=h.base.next.2;omega)
 rcases ht with ht | ht
 ·exact h.apart x (Bf _ hx) t ht
 ·exact(d0d.mp (d0d.mp h.uq).1).2.2 x hx t ht
theorem p3i {b:u0j} {t x:u0h} (h:x∈(u1n b t).2.1++(u1n b t).2.2.1):x.1=t.1∨ ∃y∈b.2.1++b.2.2.1,y.1=x.1:=by
 rcases Ay.mp h with h | h
 ·rcases Ay.mp h with h | h
  ·exact .inr ⟨x,Bf _ h,rfl⟩
  ·rw[Ax] at h;subst h;exact .inl rfl
 ·obtain⟨y,hy,rfl⟩:=Bx.mp h
  exact .inr ⟨y,Az _ (A6.mp hy).1,rfl⟩
theorem o9m {e:u3a} (h:EngR e) {t:u0h} (ht:t∈e.2) (hf:q6t e.1=false):EngR (p05 e t):=by
 have hg:=s1o e.1.2.2.2.2 t.1
 refine o1i h (s1e (r8y h (.inl ht) hf) _) (r1w e t.1) (by show e.1.2.2.2.1≤e.1.2.2.2.1+1;omega) hg.1 fun x hx y hy=> ?_
 rcases p3i (s93 hx) with q | ⟨z,hz,q⟩
 ·rw[q];exact(o8f hy).symm
 ·rw[←q];exact h.apart z hz y ((r1w e t.1).subset hy)
theorem j7m {e:u3a} (h:EngR e) {t:u0h} (ht:t∈e.1.2.2.1) (hf:q6t e.1=false):EngR (j7l e t):=by
 have hg:=s1o e.1.2.2.2.2 t.1
 refine o1i h (s1e (r8y h (.inr ht) hf) _) (Dm _) (by show e.1.2.2.2.1≤e.1.2.2.2.1+1;omega) hg.1 fun x hx y hy=> ?_
 rcases p3i (s93 hx) with q | ⟨z,hz,q⟩
 ·rw[q];exact h.apart t (Az _ ht) y hy
 ·rw[←q];exact h.apart z hz y hy
theorem d0x {e:u3a} (h:EngR e) (n:Hs):EngR (noE e n):=by
 refine o1i h (s1e (p2l h.base n) _) (Dm _) (Bv _) (Bv _) fun x hx y hy=> ?_
 rcases Ay.mp (s93 hx) with hx | hx
 ·exact h.apart x (Bf _ hx) y hy
 ·exact h.apart x (Az _ (A6.mp hx).1) y hy
theorem j4w {e:u3a} (h:EngR e) {t:u0h} (ht:t∈e.2) {n:Hs} (hk:u66 n=true) (hl:e.1.2.2.1.length<3) (hn:∀x∈e.1.2.2.1,x.2.2.2.2.2.2.2≠n):EngR (o78 e t n):=by
 obtain⟨q1,q2,q3⟩:=h.open_ t ht
 have hlt:=h.bel t (Az _ ht)
 have hg:=s1o e.1.2.2.2.2 t.1
 have hb:BaseR (u2r e.1 t n):=q2k h.base q1 (by omega) q3 hk hl hn (fun x hx=>h.apart x hx t ht) (by have:=h.base.next.2;omega)
 refine o1i h (s1e hb _) (r1w e t.1) (Bv _) hg.1 fun x hx y hy=> ?_
 have hy' :=(r1w e t.1).subset hy
 rcases Ay.mp (s93 hx) with hx | hx
 ·exact h.apart x (Bf _ hx) y hy'
 ·rcases Ay.mp hx with hx | hx
  ·rcases Ay.mp hx with hx | hx
   ·exact h.apart x (Az _ (A6.mp hx).1) y hy'
   ·rw[Ax] at hx;subst hx;exact(o8f hy).symm
  ·exact h.apart x (Az _ (A6.mp hx).1) y hy'
end
section
def s24 (n:Nat):Hu Int:=if h:n<128 then[(n:Int)] else((n % 128+128:Nat):Int)::s24 (n / 128)
termination_by n
decreasing_by omega
theorem r79 {n:Nat} (h:n<128):s24 n= [(n:Int)] :=by rw[s24,dif_pos h]
theorem q67 {n:Nat} (h: ¬n<128):s24 n=((n % 128+128:Nat):Int)::s24 (n / 128):=by rw[s24,dif_neg h]
theorem o5b (n:Nat):(s24 n).length≤n+1:=by
 induction n using Nat.strongRecOn with
 | _ n ih=>
  by_cases h:n<128
  ·rw[r79 h];simp
  ·rw[q67 h]
   have:=ih (n / 128) (by omega)
   simp only[Bc];omega
theorem o5c {S:Type} {W:Int×Hu Int→Ht ((Int×Hu Int)⊕S)}
 (hW:∀x,W x=(bif (decide (x.1 >(127:Int))) then(bif (Nat.ble (x.2.length+([(IntKind.u8.wrap (IntKind.i64.wrap ((Int.tmod x.1 (128:Int))+(128:Int))))] :Hu Int).length) z7w) then
  (W ((IntKind.i64.wrap (Int.tdiv x.1 (128:Int))),(x.2++([(IntKind.u8.wrap (IntKind.i64.wrap ((Int.tmod x.1 (128:Int))+(128:Int))))] :Hu Int)))) else none) else(some (.inl x)))):
 ∀(n:Nat) (acc:Hu Int),acc.length+n≤1000000000000→ ∃m:Nat,∃acc' :Hu Int,W ((n:Int),acc)=some (.inl ((m:Int),acc'))∧m<128∧acc' ++ [(m:Int)] =acc++s24 n∧acc'.length≤acc.length+n:=by
 intro n
 induction n using Nat.strongRecOn with
 | _ n ih=>
  intro acc hn
  rw[hW]
  by_cases h:n<128
  ·have:decide ((n:Int) >(127:Int))=false:=by simp;omega
   simp only[this,Aa]
   exact⟨n,acc,rfl,h,by rw[r79 h],by omega⟩
  ·have h1:decide ((n:Int) >(127:Int))=true:=by simp;omega
   have h2:Int.tmod (n:Int) (128:Int)=((n % 128:Nat):Int):=o34 n 128
   have h3:Int.tdiv (n:Int) (128:Int)=((n / 128:Nat):Int):=j2n n 128
   have h4:IntKind.u8.wrap (IntKind.i64.wrap (((n % 128:Nat):Int)+(128:Int)))=((n % 128+128:Nat):Int):=by
    rw[y4y (by omega) (by omega)]
    have:((n % 128:Nat):Int)+128=((n % 128+128:Nat):Int):=by simp
    rw[this,j0o (by omega)]
   simp only[h1,h2,h3,h4,Ad,Aw,u0r (show acc.length+1≤1099511627776 by omega)]
   rw[y8b (by omega)]
   obtain⟨m,acc',e1,e2,e3,e4⟩:=ih (n / 128) (by omega) (acc++ [((n % 128+128:Nat):Int)]) (by simp;omega)
   refine⟨m,acc',e1,e2,?_,?_⟩
   ·rw[e3,q67 h,Bi];rfl
   ·have:(acc++ [((n % 128+128:Nat):Int)]).length=acc.length+1:=by simp
    omega
theorem p2q (n:Nat) (hn:n≤100000000000):u10 (n:Int)=some (y7g (s24 n)):=by
 rw[p8k];unfold q3y
 obtain⟨m,acc',e1,e2,e3,e4⟩:=o5c (W:=t8y) (fun x=>p3l x) n [] (by simp;omega)
 have e4:acc'.length≤n:=by simpa using e4
 simp only[e1,zOb,Aw,u0r (show acc'.length+1≤1099511627776 by omega),Ad]
 rw[j0o (by omega),e3];rfl
theorem r5s (n:Int):t1i n=some (if 0≤n∧n≤1000000000 then(y7g (s24 n.toNat),true) else(emp,false)):=by
 rw[p4d];unfold r9y
 simp only[t9t,s7p,zOb]
 by_cases h:0≤n∧n≤1000000000
 ·obtain⟨m,rfl⟩:∃m:Nat,n=m:=⟨n.toNat,by omega⟩
  obtain⟨k,acc',e1,e2,e3,e4⟩:=o5c (W:=t63) (fun x=>q92 x) m [] (by simp;omega)
  have e4:acc'.length≤m:=by simpa using e4
  rw[Bb h,Al h]
  simp only[e1,zOb,Ap,Aa,Aw,u0r (show acc'.length+1≤1099511627776 by omega),Ad]
  rw[j0o (by omega),e3];rfl
 ·rw[A7 h,Ao h];rfl
def r1z:Nat→Nat→Nat→Hu UInt8→Ht (Nat×Nat)
 | 0,_,_,_=>none
 | _+1,_,_, [] =>none
 | f+1,i,n,b::l=>
  if b.toNat<128 then(if n+b.toNat % 128*128^i≤1000000000∧(s24 (n+b.toNat % 128*128^i)).length=i+1 then some (n+b.toNat % 128*128^i,i+1) else none)
  else r1z f (i+1) (n+b.toNat % 128*128^i) l
def q5n (at_:Int) (r:Ht (Nat×Nat)):Int×Int×Bool:=match r with
 | some (n,k)=>((n:Int),at_+(k:Int),true)
 | none=>(0,0,false)
def u0t (t:Hs) (at_:Int):Int×Int×Bool:=if 0≤at_∧at_≤t.size then q5n at_ (r1z 5 0 0 (t.data.toList.drop at_.toNat)) else(0,0,false)
theorem p9l:∀(f i n:Nat) (l:Hu UInt8) (v k:Nat),r1z f i n l=some (v,k)→v≤1000000000∧k≤i+l.length∧i<k
 | 0,_,_,_,_,_,h=>by cases h
 | _+1,_,_, [],_,_,h=>by cases h
 | f+1,i,n,b::l,v,k,h=>by
  simp only[r1z] at h
  split at h
  ·split at h
   ·rename_i h2
    simp only[Ac,Ak] at h
    obtain⟨rfl,rfl⟩:=h
    exact⟨h2.1,by simp,by omega⟩
   ·cases h
  ·have:=p9l f (i+1) _ l v k h
   simp only[Bc]
   omega
theorem t78 {t:Hs} {at_:Int} (h:(u0t t at_).2.2=true):0≤(u0t t at_).1∧(u0t t at_).1≤1000000000∧0≤at_∧at_<(u0t t at_).2.1∧(u0t t at_).2.1≤t.size:=by
 unfold u0t at h ⊢
 split at h
 ·rename_i hc
  rw[Al hc]
  cases hv:r1z 5 0 0 (t.data.toList.drop at_.toNat) with
  | none=>rw[hv] at h;cases h
  | some r=>
   obtain⟨v,k⟩:=r
   have:=p9l 5 0 0 _ v k hv
   have hl:(t.data.toList.drop at_.toNat).length=t.size - at_.toNat:=by simp
   simp only[q5n]
   omega
 ·cases h
theorem j4u (i:Nat) (h:i<5):(2:Int)^(min (IntKind.i64.wrap (7*(i:Int))).toNat IntKind.i64.bits)=((128^i:Nat):Int):=by
 rcases i with _ | _ | _ | _ | _ | i
 all_goals first | rfl | omega
theorem j04 (i:Nat) (h:i≤5):128^i≤34359738368:=by
 rcases i with _ | _ | _ | _ | _ | _ | i
 all_goals first | decide | omega
theorem q7g (t:Hs) (at_:Int) (ht:t.size≤u0k):s00 (t,at_)=some (u0t t at_):=by
 unfold u0k at ht
 rw[p35];unfold r9q u0t
 simp only[t9t,s7p,zOb]
 by_cases h:0≤at_∧at_≤t.size
 ·obtain⟨p,rfl⟩:∃p:Nat,at_=p:=⟨at_.toNat,by omega⟩
  have hp:p≤t.size:=by omega
  rw[Bb h,Al h]
  have L:∀(f i n:Nat),i+f=5→n<128^i→p+i≤t.size→((t6z (t,(p:Int),(n:Int),(i:Int))).bind fun r=>match r with
   | .inl o=>some ((0:Int),(0:Int),false)
   | .inr z=>some z)=some (q5n p (r1z f i n (t.data.toList.drop (p+i)))):=by
   intro f
   induction f with
   | zero=>
    intro i n hi hn hpi
    have:i=5:=by omega
    subst this
    rw[r4m];simp only[t55]
    rfl
   | succ f ih=>
    intro i n hi hn hpi
    have hi5:i<5:=by omega
    have hpw:=j04 i (by omega)
    rw[r4m];simp only[t55]
    have w1:IntKind.i64.wrap ((p:Int)+(i:Int))=((p+i:Nat):Int):=by rw[y4y (by omega) (by omega)];simp
    have e1:decide ((i:Int)<(5:Int))=true:=by simp;omega
    by_cases hlt:p+i<t.size
    ·have hd:t.data.toList.drop (p+i)=(t.data.toList[p+i]'(by simpa using hlt))::t.data.toList.drop (p+i+1):=Ce (by simpa using hlt)
     have hb:(t.data.toList[p+i]'(by simpa using hlt)).toNat<256:=Fw _
     rw[hd]
     generalize hc:(t.data.toList[p+i]'(by simpa using hlt))=c at hb
     have e2:decide (((p+i:Nat):Int)<(t.size:Int))=true:=by simp;omega
     have e3:decide (0≤IntKind.i64.wrap (7*(i:Int)))=true:=by rw[y4y (by omega) (by omega)];simp;omega
     have t2:Int.tmod ((c.toNat:Nat):Int) (128:Int)=((c.toNat % 128:Nat):Int):=o34 _ 128
     have hm:c.toNat % 128*128^i≤127*34359738368:=Ei (by omega) hpw
     have w2:IntKind.i64.wrap (((c.toNat % 128:Nat):Int)*((128^i:Nat):Int))=((c.toNat % 128*128^i:Nat):Int):=by
      rw[←Int.natCast_mul];exact y8b (by omega)
     have w3:IntKind.i64.wrap ((n:Int)+((c.toNat % 128*128^i:Nat):Int))=((n+c.toNat % 128*128^i:Nat):Int):=by
      rw[←Int.natCast_add];exact y8b (by omega)
     simp only[e1,Ad,zOb,w1,e2,y7t hlt,e3,zTn,o4q hlt,hc,y8b (show c.toNat≤4611686018427387904 by omega),t2,j4u i hi5,w2,w3,r1z]
     by_cases hc1:c.toNat<128
     ·have e4:decide (((c.toNat:Nat):Int)<(128:Int))=true:=by simp;omega
      simp only[e4,Ad,Al hc1,r5s,zOb]
      have wi:IntKind.i64.wrap ((i:Int)+1)=((i+1:Nat):Int):=y7l (by omega)
      by_cases hv:n+c.toNat % 128*128^i≤1000000000
      ·rw[Al (show(0:Int)≤((n+c.toNat % 128*128^i:Nat):Int)∧((n+c.toNat % 128*128^i:Nat):Int)≤1000000000 by omega)]
       simp only[Ap,Aa,zTn,u3q,wi,zOb]
       by_cases hl:(s24 (n+c.toNat % 128*128^i)).length=i+1
       ·rw[Al ⟨hv,hl⟩,hl]
        simp only[Ae,Ap,Aa,zOb,q5n]
        rw[y4y (by omega) (by omega)]
        simp[Int.add_assoc]
       ·rw[Ao (fun hh=>hl hh.2)]
        rw[A7 (show ¬(((s24 (n+c.toNat % 128*128^i)).length:Nat):Int)=((i+1:Nat):Int) by omega)]
        rfl
      ·rw[Ao (show ¬((0:Int)≤((n+c.toNat % 128*128^i:Nat):Int)∧((n+c.toNat % 128*128^i:Nat):Int)≤1000000000) by omega),Ao (fun hh=>hv hh.1)]
       rfl
     ·have e4:decide (((c.toNat:Nat):Int)<(128:Int))=false:=by simp;omega
      simp only[e4,Aa,Ao hc1]
      rw[y7l (by omega)]
      have:=ih (i+1) (n+c.toNat % 128*128^i) (by omega) (by
       have:128^(i+1)=128^i*128:=Gr 128 i
       have h2:c.toNat % 128*128^i≤127*128^i:=Ei (by omega) (Au _)
       omega) (by omega)
      exact this
    ·have e2:decide (((p+i:Nat):Int)<(t.size:Int))=false:=by simp;omega
     have hd:t.data.toList.drop (p+i)= [] :=Dp (by simp;omega)
     rw[hd]
     simp only[e1,Ad,w1,e2,zOb,Aa,r1z]
     rfl
  exact L 5 0 0 rfl (by decide) (by omega)
 ·rw[A7 h,Ao h];rfl
def p6z:Hu UInt8→Nat
 | [] =>0
 | b::l=>b.toNat % 128+128*p6z l
theorem o8p (l:Hu UInt8) (b:UInt8):p6z (l++ [b])=p6z l+b.toNat % 128*128^l.length:=by
 induction l with
 | nil=>simp[p6z]
 | cons x l ih=>
  simp only[Ef,p6z,ih,Bc,Gr]
  rw[Nat.mul_add]
  have:128*(b.toNat % 128*128^l.length)=b.toNat % 128*(128^l.length*128):=by
   rw[Fk 128,Nat.mul_assoc]
  omega
theorem j2q (l:Hu UInt8) (b:UInt8) (hl:∀x∈l,¬x.toNat<128) (hb:b.toNat<128) (h:(s24 (p6z (l++ [b]))).length=l.length+1):s24 (p6z (l++ [b]))=(l++ [b]).map fun x=>(x.toNat:Int):=by
 induction l with
 | nil=>
  have:p6z ([] ++ [b])=b.toNat:=by simp[p6z];omega
  rw[this,r79 hb];rfl
 | cons x l ih=>
  have hx:x.toNat<256:=Fw x
  have hx2:=hl x (by simp)
  simp only[Ef,p6z] at h ⊢
  by_cases hs:x.toNat % 128+128*p6z (l++ [b])<128
  ·rw[r79 hs] at h
   simp at h
  ·rw[q67 hs] at h ⊢
   have e1:(x.toNat % 128+128*p6z (l++ [b])) / 128=p6z (l++ [b]):=by omega
   have e2:(x.toNat % 128+128*p6z (l++ [b])) % 128+128=x.toNat:=by omega
   rw[e1] at h ⊢
   rw[e2]
   simp only[Bc,Nat.add_right_cancel_iff] at h
   rw[ih (fun y hy=>hl y (by simp[hy])) h]
   rfl
theorem j0f (l:Hu UInt8):y7g (l.map fun x=>(x.toNat:Int))=⟨l.toArray⟩:=by
 unfold y7g
 simp only[List.map_map]
 have:(l.map ((fun n=>UInt8.ofNat n.toNat) ∘fun b=>(b.toNat:Int)))=l:=by
  conv=>rhs;rw[←List.map_id l]
  apply Ff
  intro b _
  simp
 rw[this]
theorem q8c (t:Hs) (a b:Nat) (h:b≤t.size):t.extract a b=⟨((t.data.toList.drop a).take (b - a)).toArray⟩:=by
 apply Gf
 simp only[ByteArray.data_extract]
 apply Fj
 simp[F7]
theorem j4k {q:Nat} (h:q≤1000000000):decide ((q:Int) >(1000000000:Int))=false:=by simp;omega
theorem j4h {q:Nat} (h: ¬q≤1000000000):decide ((q:Int) >(1000000000:Int))=true:=by simp;omega
theorem q7h (t:Hs) (at_:Int) (ht:t.size≤u0k):s07 (t,at_)=some (u0t t at_):=by
 unfold u0k at ht
 rw[p4v];unfold q0g u0t
 simp only[s0v,s7p,zOb]
 by_cases h:0≤at_∧at_≤t.size
 ·obtain⟨p,rfl⟩:∃p:Nat,at_=p:=⟨at_.toNat,by omega⟩
  have hp:p≤t.size:=by omega
  rw[Bb h,Al h]
  have L:∀(f i:Nat),i+f=5→p+i≤t.size→(∀x∈(t.data.toList.drop p).take i,¬x.toNat<128)→p6z ((t.data.toList.drop p).take i)<128^i→
   ((t65 (t,(p:Int),((p6z ((t.data.toList.drop p).take i):Nat):Int),((128^i:Nat):Int),((p+i:Nat):Int))).bind fun r=>match r with
   | .inl o=>some ((0:Int),(0:Int),false)
   | .inr z=>some z)=some (q5n p (r1z f i (p6z ((t.data.toList.drop p).take i)) (t.data.toList.drop (p+i)))):=by
   intro f
   induction f with
   | zero=>
    intro i hi hpi hall hn
    have:i=5:=by omega
    subst this
    rw[r45];simp only[t6n]
    have e1:decide (((p+5:Nat):Int)<IntKind.i64.wrap ((p:Int)+5))=false:=by rw[y4y (by omega) (by omega)];simp
    rw[e1]
    cases decide (((p+5:Nat):Int)<(t.size:Int))<;>rfl
   | succ f ih=>
    intro i hi hpi hall hn
    have hi5:i<5:=by omega
    have hpw:=j04 i (by omega)
    rw[r45];simp only[t6n]
    have e1:decide (((p+i:Nat):Int)<IntKind.i64.wrap ((p:Int)+5))=true:=by rw[y4y (by omega) (by omega)];simp;omega
    by_cases hlt:p+i<t.size
    ·have hd:t.data.toList.drop (p+i)=(t.data.toList[p+i]'(by simpa using hlt))::t.data.toList.drop (p+i+1):=Ce (by simpa using hlt)
     have hb:(t.data.toList[p+i]'(by simpa using hlt)).toNat<256:=Fw _
     have htk:(t.data.toList.drop p).take (i+1)=(t.data.toList.drop p).take i++ [t.data.toList[p+i]'(by simpa using hlt)] :=by
      rw[B9 (by simp;omega)]
      simp
     have htl:((t.data.toList.drop p).take i).length=i:=by simp;omega
     have hvs:=o8p ((t.data.toList.drop p).take i) (t.data.toList[p+i]'(by simpa using hlt))
     rw[htl] at hvs
     rw[hd]
     generalize hc:(t.data.toList[p+i]'(by simpa using hlt))=c at hb htk hvs
     generalize hn' :p6z ((t.data.toList.drop p).take i)=n at hn hvs ⊢
     have e2:decide (((p+i:Nat):Int)<(t.size:Int))=true:=by simp;omega
     have t2:Int.tmod ((c.toNat:Nat):Int) (128:Int)=((c.toNat % 128:Nat):Int):=o34 _ 128
     have hm:c.toNat % 128*128^i≤127*34359738368:=Ei (by omega) hpw
     have w2:IntKind.i64.wrap (((c.toNat % 128:Nat):Int)*((128^i:Nat):Int))=((c.toNat % 128*128^i:Nat):Int):=by
      rw[←Int.natCast_mul];exact y8b (by omega)
     have w3:IntKind.i64.wrap ((n:Int)+((c.toNat % 128*128^i:Nat):Int))=((n+c.toNat % 128*128^i:Nat):Int):=by
      rw[←Int.natCast_add];exact y8b (by omega)
     have wp:IntKind.i64.wrap (((p+i:Nat):Int)+1)=((p+i+1:Nat):Int):=y7l (by omega)
     have ws:IntKind.i64.wrap (((128^i:Nat):Int)*128)=((128^(i+1):Nat):Int):=by
      rw[Gr,Int.natCast_mul]
      exact y4y (by omega) (by omega)
     simp only[e1,e2,Ad,zOb,y7t hlt,zTn,o4q hlt,hc,y8b (show c.toNat≤4611686018427387904 by omega),t2,w2,w3,wp,ws,r1z]
     by_cases hc1:c.toNat<128
     ·have e4:decide (((c.toNat:Nat):Int)<(128:Int))=true:=by simp;omega
      simp only[e4,Ad,Al hc1]
      by_cases hv:n+c.toNat % 128*128^i≤1000000000
      ·have e5:decide (((n+c.toNat % 128*128^i:Nat):Int) >(1000000000:Int))=false:=j4k hv
       have e6:(decide (0≤(p:Int))&&decide ((p:Int)≤((p+i+1:Nat):Int))&&decide (((p+i+1:Nat):Int)≤(t.size:Int)))=true:=by simp;omega
       simp only[e5,Aa,p2q _ (show n+c.toNat % 128*128^i≤100000000000 by omega),zOb,e6,Ad]
       have hx:t.extract p (p+i+1)=⟨((t.data.toList.drop p).take (i+1)).toArray⟩:=by
        rw[q8c t p (p+i+1) (by omega)]
        have:p+i+1 - p=i+1:=by omega
        rw[this]
       rw[hx]
       have hv' :n+c.toNat % 128*128^i=p6z ((t.data.toList.drop p).take i++ [c]):=hvs.symm
       by_cases hl:(s24 (n+c.toNat % 128*128^i)).length=i+1
       ·rw[Al ⟨hv,hl⟩]
        have key:s24 (n+c.toNat % 128*128^i)=((t.data.toList.drop p).take (i+1)).map fun x=>(x.toNat:Int):=by
         rw[hv',htk]
         exact j2q _ c hall hc1 (by rw[←hv',hl,htl])
        rw[key,j0f,y6l]
        simp only[Ap,Aa,zOb,q5n]
        simp[Int.add_assoc]
       ·rw[Ao (fun hh=>hl hh.2)]
        have hne:z7o (y7g (s24 (n+c.toNat % 128*128^i))) ⟨((t.data.toList.drop p).take (i+1)).toArray⟩=false:=by
         rw[←Ey,y7f]
         intro hh
         have:=Dj ByteArray.size hh
         rw[u3q] at this
         apply hl
         rw[this]
         show((t.data.toList.drop p).take (i+1)).toArray.size=_
         simp;omega
        rw[hne];rfl
      ·have e5:decide (((n+c.toNat % 128*128^i:Nat):Int) >(1000000000:Int))=true:=j4h hv
       rw[Ao (fun hh=>hv hh.1),e5];rfl
     ·have e4:decide (((c.toNat:Nat):Int)<(128:Int))=false:=by simp;omega
      simp only[e4,Aa,Ao hc1]
      have:=ih (i+1) (by omega) (by omega) (by
       rw[htk]
       intro x hx
       rcases Ay.mp hx with hx | hx
       ·exact hall x hx
       ·simp at hx;rw[hx];exact hc1) (by
       rw[htk,hvs]
       have:128^(i+1)=128^i*128:=Gr 128 i
       have h2:c.toNat % 128*128^i≤127*128^i:=Ei (by omega) (Au _)
       omega)
      rw[htk,hvs] at this
      exact this
    ·have e2:decide (((p+i:Nat):Int)<(t.size:Int))=false:=by simp;omega
     have hd:t.data.toList.drop (p+i)= [] :=Dp (by simp;omega)
     rw[hd]
     simp only[e2,zOb,Aa,r1z]
     rfl
  exact L 5 0 rfl (by omega) (by simp) (by simp[p6z])
 ·rw[A7 h,Ao h];rfl
end
section
def u0o (t:Hs) (at_:Int):Hs×Int×Bool:=
 if(u0t t at_).2.2=true∧(u0t t at_).1≤20000∧(u0t t at_).1≤(t.size:Int) - (u0t t at_).2.1 then
  (t.extract (u0t t at_).2.1.toNat ((u0t t at_).2.1+(u0t t at_).1).toNat,(u0t t at_).2.1+(u0t t at_).1,true)
 else(emp,0,false)
theorem r72 {t:Hs} {at_:Int} (h:(u0o t at_).2.2=true):0≤(u0o t at_).2.1∧(u0o t at_).2.1≤t.size:=by
 unfold u0o at h ⊢
 split at h
 ·rename_i hc
  rw[Al hc]
  have:=t78 hc.1
  simp only
  omega
 ·cases h
theorem p6v (t:Hs) (at_:Int) (ht:t.size≤u0k):
 (((bif (!(u0t t at_).2.2) then(some true) else(bif (decide ((u0t t at_).1 >(20000:Int))) then(some true) else(some (decide ((u0t t at_).1 >(IntKind.i64.wrap ((t.size:Int) - (u0t t at_).2.1))))))):Ht Bool).bind fun j2=>
  (bif j2 then(some ((⟨#[]⟩:Hs),((0:Int),false))) else(bif (decide (0≤(u0t t at_).2.1)&&decide ((u0t t at_).2.1≤(IntKind.i64.wrap ((u0t t at_).2.1+(u0t t at_).1)))&&decide ((IntKind.i64.wrap ((u0t t at_).2.1+(u0t t at_).1))≤(t.size:Int))) then
   (some ((t.extract ((u0t t at_).2.1).toNat ((IntKind.i64.wrap ((u0t t at_).2.1+(u0t t at_).1))).toNat),((IntKind.i64.wrap ((u0t t at_).2.1+(u0t t at_).1)),true))) else none)))=some (u0o t at_):=by
 unfold u0k at ht
 unfold u0o
 cases ho:(u0t t at_).2.2 with
 | false=>rfl
 | true=>
  have hk:=t78 ho
  rw[y4y (n:=(t.size:Int) - (u0t t at_).2.1) (by omega) (by omega),y4y (n:=(u0t t at_).2.1+(u0t t at_).1) (by omega) (by omega)]
  by_cases h1:(u0t t at_).1 >20000
  ·rw[Ao (by omega),Bb h1];rfl
  ·rw[A7 h1]
   by_cases h2:(u0t t at_).1 >(t.size:Int) - (u0t t at_).2.1
   ·rw[Ao (by omega),Bb h2];rfl
   ·rw[Al ⟨rfl,by omega,by omega⟩,A7 h2]
    simp only[Ap,Aa,zOb]
    rw[Bb (show 0≤(u0t t at_).2.1 by omega),Bb (show(u0t t at_).2.1≤(u0t t at_).2.1+(u0t t at_).1 by omega),Bb (show(u0t t at_).2.1+(u0t t at_).1≤(t.size:Int) by omega)]
    rfl
theorem r9h (t:Hs) (at_:Int) (ht:t.size≤u0k):t7g (t,at_)=some (u0o t at_):=by
 rw[q9r];unfold r24
 simp only[q7h t at_ ht,zOb]
 exact p6v t at_ ht
theorem r9g (t:Hs) (at_:Int) (ht:t.size≤u0k):t7d (t,at_)=some (u0o t at_):=by
 rw[q83];unfold r2h
 simp only[q7g t at_ ht,zOb]
 exact p6v t at_ ht
def q8x (t:Hs):Int:=((t.data.toList.getD 0 0).toNat:Int)
theorem p7m (t:Hs):0≤q8x t∧q8x t<256:=by
 unfold q8x
 have:(t.data.toList.getD 0 0).toNat<256:=Fw _
 omega
def u3s (d:u0i) (s:Int):Int:=q8x (u0l d s).1
theorem p6r {d:u0i} {s:Int} (h:(u0l d s).2=false):(u0l d s).1=emp:=by
 unfold u0l at h ⊢
 split at h
 ·cases h
 ·rename_i hc;rw[Ao hc]
theorem p6i (r:Hs×Bool) (h:r.2=false→r.1=emp):
 (((bif (!r.2) then(some true) else(some (z7o r.1 (⟨#[]⟩:Hs)))):Ht Bool).bind fun j2=>(bif j2 then(some (0:Int)) else(bif (y4q (0:Int) r.1.size) then(some (IntKind.i64.wrap ((r.1.data.toList.getD ((0:Int)).toNat 0).toNat:Int))) else none)))=some (q8x r.1):=by
 obtain⟨t,o⟩:=r
 cases o with
 | false=>
  have:t=emp:=h rfl
  subst this;rfl
 | true=>
  simp only[Ap,Aa,zOb]
  by_cases he:t=emp
  ·subst he
   have:z7o emp (⟨#[]⟩:Hs)=true:=y6l emp
   simp only[this,Ad];rfl
  ·have h1:z7o t (⟨#[]⟩:Hs)=false:=by
    rw[←Ey,y7f];exact he
   have h2:t.size≠0:=by
    intro hz
    apply he
    apply Gf
    apply Fi
    exact hz
   have h3:y4q (0:Int) t.size=true:=by simp[y4q];omega
   have hb:(t.data.toList.getD 0 0).toNat<256:=Fw _
   simp only[h1,Aa,h3,Ad,Ho]
   rw[y8b (by omega)];rfl
theorem s7o (d:u0i) (s:Int) (hd:d0s.wt d≤u0k):t07 (d,s)=some (u3s d s):=by
 rw[q9c];unfold r2p
 simp only[s3u d s hd,zOb]
 exact p6i _ (fun h=>p6r h)
theorem r7b (d:u0i) (s:Int) (hd:d0s.wt d≤u0k):t5r (d,s)=some (u3s d s):=by
 rw[p49];unfold q0v
 simp only[s3v d s hd,zOb]
 exact p6i _ (fun h=>p6r h)
def u02 (d:u0i):Int:=Int.tmod (u3s d 0) 2
theorem t7m (d:u0i):u02 d=0∨u02 d=1:=by
 have:=p7m (u0l d 0).1
 unfold u02 u3s
 have e:=Int.tmod_eq_emod_of_nonneg (b:=2) this.1
 rw[e];omega
theorem q2x (d:u0i) (hd:d0s.wt d≤u0k):t83 d=some (u02 d):=by
 rw[p1a];unfold r5v
 simp only[s7o d 0 hd,zOb];rfl
theorem r0y (d:u0i) (hd:d0s.wt d≤u0k):t3d d=some (u02 d):=by
 rw[p1y];unfold r6i
 simp only[r7b d 0 hd,zOb];rfl
def p82 (a:Int):Bool:=decide (a=0) || decide (a=1)
def u0f (a:Int):Int:=if p82 a then 1+a*48 else 0
theorem o9r {a:Int} :p82 a=true↔a=0∨a=1:=by simp[p82]
theorem t70 (a:Int):0≤u0f a∧u0f a≤49:=by
 unfold u0f
 split
 ·rename_i h;have:=o9r.mp h;omega
 ·omega
theorem q2g (a:Int):t9a a=some (p82 a):=by
 rw[p70];unfold q3d p82
 cases decide (a=0)<;>rfl
theorem r8s (a:Int):u0u (a,0,1)=some (p82 a):=by
 rw[s0v,s7p]
 congr 1
 rw[Cd,o9r,decide_eq_true_iff];omega
theorem s0d (a:Int):u7g a=some (u0f a):=by
 rw[q8y];unfold r2d u0f
 simp only[q2g,zOb]
 cases h:p82 a with
 | false=>rfl
 | true=>
  have:=o9r.mp h
  simp only[Ap,Aa,Bl]
  rw[y4y (n:=a*48) (by omega) (by omega),y4y (by omega) (by omega)]
theorem t5d (a:Int):u53 a=some (u0f a):=by
 rw[q9k];unfold r2x u0f
 simp only[r8s,zOb]
 cases h:p82 a with
 | false=>rfl
 | true=>
  have:=o9r.mp h
  simp only[Ap,Aa,Bl]
  rw[y4y (n:=a*48) (by omega) (by omega),y4y (by omega) (by omega)]
def u0x (d:u0i) (a:Int):Int:=if p82 a then u3s d (u0f a) else 0
theorem s80 (d:u0i) (a:Int):0≤u0x d a∧u0x d a<256:=by
 unfold u0x
 split
 ·exact p7m _
 ·omega
theorem s5u (d:u0i) (a:Int) (hd:d0s.wt d≤u0k):t5k (d,a)=some (u0x d a):=by
 rw[p3z];unfold r9k u0x
 simp only[q2g,s0d,s7o d _ hd,zOb]
 cases p82 a<;>rfl
theorem s5v (d:u0i) (a:Int) (hd:d0s.wt d≤u0k):t5o (d,a)=some (u0x d a):=by
 rw[p4m];unfold r97 u0x
 simp only[r8s,t5d,r7b d _ hd,zOb]
 cases p82 a<;>rfl
def u6n (t:Hs):Nat→Int→Hu Hs→Hu Hs×Int×Bool
 | 0,at_,acc=>(acc,at_,true)
 | m+1,at_,acc=>if(u0o t at_).2.2&& !z7o (u0o t at_).1 emp then u6n t m (u0o t at_).2.1 (acc++ [(u0o t at_).1]) else([],0,false)
def u0c (d:u0i) (a:Int):Hu Hs×Int×Bool:=
 if p82 a&&(u74 d (u0f a+1) 47).2 then u6n (u74 d (u0f a+1) 47).1 (u0x d a).toNat 0 [] else([],0,false)
theorem p6u (d:u0i) (from_:Int):∀(m i:Nat) (acc:Hs),(r89 d from_ m i acc).1.size≤acc.size+m*d0s.wt d
 | 0,i,acc=>by simp[r89]
 | m+1,i,acc=>by
  unfold r89
  split
  ·have h1:=p6u d from_ m (i+1) (acc++(u0l d (from_+(i:Int))).1)
   have h2:=r71 d (from_+(i:Int))
   rw[Af] at h1
   have:(m+1)*d0s.wt d=m*d0s.wt d+d0s.wt d:=C7 _ _
   omega
  ·show 0≤_;omega
theorem r77 (d:u0i) (from_ n:Int):(u74 d from_ n).1.size≤100*d0s.wt d:=by
 unfold u74
 split
 ·have h:=p6u d from_ n.toNat 0 emp
  have h2:emp.size=0:=rfl
  have h3:n.toNat*d0s.wt d≤100*d0s.wt d:=Ei (by omega) (Au _)
  omega
 ·show 0≤_;omega
theorem r03 (d:u0i) (a:Int) (hd:d0s.wt d≤1073741824):u8t (d,a)=some (u0c d a):=by
 have hb:d0s.wt d≤u0k:=by unfold u0k;omega
 have hf:=t70 a
 have hz:(u74 d (u0f a+1) 47).1.size≤u0k:=by have:=r77 d (u0f a+1) 47;unfold u0k;omega
 have hc:=s80 d a
 rw[p1i];unfold r53 u0c
 simp only[s0d,zOb]
 rw[y4y (n:=u0f a+1) (by omega) (by omega)]
 simp only[p0r d (u0f a+1) 47 hd (by omega) (by omega),q2g,zOb]
 generalize u74 d (u0f a+1) 47=s at hz
 cases hs:s.2 with
 | false=>cases p82 a<;>rfl
 | true=>
  cases ha:p82 a with
  | false=>rfl
  | true=>
   have L:=r5k (fun x=>(t4b x).bind fun r=>match r with
    | .inl o=>some (o.1,o.2,true)
    | .inr z=>some z) (u0x d a).toNat (fun(p:Hu Hs×Int) i=>(a,d,s.1,p.1,p.2,i)) (fun i p=>u6n s.1 ((u0x d a).toNat - i) p.2 p.1) (fun i p=>p.1.length≤i)
    (fun p _=>by
     rw[s99];simp only[t3m,s5u d a hb,zOb]
     rw[A7 (by omega)]
     simp only[Aa,zOb,Dw,u6n])
    (fun i p hi hp=>by
     have e:(u0x d a).toNat - i=((u0x d a).toNat - (i+1))+1:=by omega
     rw[s99];simp only[t3m,s5u d a hb,zOb]
     rw[Bb (by omega),e]
     simp only[Ad,r9g s.1 p.2 hz,zOb,u6n,o7s]
     cases hr:(u0o s.1 p.2).2.2 with
     | false=>left;rfl
     | true=>
      cases hq:z7o (u0o s.1 p.2).1 emp with
      | true=>left;rfl
      | false=>
       right
       refine⟨(p.1++ [(u0o s.1 p.2).1],(u0o s.1 p.2).2.1),by simp;omega,by simp,?_⟩
       simp only[Ap,Aa,zOb,Aw,u0r (show p.1.length+1≤1099511627776 by omega),Ad]
       rw[y7l (by omega)]) 0 ([],0) (by omega) (by simp)
   simp only[Ap,Aa,zOb,Dt,Bl]
   exact L
theorem r04 (d:u0i) (a:Int) (hd:d0s.wt d≤1073741824):u8z (d,a)=some (u0c d a):=by
 have hb:d0s.wt d≤u0k:=by unfold u0k;omega
 have hf:=t70 a
 have hz:(u74 d (u0f a+1) 47).1.size≤u0k:=by have:=r77 d (u0f a+1) 47;unfold u0k;omega
 have hc:=s80 d a
 rw[p14];unfold r6o u0c
 simp only[r8s,t5d,zOb]
 rw[y4y (n:=u0f a+1) (by omega) (by omega)]
 simp only[p0s d (u0f a+1) 47 hd (by omega) (by omega),zOb]
 generalize u74 d (u0f a+1) 47=s at hz
 cases hs:s.2 with
 | false=>cases p82 a<;>rfl
 | true=>
  cases ha:p82 a with
  | false=>rfl
  | true=>
   have L:=r5k (fun x=>(t2e x).bind fun r=>match r with
    | .inl o=>some (o.1,o.2,true)
    | .inr z=>some z) (u0x d a).toNat (fun(p:Hu Hs×Int) i=>(a,d, [],s.1,p.1,p.2,i)) (fun i p=>u6n s.1 ((u0x d a).toNat - i) p.2 p.1) (fun i p=>p.1.length≤i)
    (fun p _=>by
     rw[s7f];simp only[t15,s5v d a hb,zOb]
     rw[A7 (by omega)]
     simp only[Aa,zOb,Dw,u6n])
    (fun i p hi hp=>by
     have e:(u0x d a).toNat - i=((u0x d a).toNat - (i+1))+1:=by omega
     rw[s7f];simp only[t15,s5v d a hb,zOb]
     rw[Bb (by omega),e]
     simp only[Ad,r9h s.1 p.2 hz,zOb,u6n,o7s]
     cases hr:(u0o s.1 p.2).2.2 with
     | false=>left;rfl
     | true=>
      cases hq:z7o (u0o s.1 p.2).1 emp with
      | true=>left;rfl
      | false=>
       right
       refine⟨(p.1++ [(u0o s.1 p.2).1],(u0o s.1 p.2).2.1),by simp;omega,by simp,?_⟩
       simp only[Ap,Aa,zOb,Aw,u0r (show p.1.length+1≤1099511627776 by omega),Ad]
       rw[y7l (by omega)]) 0 ([],0) (by omega) (by simp)
   simp only[Ap,Aa,zOb,Dt,Bl]
   exact L
def u0g (d:u0i):Hu Hs:=(u0c d (u02 d)).1
theorem p7a (d:u0i) (hd:d0s.wt d≤1073741824):s4q d=some (u0g d):=by
 rw[p1g];unfold r51
 simp only[q2x d (show d0s.wt d≤u0k by unfold u0k;omega),r03 d _ hd,zOb];rfl
theorem p58 (t:Hs):∀(m:Nat) (at_:Int) (acc:Hu Hs),(u6n t m at_ acc).1.length≤acc.length+m
 | 0,at_,acc=>by simp[u6n]
 | m+1,at_,acc=>by
  unfold u6n
  split
  ·have:=p58 t m (u0o t at_).2.1 (acc++ [(u0o t at_).1])
   simp at this;omega
  ·simp
theorem o1t (d:u0i) (a:Int):(u0c d a).1.length<256:=by
 unfold u0c
 split
 ·have h:=p58 (u74 d (u0f a+1) 47).1 (u0x d a).toNat 0 []
  have:=s80 d a
  simp at h;omega
 ·simp
end
section
def u1y (d:u0i):Bool:=decide (1≤d.1.length∧d.1.length≤100)&&decide (d.2.length≤60)&&d.1.all (fun s=>decide (s.size=64))&&d.2.all (fun p=>r0x p.1 0 ((d.1.length:Int) - 1)&&decide (p.2.size=64))
theorem p7j {α:Type} (l:Hu α) (p:α→Bool):l.any (fun x=> !p x)= !l.all p:=by
 induction l with
 | nil=>rfl
 | cons x l ih=>simp only[Gd,Gc,ih,Bool.not_and]
theorem r0z (d:u0i) (hd:d0s.wt d≤u0k):t4t d=some (u1y d):=by
 have h1:d.1.length≤u0k:=A9 t01 hd
 have h2:d.2.length≤u0k:=A9 t26 hd
 unfold u0k at h1 h2
 have L1:=s11 t8u d.1 (fun i=>(d,i)) (fun s=> !decide (s.size=64)) (.inr false) (.inl d)
  (by rw[r8j];simp only[t8l,u0b,Am,Ah,Aa])
  (fun i hi=>by
   rw[r8j];simp only[t8l,u0b,hi,Ae,Ad,y7t hi,zTn,y8k (t:=Ty.str) hi]
   rw[y7l (by omega)]
   have:decide (((d.1[i]).size:Int)=(64:Int))=decide ((d.1[i]).size=64):=by simp only[Cu];omega
   rw[this])
 have L2:=s11 t8v d.2 (fun i=>(d,i)) (fun p=> !(r0x p.1 0 ((d.1.length:Int) - 1)&&decide (p.2.size=64))) (.inr false) (.inl ())
  (by rw[r8k];simp only[t8m,u0b,Am,Ah,Aa])
  (fun i hi=>by
   rw[r8k];simp only[t8m,u0b,hi,Ae,Ad,y7t hi,zTn,y8k (t:=o4j) hi,s0v,zOb]
   rw[y7l (by omega),y4y (n:=(d.1.length:Int) - 1) (by omega) (by omega)]
   have:decide (((d.2[i]).2.size:Int)=(64:Int))=decide ((d.2[i]).2.size=64):=by simp only[Cu];omega
   rw[this]
   cases r0x (d.2[i]).1 0 ((d.1.length:Int) - 1)<;>rfl)
 rw[p78];unfold q3m u1y
 simp only[s0v,s7p (a:=(d.1.length:Int)),L1,zOb]
 have e1:decide ((1:Int)≤(d.1.length:Int)∧(d.1.length:Int)≤100)=decide (1≤d.1.length∧d.1.length≤100):=by simp only[Cu];omega
 have e2:decide ((d.2.length:Int) >60)= !decide (d.2.length≤60):=by
  rw[←decide_not,Cu];omega
 rw[e1,e2,p7j]
 cases decide (1≤d.1.length∧d.1.length≤100) with
 | false=>rfl
 | true=>
  cases decide (d.2.length≤60) with
  | false=>rfl
  | true=>
   cases d.1.all (fun s=>decide (s.size=64)) with
   | false=>rfl
   | true=>
    simp only[Ap,Aa,zOb,L2,p7j]
    cases d.2.all _<;>rfl
theorem q16 (d:u0i) (hd:d0s.wt d≤u0k):t84 d=some (u1y d):=by
 have h1:d.1.length≤u0k:=A9 t01 hd
 have h2:d.2.length≤u0k:=A9 t26 hd
 unfold u0k at h1 h2
 have L1:=s11 t8q d.1 (fun i=>(d,d.1,(d.1.length:Int),i)) (fun s=> !decide (s.size=64)) (.inr false) (.inl d)
  (by rw[r8c];simp only[t8e,u0b,Am,Ah,Aa])
  (fun i hi=>by
   rw[r8c];simp only[t8e,u0b,hi,Ae,Ad,y7t hi,zTn,y8k (t:=Ty.str) hi]
   rw[y7l (by omega)]
   have:decide (((d.1[i]).size:Int)=(64:Int))=decide ((d.1[i]).size=64):=by simp only[Cu];omega
   rw[this])
 have L2:=s11 t8r d.2 (fun i=>(d,d.2,(d.2.length:Int),i)) (fun p=> !(r0x p.1 0 ((d.1.length:Int) - 1)&&decide (p.2.size=64))) (.inr false) (.inl d)
  (by rw[r8d];simp only[t8f,u0b,Am,Ah,Aa])
  (fun i hi=>by
   rw[r8d];simp only[t8f,u0b,hi,Ae,Ad,y7t hi,zTn,y8k (t:=o4j) hi,t9t,zOb]
   rw[y7l (by omega),y4y (n:=(d.1.length:Int) - 1) (by omega) (by omega)]
   have:decide (((d.2[i]).2.size:Int)=(64:Int))=decide ((d.2[i]).2.size=64):=by simp only[Cu];omega
   rw[this]
   cases r0x (d.2[i]).1 0 ((d.1.length:Int) - 1)<;>rfl)
 rw[p7u];unfold q26 u1y
 simp only[L1,zOb]
 have e1:decide ((1:Int)≤(d.1.length:Int)∧(d.1.length:Int)≤100)=decide (1≤d.1.length∧d.1.length≤100):=by simp only[Cu];omega
 have e2:decide ((d.2.length:Int)≤60)=decide (d.2.length≤60):=by rw[Cu];omega
 rw[p7j]
 cases d.1.all (fun s=>decide (s.size=64)) with
 | false=>simp
 | true=>
  simp only[Ap,Aa,zOb,L2,p7j]
  cases d.2.all (fun p=>r0x p.1 0 ((d.1.length:Int) - 1)&&decide (p.2.size=64)) with
  | false=>simp
  | true=>
   simp only[Ap,Aa,zOb,t9t,s7p (a:=(d.1.length:Int)),e1,e2]
   cases decide (1≤d.1.length∧d.1.length≤100)<;>cases decide (d.2.length≤60)<;>rfl
def u2g (d:u0i):Bool:=u1y d&&decide (d.1.length=97)&&decide (d.2.length=0)&&(u0c d 0).2.2&&(u0c d 1).2.2
theorem p52 (d:u0i) (hd:d0s.wt d≤1073741824):s6w d=some (u2g d):=by
 have hb:d0s.wt d≤u0k:=by unfold u0k;omega
 rw[o0y];unfold q7y u2g
 have hs:u81 ()=some 97:=by rw[s84];rfl
 simp only[r0z d hb,hs,r04 d _ hd,zOb]
 have e1:decide ((d.1.length:Int)=97)=decide (d.1.length=97):=by rw[Cu];omega
 have e2:decide ((d.2.length:Int) >0)= !decide (d.2.length=0):=by rw[←decide_not,Cu];omega
 rw[e1,e2]
 cases u1y d<;>cases decide (d.1.length=97)<;>cases decide (d.2.length=0)<;>cases (u0c d 0).2.2<;>cases (u0c d 1).2.2<;>rfl
theorem q5z (d:u0i) (hd:d0s.wt d≤1073741824):s1r d=some (u2g d):=by
 have hb:d0s.wt d≤u0k:=by unfold u0k;omega
 rw[o0p];unfold q7p u2g
 simp only[q16 d hb,r03 d _ hd,zOb]
 have e1:decide ((d.1.length:Int)=97)=decide (d.1.length=97):=by rw[Cu];omega
 have e2:decide ((d.2.length:Int)=0)=decide (d.2.length=0):=by rw[Cu];omega
 rw[e1,e2]
 cases u1y d<;>cases decide (d.1.length=97)<;>cases decide (d.2.length=0)<;>cases (u0c d 0).2.2<;>cases (u0c d 1).2.2<;>rfl
end
section
theorem p7r (d:u0i):d0s.wt d=(d.1.length+(d.1.map ByteArray.size).sum)+(d.2.length+(d.2.map fun p=>0+p.2.size).sum):=rfl
theorem p6w {α:Type} {l:Hu α} {f:α→Nat} {k:Nat} (h:∀x∈l,f x≤k):(l.map f).sum≤l.length*k:=by
 induction l with
 | nil=>simp
 | cons x l ih=>
  have h1:=h x (C9 ..)
  have h2:=ih (fun y hy=>h y (Bm _ hy))
  simp only[C8,Ge,Bc,C7]
  omega
theorem p6e {d:u0i} :u1y d=true↔(1≤d.1.length∧d.1.length≤100)∧d.2.length≤60∧(∀s∈d.1,s.size=64)∧ ∀p∈d.2,(0≤p.1∧p.1<(d.1.length:Int))∧p.2.size=64:=by
 unfold u1y
 simp only[Ai,Ar,Bg,r0x,and_assoc]
 constructor
 ·rintro⟨a,b,c,e,f⟩
  exact⟨a,b,c,e,fun p hp=>by obtain⟨x,y,z⟩:=f p hp;exact⟨x,by omega,z⟩⟩
 ·rintro⟨a,b,c,e,f⟩
  exact⟨a,b,c,e,fun p hp=>by obtain⟨x,y,z⟩:=f p hp;exact⟨x,by omega,z⟩⟩
theorem u3d {d:u0i} (h:u1y d=true):d0s.wt d≤11000:=by
 obtain⟨h1,h2,h3,h4⟩:=p6e.mp h
 have a1:=p6w (l:=d.1) (f:=ByteArray.size) (k:=64) (fun s hs=>by rw[h3 s hs];exact Au _)
 have a2:=p6w (l:=d.2) (f:=fun p=>0+p.2.size) (k:=64) (fun p hp=>by rw[(h4 p hp).2];exact Au _)
 rw[p7r]
 omega
theorem j2r (d:u0i) (p:Int×Hs):d0s.wt (d.1,d.2++ [p])=d0s.wt d+1+p.2.size:=by
 rw[p7r,p7r]
 simp
 omega
theorem u8g (d:u0i) (hd:d0s.wt d≤u0k):u04 d=some d:=by
 have h1:d.1.length≤u0k:=A9 t01 hd
 have h2:d.2.length≤u0k:=A9 t26 hd
 unfold u0k at h1 h2
 rw[p47];unfold q0t
 have a1:Nat.ble (([] :Hu Hs).length+d.1.length) z7w=true:=u0r (by simp;omega)
 have a2:Nat.ble (([] :Hu q98.den).length+d.2.length) z7w=true:=u0r (by simp;omega)
 simp only[a1,a2,Ad,Cf]
theorem t1e (d:u0i) (hd:d0s.wt d≤u0k):u1s d=some d:=by
 have h1:d.1.length≤u0k:=A9 t01 hd
 have h2:d.2.length≤u0k:=A9 t26 hd
 unfold u0k at h1 h2
 rw[p1p];unfold r59
 simp only[u0r h1,u0r h2,Ad]
def u4j (d:u0i) (k:Int) (t:Hs):Ht u0i:=if u1y (d.1,d.2++ [(k,t)]) then some (d.1,d.2++ [(k,t)]) else none
def orD (d:u0i):Ht u0i→u0i×Bool
 | some x=>(x,true)
 | none=>(d,false)
theorem r1a (d:u0i) (k:Int) (t:Hs):u1y (d.1,d.2++ [(k,t)])=(u1y d&&(r0x k 0 ((d.1.length:Int) - 1)&&(decide (t.size=64)&& !decide (60≤d.2.length)))):=by
 rw[Cd]
 simp only[Ai,Bj,Ar,Bu]
 rw[p6e,p6e]
 simp only[Ba,Aw,Ay,Ax,r0x,Ai,Ar]
 constructor
 ·rintro⟨a,b,c,e⟩
  have:=e (k,t) (.inr rfl)
  exact⟨⟨a,by omega,c,fun p hp=>e p (.inl hp)⟩,⟨this.1.1,by have:=this.1.2;omega⟩,this.2,by omega⟩
 ·rintro⟨⟨a,b,c,e⟩,⟨f1,f2⟩,g,h⟩
  refine⟨a,by omega,c,fun p hp=> ?_⟩
  rcases hp with hp | rfl
  ·exact e p hp
  ·exact⟨⟨f1,by show k<(d.1.length:Int);omega⟩,g⟩
theorem q8u (d:u0i) (k:Int) (t:Hs) (hd:d0s.wt d≤1073741824) (ht:t.size≤1073741824):t88 (d,k,t)=some (orD d (u4j d k t)):=by
 have h2:d.2.length≤1073741824:=A9 t26 hd
 have a:Nat.ble (d.2.length+([(k,t)] :Hu q98.den).length) z7w=true:=u0r (by simp;omega)
 have b:=q16 (d.1,d.2++ [(k,t)]) (by rw[j2r];unfold u0k;simp only;omega)
 rw[q4m];unfold s5z
 simp only[t1e d (by unfold u0k;omega),zOb,a,Ad,b]
 unfold u4j
 cases u1y (d.1,d.2++ [(k,t)])<;>rfl
theorem r2c (d:u0i) (k:Int) (t:Hs) (hd:d0s.wt d≤1073741824) (ht:t.size≤1073741824):u71 (d,k,t)=some (orD d (u4j d k t)):=by
 have h2:d.2.length≤1073741824:=A9 t26 hd
 have h1:d.1.length≤1073741824:=A9 t01 hd
 have a:Nat.ble (d.2.length+([(k,t)] :Hu q98.den).length) z7w=true:=u0r (by simp;omega)
 have w:IntKind.i64.wrap ((d.1.length:Int) - 1)=(d.1.length:Int) - 1:=y4y (by omega) (by omega)
 have e1:decide ((t.size:Int)=(64:Int))=decide (t.size=64):=by simp only[Cu];omega
 have e2:decide ((d.2.length:Int)≥(60:Int))=decide (60≤d.2.length):=by simp only[Cu];omega
 rw[q4u];unfold s55
 simp only[u8g d (by unfold u0k;omega),r0z d (by unfold u0k;omega),zOb,a,Ad,s0v,w,e1,e2]
 unfold u4j
 rw[r1a]
 cases u1y d<;>cases r0x k 0 ((d.1.length:Int) - 1)<;>cases decide (t.size=64)<;>cases decide (60≤d.2.length)<;>rfl
def p3n:Nat→u0i→Nat→Nat→Hs→Ht u0i
 | 0,d,_,_,_=>some d
 | f+1,d,k,at_,t=>if t.size=0 then some d else
  if(u0l d (k:Int)).2=true∧(u0l d (k:Int)).1.size=64 then
   (u4j d (k:Int) ((u0l d (k:Int)).1.extract 0 at_++t.extract 0 (min t.size (64 - at_))++(u0l d (k:Int)).1.extract (at_+min t.size (64 - at_)) 64)).bind fun x=>
    p3n f x (k+1) 0 (t.extract (min t.size (64 - at_)) t.size)
  else none
theorem p9m (f:Nat) (d:u0i) (k at_:Nat) {t:Hs} (h:t.size=0):p3n f d k at_ t=some d:=by
 cases f with
 | zero=>rfl
 | succ f=>rw[p3n,Al h]
theorem t3h {d x:u0i} {k:Int} {t:Hs} (h:u4j d k t=some x):u1y x=true∧x=(d.1,d.2++ [(k,t)]):=by
 unfold u4j at h
 split at h
 ·rename_i hk;cases h;exact⟨hk,rfl⟩
 ·cases h
theorem s60 {t:Hs} :z7o t ⟨#[]⟩=decide (t.size=0):=by
 rw[Cd,y7f,Ar]
 constructor
 ·rintro rfl;rfl
 ·intro h
  have:t.data= #[] :=by apply Fi;exact h
  cases t;simp at this;rw[this]
theorem o8u:∀(f:Nat) (d0 out jk:u0i) (k at_:Nat) (t:Hs),t.size<f→t.size≤1048576→k≤4000000000 - t.size→at_<64→d0s.wt d0≤1073741824→d0s.wt out≤1073741824→
 u9s ((k:Int),(at_:Int),t,d0,jk,out)=some (match p3n f out k at_ t with
  | some x=> .inl (jk,x)
  | none=> .inr (d0,false))
 | 0,d0,out,jk,k,at_,t,h,_,_,_,_,_=>by omega
 | f+1,d0,out,jk,k,at_,t,h,ht,hk,hat,h0,ho=>by
  rw[q2u]
  simp only[t7k,s60,s3u out (k:Int) (by unfold u0k;omega),t1e d0 (by unfold u0k;omega),zOb]
  rw[p3n]
  by_cases hz:t.size=0
  ·simp only[hz,Ae,Ap,Aa,Bl]
  ·simp only[hz,Ah,Bh,Ad,Bk]
   generalize u0l out (k:Int)=r
   obtain⟨old,rok⟩:=r
   cases rok with
   | false=>simp
   | true=>
    have e64:decide ((old.size:Int)=(64:Int))=decide (old.size=64):=by simp only[Cu];omega
    simp only[Ap,Aa,zOb,e64]
    by_cases hs:old.size=64
    ·obtain⟨n,hn⟩:∃n,n=min t.size (64 - at_):=⟨_,rfl⟩
     have w1:IntKind.i64.wrap ((64:Int) - (at_:Int))=((64 - at_:Nat):Int):=by rw[y4y (by omega) (by omega)];omega
     have im:y8i (t.size:Int) ((64 - at_:Nat):Int)=(n:Int):=by
      unfold y8i
      split<;>omega
     have w2:IntKind.i64.wrap ((at_:Int)+(n:Int))=((at_+n:Nat):Int):=by rw[y4y (by omega) (by omega)];omega
     have w3:IntKind.i64.wrap ((k:Int)+1)=((k+1:Nat):Int):=y7l (by omega)
     have z0:((0:Int)).toNat=0:=rfl
     have hnl:n≤t.size:=by omega
     have hn64:at_+n≤64:=by omega
     have c1:(decide ((0:Int)≤0)&&decide ((0:Int)≤(at_:Int))&&decide ((at_:Int)≤(old.size:Int)))=true:=by simp;omega
     have c2:(decide ((0:Int)≤0)&&decide ((0:Int)≤(n:Int))&&decide ((n:Int)≤(t.size:Int)))=true:=by simp;omega
     have c3:decide ((old.extract 0 at_).size+(t.extract 0 n).size≤140737488355328)=true:=by simp only[Bd,Ar];omega
     have c4:(decide ((0:Int)≤((at_+n:Nat):Int))&&decide (((at_+n:Nat):Int)≤(old.size:Int))&&decide ((old.size:Int)≤(old.size:Int)))=true:=by simp;omega
     have c5:decide ((old.extract 0 at_++t.extract 0 n).size+(old.extract (at_+n) old.size).size≤140737488355328)=true:=by simp only[Af,Bd,Ar];omega
     have c6:(decide ((0:Int)≤(n:Int))&&decide ((n:Int)≤(t.size:Int))&&decide ((t.size:Int)≤(t.size:Int)))=true:=by simp;omega
     have hw:=q8u out (k:Int) (old.extract 0 at_++t.extract 0 n++old.extract (at_+n) 64) ho (by simp only[Af,Bd];omega)
     rw[hs] at c5
     simp only[hs,Ae,Ap,Aa,w1,im,w2,w3,z0,zTn,c3,c5,and_self,Bl]
     rw[hs] at c1 c4
     have c1' :(decide ((0:Int)≤0)&&decide ((0:Int)≤(at_:Int))&&decide ((at_:Int)≤((64:Nat):Int)))=true:=c1
     have c4' :(decide ((0:Int)≤((at_+n:Nat):Int))&&decide (((at_+n:Nat):Int)≤((64:Nat):Int))&&decide (((64:Nat):Int)≤((64:Nat):Int)))=true:=c4
     rw[c1',c2,c4',c6]
     simp only[Ad,hw,zOb,←hn]
     cases hx:u4j out (k:Int) (old.extract 0 at_++t.extract 0 n++old.extract (at_+n) 64) with
     | none=>simp[orD]
     | some x=>
      simp only[orD,Ap,Aa,zOb]
      have hsz:(t.extract n t.size).size=t.size - n:=by simp only[Bd];omega
      have:=o8u f d0 x jk (k+1) 0 (t.extract n t.size) (by omega) (by omega) (by omega) (by omega) h0 (A9 (u3d (t3h hx).1) (by omega))
      exact this
    ·simp[hs]
theorem o8v (d0 jk:u0i) (sec at_:Nat) (t:Hs) (hsec:sec≤2000000000) (hat:at_≤6400) (ht:t.size≤1048576) (h0:d0s.wt d0≤1073741824):∀(f i:Nat) (out:u0i),i≤t.size→t.size - i<f→d0s.wt out≤1073741824→
 u47 ((sec:Int),(at_:Int),t,d0,jk,out,(i:Int))=some (match p3n f out (sec+(at_+i) / 64) ((at_+i) % 64) (t.extract i t.size) with
  | some x=> .inl (jk,x)
  | none=> .inr (d0,false))
 | 0,i,out,_,h,_=>by omega
 | f+1,i,out,hi,hf,ho=>by
  have hsz:(t.extract i t.size).size=t.size - i:=by simp only[Bd];omega
  have w0:IntKind.i64.wrap ((at_:Int)+(i:Int))=((at_+i:Nat):Int):=by rw[y4y (by omega) (by omega)];omega
  have t1:Int.tdiv ((at_+i:Nat):Int) (64:Int)=(((at_+i) / 64:Nat):Int):=j2n (at_+i) 64
  have t2:Int.tmod ((at_+i:Nat):Int) (64:Int)=(((at_+i) % 64:Nat):Int):=o34 (at_+i) 64
  obtain⟨q,hq⟩:∃q,q=(at_+i) / 64:=⟨_,rfl⟩
  obtain⟨m,hm⟩:∃m,m=(at_+i) % 64:=⟨_,rfl⟩
  have w1:IntKind.i64.wrap ((q:Int))=(q:Int):=y4y (by omega) (by omega)
  have w2:IntKind.i64.wrap ((sec:Int)+(q:Int))=((sec+q:Nat):Int):=by rw[y4y (by omega) (by omega)];omega
  have w3:IntKind.i64.wrap ((64:Int) - (m:Int))=((64 - m:Nat):Int):=by rw[y4y (by omega) (by omega)];omega
  have w4:IntKind.i64.wrap ((t.size:Int) - (i:Int))=((t.size - i:Nat):Int):=by rw[y4y (by omega) (by omega)];omega
  rw[q2v]
  simp only[t7l,w0,t1,t2,←hq,←hm,w1,w2,w3,w4,s3v out ((sec+q:Nat):Int) (by unfold u0k;omega),u8g d0 (by unfold u0k;omega),zOb,u0b]
  rw[p3n,hsz]
  by_cases hz:i<t.size
  ·have hz' : ¬t.size - i=0:=by omega
   simp only[hz,Ae,Ad,hz',Bk]
   generalize u0l out ((sec+q:Nat):Int)=r
   obtain⟨old,rok⟩:=r
   cases rok with
   | false=>simp
   | true=>
    have e64:decide ((old.size:Int)=(64:Int))=decide (old.size=64):=by simp only[Cu];omega
    simp only[Ap,Aa,zOb,e64]
    by_cases hs:old.size=64
    ·obtain⟨n,hn⟩:∃n,n=min (t.size - i) (64 - m):=⟨_,rfl⟩
     have z0:((0:Int)).toNat=0:=rfl
     have hm64:m<64:=by omega
     have body:∀N:Nat,N=n→IntKind.i64.wrap ((i:Int)+(N:Int))=((i+n:Nat):Int)∧IntKind.i64.wrap ((m:Int)+(N:Int))=((m+n:Nat):Int):=fun N hN=>by
      subst hN
      exact⟨by rw[y4y (by omega) (by omega)];omega,by rw[y4y (by omega) (by omega)];omega⟩
     have c1:(decide ((0:Int)≤0)&&decide ((0:Int)≤(m:Int))&&decide ((m:Int)≤((64:Nat):Int)))=true:=by simp;omega
     have c2:(decide ((0:Int)≤(i:Int))&&decide ((i:Int)≤((i+n:Nat):Int))&&decide (((i+n:Nat):Int)≤(t.size:Int)))=true:=by simp;omega
     have c3:decide ((old.extract 0 m).size+(t.extract i (i+n)).size≤140737488355328)=true:=by simp only[Bd,Ar];omega
     have c4:(decide ((0:Int)≤((m+n:Nat):Int))&&decide (((m+n:Nat):Int)≤((64:Nat):Int))&&decide (((64:Nat):Int)≤((64:Nat):Int)))=true:=by simp;omega
     have c5:decide ((old.extract 0 m++t.extract i (i+n)).size+(old.extract (m+n) 64).size≤140737488355328)=true:=by simp only[Af,Bd,Ar];omega
     have hx1:(t.extract i t.size).extract 0 n=t.extract i (i+n):=by
      rw[ByteArray.extract_extract];congr 1;omega
     have hx2:(t.extract i t.size).extract n (t.size - i)=t.extract (i+n) t.size:=by
      rw[ByteArray.extract_extract];congr 1;omega
     have hw:=r2c out ((sec+q:Nat):Int) (old.extract 0 m++t.extract i (i+n)++old.extract (m+n) 64) ho (by simp only[Af,Bd];omega)
     have ih:∀x:u0i,u1y x=true→u47 ((sec:Int),(at_:Int),t,d0,jk,x,((i+n:Nat):Int))=some (match p3n f x (sec+q+1) 0 (t.extract (i+n) t.size) with
      | some x=> .inl (jk,x)
      | none=> .inr (d0,false)):=fun x hx=>by
      have:=o8v d0 jk sec at_ t hsec hat ht h0 f (i+n) x (by omega) (by omega) (A9 (u3d hx) (by omega))
      rw[this]
      by_cases he:i+n=t.size
      ·have hsz2:(t.extract (i+n) t.size).size=0:=by simp only[Bd];omega
       rw[p9m _ _ _ _ hsz2,p9m _ _ _ _ hsz2]
      ·have hn2:n=64 - m:=by omega
       have e1:sec+(at_+(i+n)) / 64=sec+q+1:=by omega
       have e2:(at_+(i+n)) % 64=0:=by omega
       rw[e1,e2]
     rw[←hn,hx1,hx2]
     simp only[hs,Ae,Ap,Aa,and_self,Bl]
     by_cases hb:t.size - i<64 - m
     ·obtain⟨b1,b2⟩:=body (t.size - i) (by omega)
      simp only[hb,Ae,Ad,b1,b2,zTn,z0,c3,c5]
      rw[c1,c2,c4]
      simp only[Ad,hw,zOb]
      cases hx:u4j out ((sec+q:Nat):Int) (old.extract 0 m++t.extract i (i+n)++old.extract (m+n) 64) with
      | none=>simp[orD]
      | some x=>
       simp only[orD,Ap,Aa,zOb]
       exact ih x (t3h hx).1
     ·obtain⟨b1,b2⟩:=body (64 - m) (by omega)
      simp only[hb,Ah,Aa,b1,b2,zTn,z0,c3,c5]
      rw[c1,c2,c4]
      simp only[Ad,hw,zOb]
      cases hx:u4j out ((sec+q:Nat):Int) (old.extract 0 m++t.extract i (i+n)++old.extract (m+n) 64) with
      | none=>simp[orD]
      | some x=>
       simp only[orD,Ap,Aa,zOb]
       exact ih x (t3h hx).1
    ·simp[hs]
  ·have hz' :t.size - i=0:=by omega
   simp only[hz,Ah,Aa,hz',Bl]
def u20 (d:u0i) (sector at_:Int) (t:Hs):Ht u0i:=
 if r0x at_ 0 6400&&r0x sector 0 ((d.1.length:Int) - 1)&&u1y d then p3n (t.size+1) d (sector.toNat+at_.toNat / 64) (at_.toNat % 64) t else none
theorem t22 (d:u0i) (sector at_:Int) (t:Hs) (hd:d0s.wt d≤1073741824) (ht:t.size≤1048576):u5a (d,sector,at_,t)=some (orD d (u20 d sector at_ t)):=by
 have h1:d.1.length≤1073741824:=A9 t01 hd
 have w:IntKind.i64.wrap ((d.1.length:Int) - 1)=(d.1.length:Int) - 1:=y4y (by omega) (by omega)
 rw[q6o];unfold s8w u20
 simp only[u8g d (by unfold u0k;omega),r0z d (by unfold u0k;omega),zOb,s0v,w]
 cases ha:r0x at_ 0 6400 with
 | false=>rfl
 | true=>
  cases hs:r0x sector 0 ((d.1.length:Int) - 1) with
  | false=>rfl
  | true=>
   cases hk:u1y d with
   | false=>rfl
   | true=>
    simp only[r0x,Ai,Ar] at ha hs
    obtain⟨s,rfl⟩:∃s:Nat,sector=(s:Int):=⟨sector.toNat,by omega⟩
    obtain⟨a,rfl⟩:∃a:Nat,at_=(a:Int):=⟨at_.toNat,by omega⟩
    have L:=o8v d ([], []) s a t (by omega) (by omega) ht hd (t.size+1) 0 d (by omega) (by omega) hd
    have L:u47 ((s:Int),(a:Int),t,d,([], []),d,0)=_:=L
    have e:t.extract 0 t.size=t:=Fu
    simp only[Ap,Aa,zOb,L,Dt,Bl,zTn,Df,e]
    cases p3n (t.size+1) d (s+a / 64) (a % 64) t<;>rfl
theorem j0n {f:Nat} {d:u0i} {k at_:Nat} {t:Hs} (hk:u1y d=false) (ht:t.size≠0):p3n (f+1) d k at_ t=none:=by
 rw[p3n,Ao ht]
 split
 ·have:∀s,u4j d (k:Int) s=none:=fun s=>by
   unfold u4j
   rw[r1a,hk]
   rfl
  rw[this]
  rfl
 ·rfl
theorem s3z (d:u0i) (sector at_:Int) (t:Hs) (hd:d0s.wt d≤1073741824) (ht:t.size≤1048576) (hne:t.size≠0):u8w (d,sector,at_,t)=some (orD d (u20 d sector at_ t)):=by
 have h1:d.1.length≤1073741824:=A9 t01 hd
 have w:IntKind.i64.wrap ((d.1.length:Int) - 1)=(d.1.length:Int) - 1:=y4y (by omega) (by omega)
 rw[q6d];unfold s8l u20
 simp only[t1e d (by unfold u0k;omega),zOb,t9t,w]
 cases ha:r0x at_ 0 6400 with
 | false=>rfl
 | true=>
  cases hs:r0x sector 0 ((d.1.length:Int) - 1) with
  | false=>rfl
  | true=>
   simp only[r0x,Ai,Ar] at ha hs
   obtain⟨s,rfl⟩:∃s:Nat,sector=(s:Int):=⟨sector.toNat,by omega⟩
   obtain⟨a,rfl⟩:∃a:Nat,at_=(a:Int):=⟨at_.toNat,by omega⟩
   have t1:Int.tdiv (a:Int) (64:Int)=((a / 64:Nat):Int):=j2n a 64
   have t2:Int.tmod (a:Int) (64:Int)=((a % 64:Nat):Int):=o34 a 64
   have w1:IntKind.i64.wrap ((a / 64:Nat):Int)=((a / 64:Nat):Int):=y4y (by omega) (by omega)
   have w2:IntKind.i64.wrap ((s:Int)+((a / 64:Nat):Int))=((s+a / 64:Nat):Int):=by rw[y4y (by omega) (by omega)];omega
   have L:=o8u (t.size+1) d d ([], []) (s+a / 64) (a % 64) t (by omega) ht (by omega) (by omega) hd hd
   simp only[Ap,Aa,zOb,t1,t2,w1,w2,L,Bz,zTn]
   cases hk:u1y d with
   | false=>
    rw[j0n hk hne]
    rfl
   | true=>
    simp only[Bl]
    cases p3n (t.size+1) d (s+a / 64) (a % 64) t<;>rfl
end
section
def s23 (s:Hu Hs) (p:Int×Hs):Hu Hs:=s.set p.1.toNat p.2
def flush (d:u0i):u0i:=if u1y d then(d.2.foldl s23 d.1, []) else d
theorem r8x (s:Hu Hs) (p:Int×Hs):(s23 s p).length=s.length:=by simp[s23]
theorem q2e:∀(c:Hu (Int×Hs)) (s:Hu Hs),(c.foldl s23 s).length=s.length
 | [],s=>rfl
 | p::c,s=>by rw[Bs,q2e c,r8x]
theorem p6j:∀(c:Hu (Int×Hs)) (s:Hu Hs),(∀p∈c,p.2.size=64)→(∀x∈s,x.size=64)→ ∀x∈c.foldl s23 s,x.size=64
 | [],s,_,h=>h
 | p::c,s,hc,h=>by
  rw[Bs]
  refine p6j c _ (fun q hq=>hc q (Bm _ hq)) (fun x hx=> ?_)
  rcases E0 hx with hx | rfl
  ·exact h x hx
  ·exact hc p (C9 ..)
theorem t7b {d:u0i} (h:u1y d=true):u1y (flush d)=true∧(flush d).2= [] ∧(flush d).1.length=d.1.length:=by
 unfold flush
 rw[Al h]
 obtain⟨h1,h2,h3,h4⟩:=p6e.mp h
 refine⟨p6e.mpr ⟨by rw[q2e];exact h1,by simp,p6j _ _ (fun p hp=>(h4 p hp).2) h3,fun p hp=>by cases hp⟩,rfl,q2e _ _⟩
theorem t1f (d:u0i) (hd:d0s.wt d≤1073741824):u4x d=some (flush d):=by
 have h1:d.1.length≤1073741824:=A9 t01 hd
 have h2:d.2.length≤1073741824:=A9 t26 hd
 rw[q9n];unfold r20 flush
 simp only[u8g d (by unfold u0k;omega),r0z d (by unfold u0k;omega),zOb]
 cases hk:u1y d with
 | false=>rfl
 | true=>
  obtain⟨k1,k2,k3,k4⟩:=p6e.mp hk
  have L:=u9a t2d d.2 (fun s i=>(d,([], []),(s,d.2),i)) s23 (fun s=> .inl (([], []),(s,d.2))) (fun _ s=>s.length=d.1.length)
   (fun s _=>by rw[s7d];simp only[t13,u0b,Am,Ah,Aa])
   (fun i hi s hs=>by
    refine⟨by rw[r8x];exact hs,?_⟩
    have hp:=(k4 d.2[i] (Ag hi)).1
    have hg:y4q (d.2[i]).1 s.length=true:=by simp[y4q,hs,hp.1,hp.2]
    rw[s7d];simp only[t13,u0b,hi,Ae,Ad,y7t hi,zTn,y8k (t:=o4j) hi,hg]
    rw[y7l (by omega)]
    rfl) d.1 rfl
  simp only[Ap,Aa,L,zOb,Bl]
theorem s0e (d:u0i) (hd:d0s.wt d≤1073741824):u7h d=some (flush d):=by
 have h1:d.1.length≤1073741824:=A9 t01 hd
 have h2:d.2.length≤1073741824:=A9 t26 hd
 rw[q8z];unfold r2e flush
 simp only[t1e d (by unfold u0k;omega),q16 d (by unfold u0k;omega),zOb]
 cases hk:u1y d with
 | false=>rfl
 | true=>
  obtain⟨k1,k2,k3,k4⟩:=p6e.mp hk
  have L:=u9a t19 d.2 (fun s i=>(([], []),(s,d.2),d.2,(d.2.length:Int),i)) s23 (fun s=> .inl (([], []),(s,d.2))) (fun _ s=>s.length=d.1.length)
   (fun s _=>by rw[s64];simp only[t1t,u0b,Am,Ah,Aa])
   (fun i hi s hs=>by
    refine⟨by rw[r8x];exact hs,?_⟩
    have hp:=(k4 d.2[i] (Ag hi)).1
    have hg:y4q (d.2[i]).1 s.length=true:=by simp[y4q,hs,hp.1,hp.2]
    rw[s64];simp only[t1t,u0b,hi,Ae,Ad,y7t hi,zTn,y8k (t:=o4j) hi,hg]
    rw[y7l (by omega)]
    rfl) d.1 rfl
  simp only[Ad,L,zOb,Bl]
def o3j (keep:Hu Int) (i:Nat):Bool:=decide (i<keep.length)&& !decide (Int.tmod (rdL (Ty.int .i64) keep i) 2=0)
def q43 (keep:Hu Int):Nat→Int
 | 0=> -1
 | n+1=>if o3j keep n then(n:Int) else q43 keep n
def s5a (tear:Int):Nat:=(if Int.tmod tear 65<0 then Int.tmod tear 65+65 else Int.tmod tear 65).toNat
def q4j (d:u0i) (keep:Hu Int) (last:Int) (n:Nat) (s:Hu Hs) (i:Nat):Hu Hs:=
 if o3j keep i then
  (if(i:Int)=last then s23 s ((rdL o4j d.2 i).1,(rdL o4j d.2 i).2.extract 0 n++(rdL Ty.str s (rdL o4j d.2 i).1.toNat).extract n (rdL Ty.str s (rdL o4j d.2 i).1.toNat).size)
   else s23 s (rdL o4j d.2 i))
 else s
def s5q (d:u0i) (keep:Hu Int) (tear:Int):u0i:=
 if u1y d then((List.range d.2.length).foldl (q4j d keep (q43 keep d.2.length) (s5a tear)) d.1, []) else d
theorem j0g (tear:Int):s5a tear≤64∧((s5a tear:Nat):Int)=(if Int.tmod tear 65<0 then Int.tmod tear 65+65 else Int.tmod tear 65):=by
 have h1:Int.tmod tear 65<65:=Int.tmod_lt_of_pos _ (by omega)
 have h2: -65<Int.tmod tear 65:=by
  have:=Int.lt_tmod_of_pos tear (show(0:Int)<65 by omega)
  exact this
 unfold s5a
 split<;>omega
section
variable {d:u0i} (hk:u1y d=true) (keep:Hu Int)
include hk in
include hk in
include hk
end
end
section
theorem p0z (t:Hs):∀(m:Nat) (at_:Int) (acc:Hu Hs),0≤at_∧at_≤t.size→0≤(u6n t m at_ acc).2.1∧(u6n t m at_ acc).2.1≤t.size
 | 0,at_,acc,h=>h
 | m+1,at_,acc,h=>by
  unfold u6n
  split
  ·rename_i hc
   simp only[Ai] at hc
   exact p0z t m _ _ (r72 hc.1)
  ·simp
theorem r1v (d:u0i) (a:Int):0≤(u0c d a).2.1∧(u0c d a).2.1≤(100*d0s.wt d:Nat):=by
 unfold u0c
 split
 ·have h1:=p0z (u74 d (u0f a+1) 47).1 (u0x d a).toNat 0 [] (by simp)
  have h2:=r77 d (u0f a+1) 47
  omega
 ·simp only[Bv,true_and]
  omega
def u0q (t:Hs):Hs:=y7g (s24 t.size)++t
theorem t3f (t:Hs):t.size≤(u0q t).size∧(u0q t).size≤2*t.size+1:=by
 unfold u0q
 rw[Af,u3q]
 have:=o5b t.size
 omega
theorem o31 (t:Hs) (h:t.size≠0):(u0q t).size≠0:=by
 have:=t3f t
 omega
def t24 (d:u0i) (a:Int) (t:Hs):Ht u0i:=
 if(u0c d a).2.2=false∨t.size=0∨3008<t.size∨255≤u0x d a∨3008<(u0c d a).2.1+((u0q t).size:Int) then none
 else u20 d (u0f a+1) (u0c d a).2.1 (u0q t)
theorem o3k (d:u0i) (a:Int) (t:Hs) (hd:d0s.wt d≤10000000) (ht:t.size≤1048576):s47 (d,a,t)=some (orD d (t24 d a t)):=by
 have hr:=r1v d a
 have hs:=t3f t
 have ha:=t70 a
 rw[p2d];unfold r6y t24
 simp only[r04 d a (by omega),u8g d (by unfold u0k;omega),s5v d a (by unfold u0k;omega),p2q t.size (by omega),t5d,zOb,s60]
 have e1:decide ((t.size:Int) >(3008:Int))=decide (3008<t.size):=by simp only[Cu];omega
 have w1:IntKind.i64.wrap ((3008:Int) - (u0c d a).2.1)=3008 - (u0c d a).2.1:=y4y (by omega) (by omega)
 have w2:IntKind.i64.wrap (u0f a+1)=u0f a+1:=y4y (by omega) (by omega)
 rw[e1]
 cases h1:(u0c d a).2.2 with
 | false=>simp[orD]
 | true=>
  by_cases h2:t.size=0
  ·simp[h2,orD]
  ·by_cases h3:3008<t.size
   ·simp[h2,h3,orD]
   ·by_cases h4:255≤u0x d a
    ·have:decide (u0x d a≥255)=true:=by simpa using h4
     simp[h2,h3,h4,orD]
    ·have e4:decide (u0x d a≥255)=false:=by simp;omega
     have c:decide ((y7g (s24 t.size)).size+t.size≤140737488355328)=true:=by
      have h5:(u0q t).size=(y7g (s24 t.size)).size+t.size:=by unfold u0q;rw[Af]
      simp;omega
     simp only[h2,h3,Ah,Ap,Aa,zOb,e4,c,Ad,w1,w2]
     have hsz:y7g (s24 t.size)++t=u0q t:=rfl
     rw[hsz]
     by_cases h6:3008<(u0c d a).2.1+((u0q t).size:Int)
     ·have:decide (((u0q t).size:Int) >3008 - (u0c d a).2.1)=true:=by simp;omega
      simp[this,h6,orD]
     ·have:decide (((u0q t).size:Int) >3008 - (u0c d a).2.1)=false:=by simp;omega
      simp only[this,Aa,t22 d (u0f a+1) (u0c d a).2.1 (u0q t) (by omega) (by omega),zOb]
      rw[Ao (by simp[h2,h3,h6];omega)]
theorem q7j (t:Hs) (ht:t.size≤1048576):t06 t=some (if 20000<t.size then(emp,false) else(u0q t,true)):=by
 rw[q85];unfold r2j
 have e1:decide ((t.size:Int) >(20000:Int))=decide (20000<t.size):=by simp only[Cu];omega
 rw[e1]
 by_cases h:20000<t.size
 ·simp only[h,Ae,Ad,Bl];rfl
 ·have c:decide ((y7g (s24 t.size)).size+t.size≤140737488355328)=true:=by
   rw[u3q]
   have:=o5b t.size
   simp;omega
  have hv:(0:Int)≤(t.size:Int)∧(t.size:Int)≤1000000000:=by omega
  simp only[h,Ah,Aa,r5s,Al hv,zOb,zTn,c,Ad,Bk]
  rfl
theorem o6c (d:u0i) (a:Int) (t:Hs) (hd:d0s.wt d≤10000000) (ht:t.size≤1048576):s7w (d,a,t)=some (orD d (if u2g d then t24 d a t else none)):=by
 have hr:=r1v d a
 have hs:=t3f t
 have ha:=t70 a
 have hcl:=s80 d a
 rw[p4i];unfold r92 t24
 simp only[r03 d a (by omega),t1e d (by unfold u0k;omega),s5u d a (by unfold u0k;omega),q5z d (by omega),q7j t ht,s0d,zOb,s60]
 cases hl:u2g d with
 | false=>simp[orD]
 | true=>
  cases h1:(u0c d a).2.2 with
  | false=>simp[orD]
  | true=>
   by_cases h0:20000<t.size
   ·have:3008<t.size:=by omega
    simp[h0,this,orD]
   ·by_cases h2:t.size=0
    ·simp[h0,h2,orD]
    ·have w1:IntKind.i64.wrap ((u0c d a).2.1+((u0q t).size:Int))=(u0c d a).2.1+((u0q t).size:Int):=y4y (by omega) (by omega)
     have w2:IntKind.i64.wrap (u0f a+1)=u0f a+1:=y4y (by omega) (by omega)
     simp only[h0,h2,Bk,Ah,Ap,Aa,zOb,w1,w2,Bl]
     by_cases h6:3008<(u0c d a).2.1+((u0q t).size:Int)
     ·have:decide ((u0c d a).2.1+((u0q t).size:Int) >3008)=true:=by simpa using h6
      simp[this,h6,orD]
     ·have e6:decide ((u0c d a).2.1+((u0q t).size:Int) >3008)=false:=by simp;omega
      have h3: ¬3008<t.size:=by omega
      by_cases h4:255≤u0x d a
      ·have:decide (u0x d a=255)=true:=by simp;omega
       simp[e6,this,h4,orD]
      ·have e4:decide (u0x d a=255)=false:=by simp;omega
       simp only[e6,Aa,e4,zOb,s3z d (u0f a+1) (u0c d a).2.1 (u0q t) (by omega) (by omega) (o31 t h2)]
       rw[Ao (by simp[h2,h3,h6];omega)]
def t00 (n:Int):Hs:=y7g [IntKind.u8.wrap n]
theorem u2d (n:Int):(t00 n).size=1:=by unfold t00;rw[u3q];rfl
def r3b (d:u0i) (a n:Int):Ht u0i:=u20 d (u0f a) 0 (t00 n)
theorem p2r (d:u0i) (a n:Int) (hd:d0s.wt d≤1073741824):t9l (d,a,n)=some (orD d (r3b d a n)):=by
 rw[p2e];unfold r6z
 have h1:u95 n=some (t00 n):=by rw[r1b];rfl
 simp only[t5d,h1,zOb,t22 d (u0f a) 0 (t00 n) hd (by rw[u2d];omega)]
 rfl
theorem p22 (d:u0i) (a n:Int) (hd:d0s.wt d≤1073741824):t9c (d,a,n)=some (orD d (r3b d a n)).1:=by
 rw[p1t];unfold r6d
 have h1:y7g [IntKind.u8.wrap n] =t00 n:=rfl
 simp only[s0d,h1,zOb,s3z d (u0f a) 0 (t00 n) hd (by rw[u2d];omega) (by rw[u2d];omega)]
 rfl
theorem o8t:∀ {f:Nat} {d x:u0i} {k at_:Nat} {t:Hs},p3n f d k at_ t=some x→(u1y d=true→u1y x=true)∧x.1=d.1∧(t.size≠0→0<f→u1y x=true)
 | 0,d,x,k,at_,t,h=>by cases h;exact⟨id,rfl,fun _ h=>by omega⟩
 | f+1,d,x,k,at_,t,h=>by
  rw[p3n] at h
  split at h
  ·rename_i hz
   cases h;exact⟨id,rfl,fun hne=>absurd hz hne⟩
  ·split at h
   ·cases hw:u4j d (k:Int) ((u0l d (k:Int)).1.extract 0 at_++t.extract 0 (min t.size (64 - at_))++(u0l d (k:Int)).1.extract (at_+min t.size (64 - at_)) 64) with
    | none=>rw[hw] at h;cases h
    | some y=>
     rw[hw] at h
     simp only[zOb] at h
     obtain⟨k1,k2⟩:=t3h hw
     obtain⟨i1,i2,_⟩:=o8t h
     exact⟨fun _=>i1 k1,by rw[i2,k2],fun _ _=>i1 k1⟩
   ·cases h
theorem u6k {d x:u0i} {s at_:Int} {t:Hs} (h:u20 d s at_ t=some x):u1y d=true∧u1y x=true∧x.1=d.1:=by
 unfold u20 at h
 split at h
 ·rename_i hc
  simp only[Ai] at hc
  obtain⟨i1,i2,_⟩:=o8t h
  exact⟨hc.2,i1 hc.2,i2⟩
 ·cases h
theorem s0t {d x:u0i} {a:Int} {t:Hs} (h:t24 d a t=some x):u1y d=true∧u1y x=true∧x.1=d.1∧(u0c d a).2.2=true:=by
 unfold t24 at h
 split at h
 ·cases h
 ·rename_i hc
  have:=u6k h
  simp only[Hr] at hc
  exact⟨this.1,this.2.1,this.2.2,by simpa using hc.1⟩
theorem q2m {d:u0i} (hk:u1y d=true) (h2:d.2= []) {s:Int} (h0:0≤s) (h1:s<(d.1.length:Int)) {b:Hs} (hb:b.size=1):
 u20 d s 0 b=some (d.1, [(s,b++(rdL Ty.str d.1 s.toNat).extract 1 64)]):=by
 obtain⟨k1,k2,k3,k4⟩:=p6e.mp hk
 have hlt:s.toNat<d.1.length:=by omega
 have hold:(rdL Ty.str d.1 s.toNat).size=64:=by
  have e:rdL Ty.str d.1 s.toNat=d.1[s.toNat] :=y8k (t:=Ty.str) hlt
  rw[e]
  exact k3 _ (Ag hlt)
 have hs:((s.toNat:Nat):Int)=s:=by omega
 have hrd:u0l d s=(rdL Ty.str d.1 s.toNat,true):=by
  unfold u0l
  rw[Al ⟨h0,h1⟩,h2]
  rfl
 have c:(r0x 0 0 6400&&r0x s 0 ((d.1.length:Int) - 1)&&u1y d)=true:=by
  rw[hk]
  simp[r0x]
  omega
 have e1:(rdL Ty.str d.1 s.toNat).extract 0 0=ByteArray.empty:=by
  apply Gf
  simp
 have e2:b.extract 0 1=b:=by rw[←hb];exact Fu
 have hw:u4j d s (b++(rdL Ty.str d.1 s.toNat).extract 1 64)=some (d.1, [(s,b++(rdL Ty.str d.1 s.toNat).extract 1 64)]):=by
  unfold u4j
  rw[r1a,hk,h2]
  have:r0x s 0 ((d.1.length:Int) - 1)=true:=by simp[r0x];omega
  rw[this]
  have hz:(b++(rdL Ty.str d.1 s.toNat).extract 1 64).size=64:=by
   rw[Af,Bd,hb,hold];omega
  simp[hz]
 unfold u20
 rw[Al c]
 have z:(0:Int).toNat=0:=rfl
 simp only[z,Nat.zero_div,Nat.zero_mod,Df,hb]
 rw[p3n,Ao (by omega)]
 rw[hs,hrd]
 simp only[hold,and_self,Bl,hb]
 have m1:min 1 (64 - 0)=1:=by decide
 rw[m1,e1,e2]
 have e3:ByteArray.empty++b++(rdL Ty.str d.1 s.toNat).extract (0+1) 64=b++(rdL Ty.str d.1 s.toNat).extract 1 64:=by
  rw[ByteArray.empty_append]
 rw[e3,hw]
 simp only[zOb]
 exact p9m _ _ _ _ (by rw[Bd,hb];decide)
end
section
def s58 (d:u0i) (a:Int):Int:=IntKind.i64.wrap (u0x d a+1)
def q61 (d:u0i) (a:Int) (t:Hs):Ht u0i:=(t24 d a t).map fun x=>flush (orD (flush x) (r3b (flush x) a (s58 d a))).1
theorem o5u {d x:u0i} {a:Int} {t:Hs} (h:t24 d a t=some x):p82 a=true:=by
 have:=(s0t h).2.2.2
 unfold u0c at this
 split at this
 ·rename_i hc
  simp only[Ai] at hc
  exact hc.1
 ·cases this
theorem p0a {d x:u0i} {a n:Int} {t:Hs} (hlen:d.1.length=97) (h:t24 d a t=some x):∃y,r3b (flush x) a n=some y∧u1y y=true∧y.1.length=97:=by
 obtain⟨h1,h2,h3,_⟩:=s0t h
 obtain⟨f1,f2,f3⟩:=t7b h2
 have hl:(flush x).1.length=97:=by rw[f3,h3];exact hlen
 have ha:=t70 a
 have ho:=q2m (s:=u0f a) f1 f2 (by omega) (by rw[hl];omega) (u2d n)
 have:=u6k ho
 exact⟨_,ho,this.2.1,by rw[this.2.2];exact hl⟩
theorem u44 {d:u0i} (h:u2g d=true):u1y d=true∧d.1.length=97∧d.2= [] ∧(u0c d 0).2.2=true∧(u0c d 1).2.2=true:=by
 unfold u2g at h
 simp only[Ai,Ar] at h
 obtain⟨⟨⟨⟨a,b⟩,c⟩,e⟩,f⟩:=h
 exact⟨a,b,Dk.mp c,e,f⟩
theorem o1e (d:u0i) (a:Int) (t:Hs) (hd:d0s.wt d≤10000000) (ht:t.size≤1048576) (hlen:d.1.length=97):s3n (d,a,t)=some (orD d (q61 d a t)):=by
 rw[p8n];unfold q32 q61
 simp only[o3k d a t hd ht,zOb]
 cases hb:t24 d a t with
 | none=>rfl
 | some x=>
  have hx:=u3d (s0t hb).2.1
  have hf:=u3d (t7b (s0t hb).2.1).1
  obtain⟨y,hy,hy2,_⟩:=p0a (n:=s58 d a) hlen hb
  have hyw:=u3d hy2
  simp only[orD,Ap,Aa,t1f x (by omega),s5v d a (by unfold u0k;omega),zOb,p2r (flush x) a _ (by omega)]
  have hc:IntKind.i64.wrap (u0x d a+1)=s58 d a:=rfl
  rw[hc,hy]
  simp only[orD,t1f y (by omega),zOb,Dc,hy]
theorem p3t (d:u0i) (a:Int) (t:Hs) (hd:d0s.wt d≤10000000) (ht:t.size≤1048576):s2h (d,a,t)=some (orD d (if u2g d then q61 d a t else none)):=by
 rw[q9p];unfold r22
 simp only[p52 d (by omega),r8s,u8g d (by unfold u0k;omega),zOb]
 cases hl:u2g d with
 | false=>simp[orD]
 | true=>
  cases ha:p82 a with
  | false=>
   have hn:q61 d a t=none:=by
    unfold q61
    cases hb:t24 d a t with
    | none=>rfl
    | some x=>rw[o5u hb] at ha;cases ha
   simp[hn,orD]
  | true=>
   simp only[Ap,Aa,zOb,o1e d a t hd ht (u44 hl).2.1,Bl]
   cases q61 d a t<;>simp[orD]
theorem p3s (d:u0i) (a:Int) (t:Hs) (hd:d0s.wt d≤10000000) (ht:t.size≤1048576):s16 (d,a,t)=some (orD d (if u2g d then q61 d a t else none)):=by
 rw[q82];unfold r2g
 simp only[o6c d a t hd ht,t1e d (by unfold u0k;omega),zOb]
 cases hl:u2g d with
 | false=>simp[orD]
 | true=>
  simp only[Bl]
  unfold q61
  cases hb:t24 d a t with
  | none=>simp[orD]
  | some x=>
   have hx:=u3d (s0t hb).2.1
   have hf:=u3d (t7b (s0t hb).2.1).1
   obtain⟨y,hy,hy2,_⟩:=p0a (n:=s58 d a) (u44 hl).2.1 hb
   have hyw:=u3d hy2
   simp only[orD,Ap,Aa,s0e x (by omega),s5u d a (by unfold u0k;omega),zOb,p22 (flush x) a _ (by omega)]
   have hc:IntKind.i64.wrap (u0x d a+1)=s58 d a:=rfl
   rw[hc,hy]
   simp only[orD,s0e y (by omega),zOb,Dc,hy]
def append_ (d:u0i) (t:Hs):Ht u0i:=if u2g d then q61 d (u02 d) t else none
theorem s7i (d:u0i) (t:Hs) (hd:d0s.wt d≤10000000) (ht:t.size≤1048576):t09 (d,t)=some (orD d (append_ d t)):=by
 rw[q9j];unfold r2w append_
 simp only[r0y d (by unfold u0k;omega),zOb,p3t d _ t hd ht]
theorem o8d {d y:u0i} {a:Int} {t:Hs} (hlen:d.1.length=97) (h:q61 d a t=some y):∃x,t24 d a t=some x∧u1y x=true∧u1y y=true∧y.2= [] ∧y.1.length=97∧y=flush (orD (flush x) (r3b (flush x) a (s58 d a))).1:=by
 unfold q61 at h
 cases hb:t24 d a t with
 | none=>rw[hb] at h;cases h
 | some x=>
  rw[hb] at h
  simp only[Dc,Ac] at h
  obtain⟨z,hz,hz2,hz3⟩:=p0a (n:=s58 d a) hlen hb
  rw[hz] at h
  simp only[orD] at h
  obtain⟨f1,f2,f3⟩:=t7b hz2
  rw[←h]
  exact⟨x,rfl,(s0t hb).2.1,f1,f2,by rw[f3];exact hz3,by rw[hz];rfl⟩
section
variable {d:u0i} {t:Hs} (hd:d0s.wt d≤10000000) (ht:t.size≤1048576)
include hd ht
end
end
section
theorem q13 {d x:u0i} {k:Int} {s:Hs} (h:u4j d k s=some x) {j:Int} (hj:j≠k):u0l x j=u0l d j:=by
 have:=(t3h h).2
 subst this
 have hne: ¬k=j:=fun z=>hj z.symm
 unfold u0l
 simp only[r7t,hne,Bk]
theorem r81:∀ {f:Nat} {d x:u0i} {k at_:Nat} {t:Hs},p3n f d k at_ t=some x→at_<64→ ∀j:Nat,¬(k≤j∧j*64<k*64+at_+t.size)→u0l x (j:Int)=u0l d (j:Int)
 | 0,d,x,k,at_,t,h,_,j,_=>by cases h;rfl
 | f+1,d,x,k,at_,t,h,hat,j,hj=>by
  rw[p3n] at h
  split at h
  ·cases h;rfl
  ·rename_i hz
   split at h
   ·cases hw:u4j d (k:Int) ((u0l d (k:Int)).1.extract 0 at_++t.extract 0 (min t.size (64 - at_))++(u0l d (k:Int)).1.extract (at_+min t.size (64 - at_)) 64) with
    | none=>rw[hw] at h;cases h
    | some y=>
     rw[hw] at h
     simp only[zOb] at h
     have hne:j≠k:=fun z=>hj ⟨by omega,by omega⟩
     rw[←q13 hw (j:=(j:Int)) (by omega)]
     refine r81 h (by omega) j (fun z=>hj ?_)
     rw[Bd] at z
     omega
   ·cases h
theorem o8i {s:Hu Hs} {p:Int×Hs} {j:Int} (hp:0≤p.1) (hj0:0≤j) (hj:j.toNat<s.length):rdL Ty.str (s23 s p) j.toNat=if p.1=j then p.2 else rdL Ty.str s j.toNat:=by
 have h' :j.toNat<(s.set p.1.toNat p.2).length:=by rw[Dq];exact hj
 have e1:rdL Ty.str (s.set p.1.toNat p.2) j.toNat=(s.set p.1.toNat p.2)[j.toNat] :=y8k (t:=Ty.str) h'
 have e2:rdL Ty.str s j.toNat=s[j.toNat] :=y8k (t:=Ty.str) hj
 show rdL Ty.str (s.set p.1.toNat p.2) j.toNat=_
 rw[e1,e2,List.getElem_set]
 by_cases e:p.1=j
 ·rw[Al (by rw[e]),Al e]
 ·rw[Ao (by omega),Ao e]
theorem p6k {j:Int} (hj0:0≤j) (z:Hs):∀(c:Hu (Int×Hs)) (s:Hu Hs) (t:Ht Hs),(∀p∈c,0≤p.1)→j.toNat<s.length→rdL Ty.str s j.toNat=t.getD z→
 rdL Ty.str (c.foldl s23 s) j.toNat=(c.foldl (fun t p=>if p.1=j then some p.2 else t) t).getD z
 | [],s,t,_,_,h=>h
 | p::c,s,t,hc,hl,h=>by
  rw[Bs,Bs]
  refine p6k hj0 z c _ _ (fun q hq=>hc q (Bm _ hq)) (by rw[r8x];exact hl) ?_
  rw[o8i (hc p (C9 ..)) hj0 hl]
  split
  ·rfl
  ·exact h
theorem t28 {d:u0i} (hk:u1y d=true) (j:Int):u0l (flush d) j=u0l d j:=by
 obtain⟨_,f2,f3⟩:=t7b hk
 obtain⟨k1,k2,k3,k4⟩:=p6e.mp hk
 unfold u0l
 rw[f3]
 split
 ·rename_i hj
  have e1:t1o (flush d).2 j=none:=by rw[f2];rfl
  rw[e1]
  have e2:(flush d).1=d.2.foldl s23 d.1:=by unfold flush;rw[Al hk]
  rw[e2]
  have:=p6k hj.1 (rdL Ty.str d.1 j.toNat) d.2 d.1 none (fun p hp=>(k4 p hp).1.1) (by omega) rfl
  show(rdL Ty.str (d.2.foldl s23 d.1) j.toNat,true)=_
  rw[this]
  rfl
 ·rfl
theorem p3c {d d' :u0i} {from_:Int} :∀(m i:Nat) (acc:Hs),(∀q:Nat,i≤q→q<i+m→u0l d' (from_+(q:Int))=u0l d (from_+(q:Int)))→r89 d' from_ m i acc=r89 d from_ m i acc
 | 0,i,acc,h=>rfl
 | m+1,i,acc,h=>by
  unfold r89
  rw[h i (by omega) (by omega)]
  split
  ·exact p3c m (i+1) _ (fun q h1 h2=>h q (by omega) (by omega))
  ·rfl
theorem t1k {d d' :u0i} {o:Int} (h:∀q:Nat,q<48→u0l d' (u0f o+(q:Int))=u0l d (u0f o+(q:Int))):u0c d' o=u0c d o:=by
 have h1:u74 d' (u0f o+1) 47=u74 d (u0f o+1) 47:=by
  unfold u74
  rw[Al (by omega),Al (by omega)]
  refine p3c _ _ _ (fun q _ hq=> ?_)
  have:=h (q+1) (by simp at hq;omega)
  rw[show u0f o+1+(q:Int)=u0f o+((q+1:Nat):Int) by omega]
  exact this
 have h2:u0x d' o=u0x d o:=by
  unfold u0x u3s
  have:=h 0 (by omega)
  rw[show u0f o+((0:Nat):Int)=u0f o by omega] at this
  rw[this]
 unfold u0c
 rw[h1,h2]
def OnlyArea (a:Int) (d d' :u0i):Prop:= ∀j:Nat,¬(u0f a≤(j:Int)∧(j:Int)<u0f a+48)→u0l d' (j:Int)=u0l d (j:Int)
theorem OnlyArea.other {a o:Int} {d d' :u0i} (h:OnlyArea a d d') (ha:a=0∨a=1) (ho:o=1 - a):u0c d' o=u0c d o:=by
 refine t1k (fun q hq=> ?_)
 have hf:u0f o=1+o*48:=by unfold u0f;rw[Al (o9r.mpr (by omega))]
 have hfa:u0f a=1+a*48:=by unfold u0f;rw[Al (o9r.mpr ha)]
 obtain⟨j,hj⟩:∃j:Nat,u0f o+(q:Int)=(j:Int):=⟨(u0f o+(q:Int)).toNat,by rcases ha with rfl | rfl<;>omega⟩
 rw[hj]
 exact h j (by rcases ha with rfl | rfl<;>omega)
theorem OnlyArea.trans {a:Int} {d d' e:u0i} (h1:OnlyArea a d d') (h2:OnlyArea a d' e):OnlyArea a d e:=fun j hj=>(h2 j hj).trans (h1 j hj)
theorem OnlyArea.flush {a:Int} {d d' :u0i} (h:OnlyArea a d d') (hk:u1y d' =true):OnlyArea a d (flush d'):=fun j hj=>(t28 hk _).trans (h j hj)
theorem r5h {d x:u0i} {s at_:Int} {t:Hs} (h:u20 d s at_ t=some x) {j:Nat} (hj: ¬(s≤(j:Int)∧(j:Int)*64<s*64+at_+(t.size:Int))):u0l x (j:Int)=u0l d (j:Int):=by
 unfold u20 at h
 split at h
 ·rename_i hc
  simp only[Ai,r0x,Ar] at hc
  refine r81 h (Ev _ (by omega)) j (fun z=>hj ?_)
  omega
 ·cases h
theorem o5v {d x:u0i} {a:Int} {t:Hs} (h:t24 d a t=some x):OnlyArea a d x:=by
 have h0:=h
 unfold t24 at h
 split at h
 ·cases h
 ·rename_i hc
  simp only[Hr] at hc
  intro j hj
  refine r5h h (fun z=>hj ?_)
  omega
theorem p6c {d x:u0i} {a n:Int} (h:r3b d a n=some x):OnlyArea a d x:=by
 intro j hj
 refine r5h h (fun z=>hj ?_)
 rw[u2d] at z
 omega
theorem o95 {d y:u0i} {a:Int} {t:Hs} (hlen:d.1.length=97) (h:q61 d a t=some y):OnlyArea a d y:=by
 unfold q61 at h
 cases hb:t24 d a t with
 | none=>rw[hb] at h;cases h
 | some x=>
  rw[hb] at h
  simp only[Dc,Ac] at h
  obtain⟨z,hz,hz2,hz3⟩:=p0a (n:=s58 d a) hlen hb
  rw[hz] at h
  subst h
  exact(((o5v hb).flush (s0t hb).2.1).trans (p6c hz)).flush hz2
structure Mid (o:Int) (x:u0i):Prop where
 ok:u1y x=true
 len:x.1.length=97
 nil:x.2= []
 other:(u0c x o).2.2=true
theorem Mid.isLog {a o:Int} {x:u0i} (h:Mid o x) (ha:a=0∨a=1) (ho:o=1 - a):u2g x=(u0c x a).2.2:=by
 unfold u2g
 have hl:decide (x.2.length=0)=true:=by rw[h.nil];rfl
 rw[h.ok,hl]
 have hlen:decide (x.1.length=97)=true:=by rw[h.len];rfl
 rw[hlen]
 have hot:=h.other
 rcases ha with rfl | rfl
 ·have:o=1:=by omega
  subst this
  rw[hot];simp
 ·have:o=0:=by omega
  subst this
  rw[hot];simp
theorem Mid.put {a o:Int} {x y:u0i} {t:Hs} (h:Mid o x) (ha:a=0∨a=1) (ho:o=1 - a) (hp:q61 x a t=some y):Mid o y:=by
 obtain⟨_,_,_,p1,p2,p3,_⟩:=o8d h.len hp
 exact⟨p1,p3,p2,by rw[(o95 h.len hp).other ha ho];exact h.other⟩
theorem Mid.record {a o:Int} {x:u0i} {t:Hs} (h:Mid o x) (ha:a=0∨a=1) (ho:o=1 - a):(if u2g x then q61 x a t else none)=q61 x a t:=by
 rw[h.isLog ha ho]
 cases hr:(u0c x a).2.2 with
 | true=>simp
 | false=>
  have:q61 x a t=none:=by
   unfold q61
   cases hb:t24 x a t with
   | none=>rfl
   | some z=>rw[(s0t hb).2.2.2] at hr;cases hr
  simp[this]
def s59 (a:Int):Hu Hs→u0i→Ht u0i
 | [],x=>some x
 | t::l,x=>(q61 x a t).bind (s59 a l)
theorem p6h {a o:Int} (ha:a=0∨a=1) (ho:o=1 - a):∀ {l:Hu Hs} {x y:u0i},Mid o x→s59 a l x=some y→Mid o y
 | [],x,y,h,hy=>by cases hy;exact h
 | t::l,x,y,h,hy=>by
  unfold s59 at hy
  cases hp:q61 x a t with
  | none=>rw[hp] at hy;cases hy
  | some z=>
   rw[hp] at hy
   exact p6h ha ho (h.put ha ho hp) hy
theorem o06 {a o:Int} (ha:a=0∨a=1) (ho:o=1 - a) (d jk:u0i) (hd:d0s.wt d≤10000000) (list:Hu Hs) (hl:list.length≤1048576) (hs:∀t∈list,t.size≤1048576):∀(r i:Nat) (x:u0i),i+r=list.length→Mid o x→
 u7t (d,jk,a,x,list,(list.length:Int),(i:Int))=some (match s59 a (list.drop i) x with
  | some y=> .inl (jk,y)
  | none=> .inr (d,false))
 | 0,i,x,hi,hm=>by
  have:i=list.length:=by omega
  subst this
  rw[s67]
  simp only[t1w,u0b,Am,Ah,Aa,F5,s59]
 | r+1,i,x,hi,hm=>by
  have h:i<list.length:=by omega
  have hw:=u3d hm.ok
  have hts:=hs list[i] (Ag h)
  have hr:rdL Ty.str list i=list[i] :=y8k (t:=Ty.str) h
  rw[s67,Ce h]
  simp only[t1w,u0b,h,Ae,Ad,y7t h,zTn,hr,p3s x a list[i] (by omega) hts,hm.record ha ho,t1e d (by unfold u0k;omega),zOb,s59]
  rw[y7l (by omega)]
  cases hp:q61 x a list[i] with
  | none=>simp[orD]
  | some y=>
   simp only[orD,Ap,Aa,zOb]
   exact o06 ha ho d jk hd list hl hs r (i+1) y (by omega) (hm.put ha ho hp)
theorem o08 {a o:Int} (ha:a=0∨a=1) (ho:o=1 - a) (jk:u0i) (list:Hu Hs) (hl:list.length≤1048576) (hs:∀t∈list,t.size≤1048576):∀(r i:Nat) (x:u0i),i+r=list.length→Mid o x→
 ∃q,t0w (list,jk,a,x,true,(i:Int))=some (.inl (jk,q))∧(match s59 a (list.drop i) x with
  | some y=>q=(y,true)
  | none=>q.2=false)
 | 0,i,x,hi,hm=>by
  have:i=list.length:=by omega
  subst this
  rw[s2o]
  simp only[t0e,u0b,Am,Ah,Aa,F5,s59,zOb]
  exact⟨_,rfl,rfl⟩
 | r+1,i,x,hi,hm=>by
  have h:i<list.length:=by omega
  have hw:=u3d hm.ok
  have hts:=hs list[i] (Ag h)
  have hr:rdL Ty.str list i=list[i] :=y8k (t:=Ty.str) h
  rw[s2o,Ce h]
  simp only[t0e,u0b,h,Ae,Ad,y7t h,zTn,hr,o1e x a list[i] (by omega) hts hm.len,zOb,s59]
  rw[y7l (by omega)]
  cases hp:q61 x a list[i] with
  | none=>
   simp only[orD,Option.bind_none]
   rw[s2o]
   simp only[t0e,u0b]
   cases decide (i+1<list.length)<;>exact⟨_,rfl,rfl⟩
  | some y=>
   simp only[orD,zOb]
   exact o08 ha ho jk list hl hs r (i+1) y (by omega) (hm.put ha ho hp)
end
section
def u48 (d:u0i):Int:=1 - u02 d
theorem t74 (d:u0i):(u48 d=0∨u48 d=1)∧u02 d=1 - u48 d:=by
 unfold u48
 have:=t7m d
 omega
def s13 (d:u0i):u0i:=flush (orD d (r3b d (u48 d) 0)).1
def s85 (d:u0i) (l:Hu Hs):Ht u0i:=if u2g d then s59 (u48 d) l (s13 d) else none
def o37 (x:u0i):Ht u0i:=u20 x 0 0 (t00 (IntKind.i64.wrap (u3s x 0+1)))
def s2m (d:u0i) (l:Hu Hs):Ht u0i:=(s85 d l).map fun x=>flush (orD x (o37 x)).1
theorem p07 {d:u0i} (hl:u2g d=true) (a n:Int):∃z,r3b d a n=some z∧u1y z=true∧z.1.length=97:=by
 obtain⟨h1,h2,h3,_⟩:=u44 hl
 have ha:=t70 a
 have ho:=q2m (s:=u0f a) h1 h3 (by omega) (by omega) (u2d n)
 have:=u6k ho
 exact⟨_,ho,this.2.1,by rw[this.2.2];exact h2⟩
theorem p2j {d:u0i} (hl:u2g d=true):Mid (u02 d) (s13 d):=by
 obtain⟨z,hz,hz2,hz3⟩:=p07 hl (u48 d) 0
 obtain⟨a1,a2⟩:=t74 d
 obtain⟨h1,h2,h3,h4,h5⟩:=u44 hl
 obtain⟨f1,f2,f3⟩:=t7b hz2
 have e:s13 d=flush z:=by unfold s13;rw[hz];rfl
 have hr:(u0c d (u02 d)).2.2=true:=by
  rcases t7m d with h | h<;>rw[h] <;>assumption
 rw[e]
 exact⟨f1,by rw[f3];exact hz3,f2,by rw[((p6c hz).flush hz2).other a1 a2];exact hr⟩
theorem o8m {x:u0i} {o:Int} (h:Mid o x):∃y,o37 x=some y∧u1y y=true:=by
 have ho:=q2m (s:=0) h.ok h.nil (by omega) (by rw[h.len];omega) (u2d (IntKind.i64.wrap (u3s x 0+1)))
 exact⟨_,ho,(u6k ho).2.1⟩
section
variable {d:u0i} {l:Hu Hs} (hd:d0s.wt d≤10000000) (hl:l.length≤1048576) (hs:∀t∈l,t.size≤1048576)
include hd hl hs
omit hd hl hs in
theorem o8s:IntKind.i64.wrap ((1:Int) - u02 d)=u48 d:=by
 unfold u48
 have:=t7m d
 rw[y4y (by omega) (by omega)]
omit hd hl hs in
theorem o07 {x:u0i} (h:s85 d l=some x):u2g d=true∧Mid (u02 d) x:=by
 unfold s85 at h
 split at h
 ·rename_i hlo
  obtain⟨a1,a2⟩:=t74 d
  exact⟨hlo,p6h a1 a2 (p2j hlo) h⟩
 ·cases h
theorem p5n:s2b (d,l)=some (orD d (s85 d l)):=by
 rw[q9b];unfold r2o s85
 simp only[q5z d (by omega),t1e d (by unfold u0k;omega),q2x d (by unfold u0k;omega),o8s (d:=d),p22 d _ _ (by omega),zOb]
 cases hlo:u2g d with
 | false=>simp[orD]
 | true=>
  obtain⟨z,hz,hz2,hz3⟩:=p07 hlo (u48 d) 0
  have hzw:=u3d hz2
  obtain⟨a1,a2⟩:=t74 d
  have e:flush z=s13 d:=by unfold s13;rw[hz];rfl
  have L:=o06 a1 a2 d ([], []) hd l hl hs l.length 0 (s13 d) (by omega) (p2j hlo)
  have L:u7t (d,([], []),u48 d,s13 d,l,(l.length:Int),0)=_:=L
  simp only[Ap,Aa,hz,orD,s0e z (by omega),zOb,e,L,Fh,Bl]
  cases s59 (u48 d) l (s13 d)<;>rfl
theorem o1d (hlo:u2g d=true):∃q,s76 (d,l)=some q∧(match s85 d l with
 | some y=>q=(y,true)
 | none=>q.2=false):=by
 obtain⟨z,hz,hz2,hz3⟩:=p07 hlo (u48 d) 0
 have hzw:=u3d hz2
 obtain⟨a1,a2⟩:=t74 d
 have e:flush z=s13 d:=by unfold s13;rw[hz];rfl
 obtain⟨q,L,hq⟩:=o08 a1 a2 ([], []) l hl hs l.length 0 (s13 d) (by omega) (p2j hlo)
 have L:t0w (l,([], []),u48 d,s13 d,true,0)=_:=L
 rw[Fh] at hq
 refine⟨q,?_,by unfold s85;rw[hlo,Al rfl];exact hq⟩
 rw[p5a];unfold q0w
 simp only[r0y d (by unfold u0k;omega),o8s (d:=d),p2r d _ _ (by omega),zOb,hz,orD,t1f z (by omega),e,L]
omit hd hl hs in
theorem o2h (x:u0i) (hx:d0s.wt x≤10000000):s2c x=some (orD x (o37 x)).1:=by
 rw[q9g];unfold r2t
 have h1:y7g [IntKind.u8.wrap (IntKind.i64.wrap (u3s x 0+1))] =t00 (IntKind.i64.wrap (u3s x 0+1)):=rfl
 simp only[s7o x 0 (by unfold u0k;omega),zOb,h1,s3z x 0 0 (t00 (IntKind.i64.wrap (u3s x 0+1))) (by omega) (by rw[u2d];omega) (by rw[u2d];omega)]
 rfl
omit hd hl hs in
theorem o55 (x:u0i) (hx:d0s.wt x≤10000000):s77 x=some (orD x (o37 x)):=by
 rw[p5b];unfold q0x
 have h1:∀n,u95 n=some (t00 n):=fun n=>by rw[r1b];rfl
 simp only[r7b x 0 (by unfold u0k;omega),h1,zOb,t22 x 0 0 (t00 (IntKind.i64.wrap (u3s x 0+1))) (by omega) (by rw[u2d];omega)]
 rfl
theorem p3u:s17 (d,l)=some (orD d (s2m d l)):=by
 rw[q86];unfold r2k s2m
 simp only[p5n hd hl hs,zOb]
 cases hf:s85 d l with
 | none=>rfl
 | some x=>
  obtain⟨hlo,hm⟩:=o07 hf
  have hx:=u3d hm.ok
  obtain⟨y,hy,hy2⟩:=o8m hm
  have hyw:=u3d hy2
  simp only[orD,Ap,Aa,o2h x (by omega),hy,zOb,s0e y (by omega),Dc]
theorem r9i:t7h (d,l)=some (orD d (s2m d l)):=by
 rw[q9s];unfold r25 s2m
 simp only[p52 d (by omega),u8g d (by unfold u0k;omega),zOb]
 cases hlo:u2g d with
 | false=>
  have:s85 d l=none:=by unfold s85;rw[hlo];rfl
  rw[this]
  rfl
 | true=>
  obtain⟨q,hq,hq2⟩:=o1d hd hl hs hlo
  simp only[Ap,Aa,hq,zOb]
  cases hf:s85 d l with
  | none=>
   rw[hf] at hq2
   simp only at hq2
   simp only[hq2,Bh,Ad]
   rfl
  | some x=>
   rw[hf] at hq2
   simp only at hq2
   subst hq2
   obtain⟨_,hm⟩:=o07 hf
   have hx:=u3d hm.ok
   obtain⟨y,hy,hy2⟩:=o8m hm
   have hyw:=u3d hy2
   simp only[orD,Ap,Aa,o55 x (by omega),hy,zOb,t1f y (by omega),Dc]
def t25 (d:u0i) (l:Hu Hs) (step:Int) (keep:Hu Int) (tear:Int):u0i:=
 match s85 d l with
 | none=>d
 | some x=>
  if step=0 then s5q (orD d (r3b d (u48 d) 0)).1 keep tear
  else if step=1 then x
  else if step=2 then s5q (orD x (o37 x)).1 keep tear
  else flush (orD x (o37 x)).1
end
end
section
def r1d (s:Hs) (i:Nat):UInt8:=s.data.toList.getD i 0
theorem u92 (a b:Hs) (i:Nat):r1d (a++b) i=if i<a.size then r1d a i else r1d b (i - a.size):=by
 unfold r1d
 have hs:a.size=a.data.toList.length:=by simp only[B6];rfl
 rw[Ft,Ha,A5,hs]
 split
 ·rename_i h
  rw[Aj h,A5]
 ·rename_i h
  rw[Aq (Fz h),A5]
theorem u5e (a:Hs) (b e i:Nat):r1d (a.extract b e) i=if i<min e a.size - b then r1d a (b+i) else 0:=by
 unfold r1d
 have hd:(a.extract b e).data.toList=(a.data.toList.drop b).take (min e a.size - b):=by
  have hs:a.size=a.data.toList.length:=by simp only[B6];rfl
  rw[ByteArray.data_extract]
  rw[Array.toList_extract,F7]
  apply Gj
  intro n
  rw[Ca,Ca,Dg]
  split<;>split<;>first | rfl | skip
  ·rename_i h1 h2
   rw[Be (by omega)]
  ·rename_i h1 h2
   rw[Be (by omega)]
 rw[hd,A5,Ca]
 split
 ·rw[Dg,A5]
 ·rfl
theorem p0b {a b:Hs} (hs:a.size=b.size) (h:∀i,i<a.size→r1d a i=r1d b i):a=b:=by
 have ha:a.size=a.data.toList.length:=by simp only[B6];rfl
 have hb:b.size=b.data.toList.length:=by simp only[B6];rfl
 have:a.data.toList=b.data.toList:=by
  apply Gw (by omega)
  intro i h1 h2
  have:=h i (by omega)
  unfold r1d at this
  rw[A5,A5,A4 h1,A4 h2] at this
  exact this
 apply Gf
 apply Fj
 exact this
theorem p9n {d x:u0i} {k:Int} {s:Hs} (h:u4j d k s=some x):u0l x k=(s,true):=by
 obtain⟨h1,h2⟩:=t3h h
 obtain⟨_,_,_,h4⟩:=p6e.mp h1
 subst h2
 have:=(h4 (k,s) (by simp)).1
 have hk:0≤k∧k<(d.1.length:Int):=this
 unfold u0l
 simp only[r7t]
 rw[Al hk]
 simp
theorem p60:∀ {f:Nat} {d x:u0i} {k at_:Nat} {t:Hs},p3n f d k at_ t=some x→t.size<f→at_<64→ ∀(j i:Nat),i<64→j<d.1.length→
 r1d (u0l x (j:Int)).1 i=if k*64+at_≤j*64+i∧j*64+i<k*64+at_+t.size then r1d t (j*64+i - (k*64+at_)) else r1d (u0l d (j:Int)).1 i
 | 0,d,x,k,at_,t,h,hf,_,j,i,_,_=>by omega
 | f+1,d,x,k,at_,t,h,hf,hat,j,i,hi,hj=>by
  rw[p3n] at h
  split at h
  ·rename_i hz
   cases h
   rw[Ao (by omega)]
  ·rename_i hz
   split at h
   ·rename_i hrd
    cases hw:u4j d (k:Int) ((u0l d (k:Int)).1.extract 0 at_++t.extract 0 (min t.size (64 - at_))++(u0l d (k:Int)).1.extract (at_+min t.size (64 - at_)) 64) with
    | none=>rw[hw] at h;cases h
    | some y=>
     rw[hw] at h
     simp only[zOb] at h
     obtain⟨n,hn⟩:∃n,n=min t.size (64 - at_):=⟨_,rfl⟩
     rw[←hn] at h hw
     have hyl:y.1.length=d.1.length:=by rw[(t3h hw).2]
     have hsz:(t.extract n t.size).size=t.size - n:=by rw[Bd];omega
     have ih:=p60 h (by omega) (by omega) j i hi (by omega)
     rw[ih,hsz]
     by_cases hjk:j=k
     ·subst hjk
      rw[Ao (by omega),p9n hw]
      simp only
      rw[u92,u92,u5e,u5e,u5e]
      simp only[Af,Bd,hrd.2]
      by_cases h1:i<at_
      ·have e1:i<min at_ 64 - 0:=by omega
       rw[Al (by omega),Al e1,Al e1,Ao (by omega),Co]
      ·by_cases h2:i<at_+n
       ·rw[Al (by omega),Ao (by omega),Al (by omega),Al (by omega)]
        congr 1
        omega
       ·rw[Ao (by omega),Al (by omega),Ao (by omega)]
        congr 1
        omega
     ·have hfr:u0l y (j:Int)=u0l d (j:Int):=q13 hw (by omega)
      rw[hfr]
      by_cases h1:(k+1)*64+0≤j*64+i∧j*64+i<(k+1)*64+0+(t.size - n)
      ·rw[Al h1,Al (by omega),u5e,Al (by omega)]
       congr 1
       omega
      ·rw[Ao h1,Ao (by omega)]
   ·cases h
end
end
end Go.Proofs.YtkdpclfhapphhaaGreat.Ab
