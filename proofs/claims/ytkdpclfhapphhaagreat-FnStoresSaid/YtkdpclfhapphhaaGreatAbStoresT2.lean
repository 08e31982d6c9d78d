import Derived.Test.YtkdpclfhapphhaaGreatAbStoresT1
import Derived.Test.YtkdpclfhapphhaaGreatAbK2
import Derived.Test.YtkdpclfhapphhaaGreatAbF4
import Derived.Test.YtkdpclfhapphhaaGreatAbS2
namespace Go.Proofs.YtkdpclfhapphhaaGreat.Ab
open Go
set_option linter.unusedVariables false
set_option linter.unusedSimpArgs false
set_option linter.unnecessarySimpa false
section
section
theorem o9b (l:Hu u0g) (n:Int):((List.range l.length).all fun i=>decide ((rdL u0x l i).1<n)&& !((l.take i).any fun y=>decide (y.1=(rdL u0x l i).1)))=q3r (u53 l) n:=by
 rw[Cd,Bg,r8e]
 unfold u53
 constructor
 ·intro h
  constructor
  ·intro x hx
   obtain⟨t,ht,rfl⟩:=Bx.mp hx
   obtain⟨i,hi,rfl⟩:=B7 ht
   have:=h i (Bq.mpr hi)
   rw[Ai,Ar,y8k hi] at this
   exact this.1
  ·rw[D8,Dl,Cp]
   intro i j hi hj hij e
   have:=h j (Bq.mpr hj)
   rw[Ai,Bj,y8k hj] at this
   have hm:l[i] ∈l.take j:=by
    rw[Gy]
    exact⟨i,by simp;omega,by simp⟩
   have:=Ct.mp this.2 _ hm
   simp only[Ar] at this
   exact this e
 ·rintro⟨h1,h2⟩ i hi
  have hi:=Bq.mp hi
  rw[Ai,Ar,y8k hi,Bj]
  refine⟨h1 _ (Bx.mpr ⟨_,Ag hi,rfl⟩),?_⟩
  rw[Ct]
  intro y hy
  rw[Gy] at hy
  obtain⟨j,hj,rfl⟩:=hy
  simp only[Ec] at hj
  rw[D8,Dl,Cp] at h2
  simp only[Fc,Ar]
  exact h2 j i (by omega) hi (by omega)
theorem q2m (l:Hu u0g) (n:Int) (hl:l.length≤1099511627776):t24 (l,n)=some (q3r (u53 l) n):=by
 have hsome:∀(m:Hu u0g) (t:u0g),m.length≤1099511627776→u7m (m,t)=some (m.any fun y=>decide (y.1=t.1)):=by
  intro m t hm
  have L:=Q.first (T:=u0x) (c:=u0g) (W:=u07) (q:=s07) (p:=fun y:u0g=>decide (y.1=t.1)) (fun x=>u9l x) m t (by omega) (fun x _=>by rw[q5x];rfl)
  simp only[s47,t37,u9b,u3j,t0t,u4i,L,zOb]
  rw[←t9i]
  by_cases h:u0p (fun y:u0g=>decide (y.1=t.1)) m<m.length
  ·simp[h]
  ·simp[h]
 have L:=t4o t32 l.length (fun i=>(l,n,l,(l.length:Int),i)) (fun i=>decide ((rdL u0x l i).1<n)&& !((l.take i).any fun y=>decide (y.1=(rdL u0x l i).1))) (.inl ()) (.inr false)
  (by rw[s8y];simp only[t3q,u0b,Am,Ah,Aa])
  (fun i hi=>by
   have e1:(decide ((0:Int)≤0)&&decide ((0:Int)≤(i:Int))&&decide ((i:Int)≤(l.length:Int)))=true:=by simp;omega
   have e2:(l.take i).drop ((0:Int)).toNat=l.take i:=by simp
   have e3:=hsome (l.take i) (rdL u0x l i) (by simp;omega)
   rw[s8y];simp only[t3q,u0b,hi,Ae,Ad,y7t hi,zTn,y7l (show i<4611686018427387904 by omega),q9d (rdL u0x l i).1 n,e1]
   rw[e2,e3]
   cases decide ((rdL u0x l i).1<n)
   ·rfl
   ·simp only[Ap,Aa,zOb,Bz]
    cases (l.take i).any fun y=>decide (y.1=(rdL u0x l i).1)<;>rfl)
 rw[o9b] at L
 rw[p0j];unfold r30
 simp only[L,zOb]
 cases q3r (u53 l) n<;>rfl
theorem r8a (b:u0i):j5e.wt b=(Ty.sl u0d).wt b.1+((Ty.sl u0x).wt b.2.1+((Ty.sl u0x).wt b.2.2.1+(0+0))):=rfl
theorem q36 {l:Hu u0g} {t:u0g} (h:t∈l):u0x.wt t≤(Ty.sl u0x).wt l:=by
 have h1:(Ty.sl u0x).wt l=l.length+(l.map u0x.wt).sum:=rfl
 have h2:=p8a (f:=u0x.wt) h
 omega
theorem gt3 (n:Nat):decide ((n:Int) >3)= !decide (n≤3):=by by_cases h:n≤3<;>simp[h] <;>omega
theorem gt4 (n:Nat):decide ((n:Int) >4)= !decide (n≤4):=by by_cases h:n≤4<;>simp[h] <;>omega
theorem t45 (t:u0g):u6i t=some (decide (t.2.1=2)):=by rw[p5q];rfl
theorem t07 (b:u0i) (hw:j5e.wt b≤u0j):u27 b=some (u79 b):=by
 have hb:u0j=1099511627776:=rfl
 have hbw:=r8a b
 have n1:=s1s (t:=u0d) b.1
 have n2:=s1s (t:=u0x) b.2.1
 have n3:=s1s (t:=u0x) b.2.2.1
 have L1:=t4o t4p b.1.length (fun i=>(b,b.1,(b.1.length:Int),i)) (fun i=>(fun v:u2m=>decide (v.2.2.2≤b.2.2.2.1)) (rdL u0d b.1 i)) (.inl b) (.inr false)
  (by rw[r9h];simp only[t95,u0b,Am,Ah,Aa])
  (fun i hi=>by
   rw[r9h];simp only[t95,u0b,hi,Ae,Ad,y7t hi,zTn,y7l (show i<4611686018427387904 by omega),q59 (rdL u0d b.1 i).2.2.2 b.2.2.2.1]
   cases decide ((rdL u0d b.1 i).2.2.2≤b.2.2.2.1)<;>rfl)
 rw[s3i (t:=u0d) b.1 (fun v:u2m=>decide (v.2.2.2≤b.2.2.2.1))] at L1
 have L2:=t4o t18 b.2.1.length (fun i=>(b,b.2.1,(b.2.1.length:Int),i)) (fun i=>(fun t:u0g=>u77 t&&(decide (t.2.1=3)&&decide (t.2.2.2.1≤b.2.2.2.1))) (rdL u0x b.2.1 i)&&(decide (i=0) || (fun x y:u0g=>decide (x.2.2.2.1<y.2.2.2.1)) (rdL u0x b.2.1 (i - 1)) (rdL u0x b.2.1 i))) (.inl b) (.inr false)
  (by rw[r5n];simp only[t7v,u0b,Am,Ah,Aa])
  (fun i hi=>by
   have hm:rdL u0x b.2.1 i∈b.2.1:=by rw[y8k hi];exact Ag hi
   have ht:=q36 hm
   have hk:=s5k (rdL u0x b.2.1 i) (by omega)
   rw[r5n];simp only[t7v,u0b,hi,Ae,Ad,y7t hi,zTn,y7l (show i<4611686018427387904 by omega),q59 (rdL u0x b.2.1 i).2.2.2.1 b.2.2.2.1,s2w,p3w,zOb]
   rw[hk]
   simp only[zOb]
   generalize u77 (rdL u0x b.2.1 i)=b1
   generalize decide ((rdL u0x b.2.1 i).2.1=3)=b2
   generalize decide ((rdL u0x b.2.1 i).2.2.2.1≤b.2.2.2.1)=b3
   by_cases h0:i=0
   ·subst h0;simp only[Ae,Ap,Aa,Dx,Cz]
    cases b1<;>cases b2<;>cases b3<;>rfl
   ·simp only[h0,Ah,Bh,Ad,Ci,t7u (show i<4611686018427387904 by omega) h0,y7t (show i - 1<b.2.1.length by omega),zTn,q9d (rdL u0x b.2.1 (i - 1)).2.2.2.1 (rdL u0x b.2.1 i).2.2.2.1]
    generalize decide ((rdL u0x b.2.1 (i - 1)).2.2.2.1<(rdL u0x b.2.1 i).2.2.2.1)=b4
    cases b1<;>cases b2<;>cases b3<;>cases b4<;>rfl)
 rw[s88 (t:=u0x) b.2.1 (fun t:u0g=>u77 t&&(decide (t.2.1=3)&&decide (t.2.2.2.1≤b.2.2.2.1))) (fun x y:u0g=>decide (x.2.2.2.1<y.2.2.2.1))] at L2
 have L3:=t4o t19 b.2.2.1.length (fun i=>(b,b.2.2.1,(b.2.2.1.length:Int),i)) (fun i=>(fun t:u0g=>u77 t&&(decide (t.2.1=2)&&decide (t.2.2.1≤b.2.2.2.1))) (rdL u0x b.2.2.1 i)&&(decide (i=0) || (fun x y:u0g=>y3c x.2.2.2.2.2.2.2 y.2.2.2.2.2.2.2) (rdL u0x b.2.2.1 (i - 1)) (rdL u0x b.2.2.1 i))) (.inl b) (.inr false)
  (by rw[r5o];simp only[t7w,u0b,Am,Ah,Aa])
  (fun i hi=>by
   have hm:rdL u0x b.2.2.1 i∈b.2.2.1:=by rw[y8k hi];exact Ag hi
   have ht:=q36 hm
   have hk:=s5k (rdL u0x b.2.2.1 i) (by omega)
   rw[r5o];simp only[t7w,u0b,hi,Ae,Ad,y7t hi,zTn,y7l (show i<4611686018427387904 by omega),q59 (rdL u0x b.2.2.1 i).2.2.1 b.2.2.2.1,s2w,t45,zOb]
   rw[hk]
   simp only[zOb]
   generalize u77 (rdL u0x b.2.2.1 i)=b1
   generalize decide ((rdL u0x b.2.2.1 i).2.1=2)=b2
   generalize decide ((rdL u0x b.2.2.1 i).2.2.1≤b.2.2.2.1)=b3
   by_cases h0:i=0
   ·subst h0;simp only[Ae,Ap,Aa,Dx,Cz]
    cases b1<;>cases b2<;>cases b3<;>rfl
   ·simp only[h0,Ah,Bh,Ad,Ci,t7u (show i<4611686018427387904 by omega) h0,y7t (show i - 1<b.2.2.1.length by omega),zTn]
    generalize y3c (rdL u0x b.2.2.1 (i - 1)).2.2.2.2.2.2.2 (rdL u0x b.2.2.1 i).2.2.2.2.2.2.2=b4
    cases b1<;>cases b2<;>cases b3<;>cases b4<;>rfl)
 rw[s88 (t:=u0x) b.2.2.1 (fun t:u0g=>u77 t&&(decide (t.2.1=2)&&decide (t.2.2.1≤b.2.2.2.1))) (fun x y:u0g=>y3c x.2.2.2.2.2.2.2 y.2.2.2.2.2.2.2)] at L3
 have hC:=q60 [b.2.1,b.2.2.1] (by simp only[List.flatten_cons,List.flatten_nil,Bw,Ba];omega) (by simp)
 have hf: [b.2.1,b.2.2.1].flatten=b.2.1++b.2.2.1:=by simp
 rw[hf] at hC
 have hI:=q2m (b.2.1++b.2.2.1) b.2.2.2.2 (by rw[Ba];omega)
 have hV:=p1x b.1 (by omega)
 rw[p85];unfold q4j
 rw[hV]
 simp only[r96,j64,gt3,zOb]
 unfold u79 o6f o0k
 generalize u8x b.1=c1
 generalize inB b.2.2.2.1 0 9999=c3
 generalize inB b.2.2.2.2 1 9999=c4
 generalize decide (b.2.1.length≤12)=c5
 generalize decide (b.2.2.1.length≤3)=c6
 generalize ha1:b.1.all (fun v:u2m=>decide (v.2.2.2≤b.2.2.2.1))=a1 at L1
 generalize ha2:b.2.1.all (fun t:u0g=>u77 t&&(decide (t.2.1=3)&&decide (t.2.2.2.1≤b.2.2.2.1)))=a2 at L2
 generalize ha3:p44 u0x (fun x y:u0g=>decide (x.2.2.2.1<y.2.2.2.1)) b.2.1=a3 at L2
 generalize ha4:b.2.2.1.all (fun t:u0g=>u77 t&&(decide (t.2.1=2)&&decide (t.2.2.1≤b.2.2.2.1)))=a4 at L3
 generalize ha5:p44 u0x (fun x y:u0g=>y3c x.2.2.2.2.2.2.2 y.2.2.2.2.2.2.2) b.2.2.1=a5 at L3
 generalize q3r (u53 (b.2.1++b.2.2.1)) b.2.2.2.2=a6 at hI
 have hR:((t4p (b,b.1,(b.1.length:Int),0)).bind fun r5=>match r5 with
  | .inl o6=>(t18 (o6,o6.2.1,(o6.2.1.length:Int),0)).bind fun r10=>match r10 with
   | .inl o11=>(t19 (o11,o11.2.2.1,(o11.2.2.1.length:Int),0)).bind fun r15=>match r15 with
    | .inl o16=>(u2x [o16.2.1,o16.2.2.1]).bind fun y17=>(t24 (y17,o16.2.2.2.2)).bind fun y18=>some y18
    | .inr z19=>some z19
   | .inr z20=>some z20
  | .inr z21=>some z21)=some (a1&&((a2&&a3)&&((a4&&a5)&&a6))):=by
  rw[L1]
  cases a1
  ·rfl
  ·simp only[Ad,zOb,Bz]
   rw[L2]
   cases (a2&&a3)
   ·rfl
   ·simp only[Ad,zOb,Bz]
    rw[L3]
    cases (a4&&a5)
    ·rfl
    ·simp only[Ad,zOb,Bz]
     rw[hC]
     simp only[zOb]
     rw[hI];rfl
 cases c1<;>cases c3<;>cases c4<;>cases c5<;>cases c6<;>simp only[Ap,Bh,Ad,Aa,zOb,Fx,Fy,Bz,Cz]
 exact hR
theorem o7k (l:Hu Int) (n:Int):((List.range l.length).all fun i=>((List.range i).all fun j=> !decide (rdL (Ty.int .i64) l j=rdL (Ty.int .i64) l i))&&decide (rdL (Ty.int .i64) l i<n))=q3r l n:=by
 rw[Cd,Bg,r8e]
 constructor
 ·intro h
  constructor
  ·intro x hx
   obtain⟨i,hi,rfl⟩:=B7 hx
   have:=h i (Bq.mpr hi)
   rw[Ai,Ar,y8k (t:=Ty.int .i64) hi] at this
   exact this.2
  ·rw[D8,Cp]
   intro i j hi hj hij e
   have:=h j (Bq.mpr hj)
   rw[Ai,Bg] at this
   have:=this.1 i (Bq.mpr hij)
   rw[y8k (t:=Ty.int .i64) hi,y8k (t:=Ty.int .i64) hj,Bj,Bu] at this
   exact this e
 ·rintro⟨h1,h2⟩ i hi
  have hi:=Bq.mp hi
  rw[Ai,Ar,y8k (t:=Ty.int .i64) hi,Bg]
  refine⟨fun j hj=> ?_,h1 _ (Ag hi)⟩
  have hj:=Bq.mp hj
  rw[D8,Cp] at h2
  rw[y8k (t:=Ty.int .i64) (show j<l.length by omega),Bj,Bu]
  exact h2 j i (by omega) hi hj
theorem o0z (b:u0i) (l:Hu Int) (hl:l.length≤1099511627776):u8h (b,l,0)=some (bif q3r l b.2.2.2.2 then .inl () else .inr false):=by
 have inner:∀i:Nat,i<l.length→t2f (b,l,(i:Int),0)=some (bif (List.range i).all (fun j=> !decide (rdL (Ty.int .i64) l j=rdL (Ty.int .i64) l i)) then .inl (b,l,(i:Int)) else .inr false):=by
  intro i hi
  exact t4o t2f i (fun j=>(b,l,(i:Int),j)) (fun j=> !decide (rdL (Ty.int .i64) l j=rdL (Ty.int .i64) l i)) (.inl (b,l,(i:Int))) (.inr false)
   (by rw[r51];simp only[t79,u0b,Am,Ah,Aa])
   (fun j hj=>by
    rw[r51];simp only[t79,u0b,hj,Ae,Ad,y7t hi,y7t (show j<l.length by omega),zTn,y7l (show j<4611686018427387904 by omega)]
    by_cases e:rdL (Ty.int .i64) l j=rdL (Ty.int .i64) l i
    ·rw[Bb e];rfl
    ·rw[A7 e];rfl)
 have L:=t4o u8h l.length (fun i=>(b,l,i)) (fun i=>((List.range i).all fun j=> !decide (rdL (Ty.int .i64) l j=rdL (Ty.int .i64) l i))&&decide (rdL (Ty.int .i64) l i<b.2.2.2.2)) (.inl ()) (.inr false)
  (by rw[r50];simp only[t78,u0b,Am,Ah,Aa])
  (fun i hi=>by
   rw[r50];simp only[t78,u0b,hi,Ae,Ad]
   rw[inner i hi]
   cases (List.range i).all fun j=> !decide (rdL (Ty.int .i64) l j=rdL (Ty.int .i64) l i)
   ·rfl
   ·simp only[Ad,zOb,y7t hi,zTn,y7l (show i<4611686018427387904 by omega),Bz]
    rw[q9d]
    cases decide (rdL (Ty.int .i64) l i<b.2.2.2.2)<;>rfl)
 rw[o7k] at L
 exact L
theorem o59 (l:Hu u0g) {i:Nat} (h:i<l.length):u53 (l.take i)++ [(rdL u0x l i).1] =u53 (l.take (i+1)):=by
 rw[y8k h];unfold u53
 rw[Gm,A4 h,Dh];rfl
theorem s1u (b:u0i) (hw:j5e.wt b≤549755813888):u87 b=some (u79 b):=by
 have hb:u0j=1099511627776:=rfl
 have hbw:=r8a b
 have n1:=s1s (t:=u0d) b.1
 have n2:=s1s (t:=u0x) b.2.1
 have n3:=s1s (t:=u0x) b.2.2.1
 have L1:=t4o t4r b.1.length (fun i=>(b,i)) (fun i=>(fun v:u2m=>decide (v.2.2.2≤b.2.2.2.1)) (rdL u0d b.1 i)) (.inl b) (.inr false)
  (by rw[r9n];simp only[s0b,u0b,Am,Ah,Aa])
  (fun i hi=>by
   rw[r9n];simp only[s0b,u0b,hi,Ae,Ad,y7t hi,zTn,y7l (show i<4611686018427387904 by omega),q59 (rdL u0d b.1 i).2.2.2 b.2.2.2.1]
   cases decide ((rdL u0d b.1 i).2.2.2≤b.2.2.2.1)<;>rfl)
 rw[s3i (t:=u0d) b.1 (fun v:u2m=>decide (v.2.2.2≤b.2.2.2.1))] at L1
 have il:∀(l:Hu u0g) (i:Nat),i≤l.length→(u53 (l.take i)).length=i:=fun l i h=>by unfold u53;simp;omega
 have L2:=t4o u8g b.2.1.length (fun i=>(b,u53 (b.2.1.take i.toNat),i)) (fun i=>(fun t:u0g=>u77 t&&(decide (t.2.1=3)&&decide (t.2.2.2.1≤b.2.2.2.1))) (rdL u0x b.2.1 i)&&(decide (i=0) || (fun x y:u0g=>decide (x.2.2.2.1<y.2.2.2.1)) (rdL u0x b.2.1 (i - 1)) (rdL u0x b.2.1 i))) (.inl (b,u53 b.2.1)) (.inr false)
  (by rw[r5y];simp only[t76,u0b,Am,Ah,Aa,zTn,Cq])
  (fun i hi=>by
   have hm:rdL u0x b.2.1 i∈b.2.1:=by rw[y8k hi];exact Ag hi
   have ht:=q36 hm
   have hk:=t9r (rdL u0x b.2.1 i) (by omega)
   rw[r5y];simp only[t76,u0b,hi,Ae,Ad,y7t hi,zTn,y7l (show i<4611686018427387904 by omega),q59 (rdL u0x b.2.1 i).2.2.2.1 b.2.2.2.1,s2w,zOb]
   rw[hk]
   have hc:Nat.ble ((u53 (b.2.1.take i)).length+ [(rdL u0x b.2.1 i).1].length) z7w=true:=u0z (by rw[il _ _ (by omega)];simp;omega)
   simp only[zOb]
   rw[hc,o59 _ hi]
   generalize u77 (rdL u0x b.2.1 i)=b1
   generalize decide ((rdL u0x b.2.1 i).2.1=3)=b2
   generalize decide ((rdL u0x b.2.1 i).2.2.2.1≤b.2.2.2.1)=b3
   by_cases h0:i=0
   ·subst h0;simp only[Ae,Ap,Aa,Dx,Cz]
    cases b1<;>cases b2<;>cases b3<;>rfl
   ·simp only[h0,Ah,Bh,Ad,Ci,t7u (show i<4611686018427387904 by omega) h0,y7t (show i - 1<b.2.1.length by omega),zTn,q9d (rdL u0x b.2.1 (i - 1)).2.2.2.1 (rdL u0x b.2.1 i).2.2.2.1]
    generalize decide ((rdL u0x b.2.1 (i - 1)).2.2.2.1<(rdL u0x b.2.1 i).2.2.2.1)=b4
    cases b1<;>cases b2<;>cases b3<;>cases b4<;>rfl)
 rw[s88 (t:=u0x) b.2.1 (fun t:u0g=>u77 t&&(decide (t.2.1=3)&&decide (t.2.2.2.1≤b.2.2.2.1))) (fun x y:u0g=>decide (x.2.2.2.1<y.2.2.2.1))] at L2
 have L3:=t4o t2e b.2.2.1.length (fun i=>(b,u53 b.2.1++u53 (b.2.2.1.take i.toNat),i)) (fun i=>(fun t:u0g=>u77 t&&(decide (t.2.1=2)&&decide (t.2.2.1≤b.2.2.2.1))) (rdL u0x b.2.2.1 i)&&(decide (i=0) || (fun x y:u0g=>y3c x.2.2.2.2.2.2.2 y.2.2.2.2.2.2.2) (rdL u0x b.2.2.1 (i - 1)) (rdL u0x b.2.2.1 i))) (.inl (b,u53 (b.2.1++b.2.2.1))) (.inr false)
  (by rw[r5z];simp only[t77,u0b,Am,Ah,Aa,zTn,Cq];unfold u53;rw[Dh])
  (fun i hi=>by
   have hm:rdL u0x b.2.2.1 i∈b.2.2.1:=by rw[y8k hi];exact Ag hi
   have ht:=q36 hm
   have hk:=t9r (rdL u0x b.2.2.1 i) (by omega)
   rw[r5z];simp only[t77,u0b,hi,Ae,Ad,y7t hi,zTn,y7l (show i<4611686018427387904 by omega),q59 (rdL u0x b.2.2.1 i).2.2.1 b.2.2.2.1,s2w,zOb]
   rw[hk]
   have hz:(u53 b.2.1).length=b.2.1.length:=by unfold u53;simp
   have hc:Nat.ble ((u53 b.2.1++u53 (b.2.2.1.take i)).length+ [(rdL u0x b.2.2.1 i).1].length) z7w=true:=u0z (by rw[Ba,il _ _ (by omega),hz];simp;omega)
   simp only[zOb]
   rw[hc,Bi,o59 _ hi]
   generalize u77 (rdL u0x b.2.2.1 i)=b1
   generalize decide ((rdL u0x b.2.2.1 i).2.1=2)=b2
   generalize decide ((rdL u0x b.2.2.1 i).2.2.1≤b.2.2.2.1)=b3
   by_cases h0:i=0
   ·subst h0;simp only[Ae,Ap,Aa,Dx,Cz]
    cases b1<;>cases b2<;>cases b3<;>rfl
   ·simp only[h0,Ah,Bh,Ad,Ci,t7u (show i<4611686018427387904 by omega) h0,y7t (show i - 1<b.2.2.1.length by omega),zTn]
    generalize y3c (rdL u0x b.2.2.1 (i - 1)).2.2.2.2.2.2.2 (rdL u0x b.2.2.1 i).2.2.2.2.2.2.2=b4
    cases b1<;>cases b2<;>cases b3<;>cases b4<;>rfl)
 rw[s88 (t:=u0x) b.2.2.1 (fun t:u0g=>u77 t&&(decide (t.2.1=2)&&decide (t.2.2.1≤b.2.2.2.1))) (fun x y:u0g=>y3c x.2.2.2.2.2.2.2 y.2.2.2.2.2.2.2)] at L3
 have L2' :u8g (b, [],0)=_:=L2
 have e:u53 b.2.1++u53 (b.2.2.1.take (0:Int).toNat)=u53 b.2.1:=by simp[u53]
 rw[e] at L3
 have hI:=o0z b (u53 (b.2.1++b.2.2.1)) (by unfold u53;rw[Da,Ba];omega)
 have hV:=p1y b.1 (by omega)
 rw[p9l];unfold q40
 rw[hV]
 simp only[r0t,j64,gt3,zOb]
 unfold u79 o6f o0k
 generalize u8x b.1=c1
 generalize inB b.2.2.2.1 0 9999=c3
 generalize inB b.2.2.2.2 1 9999=c4
 generalize decide (b.2.1.length≤12)=c5
 generalize decide (b.2.2.1.length≤3)=c6
 generalize ha1:b.1.all (fun v:u2m=>decide (v.2.2.2≤b.2.2.2.1))=a1 at L1
 generalize ha2:b.2.1.all (fun t:u0g=>u77 t&&(decide (t.2.1=3)&&decide (t.2.2.2.1≤b.2.2.2.1)))=a2 at L2'
 generalize ha3:p44 u0x (fun x y:u0g=>decide (x.2.2.2.1<y.2.2.2.1)) b.2.1=a3 at L2'
 generalize ha4:b.2.2.1.all (fun t:u0g=>u77 t&&(decide (t.2.1=2)&&decide (t.2.2.1≤b.2.2.2.1)))=a4 at L3
 generalize ha5:p44 u0x (fun x y:u0g=>y3c x.2.2.2.2.2.2.2 y.2.2.2.2.2.2.2) b.2.2.1=a5 at L3
 generalize q3r (u53 (b.2.1++b.2.2.1)) b.2.2.2.2=a6 at hI
 have hR:((t4r (b,0)).bind fun r5=>match r5 with
  | .inl o6=>(u8g (o6, [],0)).bind fun r9=>match r9 with
   | .inl o10=>(t2e (o10.1,o10.2,0)).bind fun r13=>match r13 with
    | .inl o14=>(u8h (o14.1,o14.2,0)).bind fun r18=>match r18 with
     | .inl o19=>some true
     | .inr z20=>some z20
    | .inr z21=>some z21
   | .inr z22=>some z22
  | .inr z23=>some z23)=some (a1&&((a2&&a3)&&((a4&&a5)&&a6))):=by
  rw[L1]
  cases a1
  ·rfl
  ·simp only[Ad,zOb,Bz]
   rw[L2']
   cases (a2&&a3)
   ·rfl
   ·simp only[Ad,zOb,Bz]
    rw[L3]
    cases (a4&&a5)
    ·rfl
    ·simp only[Ad,zOb,Bz]
     rw[hI]
     cases a6<;>rfl
 cases c1<;>cases c3<;>cases c4<;>cases c5<;>cases c6<;>simp only[Ap,Bh,Ad,Aa,zOb,Fx,Fy,Bz,Cz]
 exact hR
theorem o57 (e:u2v):j77.wt e=j5e.wt e.1+(Ty.sl u0x).wt e.2:=rfl
theorem p8g (e:u2v) (hw:j77.wt e≤u0j):s6f e=some (o2o e):=by
 have hb:u0j=1099511627776:=rfl
 have hew:=o57 e
 have hbw:=r8a e.1
 have n1:=s1s (t:=u0x) e.2
 have n2:=s1s (t:=u0x) e.1.2.1
 have n3:=s1s (t:=u0x) e.1.2.2.1
 have L:=t4o t58 e.2.length (fun i=>(e,e.2,(e.2.length:Int),i)) (fun i=>(fun t:u0g=>u77 t&&(decide (t.2.1=1)&&decide (t.2.2.1≤e.1.2.2.2.1))) (rdL u0x e.2 i)&&(decide (i=0) || (fun x y:u0g=>decide (x.1<y.1)) (rdL u0x e.2 (i - 1)) (rdL u0x e.2 i))) (.inl ()) (.inr false)
  (by rw[r1q];simp only[t5j,u0b,Am,Ah,Aa])
  (fun i hi=>by
   have hm:rdL u0x e.2 i∈e.2:=by rw[y8k hi];exact Ag hi
   have ht:=q36 hm
   have hk:=s5k (rdL u0x e.2 i) (by omega)
   rw[r1q];simp only[t5j,u0b,hi,Ae,Ad,y7t hi,zTn,y7l (show i<4611686018427387904 by omega),q59 (rdL u0x e.2 i).2.2.1 e.1.2.2.2.1,s2w,zOb]
   rw[hk]
   simp only[zOb]
   generalize u77 (rdL u0x e.2 i)=b1
   generalize decide ((rdL u0x e.2 i).2.1=1)=b2
   generalize decide ((rdL u0x e.2 i).2.2.1≤e.1.2.2.2.1)=b3
   by_cases h0:i=0
   ·subst h0;simp only[Ae,Ap,Aa,Dx,Cz]
    cases b1<;>cases b2<;>cases b3<;>rfl
   ·simp only[h0,Ah,Bh,Ad,Ci,t7u (show i<4611686018427387904 by omega) h0,y7t (show i - 1<e.2.length by omega),zTn,q9d (rdL u0x e.2 (i - 1)).1 (rdL u0x e.2 i).1]
    generalize decide ((rdL u0x e.2 (i - 1)).1<(rdL u0x e.2 i).1)=b4
    cases b1<;>cases b2<;>cases b3<;>cases b4<;>rfl)
 rw[s88 (t:=u0x) e.2 (fun t:u0g=>u77 t&&(decide (t.2.1=1)&&decide (t.2.2.1≤e.1.2.2.2.1))) (fun x y:u0g=>decide (x.1<y.1))] at L
 have hC:=q60 [e.1.2.1,e.1.2.2.1,e.2] (by simp only[List.flatten_cons,List.flatten_nil,Bw,Ba];omega) (by simp)
 have hf: [e.1.2.1,e.1.2.2.1,e.2].flatten=e.1.2.1++e.1.2.2.1++e.2:=by simp
 rw[hf] at hC
 have hI:=q2m (e.1.2.1++e.1.2.2.1++e.2) e.1.2.2.2.2 (by rw[Ba,Ba];omega)
 have hB:=t07 e.1 (by omega)
 rw[p2l];unfold r63
 rw[hB]
 simp only[zOb,gt4]
 rw[hC]
 simp only[zOb]
 rw[hI]
 simp only[zOb]
 rw[L]
 unfold o2o o6d
 cases u79 e.1<;>cases decide (e.2.length≤4)<;>cases q3r (u53 (e.1.2.1++e.1.2.2.1++e.2)) e.1.2.2.2.2<;>try rfl
 all_goals
  cases e.2.all (fun t:u0g=>u77 t&&(decide (t.2.1=1)&&decide (t.2.2.1≤e.1.2.2.2.1)))<;>cases p44 u0x (fun x y:u0g=>decide (x.1<y.1)) e.2<;>rfl
theorem j02 {b:u0i} {o:Hu u0g} (hb:q3r (u53 (b.2.1++b.2.2.1)) b.2.2.2.2=true) (ho:p44 u0x (fun x y:u0g=>decide (x.1<y.1)) o=true):
 q3r (u53 (b.2.1++b.2.2.1++o)) b.2.2.2.2=o.all (fun t=>decide (t.1<b.2.2.2.2)&&((b.2.1.all fun x=> !decide (x.1=t.1))&&(b.2.2.1.all fun x=> !decide (x.1=t.1)))):=by
 rw[j8h (f:=fun t=>t.1)] at ho
 obtain⟨h1,h2⟩:=r8e.mp hb
 rw[Cd,r8e,Bg]
 simp only[Ai,Ar,Bg,Bj,Bu]
 unfold u53 at*
 constructor
 ·rintro⟨k1,k2⟩ t ht
  rw[Dh,Gp] at k2
  refine⟨k1 _ (Bx.mpr ⟨t,by simp[ht],rfl⟩),fun x hx=> ?_,fun x hx=> ?_⟩
  ·exact k2.2.2 _ (Bx.mpr ⟨x,by simp[hx],rfl⟩) _ (Bx.mpr ⟨t,ht,rfl⟩)
  ·exact k2.2.2 _ (Bx.mpr ⟨x,by simp[hx],rfl⟩) _ (Bx.mpr ⟨t,ht,rfl⟩)
 ·intro k
  constructor
  ·intro x hx
   obtain⟨t,ht,rfl⟩:=Bx.mp hx
   rcases Ay.mp ht with q | q
   ·exact h1 _ (Bx.mpr ⟨t,q,rfl⟩)
   ·exact(k t q).1
  ·rw[Dh,Gp]
   refine⟨h2,?_,?_⟩
   ·rw[D8,Dl]
    exact ho.imp fun {a b} q e=>by omega
   ·intro a ha c hc e
    obtain⟨x,hx,rfl⟩:=Bx.mp ha
    obtain⟨t,ht,rfl⟩:=Bx.mp hc
    rcases Ay.mp hx with q | q
    ·exact(k t ht).2.1 x q e
    ·exact(k t ht).2.2 x q e
theorem p8h (e:u2v) (hw:j77.wt e≤549755813888):s6p e=some (o2o e):=by
 have hb:u0j=1099511627776:=rfl
 have hew:=o57 e
 have hbw:=r8a e.1
 have n1:=s1s (t:=u0x) e.2
 have n2:=s1s (t:=u0x) e.1.2.1
 have n3:=s1s (t:=u0x) e.1.2.2.1
 have I1:∀(j:Int) (t:u0g),u83 (e,j,t,0)=some (bif (e.1.2.1.all fun x=> !decide (x.1=t.1)) then .inl (e,j,t) else .inr false):=fun j t=>by
  have L:=t4o u83 e.1.2.1.length (fun i=>(e,j,t,i)) (fun i=>(fun x:u0g=> !decide (x.1=t.1)) (rdL u0x e.1.2.1 i)) (.inl (e,j,t)) (.inr false)
   (by rw[s81];simp only[t3t,u0b,Am,Ah,Aa])
   (fun i hi=>by
    rw[s81];simp only[t3t,u0b,hi,Ae,Ad,y7t hi,zTn,y7l (show i<4611686018427387904 by omega)]
    cases decide ((rdL u0x e.1.2.1 i).1=t.1)<;>rfl)
  rw[s3i (t:=u0x) e.1.2.1 (fun x:u0g=> !decide (x.1=t.1))] at L
  exact L
 have I2:∀(j:Int) (t:u0g),u61 (e,j,t,0)=some (bif (e.1.2.2.1.all fun x=> !decide (x.1=t.1)) then .inl (e,j) else .inr false):=fun j t=>by
  have L:=t4o u61 e.1.2.2.1.length (fun i=>(e,j,t,i)) (fun i=>(fun x:u0g=> !decide (x.1=t.1)) (rdL u0x e.1.2.2.1 i)) (.inl (e,j)) (.inr false)
   (by rw[s82];simp only[t3u,u0b,Am,Ah,Aa])
   (fun i hi=>by
    rw[s82];simp only[t3u,u0b,hi,Ae,Ad,y7t hi,zTn,y7l (show i<4611686018427387904 by omega)]
    cases decide ((rdL u0x e.1.2.2.1 i).1=t.1)<;>rfl)
  rw[s3i (t:=u0x) e.1.2.2.1 (fun x:u0g=> !decide (x.1=t.1))] at L
  exact L
 have L:=t4o u7y e.2.length (fun i=>(e,i)) (fun i=>(fun t:u0g=>(u77 t&&(decide (t.2.1=1)&&decide (t.2.2.1≤e.1.2.2.2.1)))&&(decide (t.1<e.1.2.2.2.2)&&((e.1.2.1.all fun x=> !decide (x.1=t.1))&&(e.1.2.2.1.all fun x=> !decide (x.1=t.1))))) (rdL u0x e.2 i)&&(decide (i=0) || (fun x y:u0g=>decide (x.1<y.1)) (rdL u0x e.2 (i - 1)) (rdL u0x e.2 i))) (.inl ()) (.inr false)
  (by rw[r12];simp only[t5t,u0b,Am,Ah,Aa])
  (fun i hi=>by
   have hm:rdL u0x e.2 i∈e.2:=by rw[y8k hi];exact Ag hi
   have ht:=q36 hm
   have hk:=t9r (rdL u0x e.2 i) (by omega)
   have k1:=I1 (i:Int) (rdL u0x e.2 i)
   have k2:=I2 (i:Int) (rdL u0x e.2 i)
   rw[r12];simp only[t5t,u0b,hi,Ae,Ad,y7t hi,zTn,y7l (show i<4611686018427387904 by omega),q59 (rdL u0x e.2 i).2.2.1 e.1.2.2.2.1,q9d (rdL u0x e.2 i).1 e.1.2.2.2.2,s2w,zOb]
   rw[hk,k1]
   simp only[zOb]
   generalize u77 (rdL u0x e.2 i)=b1
   generalize decide ((rdL u0x e.2 i).2.1=1)=b2
   generalize decide ((rdL u0x e.2 i).2.2.1≤e.1.2.2.2.1)=b3
   generalize decide ((rdL u0x e.2 i).1<e.1.2.2.2.2)=b5
   generalize (e.1.2.1.all fun x=> !decide (x.1=(rdL u0x e.2 i).1))=b6
   generalize (e.1.2.2.1.all fun x=> !decide (x.1=(rdL u0x e.2 i).1))=b7 at k2 ⊢
   have tail:((bif b6 then Sum.inl (e,(i:Int),rdL u0x e.2 i) else Sum.inr false:(u2v×Int×u0g)⊕Bool) |>fun r5=>(match r5 with
    | .inl o6=>(u61 (o6.1,o6.2.1,o6.2.2,0)).bind fun r7=>match r7 with
     | .inl o8=>u7y (o8.1,IntKind.i64.wrap (o8.2+1))
     | .inr z9=>some (.inr z9)
    | .inr z10=>some (.inr z10)))=bif b6&&b7 then u7y (e,((i+1:Nat):Int)) else some (.inr false):=by
    cases b6
    ·rfl
    ·simp only[Ad]
     rw[k2]
     cases b7
     ·rfl
     ·simp only[Ad,zOb,y7l (show i<4611686018427387904 by omega)];rfl
   by_cases h0:i=0
   ·subst h0;simp only[Ae,Ap,Aa,Dx,Cz]
    cases b1<;>cases b2<;>cases b3<;>cases b5<;>try rfl
    exact tail
   ·simp only[h0,Ah,Bh,Ad,Ci,t7u (show i<4611686018427387904 by omega) h0,y7t (show i - 1<e.2.length by omega),zTn,q9d (rdL u0x e.2 (i - 1)).1 (rdL u0x e.2 i).1]
    generalize decide ((rdL u0x e.2 (i - 1)).1<(rdL u0x e.2 i).1)=b4
    cases b1<;>cases b2<;>cases b3<;>cases b5<;>cases b4<;>(first | rfl | (rw[Fy];rfl) | (rw[Cz];exact tail)))
 rw[s88 (t:=u0x) e.2 (fun t:u0g=>(u77 t&&(decide (t.2.1=1)&&decide (t.2.2.1≤e.1.2.2.2.1)))&&(decide (t.1<e.1.2.2.2.2)&&((e.1.2.1.all fun x=> !decide (x.1=t.1))&&(e.1.2.2.1.all fun x=> !decide (x.1=t.1))))) (fun x y:u0g=>decide (x.1<y.1)),o8y] at L
 have hB:=s1u e.1 (by omega)
 rw[p26];unfold r7n
 rw[hB]
 simp only[zOb,gt4]
 rw[L]
 unfold o2o o6d
 cases h1:u79 e.1
 ·rfl
 ·have hbi:q3r (u53 (e.1.2.1++e.1.2.2.1)) e.1.2.2.2.2=true:=by
   have:=p7i.mp h1
   exact r8e.mpr ⟨this.below,this.nodup⟩
  cases ha:p44 u0x (fun x y:u0g=>decide (x.1<y.1)) e.2
  ·cases decide (e.2.length≤4)<;>simp
  ·rw[j02 hbi ha]
   cases decide (e.2.length≤4)
   ·rfl
   ·simp only[Ap,Aa,zOb,Bz,Cz]
    cases (e.2.all fun t:u0g=>u77 t&&(decide (t.2.1=1)&&decide (t.2.2.1≤e.1.2.2.2.1)))
    ·rfl
    ·simp only[Bz]
     cases (e.2.all fun t:u0g=>decide (t.1<e.1.2.2.2.2)&&((e.1.2.1.all fun x=> !decide (x.1=t.1))&&(e.1.2.2.1.all fun x=> !decide (x.1=t.1))))<;>rfl
end
section
theorem r9x {E:Type} (a:Hu E) (n:Nat) (h:n≤a.length) (z:Hu E):(a.take n++z).take n=a.take n:=by
 rw[List.take_append_of_le_length (by rw[Ec];omega),List.take_take,Nat.min_self]
theorem t21 {E:Type} (p:E→Bool) (l:Hu E):(l.filter p).length≤l.length:=Cs _ _
theorem o38 (l:Hu u0g) (c:Int) (hl:l.length≤8388608):u2o (l,c)=some (l.filter fun x=> !decide (x.2.2.2.1≤c)):=by
 have hq:∀x∈l,t0b (x,c)=some (decide (x.2.2.2.1≤c)):=fun x _=>by rw[p2t];rfl
 have L:=Q.first (T:=u0x) (c:=Int) (W:=u1u) (q:=t0b) (p:=fun x:u0g=>decide (x.2.2.2.1≤c)) (fun x=>t13 x) l c (by omega) hq
 rw[t2v];unfold u5g
 simp only[t3h,u52,L,zOb]
 by_cases hk:u0p (fun x:u0g=>decide (x.2.2.2.1≤c)) l<l.length
 ·obtain⟨a,e1,e2,e3⟩:=Q.delete (T:=u0x) (c:=Int) (W:=u1i) (q:=t0b) (p:=fun x:u0g=>decide (x.2.2.2.1≤c)) (fun x=>t0u x) l c (by omega) hq hk
  have hn:=t21 (fun x:u0g=> !decide (x.2.2.2.1≤c)) l
  obtain⟨n,hne⟩:∃n,n=(l.filter fun x:u0g=> !decide (x.2.2.2.1≤c)).length:=⟨_,rfl⟩
  rw[←hne] at e1 e3 hn
  have c1:decide (((u0p (fun x:u0g=>decide (x.2.2.2.1≤c)) l:Nat):Int)= -1)=false:=by simp
  have c2:decide ((0:Int)≤(n:Int))=true:=by simp
  have c3:decide ((n:Int)≤(a.length:Int))=true:=by simp;omega
  have c4:decide ((a.length:Int)≤(a.length:Int))=true:=by simp
  have hw:=y7l (i:=u0p (fun x:u0g=>decide (x.2.2.2.1≤c)) l) (by omega)
  simp only[Al hk,zOb,c1,Aa,hw,e1,c2,c3,c4,Dt,Ad,zTn,Ae,Bv]
  have c5:decide ((n:Int)≤((a.take n++List.replicate (a.length - n) u0x.zero++a.drop (n+(a.length - n))).length:Int))=true:=by simp;omega
  have c6:(a.take n++List.replicate (a.length - n) u0x.zero++a.drop (n+(a.length - n))).take (n - (0:Int).toNat)=l.filter fun x:u0g=> !decide (x.2.2.2.1≤c):=by
   rw[Bi,Ho,Nat.sub_zero,r9x a n (by omega),e3]
  simp only[c5,Dt,Ad,c6]
 ·have hall:(l.filter fun x:u0g=> !decide (x.2.2.2.1≤c))=l:=by
   rw[F9]
   intro x hx
   obtain⟨i,hi,rfl⟩:=B7 hx
   rw[u8l (p:=fun x:u0g=>decide (x.2.2.2.1≤c)) hi (by omega)]
   rfl
  simp only[Ao hk,zOb,Ae,Ad,hall]
end
section
def u3q (b:u0i) (o:Hu u0g):u0i:=(u2g b.1 (s1r b o),b.2.1.filter (fun x=> !decide (x.2.2.2.1≤s1r b o)),b.2.2)
theorem t4n (b:u0i) (o:Hu u0g) (hb:fewB b) (ho:o.length≤4194304):u47 (b,o)=some (u3q b o):=by
 have h1:=s1v b hb
 have h2:=o4b b o ho
 have h3:=o38 b.2.1 (s1r b o) (by have:=hb.2.1.1;omega)
 have h4:=o1j b.1 (s1r b o) (by have:=hb.1;omega)
 rw[p9g];unfold q4u u3q
 simp only[h1,h2,h3,h4,zOb]
theorem s5r (b:u0i) (o:Hu u0g) (hb:fewB b) (ho:o.length≤4194304):t1v (b,o)=some (u3q b o):=by
 have h1:=s1w b hb
 have h2:=o4c b o ho
 have h4:=o1k b.1 (s1r b o) (by have:=hb.1;omega)
 have hl:=hb.2.1.1
 have L:=s4k s0o b.2.1 (fun a i=>(b,(([], [], [],0,0):u0i),(b.1,a,b.2.2),s1r b o,i)) (fun x=> !decide (x.2.2.2.1≤s1r b o)) (fun x=>x) (fun a=> .inl (b,(([], [], [],0,0):u0i),(b.1,a,b.2.2),s1r b o)) (by omega)
  (fun a _=>by rw[r9t];simp only[s0f,u0b,Am,Ah,Aa])
  (fun i hi a ha=>by
   have hc:=t14 b.2.1[i] (hb.2.1.2 _ (Ag hi))
   rw[r9t]
   simp only[s0f,u0b,hi,Ae,Ad,y7t hi,zTn,y8k (t:=u0x) hi,hc,zOb,Aw,u0z (show a.length+1≤1099511627776 by omega)]
   rw[y7l (by omega)]
   by_cases h:b.2.1[i].2.2.2.1≤s1r b o
   ·have h' : ¬b.2.1[i].2.2.2.1 >s1r b o:=Hk.mpr h
    simp[h,h']
   ·have h' :b.2.1[i].2.2.2.1 >s1r b o:=Int.not_le.mp h
    simp[h,h'])
 rw[Er] at L
 rw[p9z];unfold q5e u3q
 simp only[h1,h2,zOb,L,h4]
end
section
theorem o6y (l:Hu u0g) (c:u0g) (hl:l.length≤8388608):u1v (l,c)=some (l.filter fun x=> !decide (x.1=c.1)):=by
 have hq:∀x∈l,u8p (x,c)=some (decide (x.1=c.1)):=fun x _=>by rw[p0d];rfl
 have L:=Q.first (T:=u0x) (c:=u0g) (W:=u1m) (q:=u8p) (p:=fun x:u0g=>decide (x.1=c.1)) (fun x=>t0y x) l c (by omega) hq
 rw[t1p];unfold u4z
 simp only[t2z,u5k,L,zOb]
 by_cases hk:u0p (fun x:u0g=>decide (x.1=c.1)) l<l.length
 ·obtain⟨a,e1,e2,e3⟩:=Q.delete (T:=u0x) (c:=u0g) (W:=u1b) (q:=u8p) (p:=fun x:u0g=>decide (x.1=c.1)) (fun x=>t0o x) l c (by omega) hq hk
  have hn:=t21 (fun x:u0g=> !decide (x.1=c.1)) l
  obtain⟨n,hne⟩:∃n,n=(l.filter fun x:u0g=> !decide (x.1=c.1)).length:=⟨_,rfl⟩
  rw[←hne] at e1 e3 hn
  have c1:decide (((u0p (fun x:u0g=>decide (x.1=c.1)) l:Nat):Int)= -1)=false:=by simp
  have c2:decide ((0:Int)≤(n:Int))=true:=by simp
  have c3:decide ((n:Int)≤(a.length:Int))=true:=by simp;omega
  have c4:decide ((a.length:Int)≤(a.length:Int))=true:=by simp
  have hw:=y7l (i:=u0p (fun x:u0g=>decide (x.1=c.1)) l) (by omega)
  simp only[Al hk,zOb,c1,Aa,hw,e1,c2,c3,c4,Dt,Ad,zTn,Ae,Bv]
  have c5:decide ((n:Int)≤((a.take n++List.replicate (a.length - n) u0x.zero++a.drop (n+(a.length - n))).length:Int))=true:=by simp;omega
  have c6:(a.take n++List.replicate (a.length - n) u0x.zero++a.drop (n+(a.length - n))).take (n - (0:Int).toNat)=l.filter fun x:u0g=> !decide (x.1=c.1):=by
   rw[Bi,Ho,Nat.sub_zero,r9x a n (by omega),e3]
  simp only[c5,Dt,Ad,c6]
 ·have hall:(l.filter fun x:u0g=> !decide (x.1=c.1))=l:=by
   rw[F9]
   intro x hx
   obtain⟨i,hi,rfl⟩:=B7 hx
   rw[u8l (p:=fun x:u0g=>decide (x.1=c.1)) hi (by omega)]
   rfl
  simp only[Ao hk,zOb,Ae,Ad,hall]
def p03 (d x:u0g):u0g:=(x.1,x.2.1,x.2.2.1,x.2.2.2.1,x.2.2.2.2.1,x.2.2.2.2.2.1,(x.2.2.2.2.2.2.1 || ahead x d),x.2.2.2.2.2.2.2)
end
section
theorem o5v (t:u0g) (b0:u0i) (v:Hu u2m) (p R:Hu u0g) (c n:Int) (d:u0g) (hR:p02 R) (hd:q0e d):
 u8f (t,b0,(v,p,R,c,n),d,(),(R.length:Int),0)=some (.inl (t,b0,(v,p,R.map (p03 d),c,n),d)):=by
 have hl:=hR.1
 have L:=p1z u8f R.length (fun(a:Hu u0g) i=>(t,b0,((v,p,a,c,n):u0i),d,(),(R.length:Int),i)) (fun i=>(R.take i).map (p03 d)++R.drop i) (.inl (t,b0,((v,p,R.map (p03 d),c,n):u0i),d))
  (by
   rw[r5t]
   simp only[t71,u0b,Am,Ah,Aa,Cq,F5,Bw])
  (fun i hi=>by
   have hm:((R.take i).map (p03 d)).length=i:=by simp;omega
   have hd1:R.drop i=R[i] ::R.drop (i+1):=Ce hi
   have hal:i<((R.take i).map (p03 d)++R.drop i).length:=by simp;omega
   have hg:((R.take i).map (p03 d)++R.drop i)[i] =R[i] :=by
    rw[Cv (by omega),List.getElem_drop]
    congr 1
    omega
   have hset:∀y:u0g,((R.take i).map (p03 d)++R.drop i).set i y=(R.take i).map (p03 d)++y::R.drop (i+1):=fun y=>by
    rw[List.set_append_right _ _ (by omega),hm,Dw,hd1,Hj]
   have hnx:(R.take (i+1)).map (p03 d)++R.drop (i+1)=(R.take i).map (p03 d)++p03 d R[i] ::R.drop (i+1):=by
    rw[B9 hi,Dh]
    simp
   have ha:=s1t R[i] d (t4h (hR.2 _ (Ag hi)).1) (t4h hd.2)
   rw[r5t]
   simp only[t71,u0b,hi,Ae,Ad,y7t hal,zTn,y8k (t:=u0x) hal,hg,ha,zOb,hset]
   rw[y7l (by omega),hnx]
   unfold p03
   cases h1:R[i].2.2.2.2.2.2.1 with
   | true=>simp
   | false=>simp)
 simpa using L
end
section
def p7n (b:u0i) (t:u0g):u0g:=(t.1,(3:Int),t.2.2.1,IntKind.i64.wrap (b.2.2.2.1+1),t.2.2.2.2.1,t.2.2.2.2.2.1,(t.2.2.2.2.2.2.1 || q6d t b.2.1),(⟨#[]⟩:Hs))
def s5h (b:u0i) (t:u0g):u0i:=
 (t9k b.1 t.2.2.2.2.2.1 (IntKind.i64.wrap (b.2.2.2.1+1)),b.2.1++ [p7n b t],(b.2.2.1.filter fun x=> !decide (x.1=t.1)).map (p03 (p7n b t)),IntKind.i64.wrap (b.2.2.2.1+1),y8h b.2.2.2.2 (IntKind.i64.wrap (t.1+1)))
theorem q8g (b:u0i) (t:u0g) (hb:fewB b) (ht:q0e t):u9e (b,t)=some (s5h b t):=by
 have h1:=s1v b hb
 have h2:=q4d t ht
 have h3:=q9q b.1 t.2.2.2.2.2.1 (IntKind.i64.wrap (b.2.2.2.1+1)) (by have:=hb.1;have:=ht.2;omega)
 have h4:=o6y b.2.2.1 t (by have:=hb.2.2.1;omega)
 have h5:=q61 t b.2.1 ht hb.2.1
 have hf:p02 (b.2.2.1.filter fun x=> !decide (x.1=t.1)):=⟨A9 (t21 _ _) hb.2.2.1,fun x hx=>hb.2.2.2 x (A6.mp hx).1⟩
 have hp:=hb.2.1.1
 have hc:∀d:u0g,Nat.ble (b.2.1.length+([d] :Hu u0g).length) z7w=true:=fun d=>u0z (by simp;omega)
 rw[p5i];unfold q03 s5h p7n
 simp only[h1,h2,h3,h4,h5,zOb]
 cases ho:t.2.2.2.2.2.2.1 with
 | true=>
  have hd:q0e ((t.1,(3:Int),t.2.2.1,IntKind.i64.wrap (b.2.2.2.1+1),t.2.2.2.2.1,t.2.2.2.2.2.1,true,(⟨#[]⟩:Hs)):u0g):=ht
  have L:=o5v t ([], [], [],0,0) (t9k b.1 t.2.2.2.2.2.1 (IntKind.i64.wrap (b.2.2.2.1+1))) b.2.1 (b.2.2.1.filter fun x=> !decide (x.1=t.1)) (IntKind.i64.wrap (b.2.2.2.1+1)) b.2.2.2.2 _ hf hd
  simp only[Ad,L,zOb,hc,Dx]
 | false=>
  have hd:q0e ((t.1,(3:Int),t.2.2.1,IntKind.i64.wrap (b.2.2.2.1+1),t.2.2.2.2.1,t.2.2.2.2.2.1,q6d t b.2.1,(⟨#[]⟩:Hs)):u0g):=ht
  have L:=o5v t ([], [], [],0,0) (t9k b.1 t.2.2.2.2.2.1 (IntKind.i64.wrap (b.2.2.2.1+1))) b.2.1 (b.2.2.1.filter fun x=> !decide (x.1=t.1)) (IntKind.i64.wrap (b.2.2.2.1+1)) b.2.2.2.2 _ hf hd
  simp only[Aa,Ad,h5,zOb,L,hc,Ci]
end
section
def p1i (b:u0i) (t:u0g):u0i:=
 ((s5h b t).1,(s5h b t).2.1,(s5h b t).2.2.1,(s5h b t).2.2.2.1,if t.1≥b.2.2.2.2 then IntKind.i64.wrap (t.1+1) else b.2.2.2.2)
theorem o1g (b:u0i) (t:u0g) (b0:u0i) (v:Hu u2m) (p:Hu u0g) (c n:Int) (d:u0g) (hb:fewB b) (hd:q0e d):
 u7z (b,t,b0,(v,p, [],c,n),d,0)=some (.inl (t,b0,(v,p,(b.2.2.1.filter fun x=> !decide (x.1=t.1)).map (p03 d),c,n))):=by
 have hl:=hb.2.2.1
 exact s4k u7z b.2.2.1 (fun a i=>(b,t,b0,((v,p,a,c,n):u0i),d,i)) (fun x=> !decide (x.1=t.1)) (p03 d) (fun a=> .inl (t,b0,((v,p,a,c,n):u0i))) (by omega)
  (fun a _=>by rw[r2e];simp only[t5z,u0b,Am,Ah,Aa])
  (fun i hi a ha=>by
   have h1:=t14 b.2.2.1[i] (hb.2.2.2 _ (Ag hi))
   have h2:=t5g b.2.2.1[i] d (t4h (hb.2.2.2 _ (Ag hi)).1) (t4h hd.2)
   rw[r2e]
   simp only[t5z,u0b,hi,Ae,Ad,y7t hi,zTn,y8k (t:=u0x) hi,h1,h2,zOb,Aw,u0z (show a.length+1≤1099511627776 by omega)]
   rw[y7l (by omega)]
   cases decide (b.2.2.1[i].1=t.1) with
   | true=>rfl
   | false=>
    simp only[Aa,Bh,Ad]
    unfold p03
    cases ahead b.2.2.1[i] d with
    | true=>simp
    | false=>simp)
end
section
theorem q8h (b:u0i) (t:u0g) (hb:fewB b) (ht:q0e t):u7w (b,t)=some (p1i b t):=by
 have h1:=s1w b hb
 have h2:=t14 t ht
 have h3:=q9r b.1 t.2.2.2.2.2.1 (IntKind.i64.wrap (b.2.2.2.1+1)) (by have:=hb.1;have:=ht.2;omega)
 have h5:=q62 t b.2.1 ht hb.2.1
 have hp:=hb.2.1.1
 have hc:∀d:u0g,Nat.ble (b.2.1.length+([d] :Hu u0g).length) z7w=true:=fun d=>u0z (by simp;omega)
 rw[p56];unfold q1r p1i s5h p7n
 simp only[h1,h2,h3,h5,zOb]
 cases ho:t.2.2.2.2.2.2.1 with
 | true=>
  have hd:q0e ((t.1,(3:Int),t.2.2.1,IntKind.i64.wrap (b.2.2.2.1+1),t.2.2.2.2.1,t.2.2.2.2.2.1,true,(⟨#[]⟩:Hs)):u0g):=ht
  have L:=fun p=>o1g b t ([], [], [],0,0) (t9k b.1 t.2.2.2.2.2.1 (IntKind.i64.wrap (b.2.2.2.1+1))) p (IntKind.i64.wrap (b.2.2.2.1+1)) b.2.2.2.2 _ hb hd
  simp only[Ad,L,zOb,hc,Dx]
  by_cases h:t.1≥b.2.2.2.2<;>simp[h]
 | false=>
  have hd:q0e ((t.1,(3:Int),t.2.2.1,IntKind.i64.wrap (b.2.2.2.1+1),t.2.2.2.2.1,t.2.2.2.2.2.1,q6d t b.2.1,(⟨#[]⟩:Hs)):u0g):=ht
  have L:=fun p=>o1g b t ([], [], [],0,0) (t9k b.1 t.2.2.2.2.2.1 (IntKind.i64.wrap (b.2.2.2.1+1))) p (IntKind.i64.wrap (b.2.2.2.1+1)) b.2.2.2.2 _ hb hd
  simp only[Aa,Ad,h5,zOb,L,hc,Ci]
  by_cases h:t.1≥b.2.2.2.2<;>simp[h]
end
section
def d05 (b:u0i):Prop:=b.1.length≤1048576∧(b.2.1.length≤1048576∧ ∀t∈b.2.1,q0e t)∧b.2.2.1.length≤1048576∧ ∀t∈b.2.2.1,q0e t
end
section
def q0f (b:u0i):Bool:=decide ((b.2.1.length:Int)≥12) || (decide ((b.1.length:Int) >100) || decide (b.2.2.2.1≥9999))
theorem o2t (b:u0i):s3c b=some (q0f b):=by
 rw[p6r];unfold q2d q0f
 cases decide ((b.2.1.length:Int)≥12)<;>cases decide ((b.1.length:Int) >100)<;>rfl
theorem o9a (b:u0i):q31 b=some (q0f b):=by
 rw[o4t];unfold p13 q0f
 cases decide ((b.2.1.length:Int)≥12)<;>cases decide ((b.1.length:Int) >100)<;>rfl
theorem o7u (b:u0i) {n:Hs} {i:Nat} (hi:i<b.2.2.1.length) (hn:b.2.2.1[i].2.2.2.2.2.2.2=n):∃k:Nat,k<b.2.2.1.length∧u0n b n=(k:Int):=by
 have h:u0p (fun x:u0g=>z7o x.2.2.2.2.2.2.2 n) b.2.2.1<b.2.2.1.length:=by
  rcases B8 (u0p (fun x:u0g=>z7o x.2.2.2.2.2.2.2 n) b.2.2.1) b.2.2.1.length with q | q
  ·exact q
  ·have:=u8l (p:=fun x:u0g=>z7o x.2.2.2.2.2.2.2 n) hi (by omega)
   rw[y7f.mpr hn] at this
   cases this
 exact⟨_,h,Al h⟩
end
section
def u15 (n i:Int):Int:=if i<n then n else i+1
def s32 (b:u0i) (t:u0g):u0g:=(t.1,(3:Int),t.2.2.1,b.2.2.2.1+1,t.2.2.2.2.1,t.2.2.2.2.2.1,(t.2.2.2.2.2.2.1 || q6d t b.2.1),(⟨#[]⟩:Hs))
def u0y (b:u0i) (t:u0g):u0i:=
 (t9k b.1 t.2.2.2.2.2.1 (b.2.2.2.1+1),b.2.1++ [s32 b t],(b.2.2.1.filter fun x=> !decide (x.1=t.1)).map (p03 (s32 b t)),b.2.2.2.1+1,u15 b.2.2.2.2 t.1)
def u6w (b:u0i) (t:u0g) (n:Hs):u0g:=(t.1,(2:Int),t.2.2.1,t.2.2.2.1,t.2.2.2.2.1,t.2.2.2.2.2.1,(t.2.2.2.2.2.2.1 || q6d t b.2.1),n)
def u21 (b:u0i) (t:u0g) (n:Hs):u0i:=
 (b.1,b.2.1,(b.2.2.1.filter fun x=>y3c x.2.2.2.2.2.2.2 n)++ [u6w b t n] ++(b.2.2.1.filter fun x=> !y3c x.2.2.2.2.2.2.2 n),b.2.2.2.1,u15 b.2.2.2.2 t.1)
def t9j (b:u0i) (n:Hs):u0i:=(b.1,b.2.1,(b.2.2.1.filter fun x=> !z7o x.2.2.2.2.2.2.2 n),b.2.2.2.1,b.2.2.2.2)
def j0k (n:Int):Prop:= -1000000≤n∧n≤1000000
theorem s5i {n:Int} (h:j0k n):IntKind.i64.wrap (n+1)=n+1:=by
 obtain⟨h1,h2⟩:=h
 rw[y4y (by omega) (by omega)]
theorem q34 {b:u0i} {t:u0g} (hc:j0k b.2.2.2.1) (hi:j0k t.1):s5h b t=u0y b t:=by
 have e:p7n b t=s32 b t:=by unfold p7n s32;rw[s5i hc]
 unfold s5h u0y
 rw[e,s5i hc,s5i hi]
 unfold y8h u15
 congr 4
 by_cases h:t.1<b.2.2.2.2
 ·rw[Al h,Ao (by omega)]
 ·rw[Ao h,Al (by omega)]
theorem p4p {b:u0i} {t:u0g} (hc:j0k b.2.2.2.1) (hi:j0k t.1):p1i b t=u0y b t:=by
 unfold p1i
 rw[q34 hc hi,s5i hi]
 unfold u0y u15
 congr 4
 by_cases h:t.1<b.2.2.2.2
 ·rw[Al h,Ao (by omega)]
 ·rw[Ao h,Al (by omega)]
def uq (l:Hu u0g):Prop:=l.Pairwise fun a b=>a.1≠b.1
theorem p76 {l:Hu u0g} :(u53 l).Nodup↔uq l:=by
 unfold u53 uq;rw[D8,Dl]
theorem d07 {a b:Hu u0g} :uq (a++b)↔uq a∧uq b∧ ∀x∈a,∀y∈b,x.1≠y.1:=Cg
theorem p4r {l:Hu u0g} (h:uq l) (p:u0g→Bool):uq (l.filter p):=Dz p h
theorem j58 {l:Hu u0g} (f:u0g→u0g) (hf:∀x,(f x).1=x.1) (h:uq l):uq (l.map f):=by
 unfold uq;rw[Dl];simp only[hf];exact h
theorem j2y {t:u0g} :uq [t] :=Eu _ _
theorem j59 {l:Hu u0g} :uq l→ ∀x∈l,∀y∈l,x.1=y.1→x=y:=by
 induction l with
 | nil=>intro _ x hx;cases hx
 | cons z l ih=>
  intro h x hx y hy e
  have h' :=Ch.mp h
  rcases A8.mp hx with rfl | hx' <;>rcases A8.mp hy with rfl | hy'
  ·rfl
  ·exact absurd e (h'.1 y hy')
  ·exact absurd e.symm (h'.1 x hx')
  ·exact ih h'.2 x hx' y hy' e
theorem s5x {l:Hu u0g} {n:Int} :(∀x∈u53 l,x<n)↔ ∀t∈l,t.1<n:=by
 unfold u53
 constructor
 ·exact fun h t ht=>h _ (Bx.mpr ⟨t,ht,rfl⟩)
 ·intro h x hx
  obtain⟨t,ht,rfl⟩:=Bx.mp hx
  exact h t ht
theorem j5n {d x:u0g} (h:TxnR x) (hs:x.2.1=2):TxnR (p03 d x):=
 ⟨h.id,h.st,h.snap,h.rlen,h.ws,h.rs,h.done,h.nocs,h.name,h.noname,fun e=>by have e:x.2.1=1:=e;omega⟩
theorem o4q {b:u0i} {t:u0g} (ht:TxnR t) (hs:t.2.2.1≤b.2.2.2.1) (hc:b.2.2.2.1<9999):TxnR (s32 b t):=
 ⟨ht.id,⟨by show(1:Int)≤3;omega,by show(3:Int)≤3;omega⟩,ht.snap,ht.rlen,ht.ws,ht.rs,fun _=>⟨by show t.2.2.1+1≤b.2.2.2.1+1;omega,by show b.2.2.2.1+1≤9999;omega⟩,
   fun e=>absurd rfl e,fun e=>by have e:(3:Int)=2:=e;omega,fun _=>rfl,fun e=>by have e:(3:Int)=1:=e;omega⟩
theorem o0l {b:u0i} {t:u0g} {n:Hs} (ht:TxnR t) (hs:t.2.1≠3) (hn:u8d n=true):TxnR (u6w b t n):=
 ⟨ht.id,⟨by show(1:Int)≤2;omega,by show(2:Int)≤3;omega⟩,ht.snap,ht.rlen,ht.ws,ht.rs,fun e=>by have e:(2:Int)=3:=e;omega,
   fun _=>ht.nocs hs,fun _=>hn,fun e=>absurd rfl e,fun e=>by have e:(2:Int)=1:=e;omega⟩
theorem j2a {w:WrT} {c:Int} (h:u29 w=true) (h1:1≤c) (h2:c≤9999):q37 (w.1,w.2.1,w.2.2,c)=true:=by
 unfold u29 at h
 unfold q37
 simp only[Ai,q7v] at h ⊢
 exact⟨h.1,h.2.1,h.2.2,h1,h2⟩
theorem j1j {l:Hu u2m} {ws:Hu WrT} {c:Int} (hl:u8x l=true) (hv:∀v∈l,v.2.2.2≤c) (hw:u68 ws=true) (h0:0≤c) (h9:c<9999) (hn:l.length≤112):
 u8x (t9k l ws (c+1))=true∧ ∀v∈t9k l ws (c+1),v.2.2.2≤c+1:=by
 obtain⟨h1,h2,h3⟩:=j0l.mp hl
 obtain⟨w1,w2,w3⟩:=j2z.mp hw
 refine⟨j0l.mpr ⟨fun v h=> ?_,q6e ws h2 (o3y hw) fun x hx w _ q=>by have:=hv x hx;have:vCs x=c+1:=q.2;unfold vCs at this;omega,by rw[p39];omega⟩,fun v h=> ?_⟩
 ·rcases(s0v ws l (c+1)).mp h with h | ⟨w,hw,rfl⟩
  ·exact h1 v h
  ·exact j2a (w1 w hw) (by omega) (by omega)
 ·rcases(s0v ws l (c+1)).mp h with h | ⟨w,hw,rfl⟩
  ·have:=hv v h;omega
  ·exact Bv _
theorem o25 {n i:Int} (h:i<n):u15 n i=n:=Al h
theorem s3o (n i:Int):n≤u15 n i∧i<u15 n i:=by unfold u15;split<;>omega
theorem o3s {b:u0i} {t:u0g} (hb:BaseR b) (ht:TxnR t) (hs:t.2.2.1≤b.2.2.2.1) (hc:b.2.2.2.1<9999) (hp:b.2.1.length<12) (hv:b.1.length≤112)
 (hid:∀x∈b.2.1,x.1≠t.1) (hn:t.1<9999):BaseR (u0y b t):=by
 have c0:=hb.cs.1
 obtain⟨v1,v2⟩:=j1j hb.vs hb.vcs ht.ws c0 hc hv
 have hu:=p76.mp hb.nodup
 have hbl:=s5x.mp hb.below
 obtain⟨u1,u2,u3⟩:=d07.mp hu
 have hg:=s3o b.2.2.2.2 t.1
 have hnx:u15 b.2.2.2.2 t.1≤9999:=by have:=hb.next.2;unfold u15;split<;>omega
 refine⟨v1,v2,⟨by show 0≤b.2.2.2.1+1;omega,by show b.2.2.2.1+1≤9999;omega⟩,⟨by show 1≤u15 b.2.2.2.2 t.1;have:=hb.next.1;omega,hnx⟩,?_,?_,?_,?_,?_,?_,?_,?_⟩
 ·show(b.2.1++ [s32 b t]).length≤12
  simp only[Ba,Aw];omega
 ·intro x hx
  rcases Ay.mp hx with hx | hx
  ·obtain⟨q1,q2,q3⟩:=hb.past x hx
   exact⟨q1,q2,by show x.2.2.2.1≤b.2.2.2.1+1;omega⟩
  ·rw[Ax] at hx
   subst hx
   exact⟨o4q ht hs hc,rfl,Bv _⟩
 ·show(b.2.1++ [s32 b t]).Pairwise _
  rw[Cg]
  refine⟨hb.pasc,Eu _ _,fun x hx y hy=> ?_⟩
  rw[Ax] at hy
  subst hy
  have:=(hb.past x hx).2.2
  show x.2.2.2.1<b.2.2.2.1+1
  omega
 ·show((b.2.2.1.filter _).map _).length≤3
  rw[Da]
  exact A9 (Cs _ _) hb.rlen
 ·intro x hx
  obtain⟨y,hy,rfl⟩:=Bx.mp hx
  obtain⟨q1,q2,q3⟩:=hb.ready y (A6.mp hy).1
  exact⟨j5n q1 q2,q2,by show y.2.2.1≤b.2.2.2.1+1;omega⟩
 ·show((b.2.2.1.filter _).map _).Pairwise _
  rw[Dl]
  exact(Dz _ hb.rasc)
 ·rw[s5x]
  intro x hx
  show x.1<u15 b.2.2.2.2 t.1
  rcases Ay.mp hx with hx | hx
  ·rcases Ay.mp hx with hx | hx
   ·have:=hbl x (Bf _ hx);omega
   ·rw[Ax] at hx;subst hx;exact hg.2
  ·obtain⟨y,hy,rfl⟩:=Bx.mp hx
   have:=hbl y (Az _ (A6.mp hy).1)
   show y.1<_
   omega
 ·rw[p76]
  refine d07.mpr ⟨d07.mpr ⟨u1,j2y,fun x hx y hy=> ?_⟩,j58 _ (fun _=>rfl) (p4r u2 _),fun x hx y hy=> ?_⟩
  ·rw[Ax] at hy;subst hy;exact hid x hx
  ·obtain⟨z,hz,rfl⟩:=Bx.mp hy
   obtain⟨z1,z2⟩:=A6.mp hz
   show x.1≠z.1
   rcases Ay.mp hx with hx | hx
   ·exact u3 x hx z z1
   ·rw[Ax] at hx;subst hx
    intro e
    simp only[Bj,Bu] at z2
    exact z2 e.symm
theorem s3f {b:u0i} (hb:BaseR b) (o:Hu u0g):BaseR (u3q b o):=by
 obtain⟨h1,h2,h3⟩:=j0l.mp hb.vs
 have sv:=t1y b.1 (s1r b o)
 have sp:(b.2.1.filter fun x=> !decide (x.2.2.2.1≤s1r b o)).Sublist b.2.1:=Fg
 have si:((b.2.1.filter fun x=> !decide (x.2.2.2.1≤s1r b o))++b.2.2.1).Sublist (b.2.1++b.2.2.1):=sp.append (Dm _)
 refine⟨j0l.mpr ⟨fun v h=>h1 v (sv.subset h),h2.sublist sv,A9 sv.length_le h3⟩,fun v h=>hb.vcs v (sv.subset h),hb.cs,hb.next,A9 sp.length_le hb.plen,
  fun t h=>hb.past t (sp.subset h),hb.pasc.sublist sp,hb.rlen,hb.ready,hb.rasc,?_,?_⟩
 ·rw[s5x]
  intro x hx
  exact s5x.mp hb.below x (si.subset hx)
 ·rw[p76]
  exact Ez si (p76.mp hb.nodup)
theorem q3v {b:u0i} {t:u0g} {n:Hs} (hb:BaseR b) (ht:TxnR t) (h3:t.2.1≠3) (hs:t.2.2.1≤b.2.2.2.1) (hk:u8d n=true) (hl:b.2.2.1.length<3)
 (hn:∀x∈b.2.2.1,x.2.2.2.2.2.2.2≠n) (hid:∀x∈b.2.1++b.2.2.1,x.1≠t.1) (h9:t.1<9999):BaseR (u21 b t n):=by
 have hu:=p76.mp hb.nodup
 have hbl:=s5x.mp hb.below
 obtain⟨u1,u2,u3⟩:=d07.mp hu
 have hg:=s3o b.2.2.2.2 t.1
 have hnx:u15 b.2.2.2.2 t.1≤9999:=by have:=hb.next.2;unfold u15;split<;>omega
 have mem:∀ {x:u0g},x∈(b.2.2.1.filter fun x=>y3c x.2.2.2.2.2.2.2 n)++ [u6w b t n] ++(b.2.2.1.filter fun x=> !y3c x.2.2.2.2.2.2.2 n)→x∈b.2.2.1∨x=u6w b t n:=fun {x} hx=>by
  rcases Ay.mp hx with hx | hx
  ·rcases Ay.mp hx with hx | hx
   ·exact .inl (A6.mp hx).1
   ·rw[Ax] at hx;exact .inr hx
  ·exact .inl (A6.mp hx).1
 have len:∀(l:Hu u0g) (p:u0g→Bool),(l.filter p).length+(l.filter fun x=> !p x).length=l.length:=fun l p=>by
  induction l with
  | nil=>rfl
  | cons x l ih=>cases hp:p x<;>simp[Di,hp] <;>omega
 refine⟨hb.vs,hb.vcs,hb.cs,⟨by show 1≤u15 b.2.2.2.2 t.1;have:=hb.next.1;omega,hnx⟩,hb.plen,hb.past,hb.pasc,?_,?_,?_,?_,?_⟩
 ·show((b.2.2.1.filter fun x=>y3c x.2.2.2.2.2.2.2 n)++ [u6w b t n] ++(b.2.2.1.filter fun x=> !y3c x.2.2.2.2.2.2.2 n)).length≤3
  have:=len b.2.2.1 fun x=>y3c x.2.2.2.2.2.2.2 n
  simp only[Ba,Aw]
  omega
 ·intro x hx
  rcases mem hx with hx | rfl
  ·exact hb.ready x hx
  ·exact⟨o0l ht h3 hk,rfl,hs⟩
 ·show((b.2.2.1.filter fun x=>y3c x.2.2.2.2.2.2.2 n)++ [u6w b t n] ++(b.2.2.1.filter fun x=> !y3c x.2.2.2.2.2.2.2 n)).Pairwise _
  have up:∀y∈b.2.2.1,(!y3c y.2.2.2.2.2.2.2 n)=true→y3c n y.2.2.2.2.2.2.2=true:=fun y hy h=>by
   rcases q33 y.2.2.2.2.2.2.2 n with c | c | c
   ·rw[c] at h;cases h
   ·exact absurd c (hn y hy)
   ·exact c
  rw[Bi,Cg]
  refine⟨Dz _ hb.rasc,?_,?_⟩
  ·rw[Fs,Ch]
   refine⟨fun y hy=> ?_,Dz _ hb.rasc⟩
   obtain⟨y1,y2⟩:=A6.mp hy
   exact up y y1 y2
  ·intro x hx y hy
   obtain⟨x1,x2⟩:=A6.mp hx
   rcases Ay.mp hy with hy | hy
   ·rw[Ax] at hy;subst hy;exact x2
   ·obtain⟨y1,y2⟩:=A6.mp hy
    exact q6j x2 (up y y1 y2)
 ·rw[s5x]
  intro x hx
  show x.1<u15 b.2.2.2.2 t.1
  rcases Ay.mp hx with hx | hx
  ·have:=hbl x (Bf _ hx);omega
  ·rcases mem hx with hx | rfl
   ·have:=hbl x (Az _ hx);omega
   ·exact hg.2
 ·rw[p76]
  refine d07.mpr ⟨u1,?_,fun x hx y hy=> ?_⟩
  ·show uq ((b.2.2.1.filter fun x=>y3c x.2.2.2.2.2.2.2 n)++ [u6w b t n] ++(b.2.2.1.filter fun x=> !y3c x.2.2.2.2.2.2.2 n))
   rw[Bi]
   refine d07.mpr ⟨p4r u2 _,?_,fun x hx y hy=> ?_⟩
   ·rw[Fs]
    refine Ch.mpr ⟨fun y hy=> ?_,p4r u2 _⟩
    exact(hid y (Az _ (A6.mp hy).1)).symm
   ·obtain⟨x1,x2⟩:=A6.mp hx
    rcases Ay.mp hy with hy | hy
    ·rw[Ax] at hy;subst hy
     exact hid x (Az _ x1)
    ·obtain⟨y1,y2⟩:=A6.mp hy
     intro e
     have:=j59 u2 x x1 y y1 e
     subst this
     rw[x2] at y2;cases y2
  ·rcases mem hy with hy | rfl
   ·exact u3 x hx y hy
   ·exact hid x (Bf _ hx)
theorem p3t {b:u0i} (hb:BaseR b) (n:Hs):BaseR (t9j b n):=by
 have sp:(b.2.2.1.filter fun x=> !z7o x.2.2.2.2.2.2.2 n).Sublist b.2.2.1:=Fg
 have si:(b.2.1++(b.2.2.1.filter fun x=> !z7o x.2.2.2.2.2.2.2 n)).Sublist (b.2.1++b.2.2.1):=(Dm _).append sp
 refine⟨hb.vs,hb.vcs,hb.cs,hb.next,hb.plen,hb.past,hb.pasc,A9 sp.length_le hb.rlen,fun t h=>hb.ready t (sp.subset h),hb.rasc.sublist sp,?_,?_⟩
 ·rw[s5x]
  intro x hx
  exact s5x.mp hb.below x (si.subset hx)
 ·rw[p76]
  exact Ez si (p76.mp hb.nodup)
end
section
def j5y (id snap:Int):u0g:=(id,(1:Int),snap,(0:Int), [], [],false,(⟨#[]⟩:Hs))
def j2s (e:u2v):u2v:=((e.1.1,e.1.2.1,e.1.2.2.1,e.1.2.2.2.1,e.1.2.2.2.2+1),e.2++ [j5y e.1.2.2.2.2 e.1.2.2.2.1])
def p4l (e:u2v) (k:Nat) (t:u0g):u2v:=(e.1,e.2.set k t)
def s1l (e:u2v) (id:Int):Hu u0g:=e.2.filter fun x=> !decide (x.1=id)
def s8g (e:u2v) (id:Int):u2v:=(u3q e.1 (s1l e id),s1l e id)
def s5z (e:u2v) (t:u0g):u2v:=(u3q (u0y e.1 t) (s1l e t.1),s1l e t.1)
def o9m (e:u2v) (t:u0g) (n:Hs):u2v:=(u3q (u21 e.1 t n) (s1l e t.1),s1l e t.1)
def j8p (e:u2v) (t:u0g):u2v:=(u3q (u0y e.1 t) e.2,e.2)
def noE (e:u2v) (n:Hs):u2v:=(u3q (t9j e.1 n) e.2,e.2)
theorem EngR.uq {e:u2v} (h:EngR e):uq (e.1.2.1++e.1.2.2.1++e.2):=p76.mp h.nodup
theorem EngR.bel {e:u2v} (h:EngR e):∀t∈e.1.2.1++e.1.2.2.1++e.2,t.1<e.1.2.2.2.2:=s5x.mp h.below
theorem EngR.apart {e:u2v} (h:EngR e):∀x∈e.1.2.1++e.1.2.2.1,∀y∈e.2,x.1≠y.1:=(d07.mp h.uq).2.2
theorem EngR.uqo {e:u2v} (h:EngR e):Ab.uq e.2:=(d07.mp h.uq).2.1
theorem o23 {e:u2v} {b:u0i} {o:Hu u0g} (h:EngR e) (hb:BaseR b) (ho:o.Sublist e.2) (hc:e.1.2.2.2.1≤b.2.2.2.1) (hn:e.1.2.2.2.2≤b.2.2.2.2) (hu:∀x∈b.2.1++b.2.2.1,∀y∈o,x.1≠y.1):EngR (b,o):=by
 refine⟨hb,A9 ho.length_le h.olen,fun t ht=> ?_,h.oasc.sublist ho,?_,?_⟩
 ·obtain⟨q1,q2,q3⟩:=h.open_ t (ho.subset ht)
  exact⟨q1,q2,by show t.2.2.1≤b.2.2.2.1;omega⟩
 ·rw[s5x]
  intro x hx
  rcases Ay.mp hx with hx | hx
  ·exact s5x.mp hb.below x hx
  ·have:=h.bel x (Az _ (ho.subset hx))
   show x.1<b.2.2.2.2
   omega
 ·rw[p76]
  exact d07.mpr ⟨p76.mp hb.nodup,Ez ho h.uqo,hu⟩
theorem r1n {b:u0i} {o:Hu u0g} {x:u0g} (h:x∈(u3q b o).2.1++(u3q b o).2.2.1):x∈b.2.1++b.2.2.1:=by
 rcases Ay.mp h with h | h
 ·exact Bf _ (A6.mp h).1
 ·exact Az _ h
theorem r3e (e:u2v) (id:Int):(s1l e id).Sublist e.2:=Fg
theorem o9u {e:u2v} {id:Int} {x:u0g} (h:x∈s1l e id):x.1≠id:=by
 have:=(A6.mp h).2
 simpa using this
theorem j3l {e:u2v} (h:EngR e) (hl:e.2.length<4) (hn:e.1.2.2.2.2<9999):EngR (j2s e):=by
 have hb:=h.base
 have n1:=hb.next.1
 have hT:TxnR (j5y e.1.2.2.2.2 e.1.2.2.2.1):=
  ⟨⟨n1,by show e.1.2.2.2.2≤9999;omega⟩,⟨by show(1:Int)≤1;omega,by show(1:Int)≤3;omega⟩,hb.cs,Cn _,rfl,fun r hr=>(by cases hr),fun e=>by have e:(1:Int)=3:=e;omega,fun _=>rfl,fun e=>by have e:(1:Int)=2:=e;omega,fun _=>rfl,fun _=>rfl⟩
 have hbel:=h.bel
 refine⟨⟨hb.vs,hb.vcs,hb.cs,⟨by show 1≤e.1.2.2.2.2+1;omega,by show e.1.2.2.2.2+1≤9999;omega⟩,hb.plen,hb.past,hb.pasc,hb.rlen,hb.ready,hb.rasc,?_,hb.nodup⟩,?_,?_,?_,?_,?_⟩
 ·rw[s5x]
  intro x hx
  have:=hbel x (Bf _ hx)
  show x.1<e.1.2.2.2.2+1
  omega
 ·show(e.2++ [_]).length≤4
  simp only[Ba,Aw];omega
 ·intro t ht
  rcases Ay.mp ht with ht | ht
  ·exact h.open_ t ht
  ·rw[Ax] at ht;subst ht
   exact⟨hT,rfl,Bv _⟩
 ·show(e.2++ [_]).Pairwise _
  rw[Cg]
  refine⟨h.oasc,Eu _ _,fun x hx y hy=> ?_⟩
  rw[Ax] at hy;subst hy
  exact hbel x (Az _ hx)
 ·rw[s5x]
  intro x hx
  show x.1<e.1.2.2.2.2+1
  have hx:x∈e.1.2.1++e.1.2.2.1++(e.2++ [j5y e.1.2.2.2.2 e.1.2.2.2.1]):=hx
  rw[←Bi] at hx
  rcases Ay.mp hx with hx | hx
  ·have:=hbel x hx;omega
  ·rw[Ax] at hx;subst hx
   show e.1.2.2.2.2<_
   omega
 ·rw[p76]
  show uq (e.1.2.1++e.1.2.2.1++(e.2++ [j5y e.1.2.2.2.2 e.1.2.2.2.1]))
  rw[←Bi]
  refine d07.mpr ⟨h.uq,j2y,fun x hx y hy=> ?_⟩
  rw[Ax] at hy;subst hy
  have:=hbel x hx
  show x.1≠e.1.2.2.2.2
  omega
theorem o21 {α β:Type} (f:α→β) (l:Hu α) (k:Nat) (a:α) (h:k<l.length) (ha:f a=f l[k]):(l.set k a).map f=l.map f:=by
 apply Gw (by simp)
 intro i h1 h2
 simp only[F6,List.getElem_set]
 split
 ·rename_i e;subst e;exact ha
 ·rfl
theorem o0o {α:Type} {l:Hu α} {k:Nat} {a x:α} (h:x∈l.set k a):x∈l∨x=a:=E0 h
theorem o3o {e:u2v} (h:EngR e) {k:Nat} (hk:k<e.2.length) {t:u0g} (ht:TxnR t) (h1:t.1=e.2[k].1) (h2:t.2.1=1) (h3:t.2.2.1=e.2[k].2.2.1):EngR (p4l e k t):=by
 have hm:u53 (e.2.set k t)=u53 e.2:=o21 _ _ _ _ hk h1
 have hid:u53 (e.1.2.1++e.1.2.2.1++e.2.set k t)=u53 (e.1.2.1++e.1.2.2.1++e.2):=by
  have:∀a b:Hu u0g,u53 (a++b)=u53 a++u53 b:=fun a b=>by simp[u53]
  rw[this,hm,←this]
 refine⟨h.base,by show(e.2.set k t).length≤4;rw[Dq];exact h.olen,fun x hx=> ?_,?_,?_,?_⟩
 ·rcases o0o hx with hx | rfl
  ·exact h.open_ x hx
  ·have:=(h.open_ _ (Ag hk)).2.2
   exact⟨ht,h2,by rw[h3];exact this⟩
 ·have q:(u53 (e.2.set k t)).Pairwise fun a b=>a<b:=by
   rw[hm];unfold u53;rw[Dl];exact h.oasc
  unfold u53 at q
  rw[Dl] at q
  exact q
 ·show ∀x∈u53 (e.1.2.1++e.1.2.2.1++e.2.set k t),x<e.1.2.2.2.2
  rw[hid];exact h.below
 ·show(u53 (e.1.2.1++e.1.2.2.1++e.2.set k t)).Nodup
  rw[hid];exact h.nodup
theorem o9e {e:u2v} (h:EngR e) (id:Int):EngR (s8g e id):=
 o23 h (s3f h.base _) (r3e e id) (Bv _) (Bv _) fun x hx y hy=>h.apart x (r1n hx) y ((r3e e id).subset hy)
theorem p98 {b:u0i} (h:q0f b=false):b.2.1.length<12∧b.1.length≤100∧b.2.2.2.1<9999:=by
 unfold q0f at h
 simp only[Es,Bu] at h
 obtain⟨h1,h2,h3⟩:=h
 exact⟨by omega,by omega,by omega⟩
theorem r1m {e:u2v} (h:EngR e) {t:u0g} (ht:t∈e.2∨t∈e.1.2.2.1) (hf:q0f e.1=false):BaseR (u0y e.1 t):=by
 obtain⟨f1,f2,f3⟩:=p98 hf
 have hq:TxnR t∧t.2.2.1≤e.1.2.2.2.1:=by
  rcases ht with ht | ht
  ·exact⟨(h.open_ t ht).1,(h.open_ t ht).2.2⟩
  ·exact⟨(h.base.ready t ht).1,(h.base.ready t ht).2.2⟩
 have hlt:t.1<e.1.2.2.2.2:=by
  rcases ht with ht | ht
  ·exact h.bel t (Az _ ht)
  ·exact h.bel t (Bf _ (Az _ ht))
 refine o3s h.base hq.1 hq.2 f3 f1 (by omega) (fun x hx=> ?_) (by have:=h.base.next.2;omega)
 rcases ht with ht | ht
 ·exact h.apart x (Bf _ hx) t ht
 ·exact(d07.mp (d07.mp h.uq).1).2.2 x hx t ht
theorem p4q {b:u0i} {t x:u0g} (h:x∈(u0y b t).2.1++(u0y b t).2.2.1):x.1=t.1∨ ∃y∈b.2.1++b.2.2.1,y.1=x.1:=by
 rcases Ay.mp h with h | h
 ·rcases Ay.mp h with h | h
  ·exact .inr ⟨x,Bf _ h,rfl⟩
  ·rw[Ax] at h;subst h;exact .inl rfl
 ·obtain⟨y,hy,rfl⟩:=Bx.mp h
  exact .inr ⟨y,Az _ (A6.mp hy).1,rfl⟩
theorem o56 {e:u2v} (h:EngR e) {t:u0g} (ht:t∈e.2) (hf:q0f e.1=false):EngR (s5z e t):=by
 have hg:=s3o e.1.2.2.2.2 t.1
 refine o23 h (s3f (r1m h (.inl ht) hf) _) (r3e e t.1) (by show e.1.2.2.2.1≤e.1.2.2.2.1+1;omega) hg.1 fun x hx y hy=> ?_
 rcases p4q (r1n hx) with q | ⟨z,hz,q⟩
 ·rw[q];exact(o9u hy).symm
 ·rw[←q];exact h.apart z hz y ((r3e e t.1).subset hy)
theorem j8q {e:u2v} (h:EngR e) {t:u0g} (ht:t∈e.1.2.2.1) (hf:q0f e.1=false):EngR (j8p e t):=by
 have hg:=s3o e.1.2.2.2.2 t.1
 refine o23 h (s3f (r1m h (.inr ht) hf) _) (Dm _) (by show e.1.2.2.2.1≤e.1.2.2.2.1+1;omega) hg.1 fun x hx y hy=> ?_
 rcases p4q (r1n hx) with q | ⟨z,hz,q⟩
 ·rw[q];exact h.apart t (Az _ ht) y hy
 ·rw[←q];exact h.apart z hz y hy
theorem d1u {e:u2v} (h:EngR e) (n:Hs):EngR (noE e n):=by
 refine o23 h (s3f (p3t h.base n) _) (Dm _) (Bv _) (Bv _) fun x hx y hy=> ?_
 rcases Ay.mp (r1n hx) with hx | hx
 ·exact h.apart x (Bf _ hx) y hy
 ·exact h.apart x (Az _ (A6.mp hx).1) y hy
theorem j54 {e:u2v} (h:EngR e) {t:u0g} (ht:t∈e.2) {n:Hs} (hk:u8d n=true) (hl:e.1.2.2.1.length<3) (hn:∀x∈e.1.2.2.1,x.2.2.2.2.2.2.2≠n):EngR (o9m e t n):=by
 obtain⟨q1,q2,q3⟩:=h.open_ t ht
 have hlt:=h.bel t (Az _ ht)
 have hg:=s3o e.1.2.2.2.2 t.1
 have hb:BaseR (u21 e.1 t n):=q3v h.base q1 (by omega) q3 hk hl hn (fun x hx=>h.apart x hx t ht) (by have:=h.base.next.2;omega)
 refine o23 h (s3f hb _) (r3e e t.1) (Bv _) hg.1 fun x hx y hy=> ?_
 have hy' :=(r3e e t.1).subset hy
 rcases Ay.mp (r1n hx) with hx | hx
 ·exact h.apart x (Bf _ hx) y hy'
 ·rcases Ay.mp hx with hx | hx
  ·rcases Ay.mp hx with hx | hx
   ·exact h.apart x (Az _ (A6.mp hx).1) y hy'
   ·rw[Ax] at hx;subst hx;exact(o9u hy).symm
  ·exact h.apart x (Az _ (A6.mp hx).1) y hy'
end
section
def s40 (n:Nat):Hu Int:=if h:n<128 then[(n:Int)] else((n % 128+128:Nat):Int)::s40 (n / 128)
termination_by n
decreasing_by omega
theorem r9f {n:Nat} (h:n<128):s40 n= [(n:Int)] :=by rw[s40,dif_pos h]
theorem q74 {n:Nat} (h: ¬n<128):s40 n=((n % 128+128:Nat):Int)::s40 (n / 128):=by rw[s40,dif_neg h]
theorem o6p (n:Nat):(s40 n).length≤n+1:=by
 induction n using Nat.strongRecOn with
 | _ n ih=>
  by_cases h:n<128
  ·rw[r9f h];simp
  ·rw[q74 h]
   have:=ih (n / 128) (by omega)
   simp only[Bc];omega
theorem o6q {S:Type} {W:Int×Hu Int→Ht ((Int×Hu Int)⊕S)}
 (hW:∀x,W x=(bif (decide (x.1 >(127:Int))) then(bif (Nat.ble (x.2.length+([(IntKind.u8.wrap (IntKind.i64.wrap ((Int.tmod x.1 (128:Int))+(128:Int))))] :Hu Int).length) z7w) then
  (W ((IntKind.i64.wrap (Int.tdiv x.1 (128:Int))),(x.2++([(IntKind.u8.wrap (IntKind.i64.wrap ((Int.tmod x.1 (128:Int))+(128:Int))))] :Hu Int)))) else none) else(some (.inl x)))):
 ∀(n:Nat) (acc:Hu Int),acc.length+n≤1000000000000→ ∃m:Nat,∃acc' :Hu Int,W ((n:Int),acc)=some (.inl ((m:Int),acc'))∧m<128∧acc' ++ [(m:Int)] =acc++s40 n∧acc'.length≤acc.length+n:=by
 intro n
 induction n using Nat.strongRecOn with
 | _ n ih=>
  intro acc hn
  rw[hW]
  by_cases h:n<128
  ·have:decide ((n:Int) >(127:Int))=false:=by simp;omega
   simp only[this,Aa]
   exact⟨n,acc,rfl,h,by rw[r9f h],by omega⟩
  ·have h1:decide ((n:Int) >(127:Int))=true:=by simp;omega
   have h2:Int.tmod (n:Int) (128:Int)=((n % 128:Nat):Int):=o5k n 128
   have h3:Int.tdiv (n:Int) (128:Int)=((n / 128:Nat):Int):=j32 n 128
   have h4:IntKind.u8.wrap (IntKind.i64.wrap (((n % 128:Nat):Int)+(128:Int)))=((n % 128+128:Nat):Int):=by
    rw[y4y (by omega) (by omega)]
    have:((n % 128:Nat):Int)+128=((n % 128+128:Nat):Int):=by simp
    rw[this,j2d (by omega)]
   simp only[h1,h2,h3,h4,Ad,Aw,u0z (show acc.length+1≤1099511627776 by omega)]
   rw[y8b (by omega)]
   obtain⟨m,acc',e1,e2,e3,e4⟩:=ih (n / 128) (by omega) (acc++ [((n % 128+128:Nat):Int)]) (by simp;omega)
   refine⟨m,acc',e1,e2,?_,?_⟩
   ·rw[e3,q74 h,Bi];rfl
   ·have:(acc++ [((n % 128+128:Nat):Int)]).length=acc.length+1:=by simp
    omega
theorem p3y (n:Nat) (hn:n≤100000000000):u16 (n:Int)=some (y7g (s40 n)):=by
 rw[p91];unfold q5g
 obtain⟨m,acc',e1,e2,e3,e4⟩:=o6q (W:=s0p) (fun x=>p4t x) n [] (by simp;omega)
 have e4:acc'.length≤n:=by simpa using e4
 simp only[e1,zOb,Aw,u0z (show acc'.length+1≤1099511627776 by omega),Ad]
 rw[j2d (by omega),e3];rfl
theorem r6v (n:Int):t29 n=some (if 0≤n∧n≤1000000000 then(y7g (s40 n.toNat),true) else(emp,false)):=by
 rw[p5m];unfold q07
 simp only[s1o,s9c,zOb]
 by_cases h:0≤n∧n≤1000000000
 ·obtain⟨m,rfl⟩:∃m:Nat,n=m:=⟨n.toNat,by omega⟩
  obtain⟨k,acc',e1,e2,e3,e4⟩:=o6q (W:=t8u) (fun x=>p06 x) m [] (by simp;omega)
  have e4:acc'.length≤m:=by simpa using e4
  rw[Bb h,Al h]
  simp only[e1,zOb,Ap,Aa,Aw,u0z (show acc'.length+1≤1099511627776 by omega),Ad]
  rw[j2d (by omega),e3];rfl
 ·rw[A7 h,Ao h];rfl
def r3g:Nat→Nat→Nat→Hu UInt8→Ht (Nat×Nat)
 | 0,_,_,_=>none
 | _+1,_,_, [] =>none
 | f+1,i,n,b::l=>
  if b.toNat<128 then(if n+b.toNat % 128*128^i≤1000000000∧(s40 (n+b.toNat % 128*128^i)).length=i+1 then some (n+b.toNat % 128*128^i,i+1) else none)
  else r3g f (i+1) (n+b.toNat % 128*128^i) l
def q6s (at_:Int) (r:Ht (Nat×Nat)):Int×Int×Bool:=match r with
 | some (n,k)=>((n:Int),at_+(k:Int),true)
 | none=>(0,0,false)
def u0s (t:Hs) (at_:Int):Int×Int×Bool:=if 0≤at_∧at_≤t.size then q6s at_ (r3g 5 0 0 (t.data.toList.drop at_.toNat)) else(0,0,false)
theorem o0q:∀(f i n:Nat) (l:Hu UInt8) (v k:Nat),r3g f i n l=some (v,k)→v≤1000000000∧k≤i+l.length∧i<k
 | 0,_,_,_,_,_,h=>by cases h
 | _+1,_,_, [],_,_,h=>by cases h
 | f+1,i,n,b::l,v,k,h=>by
  simp only[r3g] at h
  split at h
  ·split at h
   ·rename_i h2
    simp only[Ac,Ak] at h
    obtain⟨rfl,rfl⟩:=h
    exact⟨h2.1,by simp,by omega⟩
   ·cases h
  ·have:=o0q f (i+1) _ l v k h
   simp only[Bc]
   omega
theorem t92 {t:Hs} {at_:Int} (h:(u0s t at_).2.2=true):0≤(u0s t at_).1∧(u0s t at_).1≤1000000000∧0≤at_∧at_<(u0s t at_).2.1∧(u0s t at_).2.1≤t.size:=by
 unfold u0s at h ⊢
 split at h
 ·rename_i hc
  rw[Al hc]
  cases hv:r3g 5 0 0 (t.data.toList.drop at_.toNat) with
  | none=>rw[hv] at h;cases h
  | some r=>
   obtain⟨v,k⟩:=r
   have:=o0q 5 0 0 _ v k hv
   have hl:(t.data.toList.drop at_.toNat).length=t.size - at_.toNat:=by simp
   simp only[q6s]
   omega
 ·cases h
theorem j52 (i:Nat) (h:i<5):(2:Int)^(min (IntKind.i64.wrap (7*(i:Int))).toNat IntKind.i64.bits)=((128^i:Nat):Int):=by
 rcases i with _ | _ | _ | _ | _ | i
 all_goals first | rfl | omega
theorem j2v (i:Nat) (h:i≤5):128^i≤34359738368:=by
 rcases i with _ | _ | _ | _ | _ | _ | i
 all_goals first | decide | omega
theorem q8b (t:Hs) (at_:Int) (ht:t.size≤u0j):s20 (t,at_)=some (u0s t at_):=by
 unfold u0j at ht
 rw[p5e];unfold q0z u0s
 simp only[s1o,s9c,zOb]
 by_cases h:0≤at_∧at_≤t.size
 ·obtain⟨p,rfl⟩:∃p:Nat,at_=p:=⟨at_.toNat,by omega⟩
  have hp:p≤t.size:=by omega
  rw[Bb h,Al h]
  have L:∀(f i n:Nat),i+f=5→n<128^i→p+i≤t.size→((t8q (t,(p:Int),(n:Int),(i:Int))).bind fun r=>match r with
   | .inl o=>some ((0:Int),(0:Int),false)
   | .inr z=>some z)=some (q6s p (r3g f i n (t.data.toList.drop (p+i)))):=by
   intro f
   induction f with
   | zero=>
    intro i n hi hn hpi
    have:i=5:=by omega
    subst this
    rw[r5r];simp only[t7z]
    rfl
   | succ f ih=>
    intro i n hi hn hpi
    have hi5:i<5:=by omega
    have hpw:=j2v i (by omega)
    rw[r5r];simp only[t7z]
    have w1:IntKind.i64.wrap ((p:Int)+(i:Int))=((p+i:Nat):Int):=by rw[y4y (by omega) (by omega)];simp
    have e1:decide ((i:Int)<(5:Int))=true:=by simp;omega
    by_cases hlt:p+i<t.size
    ·have hd:t.data.toList.drop (p+i)=(t.data.toList[p+i]'(by simpa using hlt))::t.data.toList.drop (p+i+1):=Ce (by simpa using hlt)
     have hb:(t.data.toList[p+i]'(by simpa using hlt)).toNat<256:=Fw _
     rw[hd]
     generalize hc:(t.data.toList[p+i]'(by simpa using hlt))=c at hb
     have e2:decide (((p+i:Nat):Int)<(t.size:Int))=true:=by simp;omega
     have e3:decide (0≤IntKind.i64.wrap (7*(i:Int)))=true:=by rw[y4y (by omega) (by omega)];simp;omega
     have t2:Int.tmod ((c.toNat:Nat):Int) (128:Int)=((c.toNat % 128:Nat):Int):=o5k _ 128
     have hm:c.toNat % 128*128^i≤127*34359738368:=Ei (by omega) hpw
     have w2:IntKind.i64.wrap (((c.toNat % 128:Nat):Int)*((128^i:Nat):Int))=((c.toNat % 128*128^i:Nat):Int):=by
      rw[←Int.natCast_mul];exact y8b (by omega)
     have w3:IntKind.i64.wrap ((n:Int)+((c.toNat % 128*128^i:Nat):Int))=((n+c.toNat % 128*128^i:Nat):Int):=by
      rw[←Int.natCast_add];exact y8b (by omega)
     simp only[e1,Ad,zOb,w1,e2,y7t hlt,e3,zTn,o54 hlt,hc,y8b (show c.toNat≤4611686018427387904 by omega),t2,j52 i hi5,w2,w3,r3g]
     by_cases hc1:c.toNat<128
     ·have e4:decide (((c.toNat:Nat):Int)<(128:Int))=true:=by simp;omega
      simp only[e4,Ad,Al hc1,r6v,zOb]
      have wi:IntKind.i64.wrap ((i:Int)+1)=((i+1:Nat):Int):=y7l (by omega)
      by_cases hv:n+c.toNat % 128*128^i≤1000000000
      ·rw[Al (show(0:Int)≤((n+c.toNat % 128*128^i:Nat):Int)∧((n+c.toNat % 128*128^i:Nat):Int)≤1000000000 by omega)]
       simp only[Ap,Aa,zTn,u6a,wi,zOb]
       by_cases hl:(s40 (n+c.toNat % 128*128^i)).length=i+1
       ·rw[Al ⟨hv,hl⟩,hl]
        simp only[Ae,Ap,Aa,zOb,q6s]
        rw[y4y (by omega) (by omega)]
        simp[Int.add_assoc]
       ·rw[Ao (fun hh=>hl hh.2)]
        rw[A7 (show ¬(((s40 (n+c.toNat % 128*128^i)).length:Nat):Int)=((i+1:Nat):Int) by omega)]
        rfl
      ·rw[Ao (show ¬((0:Int)≤((n+c.toNat % 128*128^i:Nat):Int)∧((n+c.toNat % 128*128^i:Nat):Int)≤1000000000) by omega),Ao (fun hh=>hv hh.1)]
       rfl
     ·have e4:decide (((c.toNat:Nat):Int)<(128:Int))=false:=by simp;omega
      simp only[e4,Aa,Ao hc1]
      rw[y7l (by omega)]
      have:=ih (i+1) (n+c.toNat % 128*128^i) (by omega) (by
       have:128^(i+1)=128^i*128:=Gr 128 i
       have h2:c.toNat % 128*128^i≤127*128^i:=Ei (by omega) (Au _)
       omega) (by omega)
      exact this
    ·have e2:decide (((p+i:Nat):Int)<(t.size:Int))=false:=by simp;omega
     have hd:t.data.toList.drop (p+i)= [] :=Dp (by simp;omega)
     rw[hd]
     simp only[e1,Ad,w1,e2,zOb,Aa,r3g]
     rfl
  exact L 5 0 0 rfl (by decide) (by omega)
 ·rw[A7 h,Ao h];rfl
def p77:Hu UInt8→Nat
 | [] =>0
 | b::l=>b.toNat % 128+128*p77 l
theorem o96 (l:Hu UInt8) (b:UInt8):p77 (l++ [b])=p77 l+b.toNat % 128*128^l.length:=by
 induction l with
 | nil=>simp[p77]
 | cons x l ih=>
  simp only[Ef,p77,ih,Bc,Gr]
  rw[Nat.mul_add]
  have:128*(b.toNat % 128*128^l.length)=b.toNat % 128*(128^l.length*128):=by
   rw[Fk 128,Nat.mul_assoc]
  omega
theorem j36 (l:Hu UInt8) (b:UInt8) (hl:∀x∈l,¬x.toNat<128) (hb:b.toNat<128) (h:(s40 (p77 (l++ [b]))).length=l.length+1):s40 (p77 (l++ [b]))=(l++ [b]).map fun x=>(x.toNat:Int):=by
 induction l with
 | nil=>
  have:p77 ([] ++ [b])=b.toNat:=by simp[p77];omega
  rw[this,r9f hb];rfl
 | cons x l ih=>
  have hx:x.toNat<256:=Fw x
  have hx2:=hl x (by simp)
  simp only[Ef,p77] at h ⊢
  by_cases hs:x.toNat % 128+128*p77 (l++ [b])<128
  ·rw[r9f hs] at h
   simp at h
  ·rw[q74 hs] at h ⊢
   have e1:(x.toNat % 128+128*p77 (l++ [b])) / 128=p77 (l++ [b]):=by omega
   have e2:(x.toNat % 128+128*p77 (l++ [b])) % 128+128=x.toNat:=by omega
   rw[e1] at h ⊢
   rw[e2]
   simp only[Bc,Nat.add_right_cancel_iff] at h
   rw[ih (fun y hy=>hl y (by simp[hy])) h]
   rfl
theorem j1x (l:Hu UInt8):y7g (l.map fun x=>(x.toNat:Int))=⟨l.toArray⟩:=by
 unfold y7g
 simp only[List.map_map]
 have:(l.map ((fun n=>UInt8.ofNat n.toNat) ∘fun b=>(b.toNat:Int)))=l:=by
  conv=>rhs;rw[←List.map_id l]
  apply Ff
  intro b _
  simp
 rw[this]
theorem q9c (t:Hs) (a b:Nat) (h:b≤t.size):t.extract a b=⟨((t.data.toList.drop a).take (b - a)).toArray⟩:=by
 apply Gf
 simp only[ByteArray.data_extract]
 apply Fj
 simp[F7]
theorem j5r {q:Nat} (h:q≤1000000000):decide ((q:Int) >(1000000000:Int))=false:=by simp;omega
theorem j5o {q:Nat} (h: ¬q≤1000000000):decide ((q:Int) >(1000000000:Int))=true:=by simp;omega
theorem q8c (t:Hs) (at_:Int) (ht:t.size≤u0j):s28 (t,at_)=some (u0s t at_):=by
 unfold u0j at ht
 rw[p53];unfold q1o u0s
 simp only[s2v,s9c,zOb]
 by_cases h:0≤at_∧at_≤t.size
 ·obtain⟨p,rfl⟩:∃p:Nat,at_=p:=⟨at_.toNat,by omega⟩
  have hp:p≤t.size:=by omega
  rw[Bb h,Al h]
  have L:∀(f i:Nat),i+f=5→p+i≤t.size→(∀x∈(t.data.toList.drop p).take i,¬x.toNat<128)→p77 ((t.data.toList.drop p).take i)<128^i→
   ((t8w (t,(p:Int),((p77 ((t.data.toList.drop p).take i):Nat):Int),((128^i:Nat):Int),((p+i:Nat):Int))).bind fun r=>match r with
   | .inl o=>some ((0:Int),(0:Int),false)
   | .inr z=>some z)=some (q6s p (r3g f i (p77 ((t.data.toList.drop p).take i)) (t.data.toList.drop (p+i)))):=by
   intro f
   induction f with
   | zero=>
    intro i hi hpi hall hn
    have:i=5:=by omega
    subst this
    rw[r59];simp only[t8g]
    have e1:decide (((p+5:Nat):Int)<IntKind.i64.wrap ((p:Int)+5))=false:=by rw[y4y (by omega) (by omega)];simp
    rw[e1]
    cases decide (((p+5:Nat):Int)<(t.size:Int))<;>rfl
   | succ f ih=>
    intro i hi hpi hall hn
    have hi5:i<5:=by omega
    have hpw:=j2v i (by omega)
    rw[r59];simp only[t8g]
    have e1:decide (((p+i:Nat):Int)<IntKind.i64.wrap ((p:Int)+5))=true:=by rw[y4y (by omega) (by omega)];simp;omega
    by_cases hlt:p+i<t.size
    ·have hd:t.data.toList.drop (p+i)=(t.data.toList[p+i]'(by simpa using hlt))::t.data.toList.drop (p+i+1):=Ce (by simpa using hlt)
     have hb:(t.data.toList[p+i]'(by simpa using hlt)).toNat<256:=Fw _
     have htk:(t.data.toList.drop p).take (i+1)=(t.data.toList.drop p).take i++ [t.data.toList[p+i]'(by simpa using hlt)] :=by
      rw[B9 (by simp;omega)]
      simp
     have htl:((t.data.toList.drop p).take i).length=i:=by simp;omega
     have hvs:=o96 ((t.data.toList.drop p).take i) (t.data.toList[p+i]'(by simpa using hlt))
     rw[htl] at hvs
     rw[hd]
     generalize hc:(t.data.toList[p+i]'(by simpa using hlt))=c at hb htk hvs
     generalize hn' :p77 ((t.data.toList.drop p).take i)=n at hn hvs ⊢
     have e2:decide (((p+i:Nat):Int)<(t.size:Int))=true:=by simp;omega
     have t2:Int.tmod ((c.toNat:Nat):Int) (128:Int)=((c.toNat % 128:Nat):Int):=o5k _ 128
     have hm:c.toNat % 128*128^i≤127*34359738368:=Ei (by omega) hpw
     have w2:IntKind.i64.wrap (((c.toNat % 128:Nat):Int)*((128^i:Nat):Int))=((c.toNat % 128*128^i:Nat):Int):=by
      rw[←Int.natCast_mul];exact y8b (by omega)
     have w3:IntKind.i64.wrap ((n:Int)+((c.toNat % 128*128^i:Nat):Int))=((n+c.toNat % 128*128^i:Nat):Int):=by
      rw[←Int.natCast_add];exact y8b (by omega)
     have wp:IntKind.i64.wrap (((p+i:Nat):Int)+1)=((p+i+1:Nat):Int):=y7l (by omega)
     have ws:IntKind.i64.wrap (((128^i:Nat):Int)*128)=((128^(i+1):Nat):Int):=by
      rw[Gr,Int.natCast_mul]
      exact y4y (by omega) (by omega)
     simp only[e1,e2,Ad,zOb,y7t hlt,zTn,o54 hlt,hc,y8b (show c.toNat≤4611686018427387904 by omega),t2,w2,w3,wp,ws,r3g]
     by_cases hc1:c.toNat<128
     ·have e4:decide (((c.toNat:Nat):Int)<(128:Int))=true:=by simp;omega
      simp only[e4,Ad,Al hc1]
      by_cases hv:n+c.toNat % 128*128^i≤1000000000
      ·have e5:decide (((n+c.toNat % 128*128^i:Nat):Int) >(1000000000:Int))=false:=j5r hv
       have e6:(decide (0≤(p:Int))&&decide ((p:Int)≤((p+i+1:Nat):Int))&&decide (((p+i+1:Nat):Int)≤(t.size:Int)))=true:=by simp;omega
       simp only[e5,Aa,p3y _ (show n+c.toNat % 128*128^i≤100000000000 by omega),zOb,e6,Ad]
       have hx:t.extract p (p+i+1)=⟨((t.data.toList.drop p).take (i+1)).toArray⟩:=by
        rw[q9c t p (p+i+1) (by omega)]
        have:p+i+1 - p=i+1:=by omega
        rw[this]
       rw[hx]
       have hv' :n+c.toNat % 128*128^i=p77 ((t.data.toList.drop p).take i++ [c]):=hvs.symm
       by_cases hl:(s40 (n+c.toNat % 128*128^i)).length=i+1
       ·rw[Al ⟨hv,hl⟩]
        have key:s40 (n+c.toNat % 128*128^i)=((t.data.toList.drop p).take (i+1)).map fun x=>(x.toNat:Int):=by
         rw[hv',htk]
         exact j36 _ c hall hc1 (by rw[←hv',hl,htl])
        rw[key,j1x,y6l]
        simp only[Ap,Aa,zOb,q6s]
        simp[Int.add_assoc]
       ·rw[Ao (fun hh=>hl hh.2)]
        have hne:z7o (y7g (s40 (n+c.toNat % 128*128^i))) ⟨((t.data.toList.drop p).take (i+1)).toArray⟩=false:=by
         rw[←Ey,y7f]
         intro hh
         have:=Dj ByteArray.size hh
         rw[u6a] at this
         apply hl
         rw[this]
         show((t.data.toList.drop p).take (i+1)).toArray.size=_
         simp;omega
        rw[hne];rfl
      ·have e5:decide (((n+c.toNat % 128*128^i:Nat):Int) >(1000000000:Int))=true:=j5o hv
       rw[Ao (fun hh=>hv hh.1),e5];rfl
     ·have e4:decide (((c.toNat:Nat):Int)<(128:Int))=false:=by simp;omega
      simp only[e4,Aa,Ao hc1]
      have:=ih (i+1) (by omega) (by omega) (by
       rw[htk]
       intro x hx
       rcases Ay.mp hx with hx | hx
       ·exact hall x hx
       ·simp at hx;rw[hx];exact hc1) (by
       rw[htk,hvs]
       have:128^(i+1)=128^i*128:=Gr 128 i
       have h2:c.toNat % 128*128^i≤127*128^i:=Ei (by omega) (Au _)
       omega)
      rw[htk,hvs] at this
      exact this
    ·have e2:decide (((p+i:Nat):Int)<(t.size:Int))=false:=by simp;omega
     have hd:t.data.toList.drop (p+i)= [] :=Dp (by simp;omega)
     rw[hd]
     simp only[e2,zOb,Aa,r3g]
     rfl
  exact L 5 0 rfl (by omega) (by simp) (by simp[p77])
 ·rw[A7 h,Ao h];rfl
end
section
def u0m (t:Hs) (at_:Int):Hs×Int×Bool:=
 if(u0s t at_).2.2=true∧(u0s t at_).1≤20000∧(u0s t at_).1≤(t.size:Int) - (u0s t at_).2.1 then
  (t.extract (u0s t at_).2.1.toNat ((u0s t at_).2.1+(u0s t at_).1).toNat,(u0s t at_).2.1+(u0s t at_).1,true)
 else(emp,0,false)
theorem r88 {t:Hs} {at_:Int} (h:(u0m t at_).2.2=true):0≤(u0m t at_).2.1∧(u0m t at_).2.1≤t.size:=by
 unfold u0m at h ⊢
 split at h
 ·rename_i hc
  rw[Al hc]
  have:=t92 hc.1
  simp only
  omega
 ·cases h
theorem p72 (t:Hs) (at_:Int) (ht:t.size≤u0j):
 (((bif (!(u0s t at_).2.2) then(some true) else(bif (decide ((u0s t at_).1 >(20000:Int))) then(some true) else(some (decide ((u0s t at_).1 >(IntKind.i64.wrap ((t.size:Int) - (u0s t at_).2.1))))))):Ht Bool).bind fun j2=>
  (bif j2 then(some ((⟨#[]⟩:Hs),((0:Int),false))) else(bif (decide (0≤(u0s t at_).2.1)&&decide ((u0s t at_).2.1≤(IntKind.i64.wrap ((u0s t at_).2.1+(u0s t at_).1)))&&decide ((IntKind.i64.wrap ((u0s t at_).2.1+(u0s t at_).1))≤(t.size:Int))) then
   (some ((t.extract ((u0s t at_).2.1).toNat ((IntKind.i64.wrap ((u0s t at_).2.1+(u0s t at_).1))).toNat),((IntKind.i64.wrap ((u0s t at_).2.1+(u0s t at_).1)),true))) else none)))=some (u0m t at_):=by
 unfold u0j at ht
 unfold u0m
 cases ho:(u0s t at_).2.2 with
 | false=>rfl
 | true=>
  have hk:=t92 ho
  rw[y4y (n:=(t.size:Int) - (u0s t at_).2.1) (by omega) (by omega),y4y (n:=(u0s t at_).2.1+(u0s t at_).1) (by omega) (by omega)]
  by_cases h1:(u0s t at_).1 >20000
  ·rw[Ao (by omega),Bb h1];rfl
  ·rw[A7 h1]
   by_cases h2:(u0s t at_).1 >(t.size:Int) - (u0s t at_).2.1
   ·rw[Ao (by omega),Bb h2];rfl
   ·rw[Al ⟨rfl,by omega,by omega⟩,A7 h2]
    simp only[Ap,Aa,zOb]
    rw[Bb (show 0≤(u0s t at_).2.1 by omega),Bb (show(u0s t at_).2.1≤(u0s t at_).2.1+(u0s t at_).1 by omega),Bb (show(u0s t at_).2.1+(u0s t at_).1≤(t.size:Int) by omega)]
    rfl
theorem q0p (t:Hs) (at_:Int) (ht:t.size≤u0j):t9d (t,at_)=some (u0m t at_):=by
 rw[p0x];unfold r4d
 simp only[q8c t at_ ht,zOb]
 exact p72 t at_ ht
theorem q0o (t:Hs) (at_:Int) (ht:t.size≤u0j):t87 (t,at_)=some (u0m t at_):=by
 rw[q98];unfold r3q
 simp only[q8b t at_ ht,zOb]
 exact p72 t at_ ht
def q90 (t:Hs):Int:=((t.data.toList.getD 0 0).toNat:Int)
theorem p81 (t:Hs):0≤q90 t∧q90 t<256:=by
 unfold q90
 have:(t.data.toList.getD 0 0).toNat<256:=Fw _
 omega
def u39 (d:u0l) (s:Int):Int:=q90 (u0k d s).1
theorem p7x {d:u0l} {s:Int} (h:(u0k d s).2=false):(u0k d s).1=emp:=by
 unfold u0k at h ⊢
 split at h
 ·cases h
 ·rename_i hc;rw[Ao hc]
theorem p7p (r:Hs×Bool) (h:r.2=false→r.1=emp):
 (((bif (!r.2) then(some true) else(some (z7o r.1 (⟨#[]⟩:Hs)))):Ht Bool).bind fun j2=>(bif j2 then(some (0:Int)) else(bif (y4q (0:Int) r.1.size) then(some (IntKind.i64.wrap ((r.1.data.toList.getD ((0:Int)).toNat 0).toNat:Int))) else none)))=some (q90 r.1):=by
 obtain⟨t,o⟩:=r
 cases o with
 | false=>
  have:t=emp:=h rfl
  subst this;rfl
 | true=>
  simp only[Ap,Aa,zOb]
  by_cases he:t=emp
  ·subst he
   have:z7o emp (⟨#[]⟩:Hs)=true:=y6l emp
   simp only[this,Ad];rfl
  ·have h1:z7o t (⟨#[]⟩:Hs)=false:=by
    rw[←Ey,y7f];exact he
   have h2:t.size≠0:=by
    intro hz
    apply he
    apply Gf
    apply Fi
    exact hz
   have h3:y4q (0:Int) t.size=true:=by simp[y4q];omega
   have hb:(t.data.toList.getD 0 0).toNat<256:=Fw _
   simp only[h1,Aa,h3,Ad,Ho]
   rw[y8b (by omega)];rfl
theorem s9b (d:u0l) (s:Int) (hd:d1n.wt d≤u0j):t23 (d,s)=some (u39 d s):=by
 rw[p0i];unfold r3z
 simp only[s5o d s hd,zOb]
 exact p7p _ (fun h=>p7x h)
theorem r8f (d:u0l) (s:Int) (hd:d1n.wt d≤u0j):t7o (d,s)=some (u39 d s):=by
 rw[p6h];unfold q13
 simp only[s5p d s hd,zOb]
 exact p7p _ (fun h=>p7x h)
def u01 (d:u0l):Int:=Int.tmod (u39 d 0) 2
theorem t9h (d:u0l):u01 d=0∨u01 d=1:=by
 have:=p81 (u0k d 0).1
 unfold u01 u39
 have e:=Int.tmod_eq_emod_of_nonneg (b:=2) this.1
 rw[e];omega
theorem r2l (d:u0l) (hd:d1n.wt d≤u0j):t49 d=some (u01 d):=by
 rw[p2g];unfold r6y
 simp only[s9b d 0 hd,zOb];rfl
theorem r2m (d:u0l) (hd:d1n.wt d≤u0j):t5c d=some (u01 d):=by
 rw[p24];unfold r7l
 simp only[r8f d 0 hd,zOb];rfl
def p99 (a:Int):Bool:=decide (a=0) || decide (a=1)
def u0e (a:Int):Int:=if p99 a then 1+a*48 else 0
theorem j05 {a:Int} :p99 a=true↔a=0∨a=1:=by simp[p99]
theorem t9v (a:Int):0≤u0e a∧u0e a≤49:=by
 unfold u0e
 split
 ·rename_i h;have:=j05.mp h;omega
 ·omega
theorem q3s (a:Int):s08 a=some (p99 a):=by
 rw[p9h];unfold q4w p99
 cases decide (a=0)<;>rfl
theorem r9z (a:Int):u0t (a,0,1)=some (p99 a):=by
 rw[s2v,s9c]
 congr 1
 rw[Cd,j05,decide_eq_true_iff];omega
theorem s18 (a:Int):u8m a=some (u0e a):=by
 rw[q92];unfold r3l u0e
 simp only[q3s,zOb]
 cases h:p99 a with
 | false=>rfl
 | true=>
  have:=j05.mp h
  simp only[Ap,Aa,Bl]
  rw[y4y (n:=a*48) (by omega) (by omega),y4y (by omega) (by omega)]
theorem s19 (a:Int):u8t a=some (u0e a):=by
 rw[p0q];unfold r36 u0e
 simp only[r9z,zOb]
 cases h:p99 a with
 | false=>rfl
 | true=>
  have:=j05.mp h
  simp only[Ap,Aa,Bl]
  rw[y4y (n:=a*48) (by omega) (by omega),y4y (by omega) (by omega)]
def u0w (d:u0l) (a:Int):Int:=if p99 a then u39 d (u0e a) else 0
theorem r0n (d:u0l) (a:Int):0≤u0w d a∧u0w d a<256:=by
 unfold u0w
 split
 ·exact p81 _
 ·omega
theorem s7m (d:u0l) (a:Int) (hd:d1n.wt d≤u0j):t7j (d,a)=some (u0w d a):=by
 rw[p47];unfold q0s u0w
 simp only[q3s,s18,s9b d _ hd,zOb]
 cases p99 a<;>rfl
theorem s7n (d:u0l) (a:Int) (hd:d1n.wt d≤u0j):t7l (d,a)=some (u0w d a):=by
 rw[p5u];unfold q1f u0w
 simp only[r9z,s19,r8f d _ hd,zOb]
 cases p99 a<;>rfl
def u7u (t:Hs):Nat→Int→Hu Hs→Hu Hs×Int×Bool
 | 0,at_,acc=>(acc,at_,true)
 | m+1,at_,acc=>if(u0m t at_).2.2&& !z7o (u0m t at_).1 emp then u7u t m (u0m t at_).2.1 (acc++ [(u0m t at_).1]) else([],0,false)
def u0c (d:u0l) (a:Int):Hu Hs×Int×Bool:=
 if p99 a&&(u9i d (u0e a+1) 47).2 then u7u (u9i d (u0e a+1) 47).1 (u0w d a).toNat 0 [] else([],0,false)
theorem p71 (d:u0l) (from_:Int):∀(m i:Nat) (acc:Hs),(q0h d from_ m i acc).1.size≤acc.size+m*d1n.wt d
 | 0,i,acc=>by simp[q0h]
 | m+1,i,acc=>by
  unfold q0h
  split
  ·have h1:=p71 d from_ m (i+1) (acc++(u0k d (from_+(i:Int))).1)
   have h2:=r87 d (from_+(i:Int))
   rw[Af] at h1
   have:(m+1)*d1n.wt d=m*d1n.wt d+d1n.wt d:=C7 _ _
   omega
  ·show 0≤_;omega
theorem r9d (d:u0l) (from_ n:Int):(u9i d from_ n).1.size≤100*d1n.wt d:=by
 unfold u9i
 split
 ·have h:=p71 d from_ n.toNat 0 emp
  have h2:emp.size=0:=rfl
  have h3:n.toNat*d1n.wt d≤100*d1n.wt d:=Ei (by omega) (Au _)
  omega
 ·show 0≤_;omega
theorem r2p (d:u0l) (a:Int) (hd:d1n.wt d≤1073741824):u99 (d,a)=some (u0c d a):=by
 have hb:d1n.wt d≤u0j:=by unfold u0j;omega
 have hf:=t9v a
 have hz:(u9i d (u0e a+1) 47).1.size≤u0j:=by have:=r9d d (u0e a+1) 47;unfold u0j;omega
 have hc:=r0n d a
 rw[p2q];unfold r68 u0c
 simp only[s18,zOb]
 rw[y4y (n:=u0e a+1) (by omega) (by omega)]
 simp only[p1u d (u0e a+1) 47 hd (by omega) (by omega),q3s,zOb]
 generalize u9i d (u0e a+1) 47=s at hz
 cases hs:s.2 with
 | false=>cases p99 a<;>rfl
 | true=>
  cases ha:p99 a with
  | false=>rfl
  | true=>
   have L:=r6o (fun x=>(t6a x).bind fun r=>match r with
    | .inl o=>some (o.1,o.2,true)
    | .inr z=>some z) (u0w d a).toNat (fun(p:Hu Hs×Int) i=>(a,d,s.1,p.1,p.2,i)) (fun i p=>u7u s.1 ((u0w d a).toNat - i) p.2 p.1) (fun i p=>p.1.length≤i)
    (fun p _=>by
     rw[r1s];simp only[t5l,s7m d a hb,zOb]
     rw[A7 (by omega)]
     simp only[Aa,zOb,Dw,u7u])
    (fun i p hi hp=>by
     have e:(u0w d a).toNat - i=((u0w d a).toNat - (i+1))+1:=by omega
     rw[r1s];simp only[t5l,s7m d a hb,zOb]
     rw[Bb (by omega),e]
     simp only[Ad,q0o s.1 p.2 hz,zOb,u7u,o86]
     cases hr:(u0m s.1 p.2).2.2 with
     | false=>left;rfl
     | true=>
      cases hq:z7o (u0m s.1 p.2).1 emp with
      | true=>left;rfl
      | false=>
       right
       refine⟨(p.1++ [(u0m s.1 p.2).1],(u0m s.1 p.2).2.1),by simp;omega,by simp,?_⟩
       simp only[Ap,Aa,zOb,Aw,u0z (show p.1.length+1≤1099511627776 by omega),Ad]
       rw[y7l (by omega)]) 0 ([],0) (by omega) (by simp)
   simp only[Ap,Aa,zOb,Dt,Bl]
   exact L
theorem r2q (d:u0l) (a:Int) (hd:d1n.wt d≤1073741824):t0g (d,a)=some (u0c d a):=by
 have hb:d1n.wt d≤u0j:=by unfold u0j;omega
 have hf:=t9v a
 have hz:(u9i d (u0e a+1) 47).1.size≤u0j:=by have:=r9d d (u0e a+1) 47;unfold u0j;omega
 have hc:=r0n d a
 rw[p3b];unfold r7s u0c
 simp only[r9z,s19,zOb]
 rw[y4y (n:=u0e a+1) (by omega) (by omega)]
 simp only[p1v d (u0e a+1) 47 hd (by omega) (by omega),zOb]
 generalize u9i d (u0e a+1) 47=s at hz
 cases hs:s.2 with
 | false=>cases p99 a<;>rfl
 | true=>
  cases ha:p99 a with
  | false=>rfl
  | true=>
   have L:=r6o (fun x=>(t36 x).bind fun r=>match r with
    | .inl o=>some (o.1,o.2,true)
    | .inr z=>some z) (u0w d a).toNat (fun(p:Hu Hs×Int) i=>(a,d, [],s.1,p.1,p.2,i)) (fun i p=>u7u s.1 ((u0w d a).toNat - i) p.2 p.1) (fun i p=>p.1.length≤i)
    (fun p _=>by
     rw[s85];simp only[t3x,s7n d a hb,zOb]
     rw[A7 (by omega)]
     simp only[Aa,zOb,Dw,u7u])
    (fun i p hi hp=>by
     have e:(u0w d a).toNat - i=((u0w d a).toNat - (i+1))+1:=by omega
     rw[s85];simp only[t3x,s7n d a hb,zOb]
     rw[Bb (by omega),e]
     simp only[Ad,q0p s.1 p.2 hz,zOb,u7u,o86]
     cases hr:(u0m s.1 p.2).2.2 with
     | false=>left;rfl
     | true=>
      cases hq:z7o (u0m s.1 p.2).1 emp with
      | true=>left;rfl
      | false=>
       right
       refine⟨(p.1++ [(u0m s.1 p.2).1],(u0m s.1 p.2).2.1),by simp;omega,by simp,?_⟩
       simp only[Ap,Aa,zOb,Aw,u0z (show p.1.length+1≤1099511627776 by omega),Ad]
       rw[y7l (by omega)]) 0 ([],0) (by omega) (by simp)
   simp only[Ap,Aa,zOb,Dt,Bl]
   exact L
def u0f (d:u0l):Hu Hs:=(u0c d (u01 d)).1
theorem p8k (d:u0l) (hd:d1n.wt d≤1073741824):s6g d=some (u0f d):=by
 rw[p2n];unfold r65
 simp only[r2l d (show d1n.wt d≤u0j by unfold u0j;omega),r2p d _ hd,zOb];rfl
theorem p7h (t:Hs):∀(m:Nat) (at_:Int) (acc:Hu Hs),(u7u t m at_ acc).1.length≤acc.length+m
 | 0,at_,acc=>by simp[u7u]
 | m+1,at_,acc=>by
  unfold u7u
  split
  ·have:=p7h t m (u0m t at_).2.1 (acc++ [(u0m t at_).1])
   simp at this;omega
  ·simp
theorem o3h (d:u0l) (a:Int):(u0c d a).1.length<256:=by
 unfold u0c
 split
 ·have h:=p7h (u9i d (u0e a+1) 47).1 (u0w d a).toNat 0 []
  have:=r0n d a
  simp at h;omega
 ·simp
end
section
def u18 (d:u0l):Bool:=decide (1≤d.1.length∧d.1.length≤100)&&decide (d.2.length≤60)&&d.1.all (fun s=>decide (s.size=64))&&d.2.all (fun p=>r2k p.1 0 ((d.1.length:Int) - 1)&&decide (p.2.size=64))
theorem p8y {α:Type} (l:Hu α) (p:α→Bool):l.any (fun x=> !p x)= !l.all p:=by
 induction l with
 | nil=>rfl
 | cons x l ih=>simp only[Gd,Gc,ih,Bool.not_and]
theorem r2n (d:u0l) (hd:d1n.wt d≤u0j):t6r d=some (u18 d):=by
 have h1:d.1.length≤u0j:=A9 t42 hd
 have h2:d.2.length≤u0j:=A9 t7g hd
 unfold u0j at h1 h2
 have L1:=s7g s0l d.1 (fun i=>(d,i)) (fun s=> !decide (s.size=64)) (.inr false) (.inl d)
  (by rw[r9p];simp only[s0d,u0b,Am,Ah,Aa])
  (fun i hi=>by
   rw[r9p];simp only[s0d,u0b,hi,Ae,Ad,y7t hi,zTn,y8k (t:=Ty.str) hi]
   rw[y7l (by omega)]
   have:decide (((d.1[i]).size:Int)=(64:Int))=decide ((d.1[i]).size=64):=by simp only[Cu];omega
   rw[this])
 have L2:=s7g s0m d.2 (fun i=>(d,i)) (fun p=> !(r2k p.1 0 ((d.1.length:Int) - 1)&&decide (p.2.size=64))) (.inr false) (.inl ())
  (by rw[r9q];simp only[s0e,u0b,Am,Ah,Aa])
  (fun i hi=>by
   rw[r9q];simp only[s0e,u0b,hi,Ae,Ad,y7t hi,zTn,y8k (t:=o69) hi,s2v,zOb]
   rw[y7l (by omega),y4y (n:=(d.1.length:Int) - 1) (by omega) (by omega)]
   have:decide (((d.2[i]).2.size:Int)=(64:Int))=decide ((d.2[i]).2.size=64):=by simp only[Cu];omega
   rw[this]
   cases r2k (d.2[i]).1 0 ((d.1.length:Int) - 1)<;>rfl)
 rw[p9p];unfold q44 u18
 simp only[s2v,s9c (a:=(d.1.length:Int)),L1,zOb]
 have e1:decide ((1:Int)≤(d.1.length:Int)∧(d.1.length:Int)≤100)=decide (1≤d.1.length∧d.1.length≤100):=by simp only[Cu];omega
 have e2:decide ((d.2.length:Int) >60)= !decide (d.2.length≤60):=by
  rw[←decide_not,Cu];omega
 rw[e1,e2,p8y]
 cases decide (1≤d.1.length∧d.1.length≤100) with
 | false=>rfl
 | true=>
  cases decide (d.2.length≤60) with
  | false=>rfl
  | true=>
   cases d.1.all (fun s=>decide (s.size=64)) with
   | false=>rfl
   | true=>
    simp only[Ap,Aa,zOb,L2,p8y]
    cases d.2.all _<;>rfl
theorem q3k (d:u0l) (hd:d1n.wt d≤u0j):s00 d=some (u18 d):=by
 have h1:d.1.length≤u0j:=A9 t42 hd
 have h2:d.2.length≤u0j:=A9 t7g hd
 unfold u0j at h1 h2
 have L1:=s7g s0h d.1 (fun i=>(d,d.1,(d.1.length:Int),i)) (fun s=> !decide (s.size=64)) (.inr false) (.inl d)
  (by rw[r9i];simp only[t96,u0b,Am,Ah,Aa])
  (fun i hi=>by
   rw[r9i];simp only[t96,u0b,hi,Ae,Ad,y7t hi,zTn,y8k (t:=Ty.str) hi]
   rw[y7l (by omega)]
   have:decide (((d.1[i]).size:Int)=(64:Int))=decide ((d.1[i]).size=64):=by simp only[Cu];omega
   rw[this])
 have L2:=s7g s0i d.2 (fun i=>(d,d.2,(d.2.length:Int),i)) (fun p=> !(r2k p.1 0 ((d.1.length:Int) - 1)&&decide (p.2.size=64))) (.inr false) (.inl d)
  (by rw[r9j];simp only[t97,u0b,Am,Ah,Aa])
  (fun i hi=>by
   rw[r9j];simp only[t97,u0b,hi,Ae,Ad,y7t hi,zTn,y8k (t:=o69) hi,s1o,zOb]
   rw[y7l (by omega),y4y (n:=(d.1.length:Int) - 1) (by omega) (by omega)]
   have:decide (((d.2[i]).2.size:Int)=(64:Int))=decide ((d.2[i]).2.size=64):=by simp only[Cu];omega
   rw[this]
   cases r2k (d.2[i]).1 0 ((d.1.length:Int) - 1)<;>rfl)
 rw[p89];unfold q4n u18
 simp only[L1,zOb]
 have e1:decide ((1:Int)≤(d.1.length:Int)∧(d.1.length:Int)≤100)=decide (1≤d.1.length∧d.1.length≤100):=by simp only[Cu];omega
 have e2:decide ((d.2.length:Int)≤60)=decide (d.2.length≤60):=by rw[Cu];omega
 rw[p8y]
 cases d.1.all (fun s=>decide (s.size=64)) with
 | false=>simp
 | true=>
  simp only[Ap,Aa,zOb,L2,p8y]
  cases d.2.all (fun p=>r2k p.1 0 ((d.1.length:Int) - 1)&&decide (p.2.size=64)) with
  | false=>simp
  | true=>
   simp only[Ap,Aa,zOb,s1o,s9c (a:=(d.1.length:Int)),e1,e2]
   cases decide (1≤d.1.length∧d.1.length≤100)<;>cases decide (d.2.length≤60)<;>rfl
def u2t (d:u0l):Bool:=u18 d&&decide (d.1.length=97)&&decide (d.2.length=0)&&(u0c d 0).2.2&&(u0c d 1).2.2
theorem p7c (d:u0l) (hd:d1n.wt d≤1073741824):s8m d=some (u2t d):=by
 have hb:d1n.wt d≤u0j:=by unfold u0j;omega
 rw[o2h];unfold q8y u2t
 have hs:t0j ()=some 97:=by rw[r0r];rfl
 simp only[r2n d hb,hs,r2q d _ hd,zOb]
 have e1:decide ((d.1.length:Int)=97)=decide (d.1.length=97):=by rw[Cu];omega
 have e2:decide ((d.2.length:Int) >0)= !decide (d.2.length=0):=by rw[←decide_not,Cu];omega
 rw[e1,e2]
 cases u18 d<;>cases decide (d.1.length=97)<;>cases decide (d.2.length=0)<;>cases (u0c d 0).2.2<;>cases (u0c d 1).2.2<;>rfl
theorem r9v (d:u0l) (hd:d1n.wt d≤1073741824):t9y d=some (u2t d):=by
 have hb:d1n.wt d≤u0j:=by unfold u0j;omega
 rw[o1x];unfold q8n u2t
 simp only[q3k d hb,r2p d _ hd,zOb]
 have e1:decide ((d.1.length:Int)=97)=decide (d.1.length=97):=by rw[Cu];omega
 have e2:decide ((d.2.length:Int)=0)=decide (d.2.length=0):=by rw[Cu];omega
 rw[e1,e2]
 cases u18 d<;>cases decide (d.1.length=97)<;>cases decide (d.2.length=0)<;>cases (u0c d 0).2.2<;>cases (u0c d 1).2.2<;>rfl
end
section
theorem o4p (d:u0l):d1n.wt d=(d.1.length+(d.1.map ByteArray.size).sum)+(d.2.length+(d.2.map fun p=>0+p.2.size).sum):=rfl
theorem p73 {α:Type} {l:Hu α} {f:α→Nat} {k:Nat} (h:∀x∈l,f x≤k):(l.map f).sum≤l.length*k:=by
 induction l with
 | nil=>simp
 | cons x l ih=>
  have h1:=h x (C9 ..)
  have h2:=ih (fun y hy=>h y (Bm _ hy))
  simp only[C8,Ge,Bc,C7]
  omega
theorem p7m {d:u0l} :u18 d=true↔(1≤d.1.length∧d.1.length≤100)∧d.2.length≤60∧(∀s∈d.1,s.size=64)∧ ∀p∈d.2,(0≤p.1∧p.1<(d.1.length:Int))∧p.2.size=64:=by
 unfold u18
 simp only[Ai,Ar,Bg,r2k,and_assoc]
 constructor
 ·rintro⟨a,b,c,e,f⟩
  exact⟨a,b,c,e,fun p hp=>by obtain⟨x,y,z⟩:=f p hp;exact⟨x,by omega,z⟩⟩
 ·rintro⟨a,b,c,e,f⟩
  exact⟨a,b,c,e,fun p hp=>by obtain⟨x,y,z⟩:=f p hp;exact⟨x,by omega,z⟩⟩
theorem u6n {d:u0l} (h:u18 d=true):d1n.wt d≤11000:=by
 obtain⟨h1,h2,h3,h4⟩:=p7m.mp h
 have a1:=p73 (l:=d.1) (f:=ByteArray.size) (k:=64) (fun s hs=>by rw[h3 s hs];exact Au _)
 have a2:=p73 (l:=d.2) (f:=fun p=>0+p.2.size) (k:=64) (fun p hp=>by rw[(h4 p hp).2];exact Au _)
 rw[o4p]
 omega
theorem j37 (d:u0l) (p:Int×Hs):d1n.wt (d.1,d.2++ [p])=d1n.wt d+1+p.2.size:=by
 rw[o4p,o4p]
 simp
 omega
theorem t5h (d:u0l) (hd:d1n.wt d≤u0j):u1g d=some d:=by
 have h1:d.1.length≤u0j:=A9 t42 hd
 have h2:d.2.length≤u0j:=A9 t7g hd
 unfold u0j at h1 h2
 rw[p6f];unfold q11
 have a1:Nat.ble (([] :Hu Hs).length+d.1.length) z7w=true:=u0z (by simp;omega)
 have a2:Nat.ble (([] :Hu p7e.den).length+d.2.length) z7w=true:=u0z (by simp;omega)
 simp only[a1,a2,Ad,Cf]
theorem u9u (d:u0l) (hd:d1n.wt d≤u0j):u1o d=some d:=by
 have h1:d.1.length≤u0j:=A9 t42 hd
 have h2:d.2.length≤u0j:=A9 t7g hd
 unfold u0j at h1 h2
 rw[p2x];unfold r7e
 simp only[u0z h1,u0z h2,Ad]
def u6j (d:u0l) (k:Int) (t:Hs):Ht u0l:=if u18 (d.1,d.2++ [(k,t)]) then some (d.1,d.2++ [(k,t)]) else none
def orD (d:u0l):Ht u0l→u0l×Bool
 | some x=>(x,true)
 | none=>(d,false)
theorem r2v (d:u0l) (k:Int) (t:Hs):u18 (d.1,d.2++ [(k,t)])=(u18 d&&(r2k k 0 ((d.1.length:Int) - 1)&&(decide (t.size=64)&& !decide (60≤d.2.length)))):=by
 rw[Cd]
 simp only[Ai,Bj,Ar,Bu]
 rw[p7m,p7m]
 simp only[Ba,Aw,Ay,Ax,r2k,Ai,Ar]
 constructor
 ·rintro⟨a,b,c,e⟩
  have:=e (k,t) (.inr rfl)
  exact⟨⟨a,by omega,c,fun p hp=>e p (.inl hp)⟩,⟨this.1.1,by have:=this.1.2;omega⟩,this.2,by omega⟩
 ·rintro⟨⟨a,b,c,e⟩,⟨f1,f2⟩,g,h⟩
  refine⟨a,by omega,c,fun p hp=> ?_⟩
  rcases hp with hp | rfl
  ·exact e p hp
  ·exact⟨⟨f1,by show k<(d.1.length:Int);omega⟩,g⟩
theorem q9v (d:u0l) (k:Int) (t:Hs) (hd:d1n.wt d≤1073741824) (ht:t.size≤1073741824):s06 (d,k,t)=some (orD d (u6j d k t)):=by
 have h2:d.2.length≤1073741824:=A9 t7g hd
 have a:Nat.ble (d.2.length+([(k,t)] :Hu p7e.den).length) z7w=true:=u0z (by simp;omega)
 have b:=q3k (d.1,d.2++ [(k,t)]) (by rw[j37];unfold u0j;simp only;omega)
 rw[q5w];unfold s7r
 simp only[u9u d (by unfold u0j;omega),zOb,a,Ad,b]
 unfold u6j
 cases u18 (d.1,d.2++ [(k,t)])<;>rfl
theorem q9w (d:u0l) (k:Int) (t:Hs) (hd:d1n.wt d≤1073741824) (ht:t.size≤1073741824):t4d (d,k,t)=some (orD d (u6j d k t)):=by
 have h2:d.2.length≤1073741824:=A9 t7g hd
 have h1:d.1.length≤1073741824:=A9 t42 hd
 have a:Nat.ble (d.2.length+([(k,t)] :Hu p7e.den).length) z7w=true:=u0z (by simp;omega)
 have w:IntKind.i64.wrap ((d.1.length:Int) - 1)=(d.1.length:Int) - 1:=y4y (by omega) (by omega)
 have e1:decide ((t.size:Int)=(64:Int))=decide (t.size=64):=by simp only[Cu];omega
 have e2:decide ((d.2.length:Int)≥(60:Int))=decide (60≤d.2.length):=by simp only[Cu];omega
 rw[q53];unfold s7x
 simp only[t5h d (by unfold u0j;omega),r2n d (by unfold u0j;omega),zOb,a,Ad,s2v,w,e1,e2]
 unfold u6j
 rw[r2v]
 cases u18 d<;>cases r2k k 0 ((d.1.length:Int) - 1)<;>cases decide (t.size=64)<;>cases decide (60≤d.2.length)<;>rfl
def p4u:Nat→u0l→Nat→Nat→Hs→Ht u0l
 | 0,d,_,_,_=>some d
 | f+1,d,k,at_,t=>if t.size=0 then some d else
  if(u0k d (k:Int)).2=true∧(u0k d (k:Int)).1.size=64 then
   (u6j d (k:Int) ((u0k d (k:Int)).1.extract 0 at_++t.extract 0 (min t.size (64 - at_))++(u0k d (k:Int)).1.extract (at_+min t.size (64 - at_)) 64)).bind fun x=>
    p4u f x (k+1) 0 (t.extract (min t.size (64 - at_)) t.size)
  else none
theorem o0r (f:Nat) (d:u0l) (k at_:Nat) {t:Hs} (h:t.size=0):p4u f d k at_ t=some d:=by
 cases f with
 | zero=>rfl
 | succ f=>rw[p4u,Al h]
theorem t9o {d x:u0l} {k:Int} {t:Hs} (h:u6j d k t=some x):u18 x=true∧x=(d.1,d.2++ [(k,t)]):=by
 unfold u6j at h
 split at h
 ·rename_i hk;cases h;exact⟨hk,rfl⟩
 ·cases h
theorem s8q {t:Hs} :z7o t ⟨#[]⟩=decide (t.size=0):=by
 rw[Cd,y7f,Ar]
 constructor
 ·rintro rfl;rfl
 ·intro h
  have:t.data= #[] :=by apply Fi;exact h
  cases t;simp at this;rw[this]
theorem j0b:∀(f:Nat) (d0 out jk:u0l) (k at_:Nat) (t:Hs),t.size<f→t.size≤1048576→k≤4000000000 - t.size→at_<64→d1n.wt d0≤1073741824→d1n.wt out≤1073741824→
 t1i ((k:Int),(at_:Int),t,d0,jk,out)=some (match p4u f out k at_ t with
  | some x=> .inl (jk,x)
  | none=> .inr (d0,false))
 | 0,d0,out,jk,k,at_,t,h,_,_,_,_,_=>by omega
 | f+1,d0,out,jk,k,at_,t,h,ht,hk,hat,h0,ho=>by
  rw[q38]
  simp only[t9f,s8q,s5o out (k:Int) (by unfold u0j;omega),u9u d0 (by unfold u0j;omega),zOb]
  rw[p4u]
  by_cases hz:t.size=0
  ·simp only[hz,Ae,Ap,Aa,Bl]
  ·simp only[hz,Ah,Bh,Ad,Bk]
   generalize u0k out (k:Int)=r
   obtain⟨old,rok⟩:=r
   cases rok with
   | false=>simp
   | true=>
    have e64:decide ((old.size:Int)=(64:Int))=decide (old.size=64):=by simp only[Cu];omega
    simp only[Ap,Aa,zOb,e64]
    by_cases hs:old.size=64
    ·obtain⟨n,hn⟩:∃n,n=min t.size (64 - at_):=⟨_,rfl⟩
     have w1:IntKind.i64.wrap ((64:Int) - (at_:Int))=((64 - at_:Nat):Int):=by rw[y4y (by omega) (by omega)];omega
     have im:y8i (t.size:Int) ((64 - at_:Nat):Int)=(n:Int):=by
      unfold y8i
      split<;>omega
     have w2:IntKind.i64.wrap ((at_:Int)+(n:Int))=((at_+n:Nat):Int):=by rw[y4y (by omega) (by omega)];omega
     have w3:IntKind.i64.wrap ((k:Int)+1)=((k+1:Nat):Int):=y7l (by omega)
     have z0:((0:Int)).toNat=0:=rfl
     have hnl:n≤t.size:=by omega
     have hn64:at_+n≤64:=by omega
     have c1:(decide ((0:Int)≤0)&&decide ((0:Int)≤(at_:Int))&&decide ((at_:Int)≤(old.size:Int)))=true:=by simp;omega
     have c2:(decide ((0:Int)≤0)&&decide ((0:Int)≤(n:Int))&&decide ((n:Int)≤(t.size:Int)))=true:=by simp;omega
     have c3:decide ((old.extract 0 at_).size+(t.extract 0 n).size≤140737488355328)=true:=by simp only[Bd,Ar];omega
     have c4:(decide ((0:Int)≤((at_+n:Nat):Int))&&decide (((at_+n:Nat):Int)≤(old.size:Int))&&decide ((old.size:Int)≤(old.size:Int)))=true:=by simp;omega
     have c5:decide ((old.extract 0 at_++t.extract 0 n).size+(old.extract (at_+n) old.size).size≤140737488355328)=true:=by simp only[Af,Bd,Ar];omega
     have c6:(decide ((0:Int)≤(n:Int))&&decide ((n:Int)≤(t.size:Int))&&decide ((t.size:Int)≤(t.size:Int)))=true:=by simp;omega
     have hw:=q9v out (k:Int) (old.extract 0 at_++t.extract 0 n++old.extract (at_+n) 64) ho (by simp only[Af,Bd];omega)
     rw[hs] at c5
     simp only[hs,Ae,Ap,Aa,w1,im,w2,w3,z0,zTn,c3,c5,and_self,Bl]
     rw[hs] at c1 c4
     have c1' :(decide ((0:Int)≤0)&&decide ((0:Int)≤(at_:Int))&&decide ((at_:Int)≤((64:Nat):Int)))=true:=c1
     have c4' :(decide ((0:Int)≤((at_+n:Nat):Int))&&decide (((at_+n:Nat):Int)≤((64:Nat):Int))&&decide (((64:Nat):Int)≤((64:Nat):Int)))=true:=c4
     rw[c1',c2,c4',c6]
     simp only[Ad,hw,zOb,←hn]
     cases hx:u6j out (k:Int) (old.extract 0 at_++t.extract 0 n++old.extract (at_+n) 64) with
     | none=>simp[orD]
     | some x=>
      simp only[orD,Ap,Aa,zOb]
      have hsz:(t.extract n t.size).size=t.size - n:=by simp only[Bd];omega
      have:=j0b f d0 x jk (k+1) 0 (t.extract n t.size) (by omega) (by omega) (by omega) (by omega) h0 (A9 (u6n (t9o hx).1) (by omega))
      exact this
    ·simp[hs]
theorem j0c (d0 jk:u0l) (sec at_:Nat) (t:Hs) (hsec:sec≤2000000000) (hat:at_≤6400) (ht:t.size≤1048576) (h0:d1n.wt d0≤1073741824):∀(f i:Nat) (out:u0l),i≤t.size→t.size - i<f→d1n.wt out≤1073741824→
 u6c ((sec:Int),(at_:Int),t,d0,jk,out,(i:Int))=some (match p4u f out (sec+(at_+i) / 64) ((at_+i) % 64) (t.extract i t.size) with
  | some x=> .inl (jk,x)
  | none=> .inr (d0,false))
 | 0,i,out,_,h,_=>by omega
 | f+1,i,out,hi,hf,ho=>by
  have hsz:(t.extract i t.size).size=t.size - i:=by simp only[Bd];omega
  have w0:IntKind.i64.wrap ((at_:Int)+(i:Int))=((at_+i:Nat):Int):=by rw[y4y (by omega) (by omega)];omega
  have t1:Int.tdiv ((at_+i:Nat):Int) (64:Int)=(((at_+i) / 64:Nat):Int):=j32 (at_+i) 64
  have t2:Int.tmod ((at_+i:Nat):Int) (64:Int)=(((at_+i) % 64:Nat):Int):=o5k (at_+i) 64
  obtain⟨q,hq⟩:∃q,q=(at_+i) / 64:=⟨_,rfl⟩
  obtain⟨m,hm⟩:∃m,m=(at_+i) % 64:=⟨_,rfl⟩
  have w1:IntKind.i64.wrap ((q:Int))=(q:Int):=y4y (by omega) (by omega)
  have w2:IntKind.i64.wrap ((sec:Int)+(q:Int))=((sec+q:Nat):Int):=by rw[y4y (by omega) (by omega)];omega
  have w3:IntKind.i64.wrap ((64:Int) - (m:Int))=((64 - m:Nat):Int):=by rw[y4y (by omega) (by omega)];omega
  have w4:IntKind.i64.wrap ((t.size:Int) - (i:Int))=((t.size - i:Nat):Int):=by rw[y4y (by omega) (by omega)];omega
  rw[q39]
  simp only[t9g,w0,t1,t2,←hq,←hm,w1,w2,w3,w4,s5p out ((sec+q:Nat):Int) (by unfold u0j;omega),t5h d0 (by unfold u0j;omega),zOb,u0b]
  rw[p4u,hsz]
  by_cases hz:i<t.size
  ·have hz' : ¬t.size - i=0:=by omega
   simp only[hz,Ae,Ad,hz',Bk]
   generalize u0k out ((sec+q:Nat):Int)=r
   obtain⟨old,rok⟩:=r
   cases rok with
   | false=>simp
   | true=>
    have e64:decide ((old.size:Int)=(64:Int))=decide (old.size=64):=by simp only[Cu];omega
    simp only[Ap,Aa,zOb,e64]
    by_cases hs:old.size=64
    ·obtain⟨n,hn⟩:∃n,n=min (t.size - i) (64 - m):=⟨_,rfl⟩
     have z0:((0:Int)).toNat=0:=rfl
     have hm64:m<64:=by omega
     have body:∀N:Nat,N=n→IntKind.i64.wrap ((i:Int)+(N:Int))=((i+n:Nat):Int)∧IntKind.i64.wrap ((m:Int)+(N:Int))=((m+n:Nat):Int):=fun N hN=>by
      subst hN
      exact⟨by rw[y4y (by omega) (by omega)];omega,by rw[y4y (by omega) (by omega)];omega⟩
     have c1:(decide ((0:Int)≤0)&&decide ((0:Int)≤(m:Int))&&decide ((m:Int)≤((64:Nat):Int)))=true:=by simp;omega
     have c2:(decide ((0:Int)≤(i:Int))&&decide ((i:Int)≤((i+n:Nat):Int))&&decide (((i+n:Nat):Int)≤(t.size:Int)))=true:=by simp;omega
     have c3:decide ((old.extract 0 m).size+(t.extract i (i+n)).size≤140737488355328)=true:=by simp only[Bd,Ar];omega
     have c4:(decide ((0:Int)≤((m+n:Nat):Int))&&decide (((m+n:Nat):Int)≤((64:Nat):Int))&&decide (((64:Nat):Int)≤((64:Nat):Int)))=true:=by simp;omega
     have c5:decide ((old.extract 0 m++t.extract i (i+n)).size+(old.extract (m+n) 64).size≤140737488355328)=true:=by simp only[Af,Bd,Ar];omega
     have hx1:(t.extract i t.size).extract 0 n=t.extract i (i+n):=by
      rw[ByteArray.extract_extract];congr 1;omega
     have hx2:(t.extract i t.size).extract n (t.size - i)=t.extract (i+n) t.size:=by
      rw[ByteArray.extract_extract];congr 1;omega
     have hw:=q9w out ((sec+q:Nat):Int) (old.extract 0 m++t.extract i (i+n)++old.extract (m+n) 64) ho (by simp only[Af,Bd];omega)
     have ih:∀x:u0l,u18 x=true→u6c ((sec:Int),(at_:Int),t,d0,jk,x,((i+n:Nat):Int))=some (match p4u f x (sec+q+1) 0 (t.extract (i+n) t.size) with
      | some x=> .inl (jk,x)
      | none=> .inr (d0,false)):=fun x hx=>by
      have:=j0c d0 jk sec at_ t hsec hat ht h0 f (i+n) x (by omega) (by omega) (A9 (u6n hx) (by omega))
      rw[this]
      by_cases he:i+n=t.size
      ·have hsz2:(t.extract (i+n) t.size).size=0:=by simp only[Bd];omega
       rw[o0r _ _ _ _ hsz2,o0r _ _ _ _ hsz2]
      ·have hn2:n=64 - m:=by omega
       have e1:sec+(at_+(i+n)) / 64=sec+q+1:=by omega
       have e2:(at_+(i+n)) % 64=0:=by omega
       rw[e1,e2]
     rw[←hn,hx1,hx2]
     simp only[hs,Ae,Ap,Aa,and_self,Bl]
     by_cases hb:t.size - i<64 - m
     ·obtain⟨b1,b2⟩:=body (t.size - i) (by omega)
      simp only[hb,Ae,Ad,b1,b2,zTn,z0,c3,c5]
      rw[c1,c2,c4]
      simp only[Ad,hw,zOb]
      cases hx:u6j out ((sec+q:Nat):Int) (old.extract 0 m++t.extract i (i+n)++old.extract (m+n) 64) with
      | none=>simp[orD]
      | some x=>
       simp only[orD,Ap,Aa,zOb]
       exact ih x (t9o hx).1
     ·obtain⟨b1,b2⟩:=body (64 - m) (by omega)
      simp only[hb,Ah,Aa,b1,b2,zTn,z0,c3,c5]
      rw[c1,c2,c4]
      simp only[Ad,hw,zOb]
      cases hx:u6j out ((sec+q:Nat):Int) (old.extract 0 m++t.extract i (i+n)++old.extract (m+n) 64) with
      | none=>simp[orD]
      | some x=>
       simp only[orD,Ap,Aa,zOb]
       exact ih x (t9o hx).1
    ·simp[hs]
  ·have hz' :t.size - i=0:=by omega
   simp only[hz,Ah,Aa,hz',Bl]
def u6f (d:u0l) (sector at_:Int) (t:Hs):Ht u0l:=
 if r2k at_ 0 6400&&r2k sector 0 ((d.1.length:Int) - 1)&&u18 d then p4u (t.size+1) d (sector.toNat+at_.toNat / 64) (at_.toNat % 64) t else none
theorem s5t (d:u0l) (sector at_:Int) (t:Hs) (hd:d1n.wt d≤1073741824) (ht:t.size≤1048576):t0i (d,sector,at_,t)=some (orD d (u6f d sector at_ t)):=by
 have h1:d.1.length≤1073741824:=A9 t42 hd
 have w:IntKind.i64.wrap ((d.1.length:Int) - 1)=(d.1.length:Int) - 1:=y4y (by omega) (by omega)
 rw[q7q];unfold r0k u6f
 simp only[t5h d (by unfold u0j;omega),r2n d (by unfold u0j;omega),zOb,s2v,w]
 cases ha:r2k at_ 0 6400 with
 | false=>rfl
 | true=>
  cases hs:r2k sector 0 ((d.1.length:Int) - 1) with
  | false=>rfl
  | true=>
   cases hk:u18 d with
   | false=>rfl
   | true=>
    simp only[r2k,Ai,Ar] at ha hs
    obtain⟨s,rfl⟩:∃s:Nat,sector=(s:Int):=⟨sector.toNat,by omega⟩
    obtain⟨a,rfl⟩:∃a:Nat,at_=(a:Int):=⟨at_.toNat,by omega⟩
    have L:=j0c d ([], []) s a t (by omega) (by omega) ht hd (t.size+1) 0 d (by omega) (by omega) hd
    have L:u6c ((s:Int),(a:Int),t,d,([], []),d,0)=_:=L
    have e:t.extract 0 t.size=t:=Fu
    simp only[Ap,Aa,zOb,L,Dt,Bl,zTn,Df,e]
    cases p4u (t.size+1) d (s+a / 64) (a % 64) t<;>rfl
theorem j2c {f:Nat} {d:u0l} {k at_:Nat} {t:Hs} (hk:u18 d=false) (ht:t.size≠0):p4u (f+1) d k at_ t=none:=by
 rw[p4u,Ao ht]
 split
 ·have:∀s,u6j d (k:Int) s=none:=fun s=>by
   unfold u6j
   rw[r2v,hk]
   rfl
  rw[this]
  rfl
 ·rfl
theorem s5s (d:u0l) (sector at_:Int) (t:Hs) (hd:d1n.wt d≤1073741824) (ht:t.size≤1048576) (hne:t.size≠0):t0c (d,sector,at_,t)=some (orD d (u6f d sector at_ t)):=by
 have h1:d.1.length≤1073741824:=A9 t42 hd
 have w:IntKind.i64.wrap ((d.1.length:Int) - 1)=(d.1.length:Int) - 1:=y4y (by omega) (by omega)
 rw[q7h];unfold r0b u6f
 simp only[u9u d (by unfold u0j;omega),zOb,s1o,w]
 cases ha:r2k at_ 0 6400 with
 | false=>rfl
 | true=>
  cases hs:r2k sector 0 ((d.1.length:Int) - 1) with
  | false=>rfl
  | true=>
   simp only[r2k,Ai,Ar] at ha hs
   obtain⟨s,rfl⟩:∃s:Nat,sector=(s:Int):=⟨sector.toNat,by omega⟩
   obtain⟨a,rfl⟩:∃a:Nat,at_=(a:Int):=⟨at_.toNat,by omega⟩
   have t1:Int.tdiv (a:Int) (64:Int)=((a / 64:Nat):Int):=j32 a 64
   have t2:Int.tmod (a:Int) (64:Int)=((a % 64:Nat):Int):=o5k a 64
   have w1:IntKind.i64.wrap ((a / 64:Nat):Int)=((a / 64:Nat):Int):=y4y (by omega) (by omega)
   have w2:IntKind.i64.wrap ((s:Int)+((a / 64:Nat):Int))=((s+a / 64:Nat):Int):=by rw[y4y (by omega) (by omega)];omega
   have L:=j0b (t.size+1) d d ([], []) (s+a / 64) (a % 64) t (by omega) ht (by omega) (by omega) hd hd
   simp only[Ap,Aa,zOb,t1,t2,w1,w2,L,Bz,zTn]
   cases hk:u18 d with
   | false=>
    rw[j2c hk hne]
    rfl
   | true=>
    simp only[Bl]
    cases p4u (t.size+1) d (s+a / 64) (a % 64) t<;>rfl
end
section
def s4z (s:Hu Hs) (p:Int×Hs):Hu Hs:=s.set p.1.toNat p.2
def flush (d:u0l):u0l:=if u18 d then(d.2.foldl s4z d.1, []) else d
theorem r93 (s:Hu Hs) (p:Int×Hs):(s4z s p).length=s.length:=by simp[s4z]
theorem q3q:∀(c:Hu (Int×Hs)) (s:Hu Hs),(c.foldl s4z s).length=s.length
 | [],s=>rfl
 | p::c,s=>by rw[Bs,q3q c,r93]
theorem p7q:∀(c:Hu (Int×Hs)) (s:Hu Hs),(∀p∈c,p.2.size=64)→(∀x∈s,x.size=64)→ ∀x∈c.foldl s4z s,x.size=64
 | [],s,_,h=>h
 | p::c,s,hc,h=>by
  rw[Bs]
  refine p7q c _ (fun q hq=>hc q (Bm _ hq)) (fun x hx=> ?_)
  rcases E0 hx with hx | rfl
  ·exact h x hx
  ·exact hc p (C9 ..)
theorem s0u {d:u0l} (h:u18 d=true):u18 (flush d)=true∧(flush d).2= [] ∧(flush d).1.length=d.1.length:=by
 unfold flush
 rw[Al h]
 obtain⟨h1,h2,h3,h4⟩:=p7m.mp h
 refine⟨p7m.mpr ⟨by rw[q3q];exact h1,by simp,p7q _ _ (fun p hp=>(h4 p hp).2) h3,fun p hp=>by cases hp⟩,rfl,q3q _ _⟩
theorem s2b (d:u0l) (hd:d1n.wt d≤1073741824):u8u d=some (flush d):=by
 have h1:d.1.length≤1073741824:=A9 t42 hd
 have h2:d.2.length≤1073741824:=A9 t7g hd
 rw[p0t];unfold r39 flush
 simp only[t5h d (by unfold u0j;omega),r2n d (by unfold u0j;omega),zOb]
 cases hk:u18 d with
 | false=>rfl
 | true=>
  obtain⟨k1,k2,k3,k4⟩:=p7m.mp hk
  have L:=t00 t35 d.2 (fun s i=>(d,([], []),(s,d.2),i)) s4z (fun s=> .inl (([], []),(s,d.2))) (fun _ s=>s.length=d.1.length)
   (fun s _=>by rw[s83];simp only[t3v,u0b,Am,Ah,Aa])
   (fun i hi s hs=>by
    refine⟨by rw[r93];exact hs,?_⟩
    have hp:=(k4 d.2[i] (Ag hi)).1
    have hg:y4q (d.2[i]).1 s.length=true:=by simp[y4q,hs,hp.1,hp.2]
    rw[s83];simp only[t3v,u0b,hi,Ae,Ad,y7t hi,zTn,y8k (t:=o69) hi,hg]
    rw[y7l (by omega)]
    rfl) d.1 rfl
  simp only[Ap,Aa,L,zOb,Bl]
theorem s2a (d:u0l) (hd:d1n.wt d≤1073741824):u8n d=some (flush d):=by
 have h1:d.1.length≤1073741824:=A9 t42 hd
 have h2:d.2.length≤1073741824:=A9 t7g hd
 rw[q94];unfold r3n flush
 simp only[u9u d (by unfold u0j;omega),q3k d (by unfold u0j;omega),zOb]
 cases hk:u18 d with
 | false=>rfl
 | true=>
  obtain⟨k1,k2,k3,k4⟩:=p7m.mp hk
  have L:=t00 t30 d.2 (fun s i=>(([], []),(s,d.2),d.2,(d.2.length:Int),i)) s4z (fun s=> .inl (([], []),(s,d.2))) (fun _ s=>s.length=d.1.length)
   (fun s _=>by rw[s8u];simp only[t3m,u0b,Am,Ah,Aa])
   (fun i hi s hs=>by
    refine⟨by rw[r93];exact hs,?_⟩
    have hp:=(k4 d.2[i] (Ag hi)).1
    have hg:y4q (d.2[i]).1 s.length=true:=by simp[y4q,hs,hp.1,hp.2]
    rw[s8u];simp only[t3m,u0b,hi,Ae,Ad,y7t hi,zTn,y8k (t:=o69) hi,hg]
    rw[y7l (by omega)]
    rfl) d.1 rfl
  simp only[Ad,L,zOb,Bl]
def o41 (keep:Hu Int) (i:Nat):Bool:=decide (i<keep.length)&& !decide (Int.tmod (rdL (Ty.int .i64) keep i) 2=0)
def q6b (keep:Hu Int):Nat→Int
 | 0=> -1
 | n+1=>if o41 keep n then(n:Int) else q6b keep n
def s60 (tear:Int):Nat:=(if Int.tmod tear 65<0 then Int.tmod tear 65+65 else Int.tmod tear 65).toNat
def q5s (d:u0l) (keep:Hu Int) (last:Int) (n:Nat) (s:Hu Hs) (i:Nat):Hu Hs:=
 if o41 keep i then
  (if(i:Int)=last then s4z s ((rdL o69 d.2 i).1,(rdL o69 d.2 i).2.extract 0 n++(rdL Ty.str s (rdL o69 d.2 i).1.toNat).extract n (rdL Ty.str s (rdL o69 d.2 i).1.toNat).size)
   else s4z s (rdL o69 d.2 i))
 else s
def s7h (d:u0l) (keep:Hu Int) (tear:Int):u0l:=
 if u18 d then((List.range d.2.length).foldl (q5s d keep (q6b keep d.2.length) (s60 tear)) d.1, []) else d
theorem j1y (tear:Int):s60 tear≤64∧((s60 tear:Nat):Int)=(if Int.tmod tear 65<0 then Int.tmod tear 65+65 else Int.tmod tear 65):=by
 have h1:Int.tmod tear 65<65:=Int.tmod_lt_of_pos _ (by omega)
 have h2: -65<Int.tmod tear 65:=by
  have:=Int.lt_tmod_of_pos tear (show(0:Int)<65 by omega)
  exact this
 unfold s60
 split<;>omega
section
variable {d:u0l} (hk:u18 d=true) (keep:Hu Int)
include hk in
include hk in
include hk
end
end
section
theorem p17 (t:Hs):∀(m:Nat) (at_:Int) (acc:Hu Hs),0≤at_∧at_≤t.size→0≤(u7u t m at_ acc).2.1∧(u7u t m at_ acc).2.1≤t.size
 | 0,at_,acc,h=>h
 | m+1,at_,acc,h=>by
  unfold u7u
  split
  ·rename_i hc
   simp only[Ai] at hc
   exact p17 t m _ _ (r88 hc.1)
  ·simp
theorem r3d (d:u0l) (a:Int):0≤(u0c d a).2.1∧(u0c d a).2.1≤(100*d1n.wt d:Nat):=by
 unfold u0c
 split
 ·have h1:=p17 (u9i d (u0e a+1) 47).1 (u0w d a).toNat 0 [] (by simp)
  have h2:=r9d d (u0e a+1) 47
  omega
 ·simp only[Bv,true_and]
  omega
def u0q (t:Hs):Hs:=y7g (s40 t.size)++t
theorem s3u (t:Hs):t.size≤(u0q t).size∧(u0q t).size≤2*t.size+1:=by
 unfold u0q
 rw[Af,u6a]
 have:=o6p t.size
 omega
theorem o5h (t:Hs) (h:t.size≠0):(u0q t).size≠0:=by
 have:=s3u t
 omega
def t40 (d:u0l) (a:Int) (t:Hs):Ht u0l:=
 if(u0c d a).2.2=false∨t.size=0∨3008<t.size∨255≤u0w d a∨3008<(u0c d a).2.1+((u0q t).size:Int) then none
 else u6f d (u0e a+1) (u0c d a).2.1 (u0q t)
theorem o42 (d:u0l) (a:Int) (t:Hs) (hd:d1n.wt d≤10000000) (ht:t.size≤1048576):s6x (d,a,t)=some (orD d (t40 d a t)):=by
 have hr:=r3d d a
 have hs:=s3u t
 have ha:=t9v a
 rw[p3k];unfold r72 t40
 simp only[r2q d a (by omega),t5h d (by unfold u0j;omega),s7n d a (by unfold u0j;omega),p3y t.size (by omega),s19,zOb,s8q]
 have e1:decide ((t.size:Int) >(3008:Int))=decide (3008<t.size):=by simp only[Cu];omega
 have w1:IntKind.i64.wrap ((3008:Int) - (u0c d a).2.1)=3008 - (u0c d a).2.1:=y4y (by omega) (by omega)
 have w2:IntKind.i64.wrap (u0e a+1)=u0e a+1:=y4y (by omega) (by omega)
 rw[e1]
 cases h1:(u0c d a).2.2 with
 | false=>simp[orD]
 | true=>
  by_cases h2:t.size=0
  ·simp[h2,orD]
  ·by_cases h3:3008<t.size
   ·simp[h2,h3,orD]
   ·by_cases h4:255≤u0w d a
    ·have:decide (u0w d a≥255)=true:=by simpa using h4
     simp[h2,h3,h4,orD]
    ·have e4:decide (u0w d a≥255)=false:=by simp;omega
     have c:decide ((y7g (s40 t.size)).size+t.size≤140737488355328)=true:=by
      have h5:(u0q t).size=(y7g (s40 t.size)).size+t.size:=by unfold u0q;rw[Af]
      simp;omega
     simp only[h2,h3,Ah,Ap,Aa,zOb,e4,c,Ad,w1,w2]
     have hsz:y7g (s40 t.size)++t=u0q t:=rfl
     rw[hsz]
     by_cases h6:3008<(u0c d a).2.1+((u0q t).size:Int)
     ·have:decide (((u0q t).size:Int) >3008 - (u0c d a).2.1)=true:=by simp;omega
      simp[this,h6,orD]
     ·have:decide (((u0q t).size:Int) >3008 - (u0c d a).2.1)=false:=by simp;omega
      simp only[this,Aa,s5t d (u0e a+1) (u0c d a).2.1 (u0q t) (by omega) (by omega),zOb]
      rw[Ao (by simp[h2,h3,h6];omega)]
theorem q8e (t:Hs) (ht:t.size≤1048576):t22 t=some (if 20000<t.size then(emp,false) else(u0q t,true)):=by
 rw[p0b];unfold r3t
 have e1:decide ((t.size:Int) >(20000:Int))=decide (20000<t.size):=by simp only[Cu];omega
 rw[e1]
 by_cases h:20000<t.size
 ·simp only[h,Ae,Ad,Bl];rfl
 ·have c:decide ((y7g (s40 t.size)).size+t.size≤140737488355328)=true:=by
   rw[u6a]
   have:=o6p t.size
   simp;omega
  have hv:(0:Int)≤(t.size:Int)∧(t.size:Int)≤1000000000:=by omega
  simp only[h,Ah,Aa,r6v,Al hv,zOb,zTn,c,Ad,Bk]
  rfl
theorem o7t (d:u0l) (a:Int) (t:Hs) (hd:d1n.wt d≤10000000) (ht:t.size≤1048576):s9l (d,a,t)=some (orD d (if u2t d then t40 d a t else none)):=by
 have hr:=r3d d a
 have hs:=s3u t
 have ha:=t9v a
 have hcl:=r0n d a
 rw[p5r];unfold q1b t40
 simp only[r2p d a (by omega),u9u d (by unfold u0j;omega),s7m d a (by unfold u0j;omega),r9v d (by omega),q8e t ht,s18,zOb,s8q]
 cases hl:u2t d with
 | false=>simp[orD]
 | true=>
  cases h1:(u0c d a).2.2 with
  | false=>simp[orD]
  | true=>
   by_cases h0:20000<t.size
   ·have:3008<t.size:=by omega
    simp[h0,this,orD]
   ·by_cases h2:t.size=0
    ·simp[h0,h2,orD]
    ·have w1:IntKind.i64.wrap ((u0c d a).2.1+((u0q t).size:Int))=(u0c d a).2.1+((u0q t).size:Int):=y4y (by omega) (by omega)
     have w2:IntKind.i64.wrap (u0e a+1)=u0e a+1:=y4y (by omega) (by omega)
     simp only[h0,h2,Bk,Ah,Ap,Aa,zOb,w1,w2,Bl]
     by_cases h6:3008<(u0c d a).2.1+((u0q t).size:Int)
     ·have:decide ((u0c d a).2.1+((u0q t).size:Int) >3008)=true:=by simpa using h6
      simp[this,h6,orD]
     ·have e6:decide ((u0c d a).2.1+((u0q t).size:Int) >3008)=false:=by simp;omega
      have h3: ¬3008<t.size:=by omega
      by_cases h4:255≤u0w d a
      ·have:decide (u0w d a=255)=true:=by simp;omega
       simp[e6,this,h4,orD]
      ·have e4:decide (u0w d a=255)=false:=by simp;omega
       simp only[e6,Aa,e4,zOb,s5s d (u0e a+1) (u0c d a).2.1 (u0q t) (by omega) (by omega) (o5h t h2)]
       rw[Ao (by simp[h2,h3,h6];omega)]
def t6y (n:Int):Hs:=y7g [IntKind.u8.wrap n]
theorem u2r (n:Int):(t6y n).size=1:=by unfold t6y;rw[u6a];rfl
def r4i (d:u0l) (a n:Int):Ht u0l:=u6f d (u0e a) 0 (t6y n)
theorem p3z (d:u0l) (a n:Int) (hd:d1n.wt d≤1073741824):s1h (d,a,n)=some (orD d (r4i d a n)):=by
 rw[p3l];unfold r73
 have h1:s1i n=some (t6y n):=by rw[q54];rfl
 simp only[s19,h1,zOb,s5t d (u0e a) 0 (t6y n) hd (by rw[u2r];omega)]
 rfl
theorem p38 (d:u0l) (a n:Int) (hd:d1n.wt d≤1073741824):s09 (d,a,n)=some (orD d (r4i d a n)).1:=by
 rw[p21];unfold r7i
 have h1:y7g [IntKind.u8.wrap n] =t6y n:=rfl
 simp only[s18,h1,zOb,s5s d (u0e a) 0 (t6y n) hd (by rw[u2r];omega) (by rw[u2r];omega)]
 rfl
theorem j0a:∀ {f:Nat} {d x:u0l} {k at_:Nat} {t:Hs},p4u f d k at_ t=some x→(u18 d=true→u18 x=true)∧x.1=d.1∧(t.size≠0→0<f→u18 x=true)
 | 0,d,x,k,at_,t,h=>by cases h;exact⟨id,rfl,fun _ h=>by omega⟩
 | f+1,d,x,k,at_,t,h=>by
  rw[p4u] at h
  split at h
  ·rename_i hz
   cases h;exact⟨id,rfl,fun hne=>absurd hz hne⟩
  ·split at h
   ·cases hw:u6j d (k:Int) ((u0k d (k:Int)).1.extract 0 at_++t.extract 0 (min t.size (64 - at_))++(u0k d (k:Int)).1.extract (at_+min t.size (64 - at_)) 64) with
    | none=>rw[hw] at h;cases h
    | some y=>
     rw[hw] at h
     simp only[zOb] at h
     obtain⟨k1,k2⟩:=t9o hw
     obtain⟨i1,i2,_⟩:=j0a h
     exact⟨fun _=>i1 k1,by rw[i2,k2],fun _ _=>i1 k1⟩
   ·cases h
theorem u9a {d x:u0l} {s at_:Int} {t:Hs} (h:u6f d s at_ t=some x):u18 d=true∧u18 x=true∧x.1=d.1:=by
 unfold u6f at h
 split at h
 ·rename_i hc
  simp only[Ai] at hc
  obtain⟨i1,i2,_⟩:=j0a h
  exact⟨hc.2,i1 hc.2,i2⟩
 ·cases h
theorem s2t {d x:u0l} {a:Int} {t:Hs} (h:t40 d a t=some x):u18 d=true∧u18 x=true∧x.1=d.1∧(u0c d a).2.2=true:=by
 unfold t40 at h
 split at h
 ·cases h
 ·rename_i hc
  have:=u9a h
  simp only[Hr] at hc
  exact⟨this.1,this.2.1,this.2.2,by simpa using hc.1⟩
theorem q3w {d:u0l} (hk:u18 d=true) (h2:d.2= []) {s:Int} (h0:0≤s) (h1:s<(d.1.length:Int)) {b:Hs} (hb:b.size=1):
 u6f d s 0 b=some (d.1, [(s,b++(rdL Ty.str d.1 s.toNat).extract 1 64)]):=by
 obtain⟨k1,k2,k3,k4⟩:=p7m.mp hk
 have hlt:s.toNat<d.1.length:=by omega
 have hold:(rdL Ty.str d.1 s.toNat).size=64:=by
  have e:rdL Ty.str d.1 s.toNat=d.1[s.toNat] :=y8k (t:=Ty.str) hlt
  rw[e]
  exact k3 _ (Ag hlt)
 have hs:((s.toNat:Nat):Int)=s:=by omega
 have hrd:u0k d s=(rdL Ty.str d.1 s.toNat,true):=by
  unfold u0k
  rw[Al ⟨h0,h1⟩,h2]
  rfl
 have c:(r2k 0 0 6400&&r2k s 0 ((d.1.length:Int) - 1)&&u18 d)=true:=by
  rw[hk]
  simp[r2k]
  omega
 have e1:(rdL Ty.str d.1 s.toNat).extract 0 0=ByteArray.empty:=by
  apply Gf
  simp
 have e2:b.extract 0 1=b:=by rw[←hb];exact Fu
 have hw:u6j d s (b++(rdL Ty.str d.1 s.toNat).extract 1 64)=some (d.1, [(s,b++(rdL Ty.str d.1 s.toNat).extract 1 64)]):=by
  unfold u6j
  rw[r2v,hk,h2]
  have:r2k s 0 ((d.1.length:Int) - 1)=true:=by simp[r2k];omega
  rw[this]
  have hz:(b++(rdL Ty.str d.1 s.toNat).extract 1 64).size=64:=by
   rw[Af,Bd,hb,hold];omega
  simp[hz]
 unfold u6f
 rw[Al c]
 have z:(0:Int).toNat=0:=rfl
 simp only[z,Nat.zero_div,Nat.zero_mod,Df,hb]
 rw[p4u,Ao (by omega)]
 rw[hs,hrd]
 simp only[hold,and_self,Bl,hb]
 have m1:min 1 (64 - 0)=1:=by decide
 rw[m1,e1,e2]
 have e3:ByteArray.empty++b++(rdL Ty.str d.1 s.toNat).extract (0+1) 64=b++(rdL Ty.str d.1 s.toNat).extract 1 64:=by
  rw[ByteArray.empty_append]
 rw[e3,hw]
 simp only[zOb]
 exact o0r _ _ _ _ (by rw[Bd,hb];decide)
end
section
def s7z (d:u0l) (a:Int):Int:=IntKind.i64.wrap (u0w d a+1)
def q70 (d:u0l) (a:Int) (t:Hs):Ht u0l:=(t40 d a t).map fun x=>flush (orD (flush x) (r4i (flush x) a (s7z d a))).1
theorem o7b {d x:u0l} {a:Int} {t:Hs} (h:t40 d a t=some x):p99 a=true:=by
 have:=(s2t h).2.2.2
 unfold u0c at this
 split at this
 ·rename_i hc
  simp only[Ai] at hc
  exact hc.1
 ·cases this
theorem p1e {d x:u0l} {a n:Int} {t:Hs} (hlen:d.1.length=97) (h:t40 d a t=some x):∃y,r4i (flush x) a n=some y∧u18 y=true∧y.1.length=97:=by
 obtain⟨h1,h2,h3,_⟩:=s2t h
 obtain⟨f1,f2,f3⟩:=s0u h2
 have hl:(flush x).1.length=97:=by rw[f3,h3];exact hlen
 have ha:=t9v a
 have ho:=q3w (s:=u0e a) f1 f2 (by omega) (by rw[hl];omega) (u2r n)
 have:=u9a ho
 exact⟨_,ho,this.2.1,by rw[this.2.2];exact hl⟩
theorem u7k {d:u0l} (h:u2t d=true):u18 d=true∧d.1.length=97∧d.2= [] ∧(u0c d 0).2.2=true∧(u0c d 1).2.2=true:=by
 unfold u2t at h
 simp only[Ai,Ar] at h
 obtain⟨⟨⟨⟨a,b⟩,c⟩,e⟩,f⟩:=h
 exact⟨a,b,Dk.mp c,e,f⟩
theorem o2x (d:u0l) (a:Int) (t:Hs) (hd:d1n.wt d≤10000000) (ht:t.size≤1048576) (hlen:d.1.length=97):s5g (d,a,t)=some (orD d (q70 d a t)):=by
 rw[p92];unfold q5h q70
 simp only[o42 d a t hd ht,zOb]
 cases hb:t40 d a t with
 | none=>rfl
 | some x=>
  have hx:=u6n (s2t hb).2.1
  have hf:=u6n (s0u (s2t hb).2.1).1
  obtain⟨y,hy,hy2,_⟩:=p1e (n:=s7z d a) hlen hb
  have hyw:=u6n hy2
  simp only[orD,Ap,Aa,s2b x (by omega),s7n d a (by unfold u0j;omega),zOb,p3z (flush x) a _ (by omega)]
  have hc:IntKind.i64.wrap (u0w d a+1)=s7z d a:=rfl
  rw[hc,hy]
  simp only[orD,s2b y (by omega),zOb,Dc,hy]
theorem p40 (d:u0l) (a:Int) (t:Hs) (hd:d1n.wt d≤10000000) (ht:t.size≤1048576):s4e (d,a,t)=some (orD d (if u2t d then q70 d a t else none)):=by
 rw[p0v];unfold r4b
 simp only[p7c d (by omega),r9z,t5h d (by unfold u0j;omega),zOb]
 cases hl:u2t d with
 | false=>simp[orD]
 | true=>
  cases ha:p99 a with
  | false=>
   have hn:q70 d a t=none:=by
    unfold q70
    cases hb:t40 d a t with
    | none=>rfl
    | some x=>rw[o7b hb] at ha;cases ha
   simp[hn,orD]
  | true=>
   simp only[Ap,Aa,zOb,o2x d a t hd ht (u7k hl).2.1,Bl]
   cases q70 d a t<;>simp[orD]
theorem q0m (d:u0l) (a:Int) (t:Hs) (hd:d1n.wt d≤10000000) (ht:t.size≤1048576):t86 (d,a,t)=some (orD d (if u2t d then q70 d a t else none)):=by
 rw[q97];unfold r3p
 simp only[o7t d a t hd ht,u9u d (by unfold u0j;omega),zOb]
 cases hl:u2t d with
 | false=>simp[orD]
 | true=>
  simp only[Bl]
  unfold q70
  cases hb:t40 d a t with
  | none=>simp[orD]
  | some x=>
   have hx:=u6n (s2t hb).2.1
   have hf:=u6n (s0u (s2t hb).2.1).1
   obtain⟨y,hy,hy2,_⟩:=p1e (n:=s7z d a) (u7k hl).2.1 hb
   have hyw:=u6n hy2
   simp only[orD,Ap,Aa,s2a x (by omega),s7m d a (by unfold u0j;omega),zOb,p38 (flush x) a _ (by omega)]
   have hc:IntKind.i64.wrap (u0w d a+1)=s7z d a:=rfl
   rw[hc,hy]
   simp only[orD,s2a y (by omega),zOb,Dc,hy]
def append_ (d:u0l) (t:Hs):Ht u0l:=if u2t d then q70 d (u01 d) t else none
theorem q0k (d:u0l) (t:Hs) (hd:d1n.wt d≤10000000) (ht:t.size≤1048576):t9b (d,t)=some (orD d (append_ d t)):=by
 rw[p0p];unfold r35 append_
 simp only[r2m d (by unfold u0j;omega),zOb,p40 d _ t hd ht]
theorem q0j (d:u0l) (t:Hs) (hd:d1n.wt d≤10000000) (ht:t.size≤1048576):t84 (d,t)=some (orD d (append_ d t)):=by
 rw[q91];unfold r3k append_
 simp only[r2l d (by unfold u0j;omega),zOb,q0m d _ t hd ht]
theorem o9s {d y:u0l} {a:Int} {t:Hs} (hlen:d.1.length=97) (h:q70 d a t=some y):∃x,t40 d a t=some x∧u18 x=true∧u18 y=true∧y.2= [] ∧y.1.length=97∧y=flush (orD (flush x) (r4i (flush x) a (s7z d a))).1:=by
 unfold q70 at h
 cases hb:t40 d a t with
 | none=>rw[hb] at h;cases h
 | some x=>
  rw[hb] at h
  simp only[Dc,Ac] at h
  obtain⟨z,hz,hz2,hz3⟩:=p1e (n:=s7z d a) hlen hb
  rw[hz] at h
  simp only[orD] at h
  obtain⟨f1,f2,f3⟩:=s0u hz2
  rw[←h]
  exact⟨x,rfl,(s2t hb).2.1,f1,f2,by rw[f3];exact hz3,by rw[hz];rfl⟩
section
variable {d:u0l} {t:Hs} (hd:d1n.wt d≤10000000) (ht:t.size≤1048576)
include hd ht
end
end
section
theorem q3d {d x:u0l} {k:Int} {s:Hs} (h:u6j d k s=some x) {j:Int} (hj:j≠k):u0k x j=u0k d j:=by
 have:=(t9o h).2
 subst this
 have hne: ¬k=j:=fun z=>hj z.symm
 unfold u0k
 simp only[r8w,hne,Bk]
theorem r95:∀ {f:Nat} {d x:u0l} {k at_:Nat} {t:Hs},p4u f d k at_ t=some x→at_<64→ ∀j:Nat,¬(k≤j∧j*64<k*64+at_+t.size)→u0k x (j:Int)=u0k d (j:Int)
 | 0,d,x,k,at_,t,h,_,j,_=>by cases h;rfl
 | f+1,d,x,k,at_,t,h,hat,j,hj=>by
  rw[p4u] at h
  split at h
  ·cases h;rfl
  ·rename_i hz
   split at h
   ·cases hw:u6j d (k:Int) ((u0k d (k:Int)).1.extract 0 at_++t.extract 0 (min t.size (64 - at_))++(u0k d (k:Int)).1.extract (at_+min t.size (64 - at_)) 64) with
    | none=>rw[hw] at h;cases h
    | some y=>
     rw[hw] at h
     simp only[zOb] at h
     have hne:j≠k:=fun z=>hj ⟨by omega,by omega⟩
     rw[←q3d hw (j:=(j:Int)) (by omega)]
     refine r95 h (by omega) j (fun z=>hj ?_)
     rw[Bd] at z
     omega
   ·cases h
theorem o9z {s:Hu Hs} {p:Int×Hs} {j:Int} (hp:0≤p.1) (hj0:0≤j) (hj:j.toNat<s.length):rdL Ty.str (s4z s p) j.toNat=if p.1=j then p.2 else rdL Ty.str s j.toNat:=by
 have h' :j.toNat<(s.set p.1.toNat p.2).length:=by rw[Dq];exact hj
 have e1:rdL Ty.str (s.set p.1.toNat p.2) j.toNat=(s.set p.1.toNat p.2)[j.toNat] :=y8k (t:=Ty.str) h'
 have e2:rdL Ty.str s j.toNat=s[j.toNat] :=y8k (t:=Ty.str) hj
 show rdL Ty.str (s.set p.1.toNat p.2) j.toNat=_
 rw[e1,e2,List.getElem_set]
 by_cases e:p.1=j
 ·rw[Al (by rw[e]),Al e]
 ·rw[Ao (by omega),Ao e]
theorem p7r {j:Int} (hj0:0≤j) (z:Hs):∀(c:Hu (Int×Hs)) (s:Hu Hs) (t:Ht Hs),(∀p∈c,0≤p.1)→j.toNat<s.length→rdL Ty.str s j.toNat=t.getD z→
 rdL Ty.str (c.foldl s4z s) j.toNat=(c.foldl (fun t p=>if p.1=j then some p.2 else t) t).getD z
 | [],s,t,_,_,h=>h
 | p::c,s,t,hc,hl,h=>by
  rw[Bs,Bs]
  refine p7r hj0 z c _ _ (fun q hq=>hc q (Bm _ hq)) (by rw[r93];exact hl) ?_
  rw[o9z (hc p (C9 ..)) hj0 hl]
  split
  ·rfl
  ·exact h
theorem t44 {d:u0l} (hk:u18 d=true) (j:Int):u0k (flush d) j=u0k d j:=by
 obtain⟨_,f2,f3⟩:=s0u hk
 obtain⟨k1,k2,k3,k4⟩:=p7m.mp hk
 unfold u0k
 rw[f3]
 split
 ·rename_i hj
  have e1:t3i (flush d).2 j=none:=by rw[f2];rfl
  rw[e1]
  have e2:(flush d).1=d.2.foldl s4z d.1:=by unfold flush;rw[Al hk]
  rw[e2]
  have:=p7r hj.1 (rdL Ty.str d.1 j.toNat) d.2 d.1 none (fun p hp=>(k4 p hp).1.1) (by omega) rfl
  show(rdL Ty.str (d.2.foldl s4z d.1) j.toNat,true)=_
  rw[this]
  rfl
 ·rfl
theorem p4j {d d' :u0l} {from_:Int} :∀(m i:Nat) (acc:Hs),(∀q:Nat,i≤q→q<i+m→u0k d' (from_+(q:Int))=u0k d (from_+(q:Int)))→q0h d' from_ m i acc=q0h d from_ m i acc
 | 0,i,acc,h=>rfl
 | m+1,i,acc,h=>by
  unfold q0h
  rw[h i (by omega) (by omega)]
  split
  ·exact p4j m (i+1) _ (fun q h1 h2=>h q (by omega) (by omega))
  ·rfl
theorem t3b {d d' :u0l} {o:Int} (h:∀q:Nat,q<48→u0k d' (u0e o+(q:Int))=u0k d (u0e o+(q:Int))):u0c d' o=u0c d o:=by
 have h1:u9i d' (u0e o+1) 47=u9i d (u0e o+1) 47:=by
  unfold u9i
  rw[Al (by omega),Al (by omega)]
  refine p4j _ _ _ (fun q _ hq=> ?_)
  have:=h (q+1) (by simp at hq;omega)
  rw[show u0e o+1+(q:Int)=u0e o+((q+1:Nat):Int) by omega]
  exact this
 have h2:u0w d' o=u0w d o:=by
  unfold u0w u39
  have:=h 0 (by omega)
  rw[show u0e o+((0:Nat):Int)=u0e o by omega] at this
  rw[this]
 unfold u0c
 rw[h1,h2]
def OnlyArea (a:Int) (d d' :u0l):Prop:= ∀j:Nat,¬(u0e a≤(j:Int)∧(j:Int)<u0e a+48)→u0k d' (j:Int)=u0k d (j:Int)
theorem OnlyArea.other {a o:Int} {d d' :u0l} (h:OnlyArea a d d') (ha:a=0∨a=1) (ho:o=1 - a):u0c d' o=u0c d o:=by
 refine t3b (fun q hq=> ?_)
 have hf:u0e o=1+o*48:=by unfold u0e;rw[Al (j05.mpr (by omega))]
 have hfa:u0e a=1+a*48:=by unfold u0e;rw[Al (j05.mpr ha)]
 obtain⟨j,hj⟩:∃j:Nat,u0e o+(q:Int)=(j:Int):=⟨(u0e o+(q:Int)).toNat,by rcases ha with rfl | rfl<;>omega⟩
 rw[hj]
 exact h j (by rcases ha with rfl | rfl<;>omega)
theorem OnlyArea.trans {a:Int} {d d' e:u0l} (h1:OnlyArea a d d') (h2:OnlyArea a d' e):OnlyArea a d e:=fun j hj=>(h2 j hj).trans (h1 j hj)
theorem OnlyArea.flush {a:Int} {d d' :u0l} (h:OnlyArea a d d') (hk:u18 d' =true):OnlyArea a d (flush d'):=fun j hj=>(t44 hk _).trans (h j hj)
theorem r6l {d x:u0l} {s at_:Int} {t:Hs} (h:u6f d s at_ t=some x) {j:Nat} (hj: ¬(s≤(j:Int)∧(j:Int)*64<s*64+at_+(t.size:Int))):u0k x (j:Int)=u0k d (j:Int):=by
 unfold u6f at h
 split at h
 ·rename_i hc
  simp only[Ai,r2k,Ar] at hc
  refine r95 h (Ev _ (by omega)) j (fun z=>hj ?_)
  omega
 ·cases h
theorem o7c {d x:u0l} {a:Int} {t:Hs} (h:t40 d a t=some x):OnlyArea a d x:=by
 have h0:=h
 unfold t40 at h
 split at h
 ·cases h
 ·rename_i hc
  simp only[Hr] at hc
  intro j hj
  refine r6l h (fun z=>hj ?_)
  omega
theorem p7k {d x:u0l} {a n:Int} (h:r4i d a n=some x):OnlyArea a d x:=by
 intro j hj
 refine r6l h (fun z=>hj ?_)
 rw[u2r] at z
 omega
theorem j1l {d y:u0l} {a:Int} {t:Hs} (hlen:d.1.length=97) (h:q70 d a t=some y):OnlyArea a d y:=by
 unfold q70 at h
 cases hb:t40 d a t with
 | none=>rw[hb] at h;cases h
 | some x=>
  rw[hb] at h
  simp only[Dc,Ac] at h
  obtain⟨z,hz,hz2,hz3⟩:=p1e (n:=s7z d a) hlen hb
  rw[hz] at h
  subst h
  exact(((o7c hb).flush (s2t hb).2.1).trans (p7k hz)).flush hz2
structure Mid (o:Int) (x:u0l):Prop where
 ok:u18 x=true
 len:x.1.length=97
 nil:x.2= []
 other:(u0c x o).2.2=true
theorem Mid.isLog {a o:Int} {x:u0l} (h:Mid o x) (ha:a=0∨a=1) (ho:o=1 - a):u2t x=(u0c x a).2.2:=by
 unfold u2t
 have hl:decide (x.2.length=0)=true:=by rw[h.nil];rfl
 rw[h.ok,hl]
 have hlen:decide (x.1.length=97)=true:=by rw[h.len];rfl
 rw[hlen]
 have hot:=h.other
 rcases ha with rfl | rfl
 ·have:o=1:=by omega
  subst this
  rw[hot];simp
 ·have:o=0:=by omega
  subst this
  rw[hot];simp
theorem Mid.put {a o:Int} {x y:u0l} {t:Hs} (h:Mid o x) (ha:a=0∨a=1) (ho:o=1 - a) (hp:q70 x a t=some y):Mid o y:=by
 obtain⟨_,_,_,p1,p2,p3,_⟩:=o9s h.len hp
 exact⟨p1,p3,p2,by rw[(j1l h.len hp).other ha ho];exact h.other⟩
theorem Mid.record {a o:Int} {x:u0l} {t:Hs} (h:Mid o x) (ha:a=0∨a=1) (ho:o=1 - a):(if u2t x then q70 x a t else none)=q70 x a t:=by
 rw[h.isLog ha ho]
 cases hr:(u0c x a).2.2 with
 | true=>simp
 | false=>
  have:q70 x a t=none:=by
   unfold q70
   cases hb:t40 x a t with
   | none=>rfl
   | some z=>rw[(s2t hb).2.2.2] at hr;cases hr
  simp[this]
def s70 (a:Int):Hu Hs→u0l→Ht u0l
 | [],x=>some x
 | t::l,x=>(q70 x a t).bind (s70 a l)
theorem p7o {a o:Int} (ha:a=0∨a=1) (ho:o=1 - a):∀ {l:Hu Hs} {x y:u0l},Mid o x→s70 a l x=some y→Mid o y
 | [],x,y,h,hy=>by cases hy;exact h
 | t::l,x,y,h,hy=>by
  unfold s70 at hy
  cases hp:q70 x a t with
  | none=>rw[hp] at hy;cases hy
  | some z=>
   rw[hp] at hy
   exact p7o ha ho (h.put ha ho hp) hy
theorem o2q {a o:Int} (ha:a=0∨a=1) (ho:o=1 - a) (d jk:u0l) (hd:d1n.wt d≤10000000) (list:Hu Hs) (hl:list.length≤1048576) (hs:∀t∈list,t.size≤1048576):∀(r i:Nat) (x:u0l),i+r=list.length→Mid o x→
 u82 (d,jk,a,x,list,(list.length:Int),(i:Int))=some (match s70 a (list.drop i) x with
  | some y=> .inl (jk,y)
  | none=> .inr (d,false))
 | 0,i,x,hi,hm=>by
  have:i=list.length:=by omega
  subst this
  rw[s8x]
  simp only[t3p,u0b,Am,Ah,Aa,F5,s70]
 | r+1,i,x,hi,hm=>by
  have h:i<list.length:=by omega
  have hw:=u6n hm.ok
  have hts:=hs list[i] (Ag h)
  have hr:rdL Ty.str list i=list[i] :=y8k (t:=Ty.str) h
  rw[s8x,Ce h]
  simp only[t3p,u0b,h,Ae,Ad,y7t h,zTn,hr,q0m x a list[i] (by omega) hts,hm.record ha ho,u9u d (by unfold u0j;omega),zOb,s70]
  rw[y7l (by omega)]
  cases hp:q70 x a list[i] with
  | none=>simp[orD]
  | some y=>
   simp only[orD,Ap,Aa,zOb]
   exact o2q ha ho d jk hd list hl hs r (i+1) y (by omega) (hm.put ha ho hp)
theorem o2s {a o:Int} (ha:a=0∨a=1) (ho:o=1 - a) (jk:u0l) (list:Hu Hs) (hl:list.length≤1048576) (hs:∀t∈list,t.size≤1048576):∀(r i:Nat) (x:u0l),i+r=list.length→Mid o x→
 ∃q,t2q (list,jk,a,x,true,(i:Int))=some (.inl (jk,q))∧(match s70 a (list.drop i) x with
  | some y=>q=(y,true)
  | none=>q.2=false)
 | 0,i,x,hi,hm=>by
  have:i=list.length:=by omega
  subst this
  rw[s4j]
  simp only[t17,u0b,Am,Ah,Aa,F5,s70,zOb]
  exact⟨_,rfl,rfl⟩
 | r+1,i,x,hi,hm=>by
  have h:i<list.length:=by omega
  have hw:=u6n hm.ok
  have hts:=hs list[i] (Ag h)
  have hr:rdL Ty.str list i=list[i] :=y8k (t:=Ty.str) h
  rw[s4j,Ce h]
  simp only[t17,u0b,h,Ae,Ad,y7t h,zTn,hr,o2x x a list[i] (by omega) hts hm.len,zOb,s70]
  rw[y7l (by omega)]
  cases hp:q70 x a list[i] with
  | none=>
   simp only[orD,Option.bind_none]
   rw[s4j]
   simp only[t17,u0b]
   cases decide (i+1<list.length)<;>exact⟨_,rfl,rfl⟩
  | some y=>
   simp only[orD,zOb]
   exact o2s ha ho jk list hl hs r (i+1) y (by omega) (hm.put ha ho hp)
end
section
def u6e (d:u0l):Int:=1 - u01 d
theorem t9x (d:u0l):(u6e d=0∨u6e d=1)∧u01 d=1 - u6e d:=by
 unfold u6e
 have:=t9h d
 omega
def s33 (d:u0l):u0l:=flush (orD d (r4i d (u6e d) 0)).1
def r2x (d:u0l) (l:Hu Hs):Ht u0l:=if u2t d then s70 (u6e d) l (s33 d) else none
def o5n (x:u0l):Ht u0l:=u6f x 0 0 (t6y (IntKind.i64.wrap (u39 x 0+1)))
def s90 (d:u0l) (l:Hu Hs):Ht u0l:=(r2x d l).map fun x=>flush (orD x (o5n x)).1
theorem p2d {d:u0l} (hl:u2t d=true) (a n:Int):∃z,r4i d a n=some z∧u18 z=true∧z.1.length=97:=by
 obtain⟨h1,h2,h3,_⟩:=u7k hl
 have ha:=t9v a
 have ho:=q3w (s:=u0e a) h1 h3 (by omega) (by omega) (u2r n)
 have:=u9a ho
 exact⟨_,ho,this.2.1,by rw[this.2.2];exact h2⟩
theorem p3s {d:u0l} (hl:u2t d=true):Mid (u01 d) (s33 d):=by
 obtain⟨z,hz,hz2,hz3⟩:=p2d hl (u6e d) 0
 obtain⟨a1,a2⟩:=t9x d
 obtain⟨h1,h2,h3,h4,h5⟩:=u7k hl
 obtain⟨f1,f2,f3⟩:=s0u hz2
 have e:s33 d=flush z:=by unfold s33;rw[hz];rfl
 have hr:(u0c d (u01 d)).2.2=true:=by
  rcases t9h d with h | h<;>rw[h] <;>assumption
 rw[e]
 exact⟨f1,by rw[f3];exact hz3,f2,by rw[((p7k hz).flush hz2).other a1 a2];exact hr⟩
theorem o93 {x:u0l} {o:Int} (h:Mid o x):∃y,o5n x=some y∧u18 y=true:=by
 have ho:=q3w (s:=0) h.ok h.nil (by omega) (by rw[h.len];omega) (u2r (IntKind.i64.wrap (u39 x 0+1)))
 exact⟨_,ho,(u9a ho).2.1⟩
section
variable {d:u0l} {l:Hu Hs} (hd:d1n.wt d≤10000000) (hl:l.length≤1048576) (hs:∀t∈l,t.size≤1048576)
include hd hl hs
omit hd hl hs in
theorem o99:IntKind.i64.wrap ((1:Int) - u01 d)=u6e d:=by
 unfold u6e
 have:=t9h d
 rw[y4y (by omega) (by omega)]
omit hd hl hs in
theorem o2r {x:u0l} (h:r2x d l=some x):u2t d=true∧Mid (u01 d) x:=by
 unfold r2x at h
 split at h
 ·rename_i hlo
  obtain⟨a1,a2⟩:=t9x d
  exact⟨hlo,p7o a1 a2 (p3s hlo) h⟩
 ·cases h
theorem p6w:s39 (d,l)=some (orD d (r2x d l)):=by
 rw[p0h];unfold r3y r2x
 simp only[r9v d (by omega),u9u d (by unfold u0j;omega),r2l d (by unfold u0j;omega),o99 (d:=d),p38 d _ _ (by omega),zOb]
 cases hlo:u2t d with
 | false=>simp[orD]
 | true=>
  obtain⟨z,hz,hz2,hz3⟩:=p2d hlo (u6e d) 0
  have hzw:=u6n hz2
  obtain⟨a1,a2⟩:=t9x d
  have e:flush z=s33 d:=by unfold s33;rw[hz];rfl
  have L:=o2q a1 a2 d ([], []) hd l hl hs l.length 0 (s33 d) (by omega) (p3s hlo)
  have L:u82 (d,([], []),u6e d,s33 d,l,(l.length:Int),0)=_:=L
  simp only[Ap,Aa,hz,orD,s2a z (by omega),zOb,e,L,Fh,Bl]
  cases s70 (u6e d) l (s33 d)<;>rfl
theorem o2w (hlo:u2t d=true):∃q,s9u (d,l)=some q∧(match r2x d l with
 | some y=>q=(y,true)
 | none=>q.2=false):=by
 obtain⟨z,hz,hz2,hz3⟩:=p2d hlo (u6e d) 0
 have hzw:=u6n hz2
 obtain⟨a1,a2⟩:=t9x d
 have e:flush z=s33 d:=by unfold s33;rw[hz];rfl
 obtain⟨q,L,hq⟩:=o2s a1 a2 ([], []) l hl hs l.length 0 (s33 d) (by omega) (p3s hlo)
 have L:t2q (l,([], []),u6e d,s33 d,true,0)=_:=L
 rw[Fh] at hq
 refine⟨q,?_,by unfold r2x;rw[hlo,Al rfl];exact hq⟩
 rw[p6i];unfold q14
 simp only[r2m d (by unfold u0j;omega),o99 (d:=d),p3z d _ _ (by omega),zOb,hz,orD,s2b z (by omega),e,L]
omit hd hl hs in
theorem o3t (x:u0l) (hx:d1n.wt x≤10000000):s4a x=some (orD x (o5n x)).1:=by
 rw[p0m];unfold r33
 have h1:y7g [IntKind.u8.wrap (IntKind.i64.wrap (u39 x 0+1))] =t6y (IntKind.i64.wrap (u39 x 0+1)):=rfl
 simp only[s9b x 0 (by unfold u0j;omega),zOb,h1,s5s x 0 0 (t6y (IntKind.i64.wrap (u39 x 0+1))) (by omega) (by rw[u2r];omega) (by rw[u2r];omega)]
 rfl
omit hd hl hs in
theorem o7n (x:u0l) (hx:d1n.wt x≤10000000):s9v x=some (orD x (o5n x)):=by
 rw[p6j];unfold q15
 have h1:∀n,s1i n=some (t6y n):=fun n=>by rw[q54];rfl
 simp only[r8f x 0 (by unfold u0j;omega),h1,zOb,s5t x 0 0 (t6y (IntKind.i64.wrap (u39 x 0+1))) (by omega) (by rw[u2r];omega)]
 rfl
theorem p41:s36 (d,l)=some (orD d (s90 d l)):=by
 rw[p0c];unfold r3u s90
 simp only[p6w hd hl hs,zOb]
 cases hf:r2x d l with
 | none=>rfl
 | some x=>
  obtain⟨hlo,hm⟩:=o2r hf
  have hx:=u6n hm.ok
  obtain⟨y,hy,hy2⟩:=o93 hm
  have hyw:=u6n hy2
  simp only[orD,Ap,Aa,o3t x (by omega),hy,zOb,s2a y (by omega),Dc]
theorem p42:s4f (d,l)=some (orD d (s90 d l)):=by
 rw[p0y];unfold r4e s90
 simp only[p7c d (by omega),t5h d (by unfold u0j;omega),zOb]
 cases hlo:u2t d with
 | false=>
  have:r2x d l=none:=by unfold r2x;rw[hlo];rfl
  rw[this]
  rfl
 | true=>
  obtain⟨q,hq,hq2⟩:=o2w hd hl hs hlo
  simp only[Ap,Aa,hq,zOb]
  cases hf:r2x d l with
  | none=>
   rw[hf] at hq2
   simp only at hq2
   simp only[hq2,Bh,Ad]
   rfl
  | some x=>
   rw[hf] at hq2
   simp only at hq2
   subst hq2
   obtain⟨_,hm⟩:=o2r hf
   have hx:=u6n hm.ok
   obtain⟨y,hy,hy2⟩:=o93 hm
   have hyw:=u6n hy2
   simp only[orD,Ap,Aa,o7n x (by omega),hy,zOb,s2b y (by omega),Dc]
def t41 (d:u0l) (l:Hu Hs) (step:Int) (keep:Hu Int) (tear:Int):u0l:=
 match r2x d l with
 | none=>d
 | some x=>
  if step=0 then s7h (orD d (r4i d (u6e d) 0)).1 keep tear
  else if step=1 then x
  else if step=2 then s7h (orD x (o5n x)).1 keep tear
  else flush (orD x (o5n x)).1
end
end
section
def r2z (s:Hs) (i:Nat):UInt8:=s.data.toList.getD i 0
theorem t1s (a b:Hs) (i:Nat):r2z (a++b) i=if i<a.size then r2z a i else r2z b (i - a.size):=by
 unfold r2z
 have hs:a.size=a.data.toList.length:=by simp only[B6];rfl
 rw[Ft,Ha,A5,hs]
 split
 ·rename_i h
  rw[Aj h,A5]
 ·rename_i h
  rw[Aq (Fz h),A5]
theorem u6o (a:Hs) (b e i:Nat):r2z (a.extract b e) i=if i<min e a.size - b then r2z a (b+i) else 0:=by
 unfold r2z
 have hd:(a.extract b e).data.toList=(a.data.toList.drop b).take (min e a.size - b):=by
  have hs:a.size=a.data.toList.length:=by simp only[B6];rfl
  rw[ByteArray.data_extract]
  rw[Array.toList_extract,F7]
  apply Gj
  intro n
  rw[Ca,Ca,Dg]
  split<;>split<;>first | rfl | skip
  ·rename_i h1 h2
   rw[Be (by omega)]
  ·rename_i h1 h2
   rw[Be (by omega)]
 rw[hd,A5,Ca]
 split
 ·rw[Dg,A5]
 ·rfl
theorem p1f {a b:Hs} (hs:a.size=b.size) (h:∀i,i<a.size→r2z a i=r2z b i):a=b:=by
 have ha:a.size=a.data.toList.length:=by simp only[B6];rfl
 have hb:b.size=b.data.toList.length:=by simp only[B6];rfl
 have:a.data.toList=b.data.toList:=by
  apply Gw (by omega)
  intro i h1 h2
  have:=h i (by omega)
  unfold r2z at this
  rw[A5,A5,A4 h1,A4 h2] at this
  exact this
 apply Gf
 apply Fj
 exact this
theorem o0s {d x:u0l} {k:Int} {s:Hs} (h:u6j d k s=some x):u0k x k=(s,true):=by
 obtain⟨h1,h2⟩:=t9o h
 obtain⟨_,_,_,h4⟩:=p7m.mp h1
 subst h2
 have:=(h4 (k,s) (by simp)).1
 have hk:0≤k∧k<(d.1.length:Int):=this
 unfold u0k
 simp only[r8w]
 rw[Al hk]
 simp
theorem p78:∀ {f:Nat} {d x:u0l} {k at_:Nat} {t:Hs},p4u f d k at_ t=some x→t.size<f→at_<64→ ∀(j i:Nat),i<64→j<d.1.length→
 r2z (u0k x (j:Int)).1 i=if k*64+at_≤j*64+i∧j*64+i<k*64+at_+t.size then r2z t (j*64+i - (k*64+at_)) else r2z (u0k d (j:Int)).1 i
 | 0,d,x,k,at_,t,h,hf,_,j,i,_,_=>by omega
 | f+1,d,x,k,at_,t,h,hf,hat,j,i,hi,hj=>by
  rw[p4u] at h
  split at h
  ·rename_i hz
   cases h
   rw[Ao (by omega)]
  ·rename_i hz
   split at h
   ·rename_i hrd
    cases hw:u6j d (k:Int) ((u0k d (k:Int)).1.extract 0 at_++t.extract 0 (min t.size (64 - at_))++(u0k d (k:Int)).1.extract (at_+min t.size (64 - at_)) 64) with
    | none=>rw[hw] at h;cases h
    | some y=>
     rw[hw] at h
     simp only[zOb] at h
     obtain⟨n,hn⟩:∃n,n=min t.size (64 - at_):=⟨_,rfl⟩
     rw[←hn] at h hw
     have hyl:y.1.length=d.1.length:=by rw[(t9o hw).2]
     have hsz:(t.extract n t.size).size=t.size - n:=by rw[Bd];omega
     have ih:=p78 h (by omega) (by omega) j i hi (by omega)
     rw[ih,hsz]
     by_cases hjk:j=k
     ·subst hjk
      rw[Ao (by omega),o0s hw]
      simp only
      rw[t1s,t1s,u6o,u6o,u6o]
      simp only[Af,Bd,hrd.2]
      by_cases h1:i<at_
      ·have e1:i<min at_ 64 - 0:=by omega
       rw[Al (by omega),Al e1,Al e1,Ao (by omega),Co]
      ·by_cases h2:i<at_+n
       ·rw[Al (by omega),Ao (by omega),Al (by omega),Al (by omega)]
        congr 1
        omega
       ·rw[Ao (by omega),Al (by omega),Ao (by omega)]
        congr 1
        omega
     ·have hfr:u0k y (j:Int)=u0k d (j:Int):=q3d hw (by omega)
      rw[hfr]
      by_cases h1:(k+1)*64+0≤j*64+i∧j*64+i<(k+1)*64+0+(t.size - n)
      ·rw[Al h1,Al (by omega),u6o,Al (by omega)]
       congr 1
       omega
      ·rw[Ao h1,Ao (by omega)]
   ·cases h
end
end
end Go.Proofs.YtkdpclfhapphhaaGreat.Ab
