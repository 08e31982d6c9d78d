import Derived.Test.YtkdpclfhapphhaaGreatAbLivesSerialT3
import Derived.Test.YtkdpclfhapphhaaGreatAbK2
import Derived.Test.YtkdpclfhapphhaaGreatAbF4
import Derived.Test.YtkdpclfhapphhaaGreatAbS2
namespace Go.Proofs.YtkdpclfhapphhaaGreat.Ab
open Go
set_option linter.unusedVariables false
set_option linter.unusedSimpArgs false
set_option linter.unnecessarySimpa false
section
section
theorem j0u (l:Hu u0c) (n:Int):((List.range l.length).all fun i=>decide ((rdL u0q l i).1<n)&& !((l.take i).any fun y=>decide (y.1=(rdL u0q l i).1)))=q4l (u5a l) n:=by
 rw[Cd,Bg,r8r]
 unfold u5a
 constructor
 ·intro h
  constructor
  ·intro x hx
   obtain⟨t,ht,rfl⟩:=Bx.mp hx
   obtain⟨i,hi,rfl⟩:=B7 ht
   have:=h i (Bq.mpr hi)
   rw[Ai,Ar,y8k hi] at this
   exact this.1
  ·rw[D8,Dl,Cp]
   intro i j hi hj hij e
   have:=h j (Bq.mpr hj)
   rw[Ai,Bj,y8k hj] at this
   have hm:l[i] ∈l.take j:=by
    rw[Gy]
    exact⟨i,by simp;omega,by simp⟩
   have:=Ct.mp this.2 _ hm
   simp only[Ar] at this
   exact this e
 ·rintro⟨h1,h2⟩ i hi
  have hi:=Bq.mp hi
  rw[Ai,Ar,y8k hi,Bj]
  refine⟨h1 _ (Bx.mpr ⟨_,Ag hi,rfl⟩),?_⟩
  rw[Ct]
  intro y hy
  rw[Gy] at hy
  obtain⟨j,hj,rfl⟩:=hy
  simp only[Ec] at hj
  rw[D8,Dl,Cp] at h2
  simp only[Fc,Ar]
  exact h2 j i (by omega) hi (by omega)
theorem q3f (l:Hu u0c) (n:Int) (hl:l.length≤1099511627776):t15 (l,n)=some (q4l (u5a l) n):=by
 have hsome:∀(m:Hu u0c) (t:u0c),m.length≤1099511627776→u6x (m,t)=some (m.any fun y=>decide (y.1=t.1)):=by
  intro m t hm
  have L:=Q.first (T:=u0q) (c:=u0c) (W:=u1a) (q:=t90) (p:=fun y:u0c=>decide (y.1=t.1)) (fun x=>u8x x) m t (by omega) (fun x _=>by rw[q6p];rfl)
  simp only[s4l,t29,u8n,u3h,u91,u4b,L,zOb]
  rw[←p4a]
  by_cases h:u0s (fun y:u0c=>decide (y.1=t.1)) m<m.length
  ·simp[h]
  ·simp[h]
 have L:=t3r t24 l.length (fun i=>(l,n,l,(l.length:Int),i)) (fun i=>decide ((rdL u0q l i).1<n)&& !((l.take i).any fun y=>decide (y.1=(rdL u0q l i).1))) (.inl ()) (.inr false)
  (by rw[s8i];simp only[t2r,u0b,Am,Ah,Aa])
  (fun i hi=>by
   have e1:(decide ((0:Int)≤0)&&decide ((0:Int)≤(i:Int))&&decide ((i:Int)≤(l.length:Int)))=true:=by simp;omega
   have e2:(l.take i).drop ((0:Int)).toNat=l.take i:=by simp
   have e3:=hsome (l.take i) (rdL u0q l i) (by simp;omega)
   rw[s8i];simp only[t2r,u0b,hi,Ae,Ad,y7t hi,zTn,y7l (show i<4611686018427387904 by omega),q95 (rdL u0q l i).1 n,e1]
   rw[e2,e3]
   cases decide ((rdL u0q l i).1<n)
   ·rfl
   ·simp only[Ap,Aa,zOb,Bz]
    cases (l.take i).any fun y=>decide (y.1=(rdL u0q l i).1)<;>rfl)
 rw[j0u] at L
 rw[p07];unfold r3x
 simp only[L,zOb]
 cases q4l (u5a l) n<;>rfl
theorem r8n (b:u0j):j74.wt b=(Ty.sl u0d).wt b.1+((Ty.sl u0q).wt b.2.1+((Ty.sl u0q).wt b.2.2.1+(0+0))):=rfl
theorem q40 {l:Hu u0c} {t:u0c} (h:t∈l):u0q.wt t≤(Ty.sl u0q).wt l:=by
 have h1:(Ty.sl u0q).wt l=l.length+(l.map u0q.wt).sum:=rfl
 have h2:=p83 (f:=u0q.wt) h
 omega
theorem gt3 (n:Nat):decide ((n:Int) >3)= !decide (n≤3):=by by_cases h:n≤3<;>simp[h] <;>omega
theorem gt4 (n:Nat):decide ((n:Int) >4)= !decide (n≤4):=by by_cases h:n≤4<;>simp[h] <;>omega
theorem q97 (t:u0c):s1w t=some (decide (t.2.1=2)):=by rw[p6g];rfl
theorem t0b (b:u0j) (hw:j74.wt b≤u0m):u22 b=some (u7m b):=by
 have hb:u0m=1099511627776:=rfl
 have hbw:=r8n b
 have n1:=s0k (t:=u0d) b.1
 have n2:=s0k (t:=u0q) b.2.1
 have n3:=s0k (t:=u0q) b.2.2.1
 have L1:=t3r t3s b.1.length (fun i=>(b,b.1,(b.1.length:Int),i)) (fun i=>(fun v:u2b=>decide (v.2.2.2≤b.2.2.2.1)) (rdL u0d b.1 i)) (.inl b) (.inr false)
  (by rw[r91];simp only[t85,u0b,Am,Ah,Aa])
  (fun i hi=>by
   rw[r91];simp only[t85,u0b,hi,Ae,Ad,y7t hi,zTn,y7l (show i<4611686018427387904 by omega),q64 (rdL u0d b.1 i).2.2.2 b.2.2.2.1]
   cases decide ((rdL u0d b.1 i).2.2.2≤b.2.2.2.1)<;>rfl)
 rw[s2b (t:=u0d) b.1 (fun v:u2b=>decide (v.2.2.2≤b.2.2.2.1))] at L1
 have L2:=t3r t1a b.2.1.length (fun i=>(b,b.2.1,(b.2.1.length:Int),i)) (fun i=>(fun t:u0c=>u7k t&&(decide (t.2.1=3)&&decide (t.2.2.2.1≤b.2.2.2.1))) (rdL u0q b.2.1 i)&&(decide (i=0) || (fun x y:u0c=>decide (x.2.2.2.1<y.2.2.2.1)) (rdL u0q b.2.1 (i - 1)) (rdL u0q b.2.1 i))) (.inl b) (.inr false)
  (by rw[r5q];simp only[t6x,u0b,Am,Ah,Aa])
  (fun i hi=>by
   have hm:rdL u0q b.2.1 i∈b.2.1:=by rw[y8k hi];exact Ag hi
   have ht:=q40 hm
   have hk:=s40 (rdL u0q b.2.1 i) (by omega)
   rw[r5q];simp only[t6x,u0b,hi,Ae,Ad,y7t hi,zTn,y7l (show i<4611686018427387904 by omega),q64 (rdL u0q b.2.1 i).2.2.2.1 b.2.2.2.1,s1s,q4n,zOb]
   rw[hk]
   simp only[zOb]
   generalize u7k (rdL u0q b.2.1 i)=b1
   generalize decide ((rdL u0q b.2.1 i).2.1=3)=b2
   generalize decide ((rdL u0q b.2.1 i).2.2.2.1≤b.2.2.2.1)=b3
   by_cases h0:i=0
   ·subst h0;simp only[Ae,Ap,Aa,Dx,Cz]
    cases b1<;>cases b2<;>cases b3<;>rfl
   ·simp only[h0,Ah,Bh,Ad,Ci,t6w (show i<4611686018427387904 by omega) h0,y7t (show i - 1<b.2.1.length by omega),zTn,q95 (rdL u0q b.2.1 (i - 1)).2.2.2.1 (rdL u0q b.2.1 i).2.2.2.1]
    generalize decide ((rdL u0q b.2.1 (i - 1)).2.2.2.1<(rdL u0q b.2.1 i).2.2.2.1)=b4
    cases b1<;>cases b2<;>cases b3<;>cases b4<;>rfl)
 rw[s8y (t:=u0q) b.2.1 (fun t:u0c=>u7k t&&(decide (t.2.1=3)&&decide (t.2.2.2.1≤b.2.2.2.1))) (fun x y:u0c=>decide (x.2.2.2.1<y.2.2.2.1))] at L2
 have L3:=t3r t1b b.2.2.1.length (fun i=>(b,b.2.2.1,(b.2.2.1.length:Int),i)) (fun i=>(fun t:u0c=>u7k t&&(decide (t.2.1=2)&&decide (t.2.2.1≤b.2.2.2.1))) (rdL u0q b.2.2.1 i)&&(decide (i=0) || (fun x y:u0c=>y3c x.2.2.2.2.2.2.2 y.2.2.2.2.2.2.2) (rdL u0q b.2.2.1 (i - 1)) (rdL u0q b.2.2.1 i))) (.inl b) (.inr false)
  (by rw[r5r];simp only[t6y,u0b,Am,Ah,Aa])
  (fun i hi=>by
   have hm:rdL u0q b.2.2.1 i∈b.2.2.1:=by rw[y8k hi];exact Ag hi
   have ht:=q40 hm
   have hk:=s40 (rdL u0q b.2.2.1 i) (by omega)
   rw[r5r];simp only[t6y,u0b,hi,Ae,Ad,y7t hi,zTn,y7l (show i<4611686018427387904 by omega),q64 (rdL u0q b.2.2.1 i).2.2.1 b.2.2.2.1,s1s,q97,zOb]
   rw[hk]
   simp only[zOb]
   generalize u7k (rdL u0q b.2.2.1 i)=b1
   generalize decide ((rdL u0q b.2.2.1 i).2.1=2)=b2
   generalize decide ((rdL u0q b.2.2.1 i).2.2.1≤b.2.2.2.1)=b3
   by_cases h0:i=0
   ·subst h0;simp only[Ae,Ap,Aa,Dx,Cz]
    cases b1<;>cases b2<;>cases b3<;>rfl
   ·simp only[h0,Ah,Bh,Ad,Ci,t6w (show i<4611686018427387904 by omega) h0,y7t (show i - 1<b.2.2.1.length by omega),zTn]
    generalize y3c (rdL u0q b.2.2.1 (i - 1)).2.2.2.2.2.2.2 (rdL u0q b.2.2.1 i).2.2.2.2.2.2.2=b4
    cases b1<;>cases b2<;>cases b3<;>cases b4<;>rfl)
 rw[s8y (t:=u0q) b.2.2.1 (fun t:u0c=>u7k t&&(decide (t.2.1=2)&&decide (t.2.2.1≤b.2.2.2.1))) (fun x y:u0c=>y3c x.2.2.2.2.2.2.2 y.2.2.2.2.2.2.2)] at L3
 have hC:=p7t [b.2.1,b.2.2.1] (by simp only[List.flatten_cons,List.flatten_nil,Bw,Ba];omega) (by simp)
 have hf: [b.2.1,b.2.2.1].flatten=b.2.1++b.2.2.1:=by simp
 rw[hf] at hC
 have hI:=q3f (b.2.1++b.2.2.1) b.2.2.2.2 (by rw[Ba];omega)
 have hV:=p2k b.1 (by omega)
 rw[p9w];unfold q5b
 rw[hV]
 simp only[q0y,j93,gt3,zOb]
 unfold u7m o69 o1f
 generalize u5i b.1=c1
 generalize inB b.2.2.2.1 0 9999=c3
 generalize inB b.2.2.2.2 1 9999=c4
 generalize decide (b.2.1.length≤12)=c5
 generalize decide (b.2.2.1.length≤3)=c6
 generalize ha1:b.1.all (fun v:u2b=>decide (v.2.2.2≤b.2.2.2.1))=a1 at L1
 generalize ha2:b.2.1.all (fun t:u0c=>u7k t&&(decide (t.2.1=3)&&decide (t.2.2.2.1≤b.2.2.2.1)))=a2 at L2
 generalize ha3:p5t u0q (fun x y:u0c=>decide (x.2.2.2.1<y.2.2.2.1)) b.2.1=a3 at L2
 generalize ha4:b.2.2.1.all (fun t:u0c=>u7k t&&(decide (t.2.1=2)&&decide (t.2.2.1≤b.2.2.2.1)))=a4 at L3
 generalize ha5:p5t u0q (fun x y:u0c=>y3c x.2.2.2.2.2.2.2 y.2.2.2.2.2.2.2) b.2.2.1=a5 at L3
 generalize q4l (u5a (b.2.1++b.2.2.1)) b.2.2.2.2=a6 at hI
 have hR:((t3s (b,b.1,(b.1.length:Int),0)).bind fun r5=>match r5 with
  | .inl o6=>(t1a (o6,o6.2.1,(o6.2.1.length:Int),0)).bind fun r10=>match r10 with
   | .inl o11=>(t1b (o11,o11.2.2.1,(o11.2.2.1.length:Int),0)).bind fun r15=>match r15 with
    | .inl o16=>(u3z [o16.2.1,o16.2.2.1]).bind fun y17=>(t15 (y17,o16.2.2.2.2)).bind fun y18=>some y18
    | .inr z19=>some z19
   | .inr z20=>some z20
  | .inr z21=>some z21)=some (a1&&((a2&&a3)&&((a4&&a5)&&a6))):=by
  rw[L1]
  cases a1
  ·rfl
  ·simp only[Ad,zOb,Bz]
   rw[L2]
   cases (a2&&a3)
   ·rfl
   ·simp only[Ad,zOb,Bz]
    rw[L3]
    cases (a4&&a5)
    ·rfl
    ·simp only[Ad,zOb,Bz]
     rw[hC]
     simp only[zOb]
     rw[hI];rfl
 cases c1<;>cases c3<;>cases c4<;>cases c5<;>cases c6<;>simp only[Ap,Bh,Ad,Aa,zOb,Fx,Fy,Bz,Cz]
 exact hR
theorem o8n (l:Hu Int) (n:Int):((List.range l.length).all fun i=>((List.range i).all fun j=> !decide (rdL (Ty.int .i64) l j=rdL (Ty.int .i64) l i))&&decide (rdL (Ty.int .i64) l i<n))=q4l l n:=by
 rw[Cd,Bg,r8r]
 constructor
 ·intro h
  constructor
  ·intro x hx
   obtain⟨i,hi,rfl⟩:=B7 hx
   have:=h i (Bq.mpr hi)
   rw[Ai,Ar,y8k (t:=Ty.int .i64) hi] at this
   exact this.2
  ·rw[D8,Cp]
   intro i j hi hj hij e
   have:=h j (Bq.mpr hj)
   rw[Ai,Bg] at this
   have:=this.1 i (Bq.mpr hij)
   rw[y8k (t:=Ty.int .i64) hi,y8k (t:=Ty.int .i64) hj,Bj,Bu] at this
   exact this e
 ·rintro⟨h1,h2⟩ i hi
  have hi:=Bq.mp hi
  rw[Ai,Ar,y8k (t:=Ty.int .i64) hi,Bg]
  refine⟨fun j hj=> ?_,h1 _ (Ag hi)⟩
  have hj:=Bq.mp hj
  rw[D8,Cp] at h2
  rw[y8k (t:=Ty.int .i64) (show j<l.length by omega),Bj,Bu]
  exact h2 j i (by omega) hi hj
theorem o1u (b:u0j) (l:Hu Int) (hl:l.length≤1099511627776):u7u (b,l,0)=some (bif q4l l b.2.2.2.2 then .inl () else .inr false):=by
 have inner:∀i:Nat,i<l.length→t1h (b,l,(i:Int),0)=some (bif (List.range i).all (fun j=> !decide (rdL (Ty.int .i64) l j=rdL (Ty.int .i64) l i)) then .inl (b,l,(i:Int)) else .inr false):=by
  intro i hi
  exact t3r t1h i (fun j=>(b,l,(i:Int),j)) (fun j=> !decide (rdL (Ty.int .i64) l j=rdL (Ty.int .i64) l i)) (.inl (b,l,(i:Int))) (.inr false)
   (by rw[r55];simp only[t7c,u0b,Am,Ah,Aa])
   (fun j hj=>by
    rw[r55];simp only[t7c,u0b,hj,Ae,Ad,y7t hi,y7t (show j<l.length by omega),zTn,y7l (show j<4611686018427387904 by omega)]
    by_cases e:rdL (Ty.int .i64) l j=rdL (Ty.int .i64) l i
    ·rw[Bb e];rfl
    ·rw[A7 e];rfl)
 have L:=t3r u7u l.length (fun i=>(b,l,i)) (fun i=>((List.range i).all fun j=> !decide (rdL (Ty.int .i64) l j=rdL (Ty.int .i64) l i))&&decide (rdL (Ty.int .i64) l i<b.2.2.2.2)) (.inl ()) (.inr false)
  (by rw[r54];simp only[t7b,u0b,Am,Ah,Aa])
  (fun i hi=>by
   rw[r54];simp only[t7b,u0b,hi,Ae,Ad]
   rw[inner i hi]
   cases (List.range i).all fun j=> !decide (rdL (Ty.int .i64) l j=rdL (Ty.int .i64) l i)
   ·rfl
   ·simp only[Ad,zOb,y7t hi,zTn,y7l (show i<4611686018427387904 by omega),Bz]
    rw[q95]
    cases decide (rdL (Ty.int .i64) l i<b.2.2.2.2)<;>rfl)
 rw[o8n] at L
 exact L
theorem o61 (l:Hu u0c) {i:Nat} (h:i<l.length):u5a (l.take i)++ [(rdL u0q l i).1] =u5a (l.take (i+1)):=by
 rw[y8k h];unfold u5a
 rw[Gm,A4 h,Dh];rfl
theorem s0l (b:u0j) (hw:j74.wt b≤549755813888):u8h b=some (u7m b):=by
 have hb:u0m=1099511627776:=rfl
 have hbw:=r8n b
 have n1:=s0k (t:=u0d) b.1
 have n2:=s0k (t:=u0q) b.2.1
 have n3:=s0k (t:=u0q) b.2.2.1
 have L1:=t3r t3u b.1.length (fun i=>(b,i)) (fun i=>(fun v:u2b=>decide (v.2.2.2≤b.2.2.2.1)) (rdL u0d b.1 i)) (.inl b) (.inr false)
  (by rw[r98];simp only[t9c,u0b,Am,Ah,Aa])
  (fun i hi=>by
   rw[r98];simp only[t9c,u0b,hi,Ae,Ad,y7t hi,zTn,y7l (show i<4611686018427387904 by omega),q64 (rdL u0d b.1 i).2.2.2 b.2.2.2.1]
   cases decide ((rdL u0d b.1 i).2.2.2≤b.2.2.2.1)<;>rfl)
 rw[s2b (t:=u0d) b.1 (fun v:u2b=>decide (v.2.2.2≤b.2.2.2.1))] at L1
 have il:∀(l:Hu u0c) (i:Nat),i≤l.length→(u5a (l.take i)).length=i:=fun l i h=>by unfold u5a;simp;omega
 have L2:=t3r u7t b.2.1.length (fun i=>(b,u5a (b.2.1.take i.toNat),i)) (fun i=>(fun t:u0c=>u7k t&&(decide (t.2.1=3)&&decide (t.2.2.2.1≤b.2.2.2.1))) (rdL u0q b.2.1 i)&&(decide (i=0) || (fun x y:u0c=>decide (x.2.2.2.1<y.2.2.2.1)) (rdL u0q b.2.1 (i - 1)) (rdL u0q b.2.1 i))) (.inl (b,u5a b.2.1)) (.inr false)
  (by rw[r52];simp only[t69,u0b,Am,Ah,Aa,zTn,Cq])
  (fun i hi=>by
   have hm:rdL u0q b.2.1 i∈b.2.1:=by rw[y8k hi];exact Ag hi
   have ht:=q40 hm
   have hk:=t8s (rdL u0q b.2.1 i) (by omega)
   rw[r52];simp only[t69,u0b,hi,Ae,Ad,y7t hi,zTn,y7l (show i<4611686018427387904 by omega),q64 (rdL u0q b.2.1 i).2.2.2.1 b.2.2.2.1,s1s,zOb]
   rw[hk]
   have hc:Nat.ble ((u5a (b.2.1.take i)).length+ [(rdL u0q b.2.1 i).1].length) z7w=true:=u0x (by rw[il _ _ (by omega)];simp;omega)
   simp only[zOb]
   rw[hc,o61 _ hi]
   generalize u7k (rdL u0q b.2.1 i)=b1
   generalize decide ((rdL u0q b.2.1 i).2.1=3)=b2
   generalize decide ((rdL u0q b.2.1 i).2.2.2.1≤b.2.2.2.1)=b3
   by_cases h0:i=0
   ·subst h0;simp only[Ae,Ap,Aa,Dx,Cz]
    cases b1<;>cases b2<;>cases b3<;>rfl
   ·simp only[h0,Ah,Bh,Ad,Ci,t6w (show i<4611686018427387904 by omega) h0,y7t (show i - 1<b.2.1.length by omega),zTn,q95 (rdL u0q b.2.1 (i - 1)).2.2.2.1 (rdL u0q b.2.1 i).2.2.2.1]
    generalize decide ((rdL u0q b.2.1 (i - 1)).2.2.2.1<(rdL u0q b.2.1 i).2.2.2.1)=b4
    cases b1<;>cases b2<;>cases b3<;>cases b4<;>rfl)
 rw[s8y (t:=u0q) b.2.1 (fun t:u0c=>u7k t&&(decide (t.2.1=3)&&decide (t.2.2.2.1≤b.2.2.2.1))) (fun x y:u0c=>decide (x.2.2.2.1<y.2.2.2.1))] at L2
 have L3:=t3r t1g b.2.2.1.length (fun i=>(b,u5a b.2.1++u5a (b.2.2.1.take i.toNat),i)) (fun i=>(fun t:u0c=>u7k t&&(decide (t.2.1=2)&&decide (t.2.2.1≤b.2.2.2.1))) (rdL u0q b.2.2.1 i)&&(decide (i=0) || (fun x y:u0c=>y3c x.2.2.2.2.2.2.2 y.2.2.2.2.2.2.2) (rdL u0q b.2.2.1 (i - 1)) (rdL u0q b.2.2.1 i))) (.inl (b,u5a (b.2.1++b.2.2.1))) (.inr false)
  (by rw[r53];simp only[t7a,u0b,Am,Ah,Aa,zTn,Cq];unfold u5a;rw[Dh])
  (fun i hi=>by
   have hm:rdL u0q b.2.2.1 i∈b.2.2.1:=by rw[y8k hi];exact Ag hi
   have ht:=q40 hm
   have hk:=t8s (rdL u0q b.2.2.1 i) (by omega)
   rw[r53];simp only[t7a,u0b,hi,Ae,Ad,y7t hi,zTn,y7l (show i<4611686018427387904 by omega),q64 (rdL u0q b.2.2.1 i).2.2.1 b.2.2.2.1,s1s,zOb]
   rw[hk]
   have hz:(u5a b.2.1).length=b.2.1.length:=by unfold u5a;simp
   have hc:Nat.ble ((u5a b.2.1++u5a (b.2.2.1.take i)).length+ [(rdL u0q b.2.2.1 i).1].length) z7w=true:=u0x (by rw[Ba,il _ _ (by omega),hz];simp;omega)
   simp only[zOb]
   rw[hc,Bi,o61 _ hi]
   generalize u7k (rdL u0q b.2.2.1 i)=b1
   generalize decide ((rdL u0q b.2.2.1 i).2.1=2)=b2
   generalize decide ((rdL u0q b.2.2.1 i).2.2.1≤b.2.2.2.1)=b3
   by_cases h0:i=0
   ·subst h0;simp only[Ae,Ap,Aa,Dx,Cz]
    cases b1<;>cases b2<;>cases b3<;>rfl
   ·simp only[h0,Ah,Bh,Ad,Ci,t6w (show i<4611686018427387904 by omega) h0,y7t (show i - 1<b.2.2.1.length by omega),zTn]
    generalize y3c (rdL u0q b.2.2.1 (i - 1)).2.2.2.2.2.2.2 (rdL u0q b.2.2.1 i).2.2.2.2.2.2.2=b4
    cases b1<;>cases b2<;>cases b3<;>cases b4<;>rfl)
 rw[s8y (t:=u0q) b.2.2.1 (fun t:u0c=>u7k t&&(decide (t.2.1=2)&&decide (t.2.2.1≤b.2.2.2.1))) (fun x y:u0c=>y3c x.2.2.2.2.2.2.2 y.2.2.2.2.2.2.2)] at L3
 have L2' :u7t (b, [],0)=_:=L2
 have e:u5a b.2.1++u5a (b.2.2.1.take (0:Int).toNat)=u5a b.2.1:=by simp[u5a]
 rw[e] at L3
 have hI:=o1u b (u5a (b.2.1++b.2.2.1)) (by unfold u5a;rw[Da,Ba];omega)
 have hV:=p2l b.1 (by omega)
 rw[o0c];unfold q5s
 rw[hV]
 simp only[r0h,j93,gt3,zOb]
 unfold u7m o69 o1f
 generalize u5i b.1=c1
 generalize inB b.2.2.2.1 0 9999=c3
 generalize inB b.2.2.2.2 1 9999=c4
 generalize decide (b.2.1.length≤12)=c5
 generalize decide (b.2.2.1.length≤3)=c6
 generalize ha1:b.1.all (fun v:u2b=>decide (v.2.2.2≤b.2.2.2.1))=a1 at L1
 generalize ha2:b.2.1.all (fun t:u0c=>u7k t&&(decide (t.2.1=3)&&decide (t.2.2.2.1≤b.2.2.2.1)))=a2 at L2'
 generalize ha3:p5t u0q (fun x y:u0c=>decide (x.2.2.2.1<y.2.2.2.1)) b.2.1=a3 at L2'
 generalize ha4:b.2.2.1.all (fun t:u0c=>u7k t&&(decide (t.2.1=2)&&decide (t.2.2.1≤b.2.2.2.1)))=a4 at L3
 generalize ha5:p5t u0q (fun x y:u0c=>y3c x.2.2.2.2.2.2.2 y.2.2.2.2.2.2.2) b.2.2.1=a5 at L3
 generalize q4l (u5a (b.2.1++b.2.2.1)) b.2.2.2.2=a6 at hI
 have hR:((t3u (b,0)).bind fun r5=>match r5 with
  | .inl o6=>(u7t (o6, [],0)).bind fun r9=>match r9 with
   | .inl o10=>(t1g (o10.1,o10.2,0)).bind fun r13=>match r13 with
    | .inl o14=>(u7u (o14.1,o14.2,0)).bind fun r18=>match r18 with
     | .inl o19=>some true
     | .inr z20=>some z20
    | .inr z21=>some z21
   | .inr z22=>some z22
  | .inr z23=>some z23)=some (a1&&((a2&&a3)&&((a4&&a5)&&a6))):=by
  rw[L1]
  cases a1
  ·rfl
  ·simp only[Ad,zOb,Bz]
   rw[L2']
   cases (a2&&a3)
   ·rfl
   ·simp only[Ad,zOb,Bz]
    rw[L3]
    cases (a4&&a5)
    ·rfl
    ·simp only[Ad,zOb,Bz]
     rw[hI]
     cases a6<;>rfl
 cases c1<;>cases c3<;>cases c4<;>cases c5<;>cases c6<;>simp only[Ap,Bh,Ad,Aa,zOb,Fx,Fy,Bz,Cz]
 exact hR
theorem o6y (e:u3e):j5w.wt e=j74.wt e.1+(Ty.sl u0q).wt e.2:=rfl
theorem p88 (e:u3e) (hw:j5w.wt e≤u0m):s51 e=some (o3k e):=by
 have hb:u0m=1099511627776:=rfl
 have hew:=o6y e
 have hbw:=r8n e.1
 have n1:=s0k (t:=u0q) e.2
 have n2:=s0k (t:=u0q) e.1.2.1
 have n3:=s0k (t:=u0q) e.1.2.2.1
 have L:=t3r t45 e.2.length (fun i=>(e,e.2,(e.2.length:Int),i)) (fun i=>(fun t:u0c=>u7k t&&(decide (t.2.1=1)&&decide (t.2.2.1≤e.1.2.2.2.1))) (rdL u0q e.2 i)&&(decide (i=0) || (fun x y:u0c=>decide (x.1<y.1)) (rdL u0q e.2 (i - 1)) (rdL u0q e.2 i))) (.inl ()) (.inr false)
  (by rw[r1g];simp only[t4g,u0b,Am,Ah,Aa])
  (fun i hi=>by
   have hm:rdL u0q e.2 i∈e.2:=by rw[y8k hi];exact Ag hi
   have ht:=q40 hm
   have hk:=s40 (rdL u0q e.2 i) (by omega)
   rw[r1g];simp only[t4g,u0b,hi,Ae,Ad,y7t hi,zTn,y7l (show i<4611686018427387904 by omega),q64 (rdL u0q e.2 i).2.2.1 e.1.2.2.2.1,s1s,zOb]
   rw[hk]
   simp only[zOb]
   generalize u7k (rdL u0q e.2 i)=b1
   generalize decide ((rdL u0q e.2 i).2.1=1)=b2
   generalize decide ((rdL u0q e.2 i).2.2.1≤e.1.2.2.2.1)=b3
   by_cases h0:i=0
   ·subst h0;simp only[Ae,Ap,Aa,Dx,Cz]
    cases b1<;>cases b2<;>cases b3<;>rfl
   ·simp only[h0,Ah,Bh,Ad,Ci,t6w (show i<4611686018427387904 by omega) h0,y7t (show i - 1<e.2.length by omega),zTn,q95 (rdL u0q e.2 (i - 1)).1 (rdL u0q e.2 i).1]
    generalize decide ((rdL u0q e.2 (i - 1)).1<(rdL u0q e.2 i).1)=b4
    cases b1<;>cases b2<;>cases b3<;>cases b4<;>rfl)
 rw[s8y (t:=u0q) e.2 (fun t:u0c=>u7k t&&(decide (t.2.1=1)&&decide (t.2.2.1≤e.1.2.2.2.1))) (fun x y:u0c=>decide (x.1<y.1))] at L
 have hC:=p7t [e.1.2.1,e.1.2.2.1,e.2] (by simp only[List.flatten_cons,List.flatten_nil,Bw,Ba];omega) (by simp)
 have hf: [e.1.2.1,e.1.2.2.1,e.2].flatten=e.1.2.1++e.1.2.2.1++e.2:=by simp
 rw[hf] at hC
 have hI:=q3f (e.1.2.1++e.1.2.2.1++e.2) e.1.2.2.2.2 (by rw[Ba,Ba];omega)
 have hB:=t0b e.1 (by omega)
 rw[p23];unfold r7f
 rw[hB]
 simp only[zOb,gt4]
 rw[hC]
 simp only[zOb]
 rw[hI]
 simp only[zOb]
 rw[L]
 unfold o3k o67
 cases u7m e.1<;>cases decide (e.2.length≤4)<;>cases q4l (u5a (e.1.2.1++e.1.2.2.1++e.2)) e.1.2.2.2.2<;>try rfl
 all_goals
  cases e.2.all (fun t:u0c=>u7k t&&(decide (t.2.1=1)&&decide (t.2.2.1≤e.1.2.2.2.1)))<;>cases p5t u0q (fun x y:u0c=>decide (x.1<y.1)) e.2<;>rfl
theorem j27 {b:u0j} {o:Hu u0c} (hb:q4l (u5a (b.2.1++b.2.2.1)) b.2.2.2.2=true) (ho:p5t u0q (fun x y:u0c=>decide (x.1<y.1)) o=true):
 q4l (u5a (b.2.1++b.2.2.1++o)) b.2.2.2.2=o.all (fun t=>decide (t.1<b.2.2.2.2)&&((b.2.1.all fun x=> !decide (x.1=t.1))&&(b.2.2.1.all fun x=> !decide (x.1=t.1)))):=by
 rw[d1q (f:=fun t=>t.1)] at ho
 obtain⟨h1,h2⟩:=r8r.mp hb
 rw[Cd,r8r,Bg]
 simp only[Ai,Ar,Bg,Bj,Bu]
 unfold u5a at*
 constructor
 ·rintro⟨k1,k2⟩ t ht
  rw[Dh,Gp] at k2
  refine⟨k1 _ (Bx.mpr ⟨t,by simp[ht],rfl⟩),fun x hx=> ?_,fun x hx=> ?_⟩
  ·exact k2.2.2 _ (Bx.mpr ⟨x,by simp[hx],rfl⟩) _ (Bx.mpr ⟨t,ht,rfl⟩)
  ·exact k2.2.2 _ (Bx.mpr ⟨x,by simp[hx],rfl⟩) _ (Bx.mpr ⟨t,ht,rfl⟩)
 ·intro k
  constructor
  ·intro x hx
   obtain⟨t,ht,rfl⟩:=Bx.mp hx
   rcases Ay.mp ht with q | q
   ·exact h1 _ (Bx.mpr ⟨t,q,rfl⟩)
   ·exact(k t q).1
  ·rw[Dh,Gp]
   refine⟨h2,?_,?_⟩
   ·rw[D8,Dl]
    exact ho.imp fun {a b} q e=>by omega
   ·intro a ha c hc e
    obtain⟨x,hx,rfl⟩:=Bx.mp ha
    obtain⟨t,ht,rfl⟩:=Bx.mp hc
    rcases Ay.mp hx with q | q
    ·exact(k t ht).2.1 x q e
    ·exact(k t ht).2.2 x q e
theorem p89 (e:u3e) (hw:j5w.wt e≤549755813888):s6c e=some (o3k e):=by
 have hb:u0m=1099511627776:=rfl
 have hew:=o6y e
 have hbw:=r8n e.1
 have n1:=s0k (t:=u0q) e.2
 have n2:=s0k (t:=u0q) e.1.2.1
 have n3:=s0k (t:=u0q) e.1.2.2.1
 have I1:∀(j:Int) (t:u0c),u79 (e,j,t,0)=some (bif (e.1.2.1.all fun x=> !decide (x.1=t.1)) then .inl (e,j,t) else .inr false):=fun j t=>by
  have L:=t3r u79 e.1.2.1.length (fun i=>(e,j,t,i)) (fun i=>(fun x:u0c=> !decide (x.1=t.1)) (rdL u0q e.1.2.1 i)) (.inl (e,j,t)) (.inr false)
   (by rw[s8l];simp only[t2u,u0b,Am,Ah,Aa])
   (fun i hi=>by
    rw[s8l];simp only[t2u,u0b,hi,Ae,Ad,y7t hi,zTn,y7l (show i<4611686018427387904 by omega)]
    cases decide ((rdL u0q e.1.2.1 i).1=t.1)<;>rfl)
  rw[s2b (t:=u0q) e.1.2.1 (fun x:u0c=> !decide (x.1=t.1))] at L
  exact L
 have I2:∀(j:Int) (t:u0c),u52 (e,j,t,0)=some (bif (e.1.2.2.1.all fun x=> !decide (x.1=t.1)) then .inl (e,j) else .inr false):=fun j t=>by
  have L:=t3r u52 e.1.2.2.1.length (fun i=>(e,j,t,i)) (fun i=>(fun x:u0c=> !decide (x.1=t.1)) (rdL u0q e.1.2.2.1 i)) (.inl (e,j)) (.inr false)
   (by rw[s8m];simp only[t2v,u0b,Am,Ah,Aa])
   (fun i hi=>by
    rw[s8m];simp only[t2v,u0b,hi,Ae,Ad,y7t hi,zTn,y7l (show i<4611686018427387904 by omega)]
    cases decide ((rdL u0q e.1.2.2.1 i).1=t.1)<;>rfl)
  rw[s2b (t:=u0q) e.1.2.2.1 (fun x:u0c=> !decide (x.1=t.1))] at L
  exact L
 have L:=t3r u69 e.2.length (fun i=>(e,i)) (fun i=>(fun t:u0c=>(u7k t&&(decide (t.2.1=1)&&decide (t.2.2.1≤e.1.2.2.2.1)))&&(decide (t.1<e.1.2.2.2.2)&&((e.1.2.1.all fun x=> !decide (x.1=t.1))&&(e.1.2.2.1.all fun x=> !decide (x.1=t.1))))) (rdL u0q e.2 i)&&(decide (i=0) || (fun x y:u0c=>decide (x.1<y.1)) (rdL u0q e.2 (i - 1)) (rdL u0q e.2 i))) (.inl ()) (.inr false)
  (by rw[r1r];simp only[t4r,u0b,Am,Ah,Aa])
  (fun i hi=>by
   have hm:rdL u0q e.2 i∈e.2:=by rw[y8k hi];exact Ag hi
   have ht:=q40 hm
   have hk:=t8s (rdL u0q e.2 i) (by omega)
   have k1:=I1 (i:Int) (rdL u0q e.2 i)
   have k2:=I2 (i:Int) (rdL u0q e.2 i)
   rw[r1r];simp only[t4r,u0b,hi,Ae,Ad,y7t hi,zTn,y7l (show i<4611686018427387904 by omega),q64 (rdL u0q e.2 i).2.2.1 e.1.2.2.2.1,q95 (rdL u0q e.2 i).1 e.1.2.2.2.2,s1s,zOb]
   rw[hk,k1]
   simp only[zOb]
   generalize u7k (rdL u0q e.2 i)=b1
   generalize decide ((rdL u0q e.2 i).2.1=1)=b2
   generalize decide ((rdL u0q e.2 i).2.2.1≤e.1.2.2.2.1)=b3
   generalize decide ((rdL u0q e.2 i).1<e.1.2.2.2.2)=b5
   generalize (e.1.2.1.all fun x=> !decide (x.1=(rdL u0q e.2 i).1))=b6
   generalize (e.1.2.2.1.all fun x=> !decide (x.1=(rdL u0q e.2 i).1))=b7 at k2 ⊢
   have tail:((bif b6 then Sum.inl (e,(i:Int),rdL u0q e.2 i) else Sum.inr false:(u3e×Int×u0c)⊕Bool) |>fun r5=>(match r5 with
    | .inl o6=>(u52 (o6.1,o6.2.1,o6.2.2,0)).bind fun r7=>match r7 with
     | .inl o8=>u69 (o8.1,IntKind.i64.wrap (o8.2+1))
     | .inr z9=>some (.inr z9)
    | .inr z10=>some (.inr z10)))=bif b6&&b7 then u69 (e,((i+1:Nat):Int)) else some (.inr false):=by
    cases b6
    ·rfl
    ·simp only[Ad]
     rw[k2]
     cases b7
     ·rfl
     ·simp only[Ad,zOb,y7l (show i<4611686018427387904 by omega)];rfl
   by_cases h0:i=0
   ·subst h0;simp only[Ae,Ap,Aa,Dx,Cz]
    cases b1<;>cases b2<;>cases b3<;>cases b5<;>try rfl
    exact tail
   ·simp only[h0,Ah,Bh,Ad,Ci,t6w (show i<4611686018427387904 by omega) h0,y7t (show i - 1<e.2.length by omega),zTn,q95 (rdL u0q e.2 (i - 1)).1 (rdL u0q e.2 i).1]
    generalize decide ((rdL u0q e.2 (i - 1)).1<(rdL u0q e.2 i).1)=b4
    cases b1<;>cases b2<;>cases b3<;>cases b5<;>cases b4<;>(first | rfl | (rw[Fy];rfl) | (rw[Cz];exact tail)))
 rw[s8y (t:=u0q) e.2 (fun t:u0c=>(u7k t&&(decide (t.2.1=1)&&decide (t.2.2.1≤e.1.2.2.2.1)))&&(decide (t.1<e.1.2.2.2.2)&&((e.1.2.1.all fun x=> !decide (x.1=t.1))&&(e.1.2.2.1.all fun x=> !decide (x.1=t.1))))) (fun x y:u0c=>decide (x.1<y.1)),j0d] at L
 have hB:=s0l e.1 (by omega)
 rw[p3l];unfold r7w
 rw[hB]
 simp only[zOb,gt4]
 rw[L]
 unfold o3k o67
 cases h1:u7m e.1
 ·rfl
 ·have hbi:q4l (u5a (e.1.2.1++e.1.2.2.1)) e.1.2.2.2.2=true:=by
   have:=p74.mp h1
   exact r8r.mpr ⟨this.below,this.nodup⟩
  cases ha:p5t u0q (fun x y:u0c=>decide (x.1<y.1)) e.2
  ·cases decide (e.2.length≤4)<;>simp
  ·rw[j27 hbi ha]
   cases decide (e.2.length≤4)
   ·rfl
   ·simp only[Ap,Aa,zOb,Bz,Cz]
    cases (e.2.all fun t:u0c=>u7k t&&(decide (t.2.1=1)&&decide (t.2.2.1≤e.1.2.2.2.1)))
    ·rfl
    ·simp only[Bz]
     cases (e.2.all fun t:u0c=>decide (t.1<e.1.2.2.2.2)&&((e.1.2.1.all fun x=> !decide (x.1=t.1))&&(e.1.2.2.1.all fun x=> !decide (x.1=t.1))))<;>rfl
end
section
theorem j95 (n:Nat):decide ((n:Int)=0)=decide (n=0):=by simp
theorem j3o (t:u0c):s58 t=some (noT t):=by
 rw[p3g];unfold r7r noT
 simp only[j95,t5j]
 cases decide (t.1=0)<;>cases decide (t.2.1=0)<;>cases decide (t.2.2.1=0)<;>cases decide (t.2.2.2.1=0)<;>cases decide (t.2.2.2.2.1.length=0)<;>cases decide (t.2.2.2.2.2.1.length=0)<;>cases t.2.2.2.2.2.2.1<;>rfl
theorem j3p (t:u0c):t99 t=some (noT t):=by
 rw[p34];unfold r8i noT
 simp only[j95,t5j]
 cases decide (t.1=0)<;>cases decide (t.2.1=0)<;>cases decide (t.2.2.1=0)<;>cases decide (t.2.2.2.1=0)<;>cases decide (t.2.2.2.2.1.length=0)<;>cases decide (t.2.2.2.2.2.1.length=0)<;>cases t.2.2.2.2.2.2.1<;>rfl
theorem j3l (b:u0j):s3a b=some (noB b):=by
 rw[p05];unfold r3v noB
 simp only[j95]
 cases decide (b.1.length=0)<;>cases decide (b.2.1.length=0)<;>cases decide (b.2.2.1.length=0)<;>cases decide (b.2.2.2.1=0)<;>rfl
theorem j3m (b:u0j):s3g b=some (noB b):=by
 rw[p1o];unfold r4f noB
 simp only[j95]
 cases decide (b.1.length=0)<;>cases decide (b.2.1.length=0)<;>cases decide (b.2.2.1.length=0)<;>cases decide (b.2.2.2.1=0)<;>cases decide (b.2.2.2.2=0)<;>rfl
theorem r9s (r:s67):d1i.wt r=0+(u0q.wt r.2.1+(r.2.2.1.size+(0+j74.wt r.2.2.2.2))):=rfl
theorem q47 (r:s67) (hw:d1i.wt r≤549755813888):t9z r=some (u6z r):=by
 have hb:u0m=1099511627776:=rfl
 have hr:=r9s r
 have k1:=s40 r.2.1 (by omega)
 have k2:=t0b r.2.2.2.2 (by omega)
 have k3:=s4y r.2.2.1 (by omega)
 rw[p28];unfold r7k
 rw[j3o,j3l]
 simp only[k1,k2,k3,q4n,q97,zOb,t5j]
 unfold u6z
 generalize u7k r.2.1=c1
 generalize u7m r.2.2.2.2=c2
 generalize u7b r.2.2.1=c3
 generalize noT r.2.1=c4
 generalize noB r.2.2.2.2=c5
 generalize decide (r.2.2.1.size=0)=c6
 generalize decide (r.2.1.2.1=3)=c7
 generalize decide (r.2.1.2.1=2)=c8
 generalize r.2.2.2.1=c9
 by_cases h1:r.1=1
 ·simp only[h1,Ae,Ad,Bl]
  cases c1<;>cases c5<;>cases c6<;>cases c7<;>cases c9<;>rfl
 ·by_cases h2:r.1=2
  ·simp only[h2,Ae,Ad,Bl]
   cases c1<;>cases c5<;>cases c6<;>cases c8<;>cases c9<;>rfl
  ·by_cases h3:r.1=3
   ·simp only[h3,Ae,Ad,Bl]
    cases c3<;>cases c4<;>cases c5<;>cases c9<;>rfl
   ·by_cases h4:r.1=4
    ·simp only[h4,Ae,Ad,Bl]
     cases c2<;>cases c4<;>cases c6<;>cases c9<;>rfl
    ·simp only[h1,h2,h3,h4,Ah,Aa,Bk]
theorem q48 (r:s67) (hw:d1i.wt r≤549755813888):t94 r=some (u6z r):=by
 have hb:u0m=1099511627776:=rfl
 have hr:=r9s r
 have k1:=t8s r.2.1 (by omega)
 have k2:=s0l r.2.2.2.2 (by omega)
 have k3:=t8p r.2.2.1 (by omega)
 rw[p3s];unfold r74
 simp only[k1,k2,k3,r0h,j3p,j3m,zOb,t5j]
 unfold u6z
 generalize u7k r.2.1=c1
 generalize u7m r.2.2.2.2=c2
 generalize u7b r.2.2.1=c3
 generalize noT r.2.1=c4
 generalize noB r.2.2.2.2=c5
 generalize decide (r.2.2.1.size=0)=c6
 generalize r.2.2.2.1=c9
 by_cases h1:r.1=1
 ·simp only[h1,show inB 1 1 4=true from rfl,Ae,Ad,Bl]
  generalize decide (r.2.1.2.1=3)=c7
  generalize decide (r.2.1.2.1=2)=c8
  cases c1<;>cases c5<;>cases c6<;>cases c7<;>cases c8<;>cases c9<;>rfl
 ·by_cases h2:r.1=2
  ·simp only[h2,show inB 2 1 4=true from rfl,Ae,Ad,Bl]
   generalize decide (r.2.1.2.1=3)=c7
   generalize decide (r.2.1.2.1=2)=c8
   cases c1<;>cases c5<;>cases c6<;>cases c7<;>cases c8<;>cases c9<;>rfl
  ·by_cases h3:r.1=3
   ·simp only[h3,show inB 3 1 4=true from rfl,Ae,Ad,Bl]
    cases c3<;>cases c4<;>cases c5<;>cases c9<;>rfl
   ·by_cases h4:r.1=4
    ·simp only[h4,show inB 4 1 4=true from rfl,Ae,Ad,Bl]
     cases c2<;>cases c4<;>cases c6<;>cases c9<;>rfl
    ·have:inB r.1 1 4=false:=by
      cases h:inB r.1 1 4
      ·rfl
      ·have:=q8v.mp h;omega
     simp only[h1,h2,h3,h4,this,Ah,Aa,Bk,Bh,Ad]
end
section
theorem q26 {α:Type} {P:Prop} [Decidable P] {a b:α} (h:P):(bif decide P then a else b)=a:=by rw[Bb h];rfl
theorem q7t {α:Type} {n:Nat} {a b:α} (h:n≤1099511627776):(bif Nat.ble n z7w then a else b)=a:=by rw[u0x h];rfl
theorem u6j {n:Int} (h0:0≤n) (h1:n≤1000000000):u13 n=some (r9z n):=by
 obtain⟨m,rfl⟩:∃m:Nat,n=m:=⟨n.toNat,by omega⟩
 rw[p4f m (by omega)];rfl
theorem o6g {n:Int} (h0:0≤n) (h1:n≤1000000000):t2e n=some (r9z n,true):=by
 rw[r69,Al ⟨h0,h1⟩];rfl
theorem t8r {s:Hs} (h:s.size≤10000):u3n s=some (u00 s):=by
 rw[p33];unfold r8h
 rw[u6j (by omega) (by omega)]
 simp only[zOb]
 have:=u14 (n:=(s.size:Int)) (by omega)
 rw[q26 (by omega)];rfl
theorem o8a {s:Hs} (h:s.size≤10000):t8b s=some (u00 s,true):=by
 rw[o2i s (by omega),Ao (by omega)]
theorem p1w (b:Bool):t5r b=some (o5m b):=by
 rw[o0u];unfold q6a
 cases b<;>rfl
theorem q7b {r:s3m} (h:r.1.size≤100∧r.2.size≤100):(o40 r).size≤204:=by
 have q1:=u04 (s:=r.1) (by omega)
 have q2:=u04 (s:=r.2) (by omega)
 unfold o40;rw[Af];omega
theorem s1p {E:Type} (f:E→Hs) (l:Hu E) (s:Hs):l.foldl (fun s x=>s++f x) s=s++r6r f l:=q6i f l s
theorem r68 (t:u0c) (ht:u0q.wt t≤549755813888):s11 t=some (if u7k t=true then(t19 t,true) else(emp,false)):=by
 have hb:u0m=1099511627776:=rfl
 rw[p6z];unfold q2i
 rw[t8s t (by omega)]
 simp only[zOb]
 cases hc:u7k t
 ·rfl
 ·have h:=q7i.mp hc
  obtain⟨z1,z2,z3,z4,z5⟩:=h.small
  have hi:=h.id;have hst:=h.st;have hsn:=h.snap;have hrl:=h.rlen
  have v1:=u14 (n:=t.1) (by omega)
  have v2:=u14 (n:=t.2.1) (by omega)
  have v3:=u14 (n:=t.2.2.1) (by omega)
  have v4:=u14 (n:=t.2.2.2.1) (by omega)
  have v5:=u14 (n:=(t.2.2.2.2.1.length:Int)) (by omega)
  have v6:=u14 (n:=(t.2.2.2.2.2.1.length:Int)) (by omega)
  have v7:=u04 (s:=t.2.2.2.2.2.2.2) (by omega)
  have L1:∀A:Hs,A.size≤1000→t1q (t,A,0)=some (.inl (t,A++r6r o40 t.2.2.2.2.1)):=fun A hA=>by
   have:=u8w t1q t.2.2.2.2.1 (fun(A:Hs) i=>(t,A,i)) (fun A r=>A++o40 r) (fun A=> .inl (t,A)) (fun i A=>A.size≤1000+i*204)
    (fun A _=>by rw[r6j];simp only[t7o,u0b,Am,Ah,Aa])
    (fun i hi A hP=>by
     have hr:=z1 _ (Ag hi)
     have hs:=q7b (r:=t.2.2.2.2.1[i]) (by omega)
     have hs' :=hs
     unfold o40 at hs'
     rw[Af] at hs'
     refine⟨by rw[Af,C7];omega,?_⟩
     rw[r6j];simp only[t7o,u0b,hi,Ae,Ad,y7t hi,zTn,y8k (t:=t3b) hi,y7l (show i<4611686018427387904 by omega)]
     rw[t8r (by omega),t8r (by omega)]
     simp only[zOb]
     rw[q26 (by omega),q26 (by rw[Af];omega),u88];rfl) A (by omega)
   rw[s1p] at this
   exact this
  have L2:∀A:Hs,A.size≤10000→u9j (t,A,0)=some (.inl (t,A++r6r wrT t.2.2.2.2.2.1)):=fun A hA=>by
   have:=u8w u9j t.2.2.2.2.2.1 (fun(A:Hs) i=>(t,A,i)) (fun A r=>A++wrT r) (fun A=> .inl (t,A)) (fun i A=>A.size≤10000+i*304)
    (fun A _=>by rw[r2a];simp only[t41,u0b,Am,Ah,Aa])
    (fun i hi A hP=>by
     have hr:=z2 _ (Ag hi)
     have q1:=u04 (s:=(t.2.2.2.2.2.1[i]).1) (by omega)
     have q2:=u04 (s:=(t.2.2.2.2.2.1[i]).2.1) (by omega)
     have q3:=u3i (t.2.2.2.2.2.1[i]).2.2
     refine⟨by unfold wrT;simp only[Af,C7];omega,?_⟩
     rw[r2a];simp only[t41,u0b,hi,Ae,Ad,y7t hi,zTn,y8k (t:=u2i) hi,y7l (show i<4611686018427387904 by omega)]
     rw[t8r (by omega),t8r (by omega),p1w]
     simp only[zOb]
     rw[q26 (by omega),q26 (by rw[Af];omega),q26 (by simp only[Af];omega),u88,u88];rfl) A (by omega)
   rw[s1p] at this
   exact this
  have n1:(r6r o40 t.2.2.2.2.1).size≤t.2.2.2.2.1.length*204:=t9s fun r hr=>q7b (by have:=z1 r hr;omega)
  have n2:(r6r wrT t.2.2.2.2.2.1).size≤t.2.2.2.2.2.1.length*304:=t9s fun w hw=>by
   have:=z2 w hw
   have q1:=u04 (s:=w.1) (by omega)
   have q2:=u04 (s:=w.2.1) (by omega)
   unfold wrT;rw[Af,Af,u3i];omega
  simp only[Ap,Aa,Bl]
  rw[u6j (n:=t.1) (by omega) (by omega),u6j (n:=t.2.1) (by omega) (by omega),u6j (n:=t.2.2.1) (by omega) (by omega),u6j (n:=t.2.2.2.1) (by omega) (by omega),u6j (n:=(t.2.2.2.2.1.length:Int)) (by omega) (by omega)]
  simp only[zOb]
  rw[q26 (by omega),q26 (by simp only[Af];omega),q26 (by simp only[Af];omega),q26 (by simp only[Af];omega),L1 _ (by simp only[Af];omega)]
  simp only[zOb]
  rw[u6j (n:=(t.2.2.2.2.2.1.length:Int)) (by omega) (by omega)]
  simp only[zOb]
  rw[q26 (by simp only[Af];omega),L2 _ (by simp only[Af];omega)]
  simp only[zOb]
  rw[p1w,t8r (by omega)]
  simp only[zOb]
  rw[q26 (by simp only[Af,u3i];omega),q26 (by simp only[Af,u3i];omega)]
  unfold t19
  simp only[u88]
theorem j1y {l:Hu u0c} {t:u0c} (h:t∈l) (hl:(Ty.sl u0q).wt l≤549755813888):u0q.wt t≤549755813888:=A9 (q40 h) hl
theorem o2o (l:Hu u0c) (hl:(Ty.sl u0q).wt l≤549755813888) (hn:l.length≤10000) (h:∀t∈l,TxnR t):s14 l=some (r1e l):=by
 have v1:=u14 (n:=(l.length:Int)) (by omega)
 have L:t1u (l,r9z (l.length:Int),0)=some (.inl (r9z (l.length:Int)++r6r t19 l)):=by
  have:=u8w t1u l (fun(A:Hs) i=>(l,A,i)) (fun A r=>A++t19 r) (fun A=> .inl A) (fun i A=>A.size≤2+i*300)
   (fun A _=>by rw[r6o];simp only[t7s,u0b,Am,Ah,Aa])
   (fun i hi A hP=>by
    have hm:=Ag hi
    have hr:=s0c (h _ hm)
    refine⟨by rw[Af,C7];omega,?_⟩
    rw[r6o];simp only[t7s,u0b,hi,Ae,Ad,y7t hi,zTn,y8k (t:=u0q) hi,y7l (show i<4611686018427387904 by omega)]
    rw[r68 _ (j1y hm hl),Al (q7i.mpr (h _ hm))]
    simp only[zOb]
    rw[q26 (by omega)]) (r9z (l.length:Int)) (by omega)
  rw[s1p] at this
  exact this
 rw[p7e];unfold q2y
 rw[u6j (by omega) (by omega)]
 simp only[zOb]
 rw[L];rfl
theorem p87 (b:u0j) (hw:j74.wt b≤549755813888):s6b b=some (if u7m b=true then(s2d b,true) else(emp,false)):=by
 have hbw:=r8n b
 rw[p3k];unfold r7v
 rw[s0l b hw]
 simp only[zOb]
 cases hc:u7m b
 ·rfl
 ·have h:=p74.mp hc
  obtain⟨w1,w2,w3⟩:=j2n.mp h.vs
  have hcs:=h.cs;have hx:=h.next;have hp:=h.plen;have hr:=h.rlen
  have q1:=u14 (n:=b.2.2.2.1) (by omega)
  have q2:=u14 (n:=b.2.2.2.2) (by omega)
  have q3:=u14 (n:=(b.1.length:Int)) (by omega)
  have q4:=t9s (f:=o4s) (k:=22) (l:=b.1) (fun v hv=>q7n (w1 v hv))
  have q5:=s44 (l:=b.2.1) (by omega) (fun t ht=>(h.past t ht).1)
  have q6:=s44 (l:=b.2.2.1) (by omega) (fun t ht=>(h.ready t ht).1)
  have L:∀A:Hs,A.size≤1000→u9e (b,A,0)=some (.inl (b,A++r6r o4s b.1)):=fun A hA=>by
   have:=u8w u9e b.1 (fun(A:Hs) i=>(b,A,i)) (fun A r=>A++o4s r) (fun A=> .inl (b,A)) (fun i A=>A.size≤1000+i*22)
    (fun A _=>by rw[r1q];simp only[t4q,u0b,Am,Ah,Aa])
    (fun i hi A hP=>by
     have hm:=w1 _ (Ag hi)
     have hr:=q7n hm
     have hv:=s6q hm
     have s1:=u04 (s:=(b.1[i]).1) (by omega)
     have s2:=u04 (s:=(b.1[i]).2.1) (by omega)
     have s3:=u3i (b.1[i]).2.2.1
     have s4:=u14 (n:=(b.1[i]).2.2.2) (by omega)
     refine⟨by rw[Af,C7];omega,?_⟩
     rw[r1q];simp only[t4q,u0b,hi,Ae,Ad,y7t hi,zTn,y8k (t:=u0d) hi,y7l (show i<4611686018427387904 by omega)]
     rw[t8r (by omega),t8r (by omega),p1w,u6j (by omega) (by omega)]
     simp only[zOb]
     rw[q26 (by omega),q26 (by simp only[Af];omega),q26 (by simp only[Af];omega),q26 (by simp only[Af];omega)]
     unfold o4s
     simp only[u88]) A (by omega)
   rw[s1p] at this
   exact this
  simp only[Ap,Aa,Bl]
  rw[u6j (n:=b.2.2.2.1) (by omega) (by omega),u6j (n:=b.2.2.2.2) (by omega) (by omega),u6j (n:=(b.1.length:Int)) (by omega) (by omega)]
  simp only[zOb]
  rw[q26 (by omega),q26 (by simp only[Af];omega),L _ (by simp only[Af];omega)]
  simp only[zOb]
  rw[o2o b.2.1 (by omega) (by omega) (fun t ht=>(h.past t ht).1),o2o b.2.2.1 (by omega) (by omega) (fun t ht=>(h.ready t ht).1)]
  simp only[zOb]
  rw[q26 (by simp only[Af];omega),q26 (by simp only[Af];omega)]
  unfold s2d
  simp only[u88]
end
section
theorem s5x (A:Hs) (ns:Hu Int) (hn:∀n∈ns,0≤n∧n<16384) (hl:ns.length≤10) (hA:A.size≤1000000):u5u (z7t A,ns)=some (z7t (A++r6r r9z ns)):=by
 have:=u8w t5d ns (fun(A:Hs) i=>(z7t A,ns,(ns.length:Int),i)) (fun A n=>A++r9z n) (fun A=> .inl (z7t A)) (fun i A=>A.size≤1000000+i*2)
  (fun A _=>by rw[r1p];simp only[t4p,u0b,Am,Ah,Aa])
  (fun i hi A hP=>by
   have hm:=hn _ (Ag hi)
   have hv:=u14 (n:=ns[i]) hm.2
   refine⟨by rw[Af,C7];omega,?_⟩
   rw[r1p];simp only[t4p,u0b,hi,Ae,Ad,y7t hi,zTn,y8k (t:=Ty.int .i64) hi,y7l (show i<4611686018427387904 by omega)]
   rw[o6g hm.1 (by omega)]
   simp only[zOb]
   rw[q7t (by rw[u7w,u7w];omega),t8w]) A (by omega)
 rw[s1p] at this
 rw[p3h];unfold r7s
 simp only
 rw[this];rfl
theorem s2n (A:Hs) (ns:Hu Hs) (hn:∀n∈ns,n.size≤100) (hl:ns.length≤10) (hA:A.size≤1000000):u6f (z7t A,ns)=some (z7t (A++r6r u00 ns)):=by
 have:=u8w t25 ns (fun(A:Hs) i=>(z7t A,ns,(ns.length:Int),i)) (fun A n=>A++u00 n) (fun A=> .inl (z7t A)) (fun i A=>A.size≤1000000+i*102)
  (fun A _=>by rw[s8j];simp only[t2s,u0b,Am,Ah,Aa])
  (fun i hi A hP=>by
   have hm:=hn _ (Ag hi)
   have hv:=u04 (s:=ns[i]) (by omega)
   refine⟨by rw[Af,C7];omega,?_⟩
   rw[s8j];simp only[t2s,u0b,hi,Ae,Ad,y7t hi,zTn,y8k (t:=Ty.str) hi,y7l (show i<4611686018427387904 by omega)]
   rw[o8a (by omega)]
   simp only[zOb]
   rw[q7t (by rw[u7w,u7w];omega),t8w]) A (by omega)
 rw[s1p] at this
 rw[p09];unfold r3z
 simp only
 rw[this];rfl
theorem s71 (A:Hs) (b:Bool) (hA:A.size≤1000000):u7z (z7t A,b)=some (z7t (A++o5m b)):=by
 rw[p08];unfold r3y
 have e:z7t (o5m b)= [if b then 1 else 0] :=by cases b<;>rfl
 rw[t8w,e]
 cases b
 ·simp only[Aa]
  rw[q7t (by rw[u7w];simp;omega)];rfl
 ·simp only[Ad]
  rw[q7t (by rw[u7w];simp;omega)];rfl
theorem p0b (ns:Hu Int) (hn:∀n∈ns,0≤n∧n<16384) (hl:ns.length≤10):u5u (([] :Hu Int),ns)=some (z7t (r6r r9z ns)):=by
 have:=s5x emp ns hn hl (by simp[emp,ByteArray.size])
 rw[o5r] at this
 exact this
theorem r2n {E:Type} (f:E→Hs) (a:E):r6r f [a] =f a:=by rw[s5g,p9s,o5j]
theorem p1y {E:Type} (f:E→Hs) (a b:E):r6r f [a,b] =f a++f b:=by rw[s5g,r2n]
theorem p75 {E:Type} (f:E→Hs) (a b c:E):r6r f [a,b,c] =f a++(f b++f c):=by rw[s5g,p1y]
theorem j0l {E:Type} (f:E→Hs) (a b c d e:E):r6r f [a,b,c,d,e] =f a++(f b++(f c++(f d++f e))):=by rw[s5g,s5g,p75]
theorem s18 (t:u0c) (ht:u0q.wt t≤549755813888):t2d t=some (if u7k t=true then(t19 t,true) else(emp,false)):=by
 have hb:u0m=1099511627776:=rfl
 rw[p6c];unfold q1v
 rw[s40 t (by omega)]
 simp only[zOb]
 cases hc:u7k t
 ·rfl
 ·have h:=q7i.mp hc
  obtain⟨z1,z2,z3,z4,z5⟩:=h.small
  have hi:=h.id;have hst:=h.st;have hsn:=h.snap;have hrl:=h.rlen
  have v1:=u14 (n:=t.1) (by omega)
  have v2:=u14 (n:=t.2.1) (by omega)
  have v3:=u14 (n:=t.2.2.1) (by omega)
  have v4:=u14 (n:=t.2.2.2.1) (by omega)
  have v5:=u14 (n:=(t.2.2.2.2.1.length:Int)) (by omega)
  have v6:=u14 (n:=(t.2.2.2.2.2.1.length:Int)) (by omega)
  have v7:=u04 (s:=t.2.2.2.2.2.2.2) (by omega)
  have L1:∀A:Hs,A.size≤1000→t1f (t,z7t A,t.2.2.2.2.1,(t.2.2.2.2.1.length:Int),0)=some (.inl (t,z7t (A++r6r o40 t.2.2.2.2.1))):=fun A hA=>by
   have:=u8w t1f t.2.2.2.2.1 (fun(A:Hs) i=>(t,z7t A,t.2.2.2.2.1,(t.2.2.2.2.1.length:Int),i)) (fun A r=>A++o40 r) (fun A=> .inl (t,z7t A)) (fun i A=>A.size≤1000+i*204)
    (fun A _=>by rw[r51];simp only[t68,u0b,Am,Ah,Aa])
    (fun i hi A hP=>by
     have hr:=z1 _ (Ag hi)
     have hs:=q7b (r:=t.2.2.2.2.1[i]) (by omega)
     refine⟨by rw[Af,C7];omega,?_⟩
     rw[r51];simp only[t68,u0b,hi,Ae,Ad,y7t hi,zTn,y8k (t:=t3b) hi,y7l (show i<4611686018427387904 by omega)]
     rw[s2n A [(t.2.2.2.2.1[i]).1,(t.2.2.2.2.1[i]).2] (by intro n hn;simp only[A8,Du,Em] at hn;rcases hn with rfl | rfl<;>omega) (by simp) (by omega)]
     simp only[zOb]
     rw[p1y];rfl) A (by omega)
   rw[s1p] at this
   exact this
  have L2:∀A:Hs,A.size≤10000→u9d (t,z7t A,t.2.2.2.2.2.1,(t.2.2.2.2.2.1.length:Int),0)=some (.inl (t,z7t (A++r6r wrT t.2.2.2.2.2.1))):=fun A hA=>by
   have:=u8w u9d t.2.2.2.2.2.1 (fun(A:Hs) i=>(t,z7t A,t.2.2.2.2.2.1,(t.2.2.2.2.2.1.length:Int),i)) (fun A r=>A++wrT r) (fun A=> .inl (t,z7t A)) (fun i A=>A.size≤10000+i*304)
    (fun A _=>by rw[r1m];simp only[t4m,u0b,Am,Ah,Aa])
    (fun i hi A hP=>by
     have hr:=z2 _ (Ag hi)
     have q1:=u04 (s:=(t.2.2.2.2.2.1[i]).1) (by omega)
     have q2:=u04 (s:=(t.2.2.2.2.2.1[i]).2.1) (by omega)
     have q3:=u3i (t.2.2.2.2.2.1[i]).2.2
     refine⟨by unfold wrT;simp only[Af,C7];omega,?_⟩
     rw[r1m];simp only[t4m,u0b,hi,Ae,Ad,y7t hi,zTn,y8k (t:=u2i) hi,y7l (show i<4611686018427387904 by omega)]
     rw[s2n A [(t.2.2.2.2.2.1[i]).1,(t.2.2.2.2.2.1[i]).2.1] (by intro n hn;simp only[A8,Du,Em] at hn;rcases hn with rfl | rfl<;>omega) (by simp) (by omega)]
     simp only[zOb]
     rw[p1y,s71 _ _ (by simp only[Af];omega)]
     simp only[zOb]
     unfold wrT
     simp only[u88]) A (by omega)
   rw[s1p] at this
   exact this
  have n1:(r6r o40 t.2.2.2.2.1).size≤t.2.2.2.2.1.length*204:=t9s fun r hr=>q7b (by have:=z1 r hr;omega)
  have n2:(r6r wrT t.2.2.2.2.2.1).size≤t.2.2.2.2.2.1.length*304:=t9s fun w hw=>by
   have:=z2 w hw
   have q1:=u04 (s:=w.1) (by omega)
   have q2:=u04 (s:=w.2.1) (by omega)
   unfold wrT;rw[Af,Af,u3i];omega
  simp only[Ap,Aa,Bl]
  rw[p0b [t.1,t.2.1,t.2.2.1,t.2.2.2.1,(t.2.2.2.2.1.length:Int)] (by intro n hn;simp only[A8,Du,Em] at hn;rcases hn with rfl | rfl | rfl | rfl | rfl<;>omega) (by simp)]
  simp only[zOb]
  rw[j0l,L1 _ (by simp only[Af];omega)]
  simp only[zOb]
  rw[s5x _ [(t.2.2.2.2.2.1.length:Int)] (by intro n hn;simp only[A8,Du,Em] at hn;subst hn;omega) (by simp) (by simp only[Af];omega)]
  simp only[zOb]
  rw[r2n,L2 _ (by simp only[Af];omega)]
  simp only[zOb]
  rw[s71 _ _ (by simp only[Af];omega)]
  simp only[zOb]
  rw[s2n _ [t.2.2.2.2.2.2.2] (by intro n hn;simp only[A8,Du,Em] at hn;subst hn;omega) (by simp) (by simp only[Af,u3i];omega)]
  simp only[zOb]
  rw[r2n,t8l]
  unfold t19
  simp only[u88]
theorem p86 (b:u0j) (hw:j74.wt b≤549755813888):s5z b=some (if u7m b=true then(s2d b,true) else(emp,false)):=by
 have hb:u0m=1099511627776:=rfl
 have hbw:=r8n b
 rw[p21];unfold r7d
 rw[t0b b (by omega)]
 simp only[zOb]
 cases hc:u7m b
 ·rfl
 ·have h:=p74.mp hc
  obtain⟨w1,w2,w3⟩:=j2n.mp h.vs
  have hcs:=h.cs;have hx:=h.next;have hp:=h.plen;have hr:=h.rlen
  have q1:=u14 (n:=b.2.2.2.1) (by omega)
  have q2:=u14 (n:=b.2.2.2.2) (by omega)
  have q3:=u14 (n:=(b.1.length:Int)) (by omega)
  have q4:=t9s (f:=o4s) (k:=22) (l:=b.1) (fun v hv=>q7n (w1 v hv))
  have q5:=s44 (l:=b.2.1) (by omega) (fun t ht=>(h.past t ht).1)
  have q6:=s44 (l:=b.2.2.1) (by omega) (fun t ht=>(h.ready t ht).1)
  have L:∀A:Hs,A.size≤1000→u9c (b,z7t A,b.1,(b.1.length:Int),0)=some (.inl (b,z7t (A++r6r o4s b.1))):=fun A hA=>by
   have:=u8w u9c b.1 (fun(A:Hs) i=>(b,z7t A,b.1,(b.1.length:Int),i)) (fun A r=>A++o4s r) (fun A=> .inl (b,z7t A)) (fun i A=>A.size≤1000+i*22)
    (fun A _=>by rw[r1f];simp only[t4f,u0b,Am,Ah,Aa])
    (fun i hi A hP=>by
     have hm:=w1 _ (Ag hi)
     have hr:=q7n hm
     have hv:=s6q hm
     have s1:=u04 (s:=(b.1[i]).1) (by omega)
     have s2:=u04 (s:=(b.1[i]).2.1) (by omega)
     have s3:=u3i (b.1[i]).2.2.1
     refine⟨by rw[Af,C7];omega,?_⟩
     rw[r1f];simp only[t4f,u0b,hi,Ae,Ad,y7t hi,zTn,y8k (t:=u0d) hi,y7l (show i<4611686018427387904 by omega)]
     rw[s2n A [(b.1[i]).1,(b.1[i]).2.1] (by intro n hn;simp only[A8,Du,Em] at hn;rcases hn with rfl | rfl<;>omega) (by simp) (by omega)]
     simp only[zOb]
     rw[p1y,s71 _ _ (by simp only[Af];omega)]
     simp only[zOb]
     rw[s5x _ [(b.1[i]).2.2.2] (by intro n hn;simp only[A8,Du,Em] at hn;subst hn;omega) (by simp) (by simp only[Af];omega)]
     simp only[zOb]
     rw[r2n]
     unfold o4s
     simp only[u88]) A (by omega)
   rw[s1p] at this
   exact this
  have IN:∀(A:Hs) (g:Hu (Hu u0c)) (n k:Int) (l:Hu u0c),A.size≤100000→l.length≤100→(Ty.sl u0q).wt l≤549755813888→(∀t∈l,TxnR t)→
   u77 (z7t A,g,n,k,l,(l.length:Int),0)=some (.inl (z7t (A++r6r t19 l),g,n,k)):=fun A g n k l hA hl hlw hok=>by
   have:=u8w u77 l (fun(A:Hs) i=>(z7t A,g,n,k,l,(l.length:Int),i)) (fun A r=>A++t19 r) (fun A=> .inl (z7t A,g,n,k)) (fun i A=>A.size≤100000+i*300)
    (fun A _=>by rw[s8e];simp only[t2n,u0b,Am,Ah,Aa])
    (fun i hi A hP=>by
     have hm:=Ag hi
     have hr:=s0c (hok _ hm)
     refine⟨by rw[Af,C7];omega,?_⟩
     rw[s8e];simp only[t2n,u0b,hi,Ae,Ad,y7t hi,zTn,y8k (t:=u0q) hi,y7l (show i<4611686018427387904 by omega)]
     rw[s18 _ (j1y hm hlw),Al (q7i.mpr (hok _ hm))]
     simp only[zOb]
     rw[q7t (by rw[u7w,u7w];omega),t8w]) A (by omega)
   rw[s1p] at this
   exact this
  have O:∀A:Hs,A.size≤10000→t23 (z7t A, [b.2.1,b.2.2.1],2,0)=some (.inl (z7t (A++r1e b.2.1++r1e b.2.2.1))):=fun A hA=>by
   have v1:=u14 (n:=(b.2.1.length:Int)) (by omega)
   have v2:=u14 (n:=(b.2.2.1.length:Int)) (by omega)
   have e0:y4q 0 [b.2.1,b.2.2.1].length=true:=rfl
   have e1:y4q 1 [b.2.1,b.2.2.1].length=true:=rfl
   have r0:rdL (Ty.sl u0q) [b.2.1,b.2.2.1] (0:Int).toNat=b.2.1:=rfl
   have r1:rdL (Ty.sl u0q) [b.2.1,b.2.2.1] (1:Int).toNat=b.2.2.1:=rfl
   have w0:IntKind.i64.wrap ((0:Int)+1)=1:=rfl
   have w1:IntKind.i64.wrap ((1:Int)+1)=2:=rfl
   rw[s0d];simp only[u72]
   rw[q26 (by omega),e0,r0,s5x A [(b.2.1.length:Int)] (by intro n hn;simp only[A8,Du,Em] at hn;subst hn;omega) (by simp) (by omega)]
   simp only[Ad,zOb]
   rw[r2n,IN _ _ _ _ b.2.1 (by simp only[Af];omega) (by omega) (by omega) (fun t ht=>(h.past t ht).1)]
   simp only[zOb]
   rw[w0,s0d];simp only[u72]
   have n1:(A++r9z (b.2.1.length:Int)++r6r t19 b.2.1).size≤20000:=by
    have:A++r9z (b.2.1.length:Int)++r6r t19 b.2.1=A++r1e b.2.1:=by unfold r1e;rw[u88]
    rw[this,Af];omega
   rw[q26 (by omega),e1,r1,s5x _ [(b.2.2.1.length:Int)] (by intro n hn;simp only[A8,Du,Em] at hn;subst hn;omega) (by simp) (by omega)]
   simp only[Ad,zOb]
   rw[r2n,IN _ _ _ _ b.2.2.1 (by rw[Af];omega) (by omega) (by omega) (fun t ht=>(h.ready t ht).1)]
   simp only[zOb]
   rw[w1,s0d];simp only[u72]
   unfold r1e
   simp[u88]
  simp only[Ap,Aa,Bl]
  rw[p0b [b.2.2.2.1,b.2.2.2.2,(b.1.length:Int)] (by intro n hn;simp only[A8,Du,Em] at hn;rcases hn with rfl | rfl | rfl<;>omega) (by simp)]
  simp only[zOb]
  rw[p75,L _ (by simp only[Af];omega)]
  simp only[zOb]
  have e2:(([b.2.1,b.2.2.1] :Hu (Hu u0c)).length:Int)=2:=rfl
  rw[e2,O _ (by simp only[Af];omega)]
  simp only[zOb]
  rw[t8l]
  unfold s2d
  simp only[u88]
end
section
theorem o7k {W:Int×Hs×Int×Int→Ht ((Int×Hs×Int)⊕Unit)}
 (hW:∀x,W x=(bif decide (x.2.2.2<(8:Int)) then(bif decide (Int.tmod x.1 (2:Int)=(1:Int)) then W (IntKind.u32.wrap ((BitVec.ofInt IntKind.u32.bits (IntKind.u32.wrap (Int.tdiv x.1 (2:Int)))^^^BitVec.ofInt IntKind.u32.bits (3558460437:Int)).toNat:Int),x.2.1,x.2.2.1,IntKind.i64.wrap (x.2.2.2+(1:Int)))
  else W (IntKind.u32.wrap (Int.tdiv x.1 (2:Int)),x.2.1,x.2.2.1,IntKind.i64.wrap (x.2.2.2+(1:Int)))) else some (.inl (x.1,x.2.1,x.2.2.1)))) (t:Hs) (k:Int):
 ∀(n:Nat) (x:Int) (i:Nat),i+n=8→W (x,t,k,(i:Int))=some (.inl (p48 n x,t,k)):=by
 intro n
 induction n with
 | zero=>
  intro x i hi
  have:i=8:=by omega
  subst this
  rw[hW];rfl
 | succ n ih=>
  intro x i hi
  rw[hW]
  simp only
  rw[q26 (by omega),y7l (by omega),ih _ (i+1) (by omega),ih _ (i+1) (by omega)]
  rw[show p48 (n+1) x=p48 n (j1v x) from rfl]
  unfold j1v j6x
  cases decide (Int.tmod x 2=1)<;>rfl
theorem o7l (f:Int→UInt8→Int) (t:Hs) {W:Int×Hs×Int→Ht (Int⊕Unit)} (ht:t.size≤1099511627776)
 (hend:∀x,W (x,t,(t.size:Int))=some (.inl x))
 (hstep:∀(i:Nat),i<t.size→ ∀x,W (x,t,(i:Int))=W (f x (t.data.toList.getD i 0),t,((i+1:Nat):Int))) (x:Int):W (x,t,0)=some (.inl (t.data.toList.foldl f x)):=by
 have e:t.size=t.data.toList.length:=q4d t
 exact u8w W t.data.toList (fun x i=>(x,t,i)) f (fun x=> .inl x) (fun _ _=>True) (fun x _=>by rw[←e];exact hend x)
  (fun i hi x _=>⟨trivial,by
   rw[hstep i (by rw[e];exact hi) x]
   congr 2
   rw[A5,A4 hi];rfl⟩) x trivial
theorem o2j (x:Int) (t:Hs) (ht:t.size≤1099511627776):s86 (x,t)=some (t.data.toList.foldl p49 x):=by
 have L:=o7l p49 t (W:=t7v) ht
  (fun x=>by rw[r5w];simp only[t63,u0b,Am,Ah,Aa])
  (fun i hi x=>by
   rw[r5w];simp only[t63,u0b,hi,Ae,Ad,y7t hi,zTn]
   have:=o7k (W:=t7w) (fun x=>p1t x) t (i:Int) 8 (j6x x (IntKind.u32.wrap ((t.data.toList.getD i 0).toNat:Int))) 0 rfl
   unfold j6x at this
   rw[show((0:Nat):Int)=0 from rfl] at this
   rw[this]
   simp only[zOb,y7l (show i<4611686018427387904 by omega)]
   rfl) x
 rw[p58];unfold q1r
 simp only[L,zOb]
theorem q9e (x:Int) (t:Hs) (ht:t.size≤1099511627776):s9f (x,t)=some (t.data.toList.foldl p49 x):=by
 have L:=o7l p49 t (W:=t72) ht
  (fun x=>by rw[r6f];simp only[t7k,u0b,Am,Ah,Aa])
  (fun i hi x=>by
   rw[r6f];simp only[t7k,u0b,hi,Ae,Ad,y7t hi,zTn]
   have:=o7k (W:=t73) (fun x=>p1v x) t (i:Int) 8 (j6x x (IntKind.u32.wrap ((t.data.toList.getD i 0).toNat:Int))) 0 rfl
   unfold j6x at this
   rw[show((0:Nat):Int)=0 from rfl] at this
   rw[this]
   simp only[zOb,y7l (show i<4611686018427387904 by omega)]
   rfl) x
 rw[p6v];unfold q2e
 simp only[L,zOb]
theorem s48 (t:Hs) (ht:t.size≤1099511627776):t5o t=some (p43 t):=by
 rw[p93];unfold q5i p43
 have e1:decide ((t.size:Int) >20000)= !decide (t.size≤20000):=by by_cases h:t.size≤20000<;>simp[h] <;>omega
 rw[e1,o24];unfold q9m
 rw[o2j _ _ ht]
 simp only[zOb]
 by_cases h:t.size≤20000
 ·rw[Bb h,Al h]
  simp only[Ap,Aa]
  rw[q26 (by rw[u35];simp;omega)]
  rfl
 ·rw[A7 h,Ao h];rfl
theorem r2j (t:Hs) (ht:t.size≤1099511627776):t95 t=some (p43 t):=by
 rw[o0o];unfold q54 p43
 have e1:decide ((t.size:Int) >20000)= !decide (t.size≤20000):=by by_cases h:t.size≤20000<;>simp[h] <;>omega
 rw[e1,q92];unfold r78
 rw[q9e _ _ ht]
 simp only[zOb]
 rw[q3a];unfold q2o
 simp only[zOb]
 by_cases h:t.size≤20000
 ·rw[Bb h,Al h]
  simp only[Ap,Aa]
  rw[q26 (by rw[u35];simp;omega)]
  rfl
 ·rw[A7 h,Ao h];rfl
theorem t0x (k:Int):(y7g [k]).size=1:=u35 _
theorem q0j {k:Int} (h0:0≤k) (h1:k≤255): [IntKind.u8.wrap k] =z7t (y7g [IntKind.u8.wrap k]):=by
 obtain⟨n,rfl⟩:∃n:Nat,k=n:=⟨k.toNat,by omega⟩
 rw[o6h,show((n:Int) % 256)=n by omega]
 unfold z7t y7g
 simp
 omega
theorem t3m (r:s67) (hw:d1i.wt r≤549755813888):u33 r=some (u1h r):=by
 have hr:=r9s r
 rw[q8m];unfold s93 u1h
 rw[q48 r hw]
 simp only[zOb]
 cases hc:u6z r
 ·rfl
 ·have h:=j44.mp hc
  have hz:=s41 h
  simp only[Ap,Aa,Bl]
  cases h with
  | thr t h hs=>
   have:=s0c h
   have ht:=r68 t (by have:u0q.wt t≤d1i.wt (1,t,emp,false,u2s):=by rw[hr];simp only;omega
                      omega)
   rw[Al (q7i.mpr h)] at ht
   simp only[Int.reduceEq,Ae,Ah,Ad,Aa]
   rw[ht]
   simp only[zOb]
   rw[q26 (by rw[t0x];omega),r2j _ (by rw[Af,t0x];omega)]
   rfl
  | rdy t h hs=>
   have:=s0c h
   have ht:=r68 t (by have:u0q.wt t≤d1i.wt (2,t,emp,false,u2s):=by rw[hr];simp only;omega
                      omega)
   rw[Al (q7i.mpr h)] at ht
   simp only[Int.reduceEq,Ae,Ah,Ad,Aa]
   rw[ht]
   simp only[zOb]
   rw[q26 (by rw[t0x];omega),r2j _ (by rw[Af,t0x];omega)]
   rfl
  | fin n y h=>
   have:=u3f h
   have q:=u04 (s:=n) (by omega)
   simp only[Int.reduceEq,Ae,Ah,Ad,Aa]
   rw[t8r (by omega)]
   simp only[zOb]
   rw[q26 (by rw[t0x];omega),p1w]
   simp only[zOb]
   rw[q26 (by simp only[Af,t0x,u3i];omega),r2j _ (by simp only[Af,t0x,u3i];omega),u88]
   rfl
  | bas b h=>
   have:=q74 h
   have a1:=(j2n.mp h.vs).2.2
   have a2:=h.plen
   have a3:=h.rlen
   have ht:=p87 b (by have:j74.wt b≤d1i.wt (4,u5j,emp,false,b):=by rw[hr];simp only;omega
                      omega)
   rw[Al (p74.mpr h)] at ht
   simp only[Int.reduceEq,Ae,Ah,Ad,Aa]
   rw[ht]
   simp only[zOb]
   rw[q26 (by rw[t0x];omega),r2j _ (by rw[Af,t0x];omega)]
   rfl
theorem s47 (r:s67) (hw:d1i.wt r≤549755813888):u9r r=some (u1h r):=by
 have hr:=r9s r
 rw[q8c];unfold s9t u1h
 rw[q47 r hw]
 simp only[zOb]
 cases hc:u6z r
 ·rfl
 ·have h:=j44.mp hc
  have hz:=s41 h
  simp only[Ap,Aa,Bl]
  cases h with
  | thr t h hs=>
   have:=s0c h
   have ht:=s18 t (by have:u0q.wt t≤d1i.wt (1,t,emp,false,u2s):=by rw[hr];simp only;omega
                      omega)
   rw[Al (q7i.mpr h)] at ht
   simp only[Int.reduceEq,Ae,Ah,Ad,Aa]
   rw[ht]
   simp only[zOb]
   rw[q7t (by rw[u7w];simp;omega),q0j (k:=1) (by omega) (by omega),←t8w,t8l,s48 _ (by rw[Af,t0x];omega)]
   rfl
  | rdy t h hs=>
   have:=s0c h
   have ht:=s18 t (by have:u0q.wt t≤d1i.wt (2,t,emp,false,u2s):=by rw[hr];simp only;omega
                      omega)
   rw[Al (q7i.mpr h)] at ht
   simp only[Int.reduceEq,Ae,Ah,Ad,Aa]
   rw[ht]
   simp only[zOb]
   rw[q7t (by rw[u7w];simp;omega),q0j (k:=2) (by omega) (by omega),←t8w,t8l,s48 _ (by rw[Af,t0x];omega)]
   rfl
  | fin n y h=>
   have:=u3f h
   have q:=u04 (s:=n) (by omega)
   simp only[Int.reduceEq,Ae,Ah,Ad,Aa]
   rw[q0j (k:=3) (by omega) (by omega),s2n _ [n] (by intro m hm;simp only[A8,Du,Em] at hm;subst hm;omega) (by simp) (by rw[t0x];omega)]
   simp only[zOb]
   rw[r2n,s71 _ _ (by rw[Af,t0x];omega)]
   simp only[zOb]
   rw[t8l,s48 _ (by simp only[Af,t0x,u3i];omega),u88]
   rfl
  | bas b h=>
   have:=q74 h
   have a1:=(j2n.mp h.vs).2.2
   have a2:=h.plen
   have a3:=h.rlen
   have ht:=p86 b (by have:j74.wt b≤d1i.wt (4,u5j,emp,false,b):=by rw[hr];simp only;omega
                      omega)
   rw[Al (p74.mpr h)] at ht
   simp only[Int.reduceEq,Ae,Ah,Ad,Aa]
   rw[ht]
   simp only[zOb]
   rw[q7t (by rw[u7w];simp;omega),q0j (k:=4) (by omega) (by omega),←t8w,t8l,s48 _ (by rw[Af,t0x];omega)]
   rfl
end
section
def inT (s:Hs) (c:Cur):Prop:=0≤c.1∧c.1≤(s.size:Int)
def bad (c:Cur) (k:Int):Int:=if c.2=true then k else 0
theorem u19 {s:Hs} {c:Cur} (h:inT s c):inT s (u2n s c).2∧0≤(u2n s c).1∧(u2n s c).1≤1000000000∧c.1+1≤(u2n s c).2.1+bad (u2n s c).2 1:=by
 unfold u2n
 split
 ·refine⟨h,by simp,by simp,?_⟩
  simp only[bad,Bl];omega
 ·rename_i q
  simp only[Hr,Ey,Bool.not_eq_false] at q
  have:=t81 q.2
  refine⟨⟨?_,?_⟩,?_,?_,?_⟩
  ·simp only;omega
  ·simp only;omega
  ·simp only;omega
  ·simp only;omega
  ·simp only[bad,Br,Bk];omega
theorem p7q {t:Hs} {a:Int} (h:(u0o t a).2.2=true):a+1+((u0o t a).1.size:Int)≤(u0o t a).2.1∧0≤a:=by
 unfold u0o at h ⊢
 split at h
 ·rename_i hc
  rw[Al hc]
  have:=t81 hc.1
  simp only[Bd]
  omega
 ·cases h
theorem u8i {s:Hs} {c:Cur} (h:inT s c):inT s (u2x s c).2∧c.1+1+((u2x s c).1.size:Int)≤(u2x s c).2.1+bad (u2x s c).2 1:=by
 unfold u2x
 split
 ·refine⟨h,?_⟩
  simp only[bad,Bl,emp,ByteArray.size];simp
 ·rename_i q
  simp only[Hr,Ey,Bool.not_eq_false] at q
  have h1:=r9p q.2
  have h2:=p7q q.2
  refine⟨⟨?_,?_⟩,?_⟩
  ·simp only;omega
  ·simp only;omega
  ·simp only[bad,Br,Bk];omega
theorem o7e {s:Hs} {c:Cur} (h:inT s c):inT s (q7v s c).2∧c.1+1≤(q7v s c).2.1+bad (q7v s c).2 1:=by
 unfold q7v
 split
 ·refine⟨h,?_⟩
  simp only[bad,Bl];omega
 ·rename_i q
  simp only[Hr,Decidable.not_not] at q
  unfold inT
  simp only[bad,Br,Bk];omega
theorem u9m (c:Cur) {k:Int} (hk:0≤k):0≤bad c k∧bad c k≤k:=by unfold bad;split<;>omega
theorem q6h {c c' :Cur} (h:c.2=true→c'.2=true) {k:Int} (hk:0≤k):bad c k≤bad c' k:=by
 unfold bad
 by_cases q:c.2=true
 ·rw[Al q,Al (h q)];omega
 ·rw[Ao q];split<;>omega
def j5p {E:Type} (w:E→Nat) (k:Int) (s:Hs) (f:Cur→E×Cur):Prop:= ∀c,inT s c→inT s (f c).2∧c.1+1+(w (f c).1:Int)≤(f c).2.1+bad (f c).2 k
theorem t6u {E:Type} {w:E→Nat} {k:Int} {s:Hs} {f:Cur→E×Cur} (hk:0≤k) (hf:j5p w k s f):∀(n:Nat) (c:Cur) (a:Hu E),inT s c→
 inT s (u2z f n c a).2∧c.1+((u2z f n c a).1.length+((u2z f n c a).1.map w).sum:Nat)≤(u2z f n c a).2.1+(a.length+(a.map w).sum:Nat)+bad (u2z f n c a).2 k
 | 0,c,a,h=>⟨h,by have:=u9m (u2z f 0 c a).2 hk;simp only[u2z] at*;omega⟩
 | n+1,c,a,h=>by
  simp only[u2z]
  split
  ·exact⟨h,by have:=u9m c hk;simp only;omega⟩
  ·obtain⟨h1,h2⟩:=hf c h
   obtain⟨h3,h4⟩:=t6u hk hf n (f c).2 (a++ [(f c).1]) h1
   refine⟨h3,?_⟩
   have e1:(a++ [(f c).1]).length=a.length+1:=by simp
   have e2:((a++ [(f c).1]).map w).sum=(a.map w).sum+w (f c).1:=by simp
   rw[e1,e2] at h4
   have hm:bad (f c).2 k≤bad (u2z f n (f c).2 (a++ [(f c).1])).2 k∧(bad (f c).2 k≠0→u2z f n (f c).2 (a++ [(f c).1])=(a++ [(f c).1],(f c).2)):=by
    by_cases q:(f c).2.2=true
    ·rw[t6t q];exact⟨Bv _,fun _=>rfl⟩
    ·have:bad (f c).2 k=0:=by unfold bad;rw[Ao q]
     rw[this];exact⟨(u9m _ hk).1,fun h=>absurd rfl h⟩
   by_cases z:bad (f c).2 k=0
   ·omega
   ·have e:=hm.2 z
    rw[e]
    simp only[e1,e2]
    omega
theorem r9k (s:Hs):j5p t3b.wt 2 s (o1b s):=fun c h=>by
 obtain⟨h1,h2⟩:=u8i h
 obtain⟨h3,h4⟩:=u8i h1
 have b1:=q6h (c:=(u2x s c).2) (c' :=(u2x s (u2x s c).2).2) r1c (k:=1) (by omega)
 have b2:bad (u2x s (u2x s c).2).2 2=2*bad (u2x s (u2x s c).2).2 1:=by unfold bad;split<;>omega
 refine⟨h3,?_⟩
 have e:t3b.wt (o1b s c).1=(u2x s c).1.size+(u2x s (u2x s c).2).1.size:=rfl
 have e2:(o1b s c).2=(u2x s (u2x s c).2).2:=rfl
 rw[e,e2];omega
theorem q7a (s:Hs):j5p u2i.wt 3 s (rWr s):=fun c h=>by
 obtain⟨h1,h2⟩:=u8i h
 obtain⟨h3,h4⟩:=u8i h1
 obtain⟨h5,h6⟩:=o7e h3
 have b1:=q6h (c:=(u2x s c).2) (c' :=(u2x s (u2x s c).2).2) r1c (k:=1) (by omega)
 have b2:=q6h (c:=(u2x s (u2x s c).2).2) (c' :=(q7v s (u2x s (u2x s c).2).2).2) q69 (k:=1) (by omega)
 have b3:bad (q7v s (u2x s (u2x s c).2).2).2 3=3*bad (q7v s (u2x s (u2x s c).2).2).2 1:=by unfold bad;split<;>omega
 refine⟨h5,?_⟩
 have e:u2i.wt (rWr s c).1=(u2x s c).1.size+((u2x s (u2x s c).2).1.size+0):=rfl
 have e2:(rWr s c).2=(q7v s (u2x s (u2x s c).2).2).2:=rfl
 rw[e,e2];omega
theorem r9m (s:Hs):j5p u0d.wt 4 s (o1d s):=fun c h=>by
 obtain⟨h1,h2⟩:=q7a s c h
 obtain⟨h3,h4,h5,h6⟩:=u19 h1
 have b1:=q6h (c:=(rWr s c).2) (c' :=(u2n s (rWr s c).2).2) t02 (k:=3) (by omega)
 have b3:bad (u2n s (rWr s c).2).2 4=bad (u2n s (rWr s c).2).2 1+bad (u2n s (rWr s c).2).2 3:=by unfold bad;split<;>omega
 refine⟨h3,?_⟩
 have e:u0d.wt (o1d s c).1=u2i.wt (rWr s c).1:=rfl
 have e2:(o1d s c).2=(u2n s (rWr s c).2).2:=rfl
 rw[e,e2];omega
theorem p4u (m:Nat) (s:Hs):j5p u0q.wt 20 s (p11 m s):=fun c h=>by
 unfold p11
 simp only
 obtain⟨a1,a2,a3,a4⟩:=u19 h
 generalize hA:u2n s c=A at a1 a2 a3 a4 ⊢
 obtain⟨b1,b2,b3,b4⟩:=u19 a1
 have mB:A.2.2=true→(u2n s A.2).2.2=true:=t02
 generalize hB:u2n s A.2=B at b1 b2 b3 b4 mB ⊢
 obtain⟨d1,d2,d3,d4⟩:=u19 b1
 have mD:B.2.2=true→(u2n s B.2).2.2=true:=t02
 generalize hD:u2n s B.2=D at d1 d2 d3 d4 mD ⊢
 obtain⟨e1,e2,e3,e4⟩:=u19 d1
 have mE:D.2.2=true→(u2n s D.2).2.2=true:=t02
 generalize hE:u2n s D.2=E at e1 e2 e3 e4 mE ⊢
 obtain⟨f1,f2,f3,f4⟩:=u19 e1
 have mF:E.2.2=true→(u2n s E.2).2.2=true:=t02
 generalize hF:u2n s E.2=F at f1 f2 f3 f4 mF ⊢
 obtain⟨g1,g2⟩:=t6u (by omega) (r9k s) (min F.1.toNat m) F.2 [] f1
 have mG:F.2.2=true→(u2z (o1b s) (min F.1.toNat m) F.2 []).2.2=true:=fun q=>by rw[t6t q];exact q
 generalize hG:u2z (o1b s) (min F.1.toNat m) F.2 [] =G at g1 g2 mG ⊢
 obtain⟨k1,k2,k3,k4⟩:=u19 g1
 have mK:G.2.2=true→(u2n s G.2).2.2=true:=t02
 generalize hK:u2n s G.2=K at k1 k2 k3 k4 mK ⊢
 obtain⟨l1,l2⟩:=t6u (by omega) (q7a s) (min K.1.toNat m) K.2 [] k1
 have mL:K.2.2=true→(u2z (rWr s) (min K.1.toNat m) K.2 []).2.2=true:=fun q=>by rw[t6t q];exact q
 generalize hL:u2z (rWr s) (min K.1.toNat m) K.2 [] =L at l1 l2 mL ⊢
 obtain⟨o1,o2⟩:=o7e l1
 have mO:L.2.2=true→(q7v s L.2).2.2=true:=q69
 generalize hO:q7v s L.2=O at o1 o2 mO ⊢
 obtain⟨p1,p2⟩:=u8i o1
 have mP:O.2.2=true→(u2x s O.2).2.2=true:=r1c
 generalize hP:u2x s O.2=P at p1 p2 mP ⊢
 refine⟨p1,?_⟩
 have e:u0q.wt (A.1,B.1,D.1,E.1,G.1,L.1,O.1,P.1)=0+(0+(0+(0+((Ty.sl t3b).wt G.1+((Ty.sl u2i).wt L.1+(0+P.1.size)))))):=rfl
 have eG:(Ty.sl t3b).wt G.1=G.1.length+(G.1.map t3b.wt).sum:=rfl
 have eL:(Ty.sl u2i).wt L.1=L.1.length+(L.1.map u2i.wt).sum:=rfl
 simp only[Cc,Eh,Gq] at g2 l2
 rw[e,eG,eL]
 by_cases q:P.2.2=true
 ·have:bad P.2 20=20:=by unfold bad;rw[Al q]
  rw[this]
  have t1:=(u9m A.2 (k:=1) (by omega)).2
  have t2:=(u9m B.2 (k:=1) (by omega)).2
  have t3:=(u9m D.2 (k:=1) (by omega)).2
  have t4:=(u9m E.2 (k:=1) (by omega)).2
  have t5:=(u9m F.2 (k:=1) (by omega)).2
  have t6:=(u9m G.2 (k:=2) (by omega)).2
  have t7:=(u9m K.2 (k:=1) (by omega)).2
  have t8:=(u9m L.2 (k:=3) (by omega)).2
  have t9:=(u9m O.2 (k:=1) (by omega)).2
  have t10:=(u9m P.2 (k:=1) (by omega)).2
  omega
 ·have zP:P.2.2=false:=by simpa using q
  have z:∀ {x y:Cur},(x.2=true→y.2=true)→y.2=false→x.2=false:=fun {x y} i j=>by
   cases w:x.2
   ·rfl
   ·rw[i w] at j;cases j
  have zO:=z mP zP
  have zL:=z mO zO
  have zK:=z mL zL
  have zG:=z mK zK
  have zF:=z mG zG
  have zE:=z mF zF
  have zD:=z mE zE
  have zB:=z mD zD
  have zA:=z mB zB
  simp only[bad,zP,zO,zL,zK,zG,zF,zE,zD,zB,zA,Br,Bk] at*
  omega
theorem r08 (m:Nat) (s:Hs):j5p u0q.wt 20 s (u6u m s):=fun c h=>by
 obtain⟨h1,h2⟩:=p4u m s c h
 refine⟨h1,?_⟩
 have:bad (p11 m s c).2 20≤bad (u6u m s c).2 20:=q6h (fun q=>by unfold u6u;simp only[q,Dx]) (by omega)
 have e1:(u6u m s c).1=(p11 m s c).1:=rfl
 have e2:(u6u m s c).2.1=(p11 m s c).2.1:=rfl
 rw[e1,e2];omega
end
section
theorem t77 {s:Hs} (c:Cur) (hs:s.size≤u0m):u1f (s,c)=some ((u2n s c).1,s,(u2n s c).2):=by
 rw[q8h];unfold s9y u2n
 simp only[q9c s c.1 hs,zOb]
 cases h1:c.2
 ·cases h2:(u0t s c.1).2.2<;>simp
 ·simp
theorem s2t {s:Hs} (c:Cur) (hs:s.size≤u0m):u2f (s,c)=some ((u2x s c).1,s,(u2x s c).2):=by
 rw[q6s];unfold s7e u2x
 simp only[q1e s c.1 hs,zOb]
 cases h1:c.2
 ·cases h2:(u0o s c.1).2.2
  ·simp[emp]
  ·simp
 ·simp[emp]
theorem gt1 (n:Nat):decide ((n:Int) >1)=decide (1<n):=by simp;omega
theorem eq1 (n:Nat):decide ((n:Int)=1)=decide (n=1):=by simp;omega
theorem q6y {s:Hs} (c:Cur) (hs:s.size≤u0m):u58 (s,c)=some ((q7v s c).1,s,(q7v s c).2):=by
 have hb:u0m=1099511627776:=rfl
 rw[q6r];unfold s7d q7v
 simp only[s2z]
 rw[y4y (n:=(s.size:Int) - 1) (by omega) (by omega)]
 cases h1:c.2
 ·by_cases h2:0≤c.1∧c.1<(s.size:Int)
  ·obtain⟨k,hk⟩:∃k:Nat,c.1=k:=⟨c.1.toNat,by omega⟩
   have e1:r6u c.1 0 ((s.size:Int) - 1)=true:=by rw[s80];exact Bb (by omega)
   have e2:IntKind.i64.wrap (IntKind.i64.wrap (c.1+1) - 1)=c.1:=by rw[y4y (n:=c.1+1) (by omega) (by omega),y4y (by omega) (by omega)];omega
   have e3:IntKind.i64.wrap (c.1+1)=c.1+1:=y4y (by omega) (by omega)
   rw[hk] at e1 e2 e3 ⊢
   have e4:IntKind.i64.wrap (k:Int)=k:=y4y (by omega) (by omega)
   have e5:IntKind.i64.wrap ((k:Int)+1 - 1)=k:=by rw[y4y (by omega) (by omega)];omega
   simp only[e1,e2,e3,e5,Aa,zOb,Ap,y7t (show k<s.size by omega),Ad,zTn,gt1,eq1]
   rw[show(s.data.toList.getD k 0).toNat=u7n s k from rfl]
   by_cases h3:1<u7n s k
   ·simp[h3]
   ·have h3' :u7n s k≤1:=by omega
    have h4:((k:Int)<(s.size:Int)):=by omega
    simp[h3,h3',show k<s.size by omega,e4,y7t (show k<s.size by omega)]
  ·have e1:r6u c.1 0 ((s.size:Int) - 1)=false:=by rw[s80];exact A7 (by omega)
   simp only[e1,Aa,zOb,Bh,Ad]
   rw[Al (.inr (.inl h2))]
 ·simp
theorem s2i {E X R U:Type} {s:Hs} (W:X→Ht (R⊕U)) (mk:Cur→Hu E→Int→X) (res:Cur→Hu E→R) (f:Cur→E×Cur) (N:Nat)
 (hf:∀c,inT s c→inT s (f c).2)
 (hend:∀c a (i:Nat),(N≤i∨c.2=true)→W (mk c a (i:Int))=some (.inl (res c a)))
 (hstep:∀c a (i:Nat),i<N→c.2=false→inT s c→a.length≤i→W (mk c a (i:Int))=W (mk (f c).2 (a++ [(f c).1]) ((i+1:Nat):Int))):
 ∀(k i:Nat) c a,i+k=N→inT s c→a.length≤i→W (mk c a (i:Int))=some (.inl (res (u2z f k c a).2 (u2z f k c a).1)):=by
 intro k
 induction k with
 | zero=>intro i c a hi hc ha;exact hend c a i (.inl (by omega))
 | succ k ih=>
  intro i c a hi hc ha
  simp only[u2z]
  split
  ·rename_i q;exact hend c a i (.inr q)
  ·rename_i q
   rw[hstep c a i (by omega) (by simpa using q) hc ha,ih (i+1) _ _ (by omega) (hf c hc) (by simp;omega)]
theorem q6j {n:Int} {i:Nat} {c:Cur} (h:n.toNat≤i∨c.2=true):((bif decide ((i:Int)<n) then some (!c.2) else some false:Ht Bool))=some false:=by
 rcases h with h | h
 ·rw[A7 (by omega)];rfl
 ·rw[h];cases decide ((i:Int)<n)<;>rfl
theorem r8o {n:Int} {i:Nat} {c:Cur} (h:i<n.toNat) (hc:c.2=false):((bif decide ((i:Int)<n) then some (!c.2) else some false:Ht Bool))=some true:=by
 rw[Bb (by omega),hc];rfl
theorem r8p {E:Type} {w:E→Nat} {k:Int} {s:Hs} {f:Cur→E×Cur} (h:j5p w k s f):∀c,inT s c→inT s (f c).2:=fun c hc=>(h c hc).1
theorem j1o {s:Hs} (hs:s.size≤u0m) (t:u0c) (ht:t.2.2.2.2.1= []) {c:Cur} (hc:inT s c):
 u3k ((s,c),t,())=some ((s,(u2z (o1b s) (min (u2n s c).1.toNat 1000000000) (u2n s c).2 []).2),
  (t.1,t.2.1,t.2.2.1,t.2.2.2.1,(u2z (o1b s) (min (u2n s c).1.toNat 1000000000) (u2n s c).2 []).1,t.2.2.2.2.2),()):=by
 obtain⟨h1,h2,h3,h4⟩:=u19 hc
 rw[t6f];unfold u60
 simp only
 rw[t77 c hs]
 simp only[zOb]
 generalize u2n s c=y at h1 h2 h3 h4 ⊢
 have L:=s2i (s:=s) u1b (fun(c:Cur) (a:Hu s3m) i=>((s,c),(((t.1,t.2.1,t.2.2.1,t.2.2.2.1,a,t.2.2.2.2.2):u0c),()),y.1,i))
  (fun(c:Cur) (a:Hu s3m)=>((s,c),((t.1,t.2.1,t.2.2.1,t.2.2.2.1,a,t.2.2.2.2.2):u0c),())) (o1b s) y.1.toNat (r8p (r9k s))
  (fun c a i h=>by rw[u59];simp only[u17];rw[q6j h];rfl)
  (fun c a i h hc2 hin ha=>by
   rw[u59];simp only[u17];rw[r8o h hc2]
   simp only[zOb,Ad]
   rw[q4h];unfold s5c
   simp only
   rw[s2t c hs]
   simp only[zOb]
   rw[s2t _ hs]
   simp only[zOb]
   rw[q7t (by simp;omega),y7l (by omega)]
   rfl) y.1.toNat 0 y.2 [] (by omega) h1 (by simp)
 rw[show min y.1.toNat 1000000000=y.1.toNat by omega]
 obtain⟨t1,t2,t3,t4,t5,t6⟩:=t
 simp only at ht
 subst ht
 have L' :u1b ((s,y.2),(((t1,t2,t3,t4, [],t6):u0c),()),y.1,0)=some (.inl ((s,(u2z (o1b s) y.1.toNat y.2 []).2),((t1,t2,t3,t4,(u2z (o1b s) y.1.toNat y.2 []).1,t6):u0c),())):=L
 rw[L'];rfl
theorem j4k {s:Hs} (hs:s.size≤u0m) (t:u0c) (ht:t.2.2.2.2.2.1= []) {c:Cur} (hc:inT s c):
 u3l ((s,c),(),t)=some ((s,(u2z (rWr s) (min (u2n s c).1.toNat 1000000000) (u2n s c).2 []).2),(),
  (t.1,t.2.1,t.2.2.1,t.2.2.2.1,t.2.2.2.2.1,(u2z (rWr s) (min (u2n s c).1.toNat 1000000000) (u2n s c).2 []).1,t.2.2.2.2.2.2)):=by
 obtain⟨h1,h2,h3,h4⟩:=u19 hc
 rw[t6g];unfold u61
 simp only
 rw[t77 c hs]
 simp only[zOb]
 generalize u2n s c=y at h1 h2 h3 h4 ⊢
 have L:=s2i (s:=s) u1c (fun(c:Cur) (a:Hu WrT) i=>((s,c),((),((t.1,t.2.1,t.2.2.1,t.2.2.2.1,t.2.2.2.2.1,a,t.2.2.2.2.2.2):u0c)),y.1,i))
  (fun(c:Cur) (a:Hu WrT)=>((s,c),(),((t.1,t.2.1,t.2.2.1,t.2.2.2.1,t.2.2.2.2.1,a,t.2.2.2.2.2.2):u0c))) (rWr s) y.1.toNat (r8p (q7a s))
  (fun c a i h=>by rw[u6a];simp only[u18];rw[q6j h];rfl)
  (fun c a i h hc2 hin ha=>by
   rw[u6a];simp only[u18];rw[r8o h hc2]
   simp only[zOb,Ad]
   rw[q4i];unfold s5d
   simp only
   rw[s2t c hs]
   simp only[zOb]
   rw[s2t _ hs]
   simp only[zOb]
   rw[q6y _ hs]
   simp only[zOb]
   rw[q7t (by simp;omega),y7l (by omega)]
   rfl) y.1.toNat 0 y.2 [] (by omega) h1 (by simp)
 rw[show min y.1.toNat 1000000000=y.1.toNat by omega]
 obtain⟨t1,t2,t3,t4,t5,t6,t7⟩:=t
 simp only at ht
 subst ht
 have L' :u1c ((s,y.2),((),((t1,t2,t3,t4,t5, [],t7):u0c)),y.1,0)=some (.inl ((s,(u2z (rWr s) y.1.toNat y.2 []).2),(),((t1,t2,t3,t4,t5,(u2z (rWr s) y.1.toNat y.2 []).1,t7):u0c))):=L
 rw[L'];rfl
theorem o1j {s:Hs} (hs:s.size≤1048576) {c:Cur} (hc:inT s c):u9t (s,c)=some ((u6u 1000000000 s c).1,s,(u6u 1000000000 s c).2):=by
 have hb:u0m=1099511627776:=rfl
 have hs' :s.size≤u0m:=by omega
 have hw:=p4u 1000000000 s c hc
 have hin:=hc
 unfold inT at hin
 have hwt:u0q.wt (p11 1000000000 s c).1≤u0m:=by
  have h1:=hw.1
  unfold inT at h1
  have:=(u9m (p11 1000000000 s c).2 (k:=20) (by omega)).2
  have:=hw.2
  omega
 have hk:=s40 _ hwt
 rw[q8i];unfold s9z
 unfold u6u
 unfold p11 at hk ⊢
 simp only at hk ⊢
 rw[t77 c hs']
 simp only[zOb]
 have i1:=(u19 hc).1
 rw[t77 _ hs']
 simp only[zOb]
 have i2:=(u19 i1).1
 rw[t77 _ hs']
 simp only[zOb]
 have i3:=(u19 i2).1
 rw[t77 _ hs']
 simp only[zOb]
 have i4:=(u19 i3).1
 rw[j1o hs' _ rfl i4]
 simp only[zOb]
 have i5:=(t6u (by omega) (r9k s) (min (u2n s (u2n s (u2n s (u2n s (u2n s c).2).2).2).2).1.toNat 1000000000) (u2n s (u2n s (u2n s (u2n s (u2n s c).2).2).2).2).2 [] (u19 i4).1).1
 rw[j4k hs' _ rfl i5]
 simp only[zOb]
 rw[q6y _ hs']
 simp only[zOb]
 rw[s2t _ hs']
 simp only[zOb]
 rw[hk]
 simp only[zOb]
 generalize u2x s _=z
 cases h:z.2.2
 ·simp
 ·simp
end
section
def j6c:Lim:=⟨1000000000,1000000000,1000000000,1000000000⟩
theorem j6d:j6c.ok:=⟨by decide,by decide,by decide,by decide⟩
theorem o1c {m k:Nat} {s:Hs} {c:Cur} (h:inT s c):inT s (t18 m k s c).2∧c.1+((Ty.sl u0q).wt (t18 m k s c).1:Nat)≤(t18 m k s c).2.1+20+1:=by
 obtain⟨h1,h2,h3,h4⟩:=u19 h
 obtain⟨g1,g2⟩:=t6u (by omega) (r08 m s) (min (u2n s c).1.toNat k) (u2n s c).2 [] h1
 refine⟨g1,?_⟩
 have e:(Ty.sl u0q).wt (t18 m k s c).1=(t18 m k s c).1.length+((t18 m k s c).1.map u0q.wt).sum:=rfl
 rw[e]
 have t1:=(u9m (u2n s c).2 (k:=1) (by omega)).2
 have t2:=(u9m (u2z (u6u m s) (min (u2n s c).1.toNat k) (u2n s c).2 []).2 (k:=20) (by omega)).2
 unfold t18
 simp only[Cc,Eh,Gq] at g2
 omega
theorem o1a (m:Lim) {s:Hs} {c:Cur} (h:inT s c):inT s (r1b m s c).2∧(j74.wt (r1b m s c).1:Int)≤(s.size:Int)+100:=by
 unfold r1b
 simp only
 obtain⟨a1,a2,a3,a4⟩:=u19 h
 obtain⟨b1,b2,b3,b4⟩:=u19 a1
 obtain⟨d1,d2,d3,d4⟩:=u19 b1
 obtain⟨g1,g2⟩:=t6u (by omega) (r9m s) (min (u2n s (u2n s (u2n s c).2).2).1.toNat m.v) (u2n s (u2n s (u2n s c).2).2).2 [] d1
 obtain⟨p1,p2⟩:=o1c (m:=m.t) (k:=m.p) g1
 obtain⟨q1,q2⟩:=o1c (m:=m.t) (k:=m.r) p1
 refine⟨q1,?_⟩
 have t1:=(u9m (u2z (o1d s) (min (u2n s (u2n s (u2n s c).2).2).1.toNat m.v) (u2n s (u2n s (u2n s c).2).2).2 []).2 (k:=4) (by omega)).2
 have u1:=(u9m (u2n s c).2 (k:=1) (by omega)).2
 have u2:=(u9m (u2n s (u2n s c).2).2 (k:=1) (by omega)).2
 have u3:=(u9m (u2n s (u2n s (u2n s c).2).2).2 (k:=1) (by omega)).2
 generalize u2z (o1d s) (min (u2n s (u2n s (u2n s c).2).2).1.toNat m.v) (u2n s (u2n s (u2n s c).2).2).2 [] =vs at*
 simp only[Cc,Eh,Gq] at g2
 have e:=r8n (vs.1,(t18 m.t m.p s vs.2).1,(t18 m.t m.r s (t18 m.t m.p s vs.2).2).1,(u2n s c).1,(u2n s (u2n s c).2).1)
 simp only at e
 have eV:(Ty.sl u0d).wt vs.1=vs.1.length+(vs.1.map u0d.wt).sum:=rfl
 unfold inT at q1 h
 rw[e,eV]
 omega
theorem j17 {s:Hs} (hs:s.size≤u0m) (b:u0j) (ht:b.1= []) {c:Cur} (hc:inT s c):
 u25 ((s,c),(),b)=some ((s,(u2z (o1d s) (min (u2n s c).1.toNat 1000000000) (u2n s c).2 []).2),(),
  ((u2z (o1d s) (min (u2n s c).1.toNat 1000000000) (u2n s c).2 []).1,b.2)):=by
 obtain⟨h1,h2,h3,h4⟩:=u19 hc
 rw[t54];unfold u6q
 simp only
 rw[t77 c hs]
 simp only[zOb]
 generalize u2n s c=y at h1 h2 h3 h4 ⊢
 have L:=s2i (s:=s) u07 (fun(c:Cur) (a:Hu u2b) i=>((s,c),((),((a,b.2):u0j)),y.1,i))
  (fun(c:Cur) (a:Hu u2b)=>((s,c),(),((a,b.2):u0j))) (o1d s) y.1.toNat (r8p (r9m s))
  (fun c a i h=>by rw[u5v];simp only[u1y];rw[q6j h];rfl)
  (fun c a i h hc2 hin ha=>by
   rw[u5v];simp only[u1y];rw[r8o h hc2]
   simp only[zOb,Ad]
   rw[q02];unfold s3p
   simp only
   rw[s2t c hs]
   simp only[zOb]
   rw[s2t _ hs]
   simp only[zOb]
   rw[q6y _ hs]
   simp only[zOb]
   rw[t77 _ hs]
   simp only[zOb]
   rw[q7t (by simp;omega),y7l (by omega)]
   rfl) y.1.toNat 0 y.2 [] (by omega) h1 (by simp)
 rw[show min y.1.toNat 1000000000=y.1.toNat by omega]
 obtain⟨b1,b2⟩:=b
 simp only at ht
 subst ht
 have L' :u07 ((s,y.2),((),(([],b2):u0j)),y.1,0)=some (.inl ((s,(u2z (o1d s) y.1.toNat y.2 []).2),(),(((u2z (o1d s) y.1.toNat y.2 []).1,b2):u0j))):=L
 rw[L'];rfl
theorem j1a {s:Hs} (hs:s.size≤1048576) (b:u0j) (ht:b.2.1= []) {c:Cur} (hc:inT s c):
 u26 ((s,c),b,())=some ((s,(t18 1000000000 1000000000 s c).2),(b.1,(t18 1000000000 1000000000 s c).1,b.2.2),()):=by
 have hb:u0m=1099511627776:=rfl
 obtain⟨h1,h2,h3,h4⟩:=u19 hc
 rw[t55];unfold u6r t18
 simp only
 rw[t77 c (by omega)]
 simp only[zOb]
 generalize u2n s c=y at h1 h2 h3 h4 ⊢
 have L:=s2i (s:=s) u08 (fun(c:Cur) (a:Hu u0c) i=>((s,c),(((b.1,a,b.2.2):u0j),()),y.1,i))
  (fun(c:Cur) (a:Hu u0c)=>((s,c),((b.1,a,b.2.2):u0j),())) (u6u 1000000000 s) y.1.toNat (r8p (r08 _ s))
  (fun c a i h=>by rw[u5w];simp only[u1z];rw[q6j h];rfl)
  (fun c a i h hc2 hin ha=>by
   rw[u5w];simp only[u1z];rw[r8o h hc2]
   simp only[zOb,Ad]
   rw[q03];unfold s3q
   simp only
   rw[o1j hs hin]
   simp only[zOb]
   rw[q7t (by simp;omega),y7l (by omega)];rfl) y.1.toNat 0 y.2 [] (by omega) h1 (by simp)
 rw[show min y.1.toNat 1000000000=y.1.toNat by omega]
 obtain⟨b1,b2,b3⟩:=b
 simp only at ht
 subst ht
 have L' :u08 ((s,y.2),(((b1, [],b3):u0j),()),y.1,0)=some (.inl ((s,(u2z (u6u 1000000000 s) y.1.toNat y.2 []).2),((b1,(u2z (u6u 1000000000 s) y.1.toNat y.2 []).1,b3):u0j),())):=L
 rw[L'];rfl
theorem o8y {s:Hs} (hs:s.size≤1048576) (b:u0j) (ht:b.2.2.1= []) {c:Cur} (hc:inT s c):
 u27 ((s,c),b,())=some ((s,(t18 1000000000 1000000000 s c).2),(b.1,b.2.1,(t18 1000000000 1000000000 s c).1,b.2.2.2),()):=by
 have hb:u0m=1099511627776:=rfl
 obtain⟨h1,h2,h3,h4⟩:=u19 hc
 rw[t56];unfold u6s t18
 simp only
 rw[t77 c (by omega)]
 simp only[zOb]
 generalize u2n s c=y at h1 h2 h3 h4 ⊢
 have L:=s2i (s:=s) u09 (fun(c:Cur) (a:Hu u0c) i=>((s,c),(((b.1,b.2.1,a,b.2.2.2):u0j),()),y.1,i))
  (fun(c:Cur) (a:Hu u0c)=>((s,c),((b.1,b.2.1,a,b.2.2.2):u0j),())) (u6u 1000000000 s) y.1.toNat (r8p (r08 _ s))
  (fun c a i h=>by rw[u5x];simp only[u10];rw[q6j h];rfl)
  (fun c a i h hc2 hin ha=>by
   rw[u5x];simp only[u10];rw[r8o h hc2]
   simp only[zOb,Ad]
   rw[q04];unfold s3r
   simp only
   rw[o1j hs hin]
   simp only[zOb]
   rw[q7t (by simp;omega),y7l (by omega)];rfl) y.1.toNat 0 y.2 [] (by omega) h1 (by simp)
 rw[show min y.1.toNat 1000000000=y.1.toNat by omega]
 obtain⟨b1,b2,b3,b4⟩:=b
 simp only at ht
 subst ht
 have L' :u09 ((s,y.2),(((b1,b2, [],b4):u0j),()),y.1,0)=some (.inl ((s,(u2z (u6u 1000000000 s) y.1.toNat y.2 []).2),((b1,b2,(u2z (u6u 1000000000 s) y.1.toNat y.2 []).1,b4):u0j),())):=L
 rw[L'];rfl
theorem j0e {s:Hs} (hs:s.size≤1048576) {c:Cur} (hc:inT s c):t92 (s,c)=some ((t5x j6c s c).1,s,(t5x j6c s c).2):=by
 have hb:u0m=1099511627776:=rfl
 have hs' :s.size≤u0m:=by omega
 have hw:=o1a j6c (s:=s) hc
 have hk:=t0b (r1b j6c s c).1 (by have:=hw.2;omega)
 rw[q6q];unfold s7c
 unfold t5x
 unfold r1b at hk ⊢
 simp only at hk ⊢
 rw[t77 c hs']
 simp only[zOb]
 have i1:=(u19 hc).1
 rw[t77 _ hs']
 simp only[zOb]
 have i2:=(u19 i1).1
 rw[j17 hs' _ rfl i2]
 simp only[zOb]
 have i3:=(t6u (by omega) (r9m s) (min (u2n s (u2n s (u2n s c).2).2).1.toNat 1000000000) (u2n s (u2n s (u2n s c).2).2).2 [] (u19 i2).1).1
 rw[j1a hs _ rfl i3]
 simp only[zOb]
 have i4:=(o1c (m:=1000000000) (k:=1000000000) i3).1
 rw[o8y hs _ rfl i4]
 simp only[zOb]
 rw[show j6c.v=1000000000 from rfl,show j6c.t=1000000000 from rfl,show j6c.p=1000000000 from rfl,show j6c.r=1000000000 from rfl] at hk ⊢
 rw[hk]
 simp only[zOb]
 generalize t18 1000000000 1000000000 s (t18 1000000000 1000000000 s _).2=z
 cases h:z.2.2
 ·simp
 ·simp
end
section
theorem t9v {s:Hs} (c:Cur) (hs:s.size≤u0m):u23 (s,c)=some ((u2n s c).1,s,(u2n s c).2):=by
 rw[o0v];unfold q6b u2n
 simp only[q9d s c.1 hs,zOb]
 cases h1:c.2
 ·cases h2:(u0t s c.1).2.2<;>simp
 ·simp
theorem s2u {s:Hs} (c:Cur) (hs:s.size≤u0m):u16 (s,c)=some ((u2x s c).1,s,(u2x s c).2):=by
 rw[q4j];unfold s5e u2x
 simp only[q1f s c.1 hs,zOb]
 cases h1:c.2
 ·cases h2:(u0o s c.1).2.2
  ·simp[emp]
  ·simp
 ·simp[emp]
theorem q60 {s:Hs} {c:Cur} (hc:inT s c) (hs:s.size≤u0m):u7d (s,c)=some ((q7v s c).1,s,(q7v s c).2):=by
 have hb:u0m=1099511627776:=rfl
 unfold inT at hc
 obtain⟨k,hk⟩:∃k:Nat,c.1=k:=⟨c.1.toNat,by omega⟩
 rw[q8r];unfold s98 q7v
 simp only[hk]
 cases h1:c.2
 ·by_cases h2:k<s.size
  ·have e1:decide ((k:Int)≥(s.size:Int))=false:=A7 (by omega)
   have e3:IntKind.i64.wrap ((k:Int)+1)=(k:Int)+1:=y4y (by omega) (by omega)
   have e5:IntKind.i64.wrap ((k:Int)+1 - 1)=k:=by rw[y4y (by omega) (by omega)];omega
   rw[e1,e3,e5]
   simp only[Aa,zOb,y7t h2,Ad,zTn,gt1,eq1]
   rw[show(s.data.toList.getD k 0).toNat=u7n s k from rfl]
   by_cases h3:1<u7n s k
   ·simp[h3]
   ·have h3' :u7n s k≤1:=by omega
    simp[h3,h3',h2]
  ·have e1:decide ((k:Int)≥(s.size:Int))=true:=Bb (by omega)
   rw[e1]
   simp only[Aa,zOb,Ad]
   rw[Al (.inr (.inl (by omega)))]
 ·simp
theorem p2v {n k:Int} {i:Nat} {c:Cur} (h:min n.toNat k.toNat≤i∨c.2=true):((bif decide ((i:Int)<n) then(bif decide ((i:Int)<k) then some (!c.2) else some false) else some false:Ht Bool))=some false:=by
 rcases h with h | h
 ·by_cases q:(i:Int)<n
  ·rw[Bb q,A7 (show ¬(i:Int)<k by omega)];rfl
  ·rw[A7 q];rfl
 ·rw[h];cases decide ((i:Int)<n)<;>cases decide ((i:Int)<k)<;>rfl
theorem q76 {n k:Int} {i:Nat} {c:Cur} (h:i<min n.toNat k.toNat) (hc:c.2=false):((bif decide ((i:Int)<n) then(bif decide ((i:Int)<k) then some (!c.2) else some false) else some false:Ht Bool))=some true:=by
 rw[Bb (show(i:Int)<n by omega),Bb (show(i:Int)<k by omega),hc];rfl
theorem j1p {s:Hs} (hs:s.size≤u0m) (z t:u0c) (n:Int) {c:Cur} (hc:inT s c) (ht:t.2.2.2.2.1= []):
 t1m (z,(s,c),t,n,0)=some (.inl (z,(s,(u2z (o1b s) (min n.toNat 10) c []).2),(t.1,t.2.1,t.2.2.1,t.2.2.2.1,(u2z (o1b s) (min n.toNat 10) c []).1,t.2.2.2.2.2))):=by
 have L:=s2i (s:=s) t1m (fun(c:Cur) (a:Hu s3m) i=>(z,(s,c),((t.1,t.2.1,t.2.2.1,t.2.2.2.1,a,t.2.2.2.2.2):u0c),n,i))
  (fun(c:Cur) (a:Hu s3m)=>(z,(s,c),((t.1,t.2.1,t.2.2.1,t.2.2.2.1,a,t.2.2.2.2.2):u0c))) (o1b s) (min n.toNat 10) (r8p (r9k s))
  (fun c a i h=>by rw[r6c];simp only[t7i];rw[p2v (k:=10) h];rfl)
  (fun c a i h hc2 hin ha=>by
   rw[r6c];simp only[t7i];rw[q76 (k:=10) h hc2]
   simp only[zOb,Ad]
   rw[s2u c hs]
   simp only[zOb]
   rw[s2u _ hs]
   simp only[zOb]
   rw[q7t (by simp;omega),y7l (by omega)]
   rfl) (min n.toNat 10) 0 c [] (by omega) hc (by simp)
 obtain⟨t1,t2,t3,t4,t5,t6⟩:=t
 simp only at ht
 subst ht
 exact L
theorem j4l {s:Hs} (hs:s.size≤u0m) (z t:u0c) (n:Int) {c:Cur} (hc:inT s c) (ht:t.2.2.2.2.2.1= []):
 u9g (z,(s,c),t,n,0)=some (.inl (z,(s,(u2z (rWr s) (min n.toNat 10) c []).2),(t.1,t.2.1,t.2.2.1,t.2.2.2.1,t.2.2.2.2.1,(u2z (rWr s) (min n.toNat 10) c []).1,t.2.2.2.2.2.2))):=by
 have L:=s2i (s:=s) u9g (fun(c:Cur) (a:Hu WrT) i=>(z,(s,c),((t.1,t.2.1,t.2.2.1,t.2.2.2.1,t.2.2.2.2.1,a,t.2.2.2.2.2.2):u0c),n,i))
  (fun(c:Cur) (a:Hu WrT)=>(z,(s,c),((t.1,t.2.1,t.2.2.1,t.2.2.2.1,t.2.2.2.2.1,a,t.2.2.2.2.2.2):u0c))) (rWr s) (min n.toNat 10) (r8p (q7a s))
  (fun c a i h=>by rw[r1w];simp only[t4w];rw[p2v (k:=10) h];rfl)
  (fun c a i h hc2 hin ha=>by
   rw[r1w];simp only[t4w];rw[q76 (k:=10) h hc2]
   simp only[zOb,Ad]
   rw[s2u c hs]
   simp only[zOb]
   rw[s2u _ hs]
   simp only[zOb]
   rw[q60 (u8i (u8i hin).1).1 hs]
   simp only[zOb]
   rw[q7t (by simp;omega),y7l (by omega)]
   rfl) (min n.toNat 10) 0 c [] (by omega) hc (by simp)
 obtain⟨t1,t2,t3,t4,t5,t6,t7⟩:=t
 simp only at ht
 subst ht
 exact L
theorem o7n {s:Hs} (hs:s.size≤1048576) {a:Int} (hc:inT s (a,false)):
 s1z (s,a)=some (if(u6u 10 s (a,false)).2.2=true then(u5j,0,false) else((u6u 10 s (a,false)).1,(u6u 10 s (a,false)).2.1,true)):=by
 have hb:u0m=1099511627776:=rfl
 have hs' :s.size≤u0m:=by omega
 have hw:=p4u 10 s (a,false) hc
 have hin:=hc
 unfold inT at hin
 simp only at hin
 have hwt:u0q.wt (p11 10 s (a,false)).1≤u0m:=by
  have h1:=hw.1
  unfold inT at h1
  have:=(u9m (p11 10 s (a,false)).2 (k:=20) (by omega)).2
  have:=hw.2
  simp only at this
  omega
 have hk:=t8s _ hwt
 rw[p6s];unfold q2b
 unfold u6u
 unfold p11 at hk ⊢
 simp only at hk ⊢
 rw[t9v _ hs']
 simp only[zOb]
 have i1:=(u19 hc).1
 rw[t9v _ hs']
 simp only[zOb]
 have i2:=(u19 i1).1
 rw[t9v _ hs']
 simp only[zOb]
 have i3:=(u19 i2).1
 rw[t9v _ hs']
 simp only[zOb]
 have i4:=(u19 i3).1
 rw[t9v _ hs']
 simp only[zOb]
 have i5:=(u19 i4).1
 rw[j1p hs' _ _ _ i5 rfl]
 simp only[zOb]
 have i6:=(t6u (by omega) (r9k s) (min (u2n s (u2n s (u2n s (u2n s (u2n s (a,false)).2).2).2).2).1.toNat 10) (u2n s (u2n s (u2n s (u2n s (u2n s (a,false)).2).2).2).2).2 [] i5).1
 rw[t9v _ hs']
 simp only[zOb]
 have i7:=(u19 i6).1
 rw[j4l hs' _ _ _ i7 rfl]
 simp only[zOb]
 rw[q60 (t6u (by omega) (q7a s) _ _ [] i7).1 hs']
 simp only[zOb]
 rw[s2u _ hs']
 simp only[zOb]
 rw[hk]
 simp only[zOb]
 generalize u2x s _=z
 generalize u7k _=o
 cases h:z.2.2<;>cases o<;>simp[u5j,emp]
theorem o4q {s:Hs} (hs:s.size≤1048576) (m:Nat) (hm:m≤1000) {c:Cur} (hc:inT s c):
 ∃(l:Hu u0c) (c' :Cur),t3i ((s,c),(m:Int))=some (l,s,c')∧inT s c' ∧c'.2=(t18 10 (m+1) s c).2.2∧c.1+((Ty.sl u0q).wt l:Nat)≤c'.1+22∧(c'.2=false→(l,c')=t18 10 (m+1) s c):=by
 have hb:u0m=1099511627776:=rfl
 obtain⟨h1,h2,h3,h4⟩:=u19 hc
 rw[q6x];unfold s7i t18
 simp only
 rw[t9v c (by omega)]
 simp only[zOb]
 generalize u2n s c=y at h1 h2 h3 h4 ⊢
 have key:∀(k i:Nat) (d:Cur) (a:Hu u0c),i+k=min y.1.toNat (m+1)→inT s d→a.length≤i→y.2.1+((a.length+(a.map u0q.wt).sum:Nat):Int)≤d.1+bad d 20→
  ∃(r:((Hs×Cur)×Hu u0c)⊕((Hs×Cur)×Hu u0c)) (l:Hu u0c) (c' :Cur),u6p ((s,d),(m:Int),a,y.1,(i:Int))=some r∧(r= .inl ((s,c'),l)∨r= .inr ((s,c'),l))∧inT s c' ∧c'.2=(u2z (u6u 10 s) k d a).2.2∧
   y.2.1+((l.length+(l.map u0q.wt).sum:Nat):Int)≤c'.1+bad c' 20∧(c'.2=false→(l,c')=u2z (u6u 10 s) k d a):=by
  intro k
  induction k with
  | zero=>
   intro i d a hi hd ha hw
   refine⟨_,a,d,?_, .inl rfl,hd,rfl,hw,fun _=>rfl⟩
   rw[u9a];simp only[u4t]
   have:(bif decide ((i:Int)<y.1) then(bif decide ((i:Int)≤(m:Int)) then some (!d.2) else some false) else some false:Ht Bool)=some false:=by
    by_cases q:(i:Int)<y.1
    ·rw[Bb q,A7 (show ¬(i:Int)≤m by omega)];rfl
    ·rw[A7 q];rfl
   rw[this];rfl
  | succ k ih=>
   intro i d a hi hd ha hw
   by_cases q:d.2=true
   ·refine⟨_,a,d,?_, .inl rfl,hd,by rw[t6t q],hw,fun z=>by rw[q] at z;cases z⟩
    rw[u9a];simp only[u4t]
    have:(bif decide ((i:Int)<y.1) then(bif decide ((i:Int)≤(m:Int)) then some (!d.2) else some false) else some false:Ht Bool)=some false:=by
     rw[q];cases decide ((i:Int)<y.1)<;>cases decide ((i:Int)≤(m:Int))<;>rfl
    rw[this];rfl
   ·have q' :d.2=false:=by simpa using q
    have ed:d=(d.1,false):=by rw[←q']
    have hx:=o7n hs (a:=d.1) (by rw[←ed];exact hd)
    rw[←ed] at hx
    have he:=r08 10 s d hd
    have hbd:bad d 20=0:=by unfold bad;rw[Ao q]
    have c1:(bif decide ((i:Int)<y.1) then(bif decide ((i:Int)≤(m:Int)) then some (!d.2) else some false) else some false:Ht Bool)=some true:=by
     rw[Bb (show(i:Int)<y.1 by omega),Bb (show(i:Int)≤m by omega),q'];rfl
    simp only[u2z]
    rw[Ao q]
    cases z:(u6u 10 s d).2.2
    ·rw[Ao (by rw[z];simp)] at hx
     have hbz:bad (u6u 10 s d).2 20=0:=by unfold bad;rw[Ao (by rw[z];simp)]
     obtain⟨r,l,c',e1,e2,e3,e4,e5,e6⟩:=ih (i+1) (u6u 10 s d).2 (a++ [(u6u 10 s d).1]) (by omega) he.1 (by simp;omega) (by
      have:=he.2
      rw[hbd] at hw
      rw[hbz] at this ⊢
      simp only[Ba,Aw,Dh,C8,Eh,Fn,Ge,Gq]
      omega)
     refine⟨r,l,c',?_,e2,e3,e4,e5,e6⟩
     rw[←e1,u9a];simp only[u4t]
     rw[c1]
     simp only[zOb,Ad]
     rw[hx]
     simp only[zOb,Ap,Aa]
     rw[q7t (by simp;omega),y7l (by omega),q']
     have:(u6u 10 s d).2=((u6u 10 s d).2.1,false):=by rw[←z]
     rw[this]
    ·rw[Al z] at hx
     refine⟨_,a,(d.1,true),?_, .inr rfl,hd,by rw[t6t z,z],?_,fun w=>by cases w⟩
     ·rw[u9a];simp only[u4t]
      rw[c1]
      simp only[zOb,Ad]
      rw[hx]
      rfl
     ·rw[hbd] at hw
      have:bad ((d.1,true):Cur) 20=20:=rfl
      rw[this];simp only;omega
 have hb0:0≤bad y.2 20:=(u9m _ (by omega)).1
 obtain⟨r,l,c',e1,e2,e3,e4,e5,e6⟩:=key (min y.1.toNat (m+1)) 0 y.2 [] (by omega) h1 (by simp) (by simp only[Cc,Eh,Gq];omega)
 have e1' :u6p ((s,y.2),(m:Int), [],y.1,0)=some r:=e1
 refine⟨l,c',?_,e3,e4,?_,e6⟩
 ·rw[e1']
  rcases e2 with e2 | e2<;>rw[e2] <;>rfl
 ·have e:(Ty.sl u0q).wt l=l.length+(l.map u0q.wt).sum:=rfl
  rw[e]
  have t1:=(u9m y.2 (k:=1) (by omega)).2
  have t2:=(u9m c' (k:=20) (by omega)).2
  omega
def j3e:Lim:=⟨10,130,13,4⟩
theorem j6e:j3e.ok:=⟨by decide,by decide,by decide,by decide⟩
theorem j18 {s:Hs} (hs:s.size≤u0m) (z b:u0j) (n:Int) {c:Cur} (hc:inT s c) (ht:b.1= []):
 u9f (z,(s,c),b,n,0)=some (.inl (z,(s,(u2z (o1d s) (min n.toNat 130) c []).2),((u2z (o1d s) (min n.toNat 130) c []).1,b.2))):=by
 have L:=s2i (s:=s) u9f (fun(c:Cur) (a:Hu u2b) i=>(z,(s,c),((a,b.2):u0j),n,i))
  (fun(c:Cur) (a:Hu u2b)=>(z,(s,c),((a,b.2):u0j))) (o1d s) (min n.toNat 130) (r8p (r9m s))
  (fun c a i h=>by rw[r1v];simp only[t4v];rw[p2v (k:=130) h];rfl)
  (fun c a i h hc2 hin ha=>by
   rw[r1v];simp only[t4v];rw[q76 (k:=130) h hc2]
   simp only[zOb,Ad]
   rw[s2u c hs]
   simp only[zOb]
   rw[s2u _ hs]
   simp only[zOb]
   rw[q60 (u8i (u8i hin).1).1 hs]
   simp only[zOb]
   rw[t9v _ hs]
   simp only[zOb]
   rw[q7t (by simp;omega),y7l (by omega)]
   rfl) (min n.toNat 130) 0 c [] (by omega) hc (by simp)
 obtain⟨b1,b2⟩:=b
 simp only at ht
 subst ht
 exact L
theorem j0f {s:Hs} (hs:s.size≤1048576) {a:Int} (hc:inT s (a,false)):
 s6f (s,a)=some (if(t5x j3e s (a,false)).2.2=true then(u2s,0,false) else((t5x j3e s (a,false)).1,(t5x j3e s (a,false)).2.1,true)):=by
 have hb:u0m=1099511627776:=rfl
 have hs' :s.size≤u0m:=by omega
 have hw:=o1a j3e (s:=s) hc
 have hk:=s0l (r1b j3e s (a,false)).1 (by have:=hw.2;omega)
 rw[p3r];unfold r72
 unfold t5x
 unfold r1b at hk ⊢
 simp only at hk ⊢
 rw[t9v _ hs']
 simp only[zOb]
 have i1:=(u19 hc).1
 rw[t9v _ hs']
 simp only[zOb]
 have i2:=(u19 i1).1
 rw[t9v _ hs']
 simp only[zOb]
 have i3:=(u19 i2).1
 rw[j18 hs' _ _ _ i3 rfl]
 simp only[zOb]
 have i4f:=t6u (by omega) (r9m s) (min (u2n s (u2n s (u2n s (a,false)).2).2).1.toNat 130) (u2n s (u2n s (u2n s (a,false)).2).2).2 [] i3
 rw[show j3e.v=130 from rfl,show j3e.t=10 from rfl,show j3e.p=12+1 from rfl,show j3e.r=3+1 from rfl] at hk ⊢
 generalize hvs:u2z (o1d s) (min (u2n s (u2n s (u2n s (a,false)).2).2).1.toNat 130) (u2n s (u2n s (u2n s (a,false)).2).2).2 [] =vs at hk i4f ⊢
 obtain⟨i4,i4w⟩:=i4f
 obtain⟨l1,d1,e1,e2,e3,e4,e5⟩:=o4q hs 12 (by omega) i4
 obtain⟨l2,d2,f1,f2,f3,f4,f5⟩:=o4q hs 3 (by omega) e2
 rw[show((12:Nat):Int)=12 from rfl] at e1
 rw[show((3:Nat):Int)=3 from rfl] at f1
 rw[e1]
 simp only[zOb]
 rw[f1]
 simp only[zOb]
 cases z:d2.2
 ·have z1:d1.2=false:=by
   cases w:d1.2
   ·rfl
   ·have:(t18 10 (3+1) s d1).2.2=true:=r9l w
    rw[←f3,z] at this;cases this
  have g1:=e5 z1
  have g2:=f5 z
  rw[←g1]
  rw[←g1] at hk
  simp only at hk ⊢
  rw[←g2]
  rw[←g2] at hk
  simp only at hk ⊢
  rw[hk]
  simp only[zOb,z,Aa,Ci]
  generalize u7m _=o
  cases o<;>simp[u2s]
 ·have zz:(t18 10 (3+1) s (t18 10 (12+1) s vs.2).2).2.2=true:=by
   cases w:d1.2
   ·have g1:=e5 w
    rw[←g1]
    show(t18 10 (3+1) s d1).2.2=true
    rw[←f3];exact z
   ·exact r9l (by rw[←e3];exact w)
  rw[zz]
  simp[u2s]
theorem p9i (t:Hs) (ht:t.size≤u0m):s55 t=some (match t5t t with
 | some s=>(s,true)
 | none=>(emp,false)):=by
 have hb:u0m=1099511627776:=rfl
 rw[p3b];unfold r7m t5t
 by_cases h4:t.size<4
 ·rw[Bb (by omega),Ao (by omega)];rfl
 ·rw[A7 (by omega),y4y (n:=(t.size:Int) - 4) (by omega) (by omega)]
  have c1:(decide ((0:Int)≤0)&&decide ((0:Int)≤(t.size:Int) - 4)&&decide ((t.size:Int) - 4≤(t.size:Int)))=true:=by simp;omega
  have e1:((t.size:Int) - 4).toNat=t.size - 4:=by omega
  rw[c1,e1,show((0:Int)).toNat=0 from rfl]
  have hz:(t.extract 0 (t.size - 4)).size=t.size - 4:=by simp
  simp only[Aa,Ad]
  rw[s48 _ (by rw[hz];omega)]
  simp only[zOb]
  unfold p43
  rw[hz]
  by_cases h5:t.size - 4≤20000
  ·rw[Al h5]
   simp only[Ap,Aa,zOb]
   by_cases h6:r9u (t.extract 0 (t.size - 4))=t
   ·rw[Al ⟨by omega,h5,h6⟩,y7f.mpr h6];rfl
   ·rw[Ao (fun q=>h6 q.2.2),o6a.mpr h6];rfl
  ·rw[Ao h5,Ao (fun q=>h5 q.2.1)];rfl
theorem o4i {t:Hs} (h:4≤t.size):r9u (t.extract 0 (t.size - 4))=t↔t.extract (t.size - 4) t.size=j92 (j6p (t.extract 0 (t.size - 4))):=by
 have e:t.extract 0 (t.size - 4)++t.extract (t.size - 4) t.size=t:=by
  rw[ByteArray.extract_append_extract,Nat.zero_min,Nat.max_eq_right (by omega)]
  exact Fu
 unfold r9u
 constructor
 ·intro q
  have:=e.trans q.symm
  exact ByteArray.append_right_inj (t.extract 0 (t.size - 4)) |>.mp this
 ·intro q;rw[←q,e]
theorem o8b (t:Hs) (ht:t.size≤1099511627776):s79 t=some (j6p t):=by
 rw[q92];unfold r78
 rw[q9e _ _ ht];rfl
theorem o9r (x:Int):s13 x=some (j92 x):=by
 rw[q3a];rfl
theorem p9j (t:Hs) (ht:t.size≤u0m):s6j t=some (match t5t t with
 | some s=>(s,true)
 | none=>(emp,false)):=by
 have hb:u0m=1099511627776:=rfl
 rw[p3w];unfold r79 t5t
 rw[y4y (n:=(t.size:Int) - 4) (by omega) (by omega)]
 by_cases h4:t.size<4
 ·rw[Bb (show(t.size:Int) - 4<0 by omega),Ao (by omega)];rfl
 ·rw[A7 (show ¬(t.size:Int) - 4<0 by omega)]
  have c1:(decide ((0:Int)≤0)&&decide ((0:Int)≤(t.size:Int) - 4)&&decide ((t.size:Int) - 4≤(t.size:Int)))=true:=by simp;omega
  have c2:(decide ((0:Int)≤(t.size:Int) - 4)&&decide ((t.size:Int) - 4≤(t.size:Int))&&decide ((t.size:Int)≤(t.size:Int)))=true:=by simp;omega
  have e1:((t.size:Int) - 4).toNat=t.size - 4:=by omega
  rw[c1,c2,e1,show((0:Int)).toNat=0 from rfl,zTn]
  have hz:(t.extract 0 (t.size - 4)).size=t.size - 4:=by simp
  simp only[Aa,Ad]
  by_cases h5:t.size - 4≤20000
  ·rw[A7 (show ¬(t.size:Int) - 4 >20000 by omega),o8b _ (by rw[hz];omega)]
   simp only[zOb,Aa]
   rw[o9r]
   simp only[zOb]
   by_cases h6:r9u (t.extract 0 (t.size - 4))=t
   ·rw[Al ⟨by omega,h5,h6⟩,(o4i (by omega)).mp h6,y6l];rfl
   ·rw[Ao (fun q=>h6 q.2.2),o6a.mpr (mt (o4i (t:=t) (by omega)).mpr h6)];rfl
  ·rw[Bb (show(t.size:Int) - 4 >20000 by omega),Ao (fun q=>h5 q.2.1)];rfl
end
section
def noR:s67:=(0,u5j,emp,false,u2s)
def t6v (t:Hs):s67×Bool:=match u4u t with
 | some r=>(r,true)
 | none=>(noR,false)
theorem j36 {t:Hs} {r:s67} (h:u1h r=(t,true)):u4u t=some r:=by
 have hr:u6z r=true:=by
  cases q:u6z r with
  | true=>rfl
  | false=>
   unfold u1h at h
   rw[Ao (by simp[q])] at h
   simp at h
 have hR:=j44.mp hr
 rw[t4a hR] at h
 rw[←(Dv h).1]
 exact r9n hR
theorem j35 {t s:Hs} {r:s67} (hu:t5t t=some s) (h:u4u t=some r):RecR r∧s=r9r r∧u1h r=(t,true):=by
 obtain⟨h1,h2⟩:=q7c h
 have hs:=s41 h1
 have:=q7j (t:=r9r r) (by omega)
 rw[←h2,hu] at this
 exact⟨h1,Ds this,by rw[t4a h1,←h2]⟩
theorem q0m {t s:Hs} {r' :s67} {b:Bool} (hu:t5t t=some s) (hr:∀r,RecR r→s=r9r r→r' =r∧b=false):
 (((bif b then some true else(bif (!(u1h r').2) then some true else some (!z7o (u1h r').1 t))):Ht Bool).bind fun j=>bif j then some (noR,false) else some (r',true))=some (t6v t):=by
 unfold t6v
 cases h:u4u t with
 | some r=>
  obtain⟨h1,h2,h3⟩:=j35 hu h
  obtain⟨e1,e2⟩:=hr r h1 h2
  subst e1
  rw[e2,h3]
  simp only[Aa,Ap,y6l,zOb]
 | none=>
  cases b
  ·cases h2:(u1h r').2
   ·rfl
   ·have:z7o (u1h r').1 t=false:=by
     rw[o6a]
     intro e
     have:=j36 (t:=t) (r:=r') (by rw[←e,←h2])
     rw[h] at this;cases this
    rw[this];rfl
  ·rfl
theorem o6u (s:Hs):((s.data.toList.getD 0 0).toNat:Int)=(u7n s 0:Int):=rfl
theorem o2u (s:Hs) (i:Nat):u7n s i<256:=by unfold u7n;exact Fw _
theorem q7k {t s:Hs} (h:t5t t=some s):s.size≤20000:=by
 unfold t5t at h
 split at h
 ·rename_i q
  have:=Ds h
  rw[←this];simp;omega
 ·cases h
theorem d4m (k:Nat):decide ((k:Int)=3)=decide (k=3):=by simp;omega
theorem d4n (k:Nat):decide ((k:Int)=4)=decide (k=4):=by simp;omega
theorem q7s:u0q.wt u5j=0:=rfl
theorem q7r:j74.wt u2s=0:=rfl
theorem o66 (m:Nat) {s:Hs} (hs:s.size≤20000) (h1:1≤s.size):u0q.wt (u6u m s (1,false)).1≤30000:=by
 have h:=r08 m s (1,false) ⟨by simp,by simp;omega⟩
 have h2:=h.1
 unfold inT at h2
 have:=(u9m (u6u m s (1,false)).2 (k:=20) (by omega)).2
 have:=h.2
 simp only at this
 omega
theorem o31 (m:Lim) {s:Hs} (hs:s.size≤20000) (h1:1≤s.size):j74.wt (t5x m s (1,false)).1≤30000:=by
 have h:=o1a m (s:=s) (c:=(1,false)) ⟨by simp,by simp;omega⟩
 have e:(t5x m s (1,false)).1=(r1b m s (1,false)).1:=rfl
 rw[e];have:=h.2;omega
theorem p2g (t:Hs) (ht:t.size≤u0m):s0u t=some (t6v t):=by
 have hb:u0m=1099511627776:=rfl
 rw[q8a];unfold s9r
 rw[p9i t ht]
 simp only[zOb]
 cases hu:t5t t with
 | none=>
  unfold t6v u4u
  rw[hu];rfl
 | some s=>
  have hs:=q7k hu
  simp only[t5j]
  by_cases h0:s.size=0
  ·unfold t6v u4u
   rw[hu]
   simp only
   rw[Al h0,Bb h0];rfl
  ·have hin:inT s (1,false):=⟨by simp,by simp;omega⟩
   rw[A7 h0]
   simp only[Ap,Aa,zOb]
   rw[show y4q (0:Int) s.size=true from y7t (i:=0) (by omega)]
   simp only[Ad,show((0:Int)).toNat=0 from rfl,o6u]
   rw[y4y (n:=(u7n s 0:Int)) (by omega) (by have:=o2u s 0;omega),d4m,d4n]
   by_cases h3:u7n s 0=3
   ·rw[Bb h3,s2t _ (by omega)]
    simp only[Ad,zOb]
    rw[q6y _ (by omega)]
    simp only[zOb]
    have hf:=(u8i hin).2
    have hg:=(u8i hin).1
    unfold inT at hg
    have:=(u9m (u2x s (1,false)).2 (k:=1) (by omega)).2
    simp only at hf
    have hk:=s47 ((u7n s 0:Int),u5j,(u2x s (1,false)).1,(q7v s (u2x s (1,false)).2).1,u2s) (by rw[r9s];simp only[q7s,q7r];omega)
    rw[show((0:Int),(0:Int),(0:Int),(0:Int),([] :Hu s3m),([] :Hu WrT),false,(⟨#[]⟩:Hs))=u5j from rfl]
    rw[show(([] :Hu u2b),([] :Hu u0c),([] :Hu u0c),(0:Int),(0:Int))=u2s from rfl]
    rw[hk]
    simp only[zOb]
    refine q0m hu (b:=(q7v s (u2x s (1,false)).2).2.2) fun r h1 h2=> ?_
    have:=s04 h1
    rw[←h2] at this
    unfold t3j at this
    rw[Al h3] at this
    rw[h3]
    exact⟨(Dv this).1,(Dv this).2⟩
   ·rw[A7 h3]
    by_cases h4:u7n s 0=4
    ·rw[Bb h4,j0e (by omega) hin]
     simp only[Ad,Aa,zOb]
     have hk:=s47 ((u7n s 0:Int),u5j,emp,false,(t5x j6c s (1,false)).1) (by rw[r9s];simp only[q7s];have:=o31 j6c hs (by omega);simp only[emp,ByteArray.size];simp;omega)
     rw[show((0:Int),(0:Int),(0:Int),(0:Int),([] :Hu s3m),([] :Hu WrT),false,(⟨#[]⟩:Hs))=u5j from rfl]
     rw[show(([] :Hu u2b),([] :Hu u0c),([] :Hu u0c),(0:Int),(0:Int))=u2s from rfl]
     rw[show((⟨#[]⟩:Hs))=emp from rfl]
     rw[hk]
     simp only[zOb]
     refine q0m hu (b:=(t5x j6c s (1,false)).2.2) fun r h1 h2=> ?_
     have:=s04 h1
     rw[←h2] at this
     unfold t3j at this
     rw[Ao h3,Al h4] at this
     have hl:=p8f o5w j6d (Dv this).2
     rw[h4,hl]
     exact⟨(Dv this).1,(Dv this).2⟩
    ·rw[A7 h4,o1j (by omega) hin]
     simp only[Ad,Aa,zOb]
     have hk:=s47 ((u7n s 0:Int),(u6u 1000000000 s (1,false)).1,emp,false,u2s) (by rw[r9s];simp only[q7r];have:=o66 1000000000 hs (by omega);simp only[emp,ByteArray.size];simp;omega)
     rw[show((0:Int),(0:Int),(0:Int),(0:Int),([] :Hu s3m),([] :Hu WrT),false,(⟨#[]⟩:Hs))=u5j from rfl]
     rw[show(([] :Hu u2b),([] :Hu u0c),([] :Hu u0c),(0:Int),(0:Int))=u2s from rfl]
     rw[show((⟨#[]⟩:Hs))=emp from rfl]
     rw[hk]
     simp only[zOb]
     refine q0m hu (b:=(u6u 1000000000 s (1,false)).2.2) fun r h1 h2=> ?_
     have:=s04 h1
     rw[←h2] at this
     unfold t3j at this
     rw[Ao h3,Ao h4] at this
     have hl:=p4o (m:=9) (m' :=1000000000) (by omega) (by omega) (Dv this).2
     rw[hl]
     exact⟨(Dv this).1,(Dv this).2⟩
theorem p2h (t:Hs) (ht:t.size≤u0m):s0z t=some (t6v t):=by
 have hb:u0m=1099511627776:=rfl
 rw[q8k];unfold s91
 rw[p9j t ht]
 simp only[zOb]
 cases hu:t5t t with
 | none=>
  unfold t6v u4u
  rw[hu];rfl
 | some s=>
  have hs:=q7k hu
  simp only[t5j]
  by_cases h0:s.size=0
  ·unfold t6v u4u
   rw[hu]
   simp only
   rw[Al h0,Bb h0];rfl
  ·have hin:inT s (1,false):=⟨by simp,by simp;omega⟩
   rw[A7 h0]
   simp only[Ap,Aa,zOb]
   rw[show y4q (0:Int) s.size=true from y7t (i:=0) (by omega)]
   simp only[Ad,show((0:Int)).toNat=0 from rfl,o6u]
   rw[y4y (n:=(u7n s 0:Int)) (by omega) (by have:=o2u s 0;omega),d4m,d4n]
   by_cases h3:u7n s 0=3
   ·rw[Bb h3,s2u _ (by omega)]
    simp only[Ad,zOb]
    rw[q60 (u8i hin).1 (by omega)]
    simp only[zOb]
    have hf:=(u8i hin).2
    have hg:=(u8i hin).1
    unfold inT at hg
    have:=(u9m (u2x s (1,false)).2 (k:=1) (by omega)).2
    simp only at hf
    have hk:=t3m ((u7n s 0:Int),u5j,(u2x s (1,false)).1,(q7v s (u2x s (1,false)).2).1,u2s) (by rw[r9s];simp only[q7s,q7r];omega)
    rw[show((0:Int),(0:Int),(0:Int),(0:Int),([] :Hu s3m),([] :Hu WrT),false,(⟨#[]⟩:Hs))=u5j from rfl]
    rw[show(([] :Hu u2b),([] :Hu u0c),([] :Hu u0c),(0:Int),(0:Int))=u2s from rfl]
    rw[hk]
    simp only[zOb]
    refine q0m hu (b:=false) fun r h1 h2=> ?_
    have:=s04 h1
    rw[←h2] at this
    unfold t3j at this
    rw[Al h3] at this
    rw[h3]
    exact⟨(Dv this).1,rfl⟩
   ·rw[A7 h3]
    by_cases h4:u7n s 0=4
    ·rw[Bb h4,j0f (by omega) hin]
     simp only[Ad,Aa,zOb]
     generalize hy:(if(t5x j3e s (1,false)).2.2=true then(u2s,(0:Int),false) else((t5x j3e s (1,false)).1,(t5x j3e s (1,false)).2.1,true))=y
     have hyw:j74.wt y.1≤30000:=by
      rw[←hy]
      split
      ·rw[q7r];omega
      ·exact o31 j3e hs (by omega)
     have hk:=t3m ((u7n s 0:Int),u5j,emp,false,y.1) (by rw[r9s];simp only[q7s];simp only[emp,ByteArray.size];simp;omega)
     rw[show((0:Int),(0:Int),(0:Int),(0:Int),([] :Hu s3m),([] :Hu WrT),false,(⟨#[]⟩:Hs))=u5j from rfl]
     rw[show(([] :Hu u2b),([] :Hu u0c),([] :Hu u0c),(0:Int),(0:Int))=u2s from rfl]
     rw[show((⟨#[]⟩:Hs))=emp from rfl]
     rw[hk]
     simp only[zOb]
     refine q0m hu (b:=false) fun r h1 h2=> ?_
     have:=s04 h1
     rw[←h2] at this
     unfold t3j at this
     rw[Ao h3,Al h4] at this
     have hl:=p8f o5w j6e (Dv this).2
     rw[hl,Ao (by rw[(Dv this).2];simp)] at hy
     rw[h4,←hy]
     exact⟨(Dv this).1,rfl⟩
    ·rw[A7 h4,o7n (by omega) hin]
     simp only[Ad,Aa,zOb]
     generalize hy:(if(u6u 10 s (1,false)).2.2=true then(u5j,(0:Int),false) else((u6u 10 s (1,false)).1,(u6u 10 s (1,false)).2.1,true))=y
     have hyw:u0q.wt y.1≤30000:=by
      rw[←hy]
      split
      ·rw[q7s];omega
      ·exact o66 10 hs (by omega)
     have hk:=t3m ((u7n s 0:Int),y.1,emp,false,u2s) (by rw[r9s];simp only[q7r];simp only[emp,ByteArray.size];simp;omega)
     rw[show((0:Int),(0:Int),(0:Int),(0:Int),([] :Hu s3m),([] :Hu WrT),false,(⟨#[]⟩:Hs))=u5j from rfl]
     rw[show(([] :Hu u2b),([] :Hu u0c),([] :Hu u0c),(0:Int),(0:Int))=u2s from rfl]
     rw[show((⟨#[]⟩:Hs))=emp from rfl]
     rw[hk]
     simp only[zOb]
     refine q0m hu (b:=false) fun r h1 h2=> ?_
     have:=s04 h1
     rw[←h2] at this
     unfold t3j at this
     rw[Ao h3,Ao h4] at this
     have hl:=p4o (m:=9) (m' :=10) (by omega) (by omega) (Dv this).2
     rw[hl,Ao (by rw[(Dv this).2];simp)] at hy
     rw[←hy]
     exact⟨(Dv this).1,rfl⟩
end
section
theorem o46 (l:Hu u0c) (c:Hs) (hl:l.length≤8388608):u2k (l,c)=some (l.filter fun x=> !z7o x.2.2.2.2.2.2.2 c):=by
 have hq:∀x∈l,u7x (x,c)=some (z7o x.2.2.2.2.2.2.2 c):=fun x _=>by rw[p0v];rfl
 have L:=Q.first (T:=u0q) (c:=Hs) (W:=u1j) (q:=u7x) (p:=fun x:u0c=>z7o x.2.2.2.2.2.2.2 c) (fun x=>u93 x) l c (by omega) hq
 rw[t0v];unfold u4l
 simp only[t1z,u4x,L,zOb]
 by_cases hk:u0s (fun x:u0c=>z7o x.2.2.2.2.2.2.2 c) l<l.length
 ·obtain⟨a,e1,e2,e3⟩:=Q.delete (T:=u0q) (c:=Hs) (W:=u1d) (q:=u7x) (p:=fun x:u0c=>z7o x.2.2.2.2.2.2.2 c) (fun x=>u9z x) l c (by omega) hq hk
  have hn:=t13 (fun x:u0c=> !z7o x.2.2.2.2.2.2.2 c) l
  obtain⟨n,hne⟩:∃n,n=(l.filter fun x:u0c=> !z7o x.2.2.2.2.2.2.2 c).length:=⟨_,rfl⟩
  rw[←hne] at e1 e3 hn
  have c1:decide (((u0s (fun x:u0c=>z7o x.2.2.2.2.2.2.2 c) l:Nat):Int)= -1)=false:=by simp
  have c2:decide ((0:Int)≤(n:Int))=true:=by simp
  have c3:decide ((n:Int)≤(a.length:Int))=true:=by simp;omega
  have c4:decide ((a.length:Int)≤(a.length:Int))=true:=by simp
  have hw:=y7l (i:=u0s (fun x:u0c=>z7o x.2.2.2.2.2.2.2 c) l) (by omega)
  simp only[Al hk,zOb,c1,Aa,hw,e1,c2,c3,c4,Dt,Ad,zTn,Ae,Bv]
  have c5:decide ((n:Int)≤((a.take n++List.replicate (a.length - n) u0q.zero++a.drop (n+(a.length - n))).length:Int))=true:=by simp;omega
  have c6:(a.take n++List.replicate (a.length - n) u0q.zero++a.drop (n+(a.length - n))).take (n - (0:Int).toNat)=l.filter fun x:u0c=> !z7o x.2.2.2.2.2.2.2 c:=by
   rw[Bi,Ho,Nat.sub_zero,q77 a n (by omega),e3]
  simp only[c5,Dt,Ad,c6]
 ·have hall:(l.filter fun x:u0c=> !z7o x.2.2.2.2.2.2.2 c)=l:=by
   rw[F9]
   intro x hx
   obtain⟨i,hi,rfl⟩:=B7 hx
   rw[t2b (p:=fun x:u0c=>z7o x.2.2.2.2.2.2.2 c) hi (by omega)]
   rfl
  simp only[Ao hk,zOb,Ae,Ad,hall]
theorem o1x (b:u0j) (n:Hs) (hb:fewB b):t6h (b,n)=some (u7p b n):=by
 rw[p5z];unfold q1i
 simp only
 rw[s0m b hb]
 simp only[zOb]
 rw[o46 _ _ (by have:=hb.2.2.1;omega)]
 rfl
theorem q89 (b:u0j) (n:Hs) (hb:fewB b):s1x (b,n)=some (u7p b n):=by
 obtain⟨hb1,hb2,hb3⟩:=hb
 have L:=s19 t1k b.2.2.1 (fun(a:Hu u0c) i=>(n,b,u2s,((b.1,b.2.1,a,b.2.2.2):u0j),i)) (fun x:u0c=> !z7o x.2.2.2.2.2.2.2 n) (fun x=>x) (fun a=> .inl (u2s,((b.1,b.2.1,a,b.2.2.2):u0j))) (by have:=hb3.1;omega)
  (fun a _=>by rw[r58];simp only[t7e,u0b,Am,Ah,Aa])
  (fun i hi a ha=>by
   have hm:=Ag hi
   have:=hb3.1
   rw[r58];simp only[t7e,u0b,hi,Ae,Ad,y7t hi,zTn,y8k (t:=u0q) hi,y7l (show i<4611686018427387904 by omega)]
   rw[t05 _ (hb3.2 _ hm)]
   simp only[zOb]
   rw[q7t (by simp;omega)])
 rw[Er] at L
 rw[p6m];unfold q15
 simp only
 rw[s0n b ⟨hb1,hb2,hb3⟩]
 simp only[zOb]
 have L' :t1k (n,b,(([], [], [],0,0):u0j),((b.1,b.2.1, [],b.2.2.2):u0j),0)=_:=L
 rw[L']
 rfl
theorem j0v {n i:Int} :y8h n (i+1)=u2a n i:=by
 unfold y8h u2a
 by_cases h:i<n
 ·rw[Al h,Ao (by omega)]
 ·rw[Ao h,Al (by omega)]
theorem j08 (p:u0c→Bool) (l:Hu u0c):∀(a:Hu u0c×Hu u0c),l.foldl (fun a x=>if p x=true then(a.1++ [x],a.2) else(a.1,a.2++ [x])) a=(a.1++l.filter p,a.2++l.filter fun x=> !p x):=by
 induction l with
 | nil=>intro a;simp
 | cons x l ih=>
  intro a
  rw[Bs,ih]
  cases h:p x<;>simp[h]
theorem o68 (p q:u0c→Bool) (l:Hu u0c) (d:u0c) (hl:l.length≤4194304):(l.filter p).length+ [d].length≤1099511627776∧(l.filter p++ [d]).length+(l.filter q).length≤1099511627776∧(l.filter p++ [d]).length≤8000000:=by
 have f1:=t13 p l
 have f2:=t13 q l
 rw[Ba,Aw]
 omega
theorem p8p (b z:u0j) (t d:u0c) (n:Hs) (hb:fewB b):u5z (n,t,z,b,d, [], [],(),(b.2.2.1.length:Int),0)=
 some (.inl (t,z,b,d,b.2.2.1.filter (fun x=>y3c x.2.2.2.2.2.2.2 n),b.2.2.1.filter fun x=> !y3c x.2.2.2.2.2.2.2 n)):=by
 have hl:=hb.2.2.1
 have L:=u8w u5z b.2.2.1 (fun(a:Hu u0c×Hu u0c) i=>(n,t,z,b,d,a.1,a.2,(),(b.2.2.1.length:Int),i)) (fun a x=>if y3c x.2.2.2.2.2.2.2 n=true then(a.1++ [x],a.2) else(a.1,a.2++ [x]))
  (fun a=> .inl (t,z,b,d,a.1,a.2)) (fun i a=>a.1.length≤i∧a.2.length≤i)
  (fun a _=>by rw[s8f];simp only[t2o,u0b,Am,Ah,Aa])
  (fun i hi a ha=>by
   rw[s8f];simp only[t2o,u0b,hi,Ae,Ad,y7t hi,zTn,y8k (t:=u0q) hi,y7l (show i<4611686018427387904 by omega)]
   cases y3c (b.2.2.1[i]).2.2.2.2.2.2.2 n
   ·simp only[Br,Bk,Aa]
    refine⟨⟨by omega,by simp;omega⟩,?_⟩
    rw[q7t (by simp;omega)]
   ·simp only[Bl,Ad]
    refine⟨⟨by simp;omega,by omega⟩,?_⟩
    rw[q7t (by simp;omega)]) ([], []) ⟨by simp,by simp⟩
 rw[j08 (fun x=>y3c x.2.2.2.2.2.2.2 n)] at L
 simpa using L
theorem p5n (b:u0j) (t:u0c) (n:Hs) (hb:fewB b) (ht:r6x t) (hi:o8q t.1):s26 (b,t,n)=some (u12 b t n):=by
 have hl:=hb.2.2.1
 rw[p0x];unfold r3o
 simp only
 rw[s0m b hb]
 simp only[zOb]
 rw[p19 t ht]
 simp only[zOb]
 rw[p7y t b.2.1 ht hb.2.1]
 simp only[zOb]
 rw[p8p _ _ _ _ _ hb,p8p _ _ _ _ _ hb]
 simp only[zOb,s0e hi,j0v]
 have pl:=fun d=>o68 (fun x:u0c=>y3c x.2.2.2.2.2.2.2 n) (fun x:u0c=> !y3c x.2.2.2.2.2.2.2 n) b.2.2.1 d hl
 rw[q7t (pl _).1,q7t (pl _).2.1,q7t (pl _).1,q7t (pl _).2.1]
 unfold u12 u4r
 cases t.2.2.2.2.2.2.1<;>rfl
theorem p4z (b z:u0j) (t d:u0c) (n:Hs) (hb:fewB b):u53 (n,b,t,z,((b.1,b.2.1, [],b.2.2.2):u0j),d,0)=
 some (.inl (n,b,t,z,((b.1,b.2.1,b.2.2.1.filter (fun x=>y3c x.2.2.2.2.2.2.2 n),b.2.2.2):u0j),d)):=by
 have hl:=hb.2.2.1
 have L:=s19 u53 b.2.2.1 (fun(a:Hu u0c) i=>(n,b,t,z,((b.1,b.2.1,a,b.2.2.2):u0j),d,i)) (fun x:u0c=>y3c x.2.2.2.2.2.2.2 n) (fun x=>x) (fun a=> .inl (n,b,t,z,((b.1,b.2.1,a,b.2.2.2):u0j),d)) (by omega)
  (fun a _=>by rw[s8o];simp only[t2x,u0b,Am,Ah,Aa])
  (fun i hi a ha=>by
   have hm:=Ag hi
   rw[s8o];simp only[t2x,u0b,hi,Ae,Ad,y7t hi,zTn,y8k (t:=u0q) hi,y7l (show i<4611686018427387904 by omega)]
   rw[t05 _ (hb.2.2.2 _ hm)]
   simp only[zOb]
   rw[q7t (by simp;omega)])
 rw[Er] at L
 exact L
theorem p0f (b z:u0j) (t:u0c) (n:Hs) (hb:fewB b) (pre:Hu u0c) (hp:pre.length≤8000000):u5e (n,b,t,z,((b.1,b.2.1,pre,b.2.2.2):u0j),0)=
 some (.inl (t,z,((b.1,b.2.1,pre++b.2.2.1.filter (fun x=> !y3c x.2.2.2.2.2.2.2 n),b.2.2.2):u0j))):=by
 have hl:=hb.2.2.1
 have L:=s19 u5e b.2.2.1 (fun(a:Hu u0c) i=>(n,b,t,z,((b.1,b.2.1,pre++a,b.2.2.2):u0j),i)) (fun x:u0c=> !y3c x.2.2.2.2.2.2.2 n) (fun x=>x) (fun a=> .inl (t,z,((b.1,b.2.1,pre++a,b.2.2.2):u0j))) (by omega)
  (fun a _=>by rw[s6w];simp only[t0g,u0b,Am,Ah,Aa])
  (fun i hi a ha=>by
   have hm:=Ag hi
   rw[s6w];simp only[t0g,u0b,hi,Ae,Ad,y7t hi,zTn,y8k (t:=u0q) hi,y7l (show i<4611686018427387904 by omega)]
   rw[t05 _ (hb.2.2.2 _ hm)]
   simp only[zOb]
   rw[q7t (by simp;omega),Bi])
 rw[Er,Bw] at L
 exact L
theorem q1c (b:u0j) (t:u0c) (n:Hs) (hb:fewB b) (ht:r6x t) (hi:o8q t.1):u6h (b,t,n)=some (u12 b t n):=by
 have hl:=hb.2.2.1
 have pl:=fun d=>o68 (fun x:u0c=>y3c x.2.2.2.2.2.2.2 n) (fun x:u0c=> !y3c x.2.2.2.2.2.2.2 n) b.2.2.1 d hl
 rw[p1g];unfold r37
 simp only
 rw[s0n b hb]
 simp only[zOb]
 rw[t05 t ht]
 simp only[zOb]
 rw[q7z t b.2.1 ht hb.2.1]
 simp only[zOb]
 rw[p4z _ _ _ _ _ hb,p4z _ _ _ _ _ hb]
 simp only[zOb]
 rw[q7t (pl _).1,q7t (pl _).1,p0f _ _ _ _ hb _ (pl _).2.2,p0f _ _ _ _ hb _ (pl _).2.2]
 simp only[zOb,s0e hi]
 have key:∀(o:Bool),(bif decide (t.1≥b.2.2.2.2) then some ((b.1,b.2.1,(b.2.2.1.filter fun x=>y3c x.2.2.2.2.2.2.2 n)++ [((t.1,(2:Int),t.2.2.1,t.2.2.2.1,t.2.2.2.2.1,t.2.2.2.2.2.1,o,n):u0c)] ++(b.2.2.1.filter fun x=> !y3c x.2.2.2.2.2.2.2 n),b.2.2.2.1,t.1+1):u0j)
  else some (b.1,b.2.1,(b.2.2.1.filter fun x=>y3c x.2.2.2.2.2.2.2 n)++ [((t.1,(2:Int),t.2.2.1,t.2.2.2.1,t.2.2.2.2.1,t.2.2.2.2.2.1,o,n):u0c)] ++(b.2.2.1.filter fun x=> !y3c x.2.2.2.2.2.2.2 n),b.2.2.2))=
  some (b.1,b.2.1,(b.2.2.1.filter fun x=>y3c x.2.2.2.2.2.2.2 n)++ [((t.1,(2:Int),t.2.2.1,t.2.2.2.1,t.2.2.2.2.1,t.2.2.2.2.2.1,o,n):u0c)] ++(b.2.2.1.filter fun x=> !y3c x.2.2.2.2.2.2.2 n),b.2.2.2.1,u2a b.2.2.2.2 t.1):=fun o=>by
  unfold u2a
  by_cases h:t.1<b.2.2.2.2
  ·rw[A7 (by omega),Al h];rfl
  ·rw[Bb (by omega),Ao h];rfl
 unfold u12 u4r
 cases t.2.2.2.2.2.2.1
 ·exact key _
 ·exact key _
end
section
structure tinyT (t:u0c):Prop where
 rl:t.2.2.2.2.1.length≤100
 rs:∀r∈t.2.2.2.2.1,r.1.size≤100∧r.2.size≤100
 wl:t.2.2.2.2.2.1.length≤100
 ws:∀w∈t.2.2.2.2.2.1,w.1.size≤100∧w.2.1.size≤100
 nm:t.2.2.2.2.2.2.2.size≤100
structure tinyB (b:u0j):Prop where
 vl:b.1.length≤10000
 vs:∀v∈b.1,v.1.size≤100∧v.2.1.size≤100
 pl:b.2.1.length≤1000
 ps:∀t∈b.2.1,tinyT t
 rl:b.2.2.1.length≤1000
 rs:∀t∈b.2.2.1,tinyT t
theorem s2s {α:Type} {f:α→Nat} {k:Nat} :∀ {l:Hu α},(∀x∈l,f x≤k)→(l.map f).sum≤l.length*k
 | [],_=>by simp
 | x::l,h=>by
  rw[C8,Ge,Bc,C7]
  have h1:=h x (by simp)
  have h2:=s2s (l:=l) (fun y hy=>h y (by simp[hy]))
  omega
theorem tinyT.wt {t:u0c} (h:tinyT t):u0q.wt t≤50000:=by
 have e1:(Ty.sl t3b).wt t.2.2.2.2.1=t.2.2.2.2.1.length+(t.2.2.2.2.1.map t3b.wt).sum:=rfl
 have e2:(Ty.sl u2i).wt t.2.2.2.2.2.1=t.2.2.2.2.2.1.length+(t.2.2.2.2.2.1.map u2i.wt).sum:=rfl
 have s1:(t.2.2.2.2.1.map t3b.wt).sum≤t.2.2.2.2.1.length*200:=s2s fun r hr=>by
  have:=h.rs r hr
  have e:t3b.wt r=r.1.size+r.2.size:=rfl
  omega
 have s2:(t.2.2.2.2.2.1.map u2i.wt).sum≤t.2.2.2.2.2.1.length*200:=s2s fun w hw=>by
  have:=h.ws w hw
  have e:u2i.wt w=w.1.size+(w.2.1.size+0):=rfl
  omega
 have:=h.rl;have:=h.wl;have:=h.nm
 rw[j1z,e1,e2]
 omega
theorem tinyT.few {t:u0c} (h:tinyT t):r6x t:=⟨by have:=h.rl;omega,by have:=h.wl;omega⟩
theorem TxnR.tiny {t:u0c} (h:TxnR t):tinyT t:=by
 obtain⟨z1,z2,z3,z4,z5⟩:=h.small
 exact⟨by have:=h.rlen;omega,fun r hr=>by have:=z1 r hr;omega,by omega,fun w hw=>by have:=z2 w hw;omega,by omega⟩
theorem tinyT.like {t u:u0c} (h:tinyT t) (e1:u.2.2.2.2.1=t.2.2.2.2.1) (e2:u.2.2.2.2.2.1=t.2.2.2.2.2.1) (e3:u.2.2.2.2.2.2.2.size≤100):tinyT u:=
 ⟨by rw[e1];exact h.rl,by rw[e1];exact h.rs,by rw[e2];exact h.wl,by rw[e2];exact h.ws,e3⟩
theorem p15 {l:Hu u0c} (hl:l.length≤1000) (h:∀t∈l,tinyT t):(Ty.sl u0q).wt l≤60000000:=by
 have e:(Ty.sl u0q).wt l=l.length+(l.map u0q.wt).sum:=rfl
 have s:(l.map u0q.wt).sum≤l.length*50000:=s2s fun t ht=>(h t ht).wt
 rw[e];omega
theorem tinyB.wt {b:u0j} (h:tinyB b):j74.wt b≤200000000:=by
 have e:(Ty.sl u0d).wt b.1=b.1.length+(b.1.map u0d.wt).sum:=rfl
 have s:(b.1.map u0d.wt).sum≤b.1.length*200:=s2s fun v hv=>by
  have:=h.vs v hv
  have e:u0d.wt v=v.1.size+(v.2.1.size+(0+0)):=rfl
  omega
 have h1:=p15 h.pl h.ps
 have h2:=p15 h.rl h.rs
 have:=h.vl
 rw[r8n,e];omega
theorem q7g {l:Hu u0c} (hl:l.length≤1000) (h:∀t∈l,tinyT t):o0z l:=⟨by omega,fun t ht=>(h t ht).few⟩
theorem tinyB.few {b:u0j} (h:tinyB b):fewB b:=⟨by have:=h.vl;omega,q7g h.pl h.ps,q7g h.rl h.rs⟩
theorem BaseR.tiny {b:u0j} (h:BaseR b):tinyB b:=by
 obtain⟨w1,w2,w3⟩:=j2n.mp h.vs
 exact⟨by omega,fun v hv=>by have:=s6q (w1 v hv);omega,by have:=h.plen;omega,fun t ht=>(h.past t ht).1.tiny,by have:=h.rlen;omega,fun t ht=>(h.ready t ht).1.tiny⟩
theorem t8m {b:u0j} (h:tinyB b) (o:Hu u0c):tinyB (u2y b o):=
 ⟨A9 (o6e _ _) h.vl,fun v hv=>h.vs v ((t4c _ _).subset hv),A9 (t13 _ _) h.pl,fun t ht=>h.ps t (A6.mp ht).1,h.rl,h.rs⟩
theorem s8c {b:u0j} {t:u0c} (h:BaseR b) (ht:tinyT t):tinyB (u0y b t):=by
 obtain⟨w1,w2,w3⟩:=j2n.mp h.vs
 have hb:=h.tiny
 refine⟨?_,fun v hv=> ?_,?_,fun x hx=> ?_,?_,fun x hx=> ?_⟩
 ·show(t5k b.1 t.2.2.2.2.2.1 (b.2.2.2.1+1)).length≤10000
  rw[r1a];have:=ht.wl
  have e:(t.2.2.2.2.2.1:Hu u2i.den).length=t.2.2.2.2.2.1.length:=rfl
  omega
 ·rcases(u7h _ _ _).mp hv with q | ⟨w,hw,rfl⟩
  ·exact hb.vs v q
  ·exact ht.ws w hw
 ·show(b.2.1++ [u9o b t]).length≤1000
  have:=h.plen
  rw[Ba,Aw];omega
 ·rcases Ay.mp hx with q | q
  ·exact hb.ps x q
  ·rw[Ax.mp q]
   exact ht.like rfl rfl (Cn _)
 ·show((b.2.2.1.filter fun x=> !decide (x.1=t.1)).map (q3e (u9o b t))).length≤1000
  rw[Da]
  exact A9 (t13 _ _) hb.rl
 ·obtain⟨y,hy,rfl⟩:=Bx.mp hx
  have:=hb.rs y (A6.mp hy).1
  exact this.like rfl rfl this.nm
theorem q80 {b:u0j} {t:u0c} {n:Hs} (h:BaseR b) (ht:tinyT t) (hn:n.size≤100):tinyB (u12 b t n):=by
 have hb:=h.tiny
 refine⟨hb.vl,hb.vs,hb.pl,hb.ps,?_,fun x hx=> ?_⟩
 ·show((b.2.2.1.filter fun x=>y3c x.2.2.2.2.2.2.2 n)++ [u4r b t n] ++(b.2.2.1.filter fun x=> !y3c x.2.2.2.2.2.2.2 n)).length≤1000
  have f1:=t13 (fun x:u0c=>y3c x.2.2.2.2.2.2.2 n) b.2.2.1
  have f2:=t13 (fun x:u0c=> !y3c x.2.2.2.2.2.2.2 n) b.2.2.1
  have:=h.rlen
  rw[Ba,Ba,Aw];omega
 ·rcases Ay.mp hx with q | q
  ·rcases Ay.mp q with q | q
   ·exact hb.rs x (A6.mp q).1
   ·rw[Ax.mp q]
    exact ht.like rfl rfl hn
  ·exact hb.rs x (A6.mp q).1
theorem q8u {b:u0j} {n:Hs} (hb:tinyB b):tinyB (u7p b n):=
 ⟨hb.vl,hb.vs,hb.pl,hb.ps,A9 (t13 _ _) hb.rl,fun x hx=>hb.rs x (A6.mp hx).1⟩
structure tinyR (r:s67):Prop where
 t:tinyT r.2.1
 n:r.2.2.1.size≤100
 b:tinyB r.2.2.2.2
theorem tinyR.wt {r:s67} (h:tinyR r):d1i.wt r≤549755813888:=by
 have:=h.t.wt;have:=h.n;have:=h.b.wt
 rw[r9s];omega
theorem s06:tinyT u5j:=⟨by decide,fun r hr=>(by cases hr),by decide,fun r hr=>(by cases hr),by decide⟩
theorem t2h:tinyB u2s:=⟨by decide,fun r hr=>(by cases hr),by decide,fun r hr=>(by cases hr),by decide,fun r hr=>(by cases hr)⟩
theorem j3n:tinyR noR:=⟨s06,by decide,t2h⟩
theorem RecR.tiny {r:s67} (h:RecR r):tinyR r:=by
 cases h with
 | thr t h hs=>exact⟨h.tiny,Cn 100,t2h⟩
 | rdy t h hs=>exact⟨h.tiny,Cn 100,t2h⟩
 | fin n y h=>exact⟨s06,by have:=u3f h;show n.size≤100;omega,t2h⟩
 | bas b h=>exact⟨s06,Cn 100,h.tiny⟩
def s4q (b:u0j) (r:s67):u0j×Bool:=match u7o b r with
 | some x=>(x,true)
 | none=>(b,false)
theorem p4n {n:Int} (h:0≤n∧n≤9999):o8q n:=⟨by omega,by omega⟩
theorem q4r {n:Int} (h:1≤n∧n≤9999):o8q n:=⟨by omega,by omega⟩
theorem q0u {b x:u0j} {r:s67} (hb:u7m b=true∧u6z r=true) {o:Bool} (hx:u2e b r=if o=true then some x else none):
 (((bif (!o) then some true else some (!u7m (u2y x []))):Ht Bool).bind fun j=>bif j then some (b,false) else some (u2y x [],true))=some (s4q b r):=by
 unfold s4q u7o
 rw[Al hb,hx]
 cases o
 ·rfl
 ·simp only[Bl,Ap,Aa,zOb]
  cases u7m (u2y x [])<;>rfl
theorem o5e (b:u0j) (r:s67) (hb:tinyB b) (hr:tinyR r):r2w (b,r)=some (s4q b r):=by
 have hq:u0m=1099511627776:=rfl
 rw[p91];unfold q5g
 simp only
 rw[t0b b (by have:=hb.wt;omega),q47 r hr.wt,s0m b hb.few]
 simp only[zOb]
 cases h1:u7m b
 ·unfold s4q u7o
  rw[Ao (by simp[h1])];rfl
 ·cases h2:u6z r
  ·unfold s4q u7o
   rw[Ao (by simp[h2])];rfl
  ·have hB:=p74.mp h1
   have hR:=j44.mp h2
   have hbr:u7m b=true∧u6z r=true:=⟨h1,h2⟩
   simp only[Ap,Aa,zOb]
   have thr:∀t:u0c,TxnR t→t2c (b,t)=some (u0y b t)∧u3p (u0y b t, [])=some (u2y (u0y b t) [])∧u22 (u2y (u0y b t) [])=some (u7m (u2y (u0y b t) [])):=fun t ht=>by
    have h3:=s8c hB ht.tiny
    refine⟨?_,t3q _ _ h3.few (by simp),t0b _ (by have:=(t8m h3 []).wt;omega)⟩
    rw[q9f b t hb.few ht.tiny.few,p5b (p4n hB.cs) (q4r ht.id)]
   cases hR with
   | thr t h hs=>
    obtain⟨t1,t2,t3⟩:=thr t h
    simp only[Ae,Ad]
    rw[t1]
    simp only[zOb]
    rw[t2]
    simp only[zOb]
    rw[t3]
    simp only[zOb]
    rw[s0e (p4n hB.cs)]
    refine q0u (o:=decide (t.2.2.2.1=b.2.2.2.1+1)) hbr ?_
    unfold u2e
    simp only[Bl,Ar]
   | rdy t h hs=>
    have hn:=u3f (h.name hs)
    have h3:=q80 (n:=t.2.2.2.2.2.2.2) hB h.tiny (by omega)
    simp only[show decide ((2:Int)=1)=false from rfl,Ae,Ad,Aa]
    rw[r64 b _ (by have:=hB.rlen;omega)]
    simp only[zOb]
    rw[p5n b t _ hb.few h.tiny.few (q4r h.id)]
    simp only[zOb]
    rw[t3q _ _ h3.few (by simp),]
    simp only[zOb]
    rw[t0b _ (by have:=(t8m h3 []).wt;omega)]
    simp only[zOb]
    have e:(bif decide ((b.2.2.1.length:Int)<3) then some (decide (u0i b t.2.2.2.2.2.2.2<0)) else some false:Ht Bool)=some (decide (b.2.2.1.length<3∧u0i b t.2.2.2.2.2.2.2<0)):=by
     by_cases q:b.2.2.1.length<3
     ·rw[Bb (show(b.2.2.1.length:Int)<3 by omega)];simp[q]
     ·rw[A7 (show ¬(b.2.2.1.length:Int)<3 by omega)];simp[q]
    rw[e]
    simp only[zOb]
    refine q0u (o:=decide (b.2.2.1.length<3∧u0i b t.2.2.2.2.2.2.2<0)) hbr ?_
    unfold u2e
    simp only[show((2:Int)=1)=False by simp,Bk,Bl,Ar]
   | fin n y h=>
    simp only[show decide ((3:Int)=1)=false from rfl,show decide ((3:Int)=2)=false from rfl,Ae,Ad,Aa]
    rw[r64 b _ (by have:=hB.rlen;omega)]
    simp only[zOb]
    have h4:=q8u (b:=b) (n:=n) hb
    have giv:t6h (b,n)=some (u7p b n):=o1x b n hb.few
    have raw:∀x,(0≤u0i b n→y=true→x=u0y b (rdL u0q b.2.2.1 (u0i b n).toNat))→(y=false→x=u7p b n)→(0≤u0i b n∨True)→u2e b (3,u5j,n,y,u2s)=if decide (u0i b n≥0)=true then some x else none:=fun x hx hx2 _=>by
     unfold u2e
     simp only[show((3:Int)=1)=False by simp,show((3:Int)=2)=False by simp,Bk,Bl]
     by_cases q:u0i b n<0
     ·rw[Al q,A7 (show ¬u0i b n≥0 by omega)];rfl
     ·rw[Ao q,Bb (show u0i b n≥0 by omega)]
      cases hy:y
      ·rw[hx2 hy];rfl
      ·rw[hx (by omega) hy];rfl
    by_cases q:0≤u0i b n
    ·rw[Bb (show u0i b n≥0 from q)]
     cases hy:y
     ·simp only[Ad,zOb,Aa]
      rw[giv]
      simp only[zOb]
      rw[t3q _ _ h4.few (by simp)]
      simp only[zOb]
      rw[t0b _ (by have:=(t8m h4 []).wt;omega)]
      simp only[zOb]
      have:=raw (u7p b n) (fun _ k=>by rw[hy] at k;cases k) (fun _=>rfl) (.inr trivial)
      rw[hy] at this hbr
      rw[Bb (show u0i b n≥0 from q)] at this
      exact q0u (o:=true) hbr this
     ·simp only[Ad,zOb,Aa]
      have hk:(u0i b n).toNat<b.2.2.1.length:=by
       unfold u0i at q ⊢
       split
       ·rename_i z;rw[zTn];exact z
       ·rename_i z;rw[Ao z] at q;omega
      obtain⟨k,hkk⟩:∃k:Nat,u0i b n=k:=⟨(u0i b n).toNat,by omega⟩
      have hg:y4q (u0i b n) b.2.2.1.length=true:=by rw[hkk];exact y7t (by rw[hkk] at hk;simpa using hk)
      rw[hg]
      simp only[Ad]
      have hT:TxnR (rdL u0q b.2.2.1 (u0i b n).toNat):=by
       rw[y8k hk];exact(hB.ready _ (Ag hk)).1
      obtain⟨t1,t2,t3⟩:=thr _ hT
      rw[t1]
      simp only[zOb]
      rw[t2]
      simp only[zOb]
      rw[t3]
      simp only[zOb]
      have:=raw (u0y b (rdL u0q b.2.2.1 (u0i b n).toNat)) (fun _ _=>rfl) (fun k=>by rw[hy] at k;cases k) (.inr trivial)
      rw[hy] at this hbr
      rw[Bb (show u0i b n≥0 from q)] at this
      exact q0u (o:=true) hbr this
    ·rw[A7 (show ¬u0i b n≥0 from q)]
     simp only[Aa,zOb]
     rw[giv]
     simp only[zOb]
     rw[t3q _ _ h4.few (by simp)]
     simp only[zOb]
     have:=raw (u7p b n) (fun k=>absurd k q) (fun _=>rfl) (.inr trivial)
     rw[A7 (show ¬u0i b n≥0 from q)] at this
     exact q0u (o:=false) hbr this
   | bas c h=>
    simp only[show decide ((4:Int)=1)=false from rfl,show decide ((4:Int)=2)=false from rfl,show decide ((4:Int)=3)=false from rfl,Aa]
    rw[s0m c h.tiny.few]
    simp only[zOb]
    rw[t3q _ _ h.tiny.few (by simp)]
    simp only[zOb]
    rw[t0b _ (by have:=(t8m h.tiny []).wt;omega)]
    simp only[zOb]
    exact q0u (o:=true) hbr (by unfold u2e;simp)
end
section
theorem j50:∃t,s9i ()=some t∧t.size=64∧s3w t 0=0:=by
 have hset:∀i,(List.replicate 64 (0:Int)).set i 0=List.replicate 64 0:=fun i=>by
  apply Gw (by simp)
  intro j h1 h2
  rw[List.getElem_set,List.getElem_replicate]
  split
  ·rfl
  ·rfl
 have key:∀(r i:Nat),i+r=64→t1r ((64:Int),0,List.replicate 64 0,(i:Int))=some (.inl (List.replicate 64 0)):=by
  intro r
  induction r with
  | zero=>
   intro i hi
   have:i=64:=by omega
   subst this
   rw[r6k]
   rfl
  | succ r ih=>
   intro i hi
   have hlt:decide ((i:Int)<64)=true:=by simp;omega
   have hg:y4q (i:Int) (List.replicate 64 (0:Int)).length=true:=y7t (by simp;omega)
   rw[r6k]
   simp only[s21,hlt,Ad,hg,hset]
   rw[y7l (by omega)]
   exact ih (i+1) (by omega)
 have e1:t1r ((64:Int),0,List.replicate 64 0,0)=_:=key 64 0 rfl
 refine⟨y7g (List.replicate 64 0),?_,by rw[u35];simp,by unfold s3w;rw[s6o];rfl⟩
 rw[p66];unfold q2q
 rw[p62];unfold q2l
 have hc:(decide ((0:Int)≤64)&&decide ((64:Int)≤1099511627776))=true:=rfl
 have hr:List.replicate ((64:Int)).toNat (Ty.int .u8).zero=List.replicate 64 (0:Int):=rfl
 simp only[hc,Ad,hr,e1,zOb]
theorem o5b:∃d,r26 ()=some d∧u2v d=true∧u0e d= [] :=by
 obtain⟨z,hz,hz1,hz2⟩:=j50
 have key:∀(r i:Nat),i+r=97→t1j ((97:Int),([], []),(List.replicate i z, []),(i:Int))=some (.inl (([], []),(List.replicate 97 z, []))):=by
  intro r
  induction r with
  | zero=>
   intro i hi
   have:i=97:=by omega
   subst this
   rw[r57]
   rfl
  | succ r ih=>
   intro i hi
   have hlt:decide ((i:Int)<97)=true:=by simp;omega
   have hc:Nat.ble ((List.replicate i z).length+([z] :Hu Hs).length) z7w=true:=u0x (by simp;omega)
   rw[r57]
   simp only[s20,hlt,Ad,hz,zOb,hc]
   rw[y7l (by omega)]
   have e:List.replicate i z++ [z] =List.replicate (i+1) z:=by rw[List.replicate_succ']
   rw[e]
   exact ih (i+1) (by omega)
 have e1:t1j ((97:Int),([], []),([], []),0)=_:=key 97 0 rfl
 have hs:u9x ()=some 97:=by rw[r0f];rfl
 refine⟨(List.replicate 97 z, []),?_,?_⟩
 ·rw[o0j];unfold q5z
  simp only[hs,zOb]
  rw[p6k];unfold q13
  have hi:r6u 97 1 100=true:=rfl
  simp only[s1q,hi,zOb,Ap,Aa,e1]
 ·have hk:u1v (List.replicate 97 z,([] :Hu (Int×Hs)))=true:=p78.mpr ⟨by simp,by simp,fun s hs=>by rw[List.eq_of_mem_replicate hs];exact hz1,fun p hp=>by cases hp⟩
  have hl:(List.replicate 97 z,([] :Hu (Int×Hs))).1.length=97:=by simp
  have hf:=s5k hk hl
  have hc:∀a:Int,a=0∨a=1→u0z (List.replicate 97 z, []) a=0:=fun a ha=>by
   obtain⟨f1,_⟩:=u8d ha
   unfold u0z u5g
   rw[j3b.mpr ha,Al rfl]
   have hk2:u0g a=(((u0g a).toNat:Nat):Int):=by rcases ha with rfl | rfl<;>omega
   rw[hk2,r3b rfl (by rw[hl];rcases ha with rfl | rfl<;>omega)]
   have hlt:(u0g a).toNat<(List.replicate 97 z).length:=by simp;rcases ha with rfl | rfl<;>omega
   have e:rdL Ty.str (List.replicate 97 z) (u0g a).toNat=(List.replicate 97 z)[(u0g a).toNat] :=y8k (t:=Ty.str) hlt
   simp only[e,List.getElem_replicate]
   rw[q75,hz2]
   rfl
  refine⟨q68 hk hl rfl ?_ ?_,?_⟩
  ·rw[t03 hf (.inl rfl),hc 0 (.inl rfl)];rfl
  ·rw[t03 hf (.inr rfl),hc 1 (.inr rfl)];rfl
  ·unfold u0e
   rw[t03 hf (t0s _),hc _ (t0s _)];rfl
end
section
theorem s1r {d:u0l} (h:u2v d=true):d1h.wt d≤10000000:=A9 (u7g (u5b h).1) (by omega)
end
section
theorem r2f (d:u0l) (hd:d1h.wt d≤1073741824):t38 d=some (u0e d):=by
 rw[p3n];unfold r7y
 simp only[s4j d (show d1h.wt d≤u0m by unfold u0m;omega),r2h d _ hd,zOb];rfl
theorem p5q (a b:u0l) (ha:d1h.wt a≤1073741824) (hb:d1h.wt b≤1073741824):s3e (a,b)=some (j1q a b):=by
 rw[p1l];unfold r4c j1q j8w
 have h1:(u0e a).length<256:=p0e a (u0n a)
 simp only[r2f a ha,r2f b hb,zOb]
 generalize u0e a=a at h1
 generalize u0e b=b
 by_cases h:a.length=b.length
 ·have hz:(a.zip b).length=a.length:=by simp[h]
  have L:=s49 t28 (a.zip b) (fun i=>(a,b,i)) (fun p=> !z7o p.1 p.2) (.inr false) (.inl ())
   (by rw[s8s,hz];simp only[t21,u0b,Am,Ah,Aa])
   (fun i hi=>by
    have hi1:i<a.length:=by omega
    have hi2:i<b.length:=by omega
    rw[s8s];simp only[t21,u0b,hi1,Ae,Ad,y7t hi1,y7t hi2,zTn,y8k (t:=Ty.str) hi1,y8k (t:=Ty.str) hi2,List.getElem_zip]
    rw[y7l (by omega)])
  have e1:decide ((a.length:Int)=(b.length:Int))=true:=by simp[h]
  simp only[e1,Ap,Aa,L,zOb]
  rw[←o80 h]
  cases (a.zip b).any fun p=> !z7o p.1 p.2<;>rfl
 ·have e1:decide ((a.length:Int)=(b.length:Int))=false:=by simp;omega
  have e2:decide (a=b)=false:=by
   rw[Bu];intro e;exact h (by rw[e])
  rw[e1,e2];rfl
theorem o79 {s:Src} (h:s.ok) (l:Hu Int) (hl:0<l.length) (hm:l.length≤1000):Dr (t5q (s,l)) (fun y=>y∈l):=by
 obtain⟨y,s1,e1,k1,r1⟩:=r2e h (n:=(l.length:Int)) (by omega)
 rw[q8q];unfold s97
 have hi:y.toNat<l.length:=by omega
 have hg:y4q y l.length=true:=y7s.mpr ⟨r1.1,r1.2⟩
 simp only[e1,zOb,hg,Ad]
 refine⟨_,_,rfl,k1,?_⟩
 show l.getD y.toNat 0∈l
 rw[A5,A4 hi]
 exact Ag hi
end
section
theorem o96 (b:u0j) (r:s67) (hB:BaseR b) (hR:RecR r):s9m (b,r)=some (match u2e b r with
 | some x=>(x,true)
 | none=>(b,false)):=by
 have hb:=hB.tiny
 have thr:∀t:u0c,TxnR t→u65 (b,t)=some (u0y b t):=fun t ht=>by
  rw[q9g b t hb.few ht.tiny.few,p5c (p4n hB.cs) (q4r ht.id)]
 rw[p7d];unfold q2x u2e
 cases hR with
 | thr t h hs=>
  simp only[Ae,Ad,Bl]
  rw[s0e (p4n hB.cs),thr t h]
  by_cases q:t.2.2.2.1=b.2.2.2.1+1
  ·rw[Bb q,Al q];rfl
  ·rw[A7 q,Ao q];rfl
 | rdy t h hs=>
  simp only[show decide ((2:Int)=1)=false from rfl,show((2:Int)=1)=False by simp,Ae,Ah,Ad,Aa,Bl,Bk]
  rw[t8q b _ (by have:=hB.rlen;omega)]
  simp only[zOb]
  rw[q1c b t _ hb.few h.tiny.few (q4r h.id)]
  simp only[zOb]
  by_cases q:b.2.2.1.length<3
  ·rw[A7 (show ¬(b.2.2.1.length:Int)≥3 by omega)]
   simp only[Aa,zOb]
   by_cases q2:u0i b t.2.2.2.2.2.2.2<0
   ·rw[A7 (show ¬u0i b t.2.2.2.2.2.2.2≥0 by omega),Al ⟨q,q2⟩];rfl
   ·rw[Bb (show u0i b t.2.2.2.2.2.2.2≥0 by omega),Ao (fun z=>q2 z.2)];rfl
  ·rw[Bb (show(b.2.2.1.length:Int)≥3 by omega),Ao (fun z=>q z.1)];rfl
 | fin n y h=>
  simp only[show decide ((3:Int)=1)=false from rfl,show decide ((3:Int)=2)=false from rfl,show((3:Int)=1)=False by simp,show((3:Int)=2)=False by simp,Ae,Ah,Ad,Aa,Bl,Bk]
  rw[t8q b _ (by have:=hB.rlen;omega)]
  simp only[zOb]
  by_cases q:u0i b n<0
  ·rw[Bb q,Al q];rfl
  ·rw[A7 q,Ao q]
   simp only[Aa]
   rw[q89 b n hb.few]
   simp only[zOb]
   have hk:(u0i b n).toNat<b.2.2.1.length:=by
    unfold u0i at q ⊢
    split
    ·rename_i z;rw[zTn];exact z
    ·rename_i z;rw[Ao z] at q;omega
   obtain⟨k,hkk⟩:∃k:Nat,u0i b n=k:=⟨(u0i b n).toNat,by omega⟩
   have hg:y4q (u0i b n) b.2.2.1.length=true:=by rw[hkk];exact y7t (by rw[hkk] at hk;simpa using hk)
   have hT:TxnR (rdL u0q b.2.2.1 (u0i b n).toNat):=by
    rw[y8k hk];exact(hB.ready _ (Ag hk)).1
   rw[hg,thr _ hT]
   cases y
   ·rfl
   ·rfl
 | bas c h=>
  simp only[show decide ((4:Int)=1)=false from rfl,show decide ((4:Int)=2)=false from rfl,show decide ((4:Int)=3)=false from rfl,show((4:Int)=1)=False by simp,show((4:Int)=2)=False by simp,show((4:Int)=3)=False by simp,Ah,Aa,Bk]
  rw[s0n c h.tiny.few];rfl
theorem j34 {b:u0j} {r:s67} {x:u0j} (hB:BaseR b) (hR:RecR r) (h:u2e b r=some x):tinyB x:=by
 unfold u2e at h
 cases hR with
 | thr t ht hs=>
  simp only[Bl] at h
  split at h
  ·rw[←Ds h];exact s8c hB ht.tiny
  ·cases h
 | rdy t ht hs=>
  simp only[show((2:Int)=1)=False by simp,Bl,Bk] at h
  split at h
  ·rw[←Ds h];exact q80 hB ht.tiny (by have:=u3f (ht.name hs);omega)
  ·cases h
 | fin n y hn=>
  simp only[show((3:Int)=1)=False by simp,show((3:Int)=2)=False by simp,Bl,Bk] at h
  split at h
  ·cases h
  ·rename_i q
   have hk:(u0i b n).toNat<b.2.2.1.length:=by
    unfold u0i at q ⊢
    split
    ·rename_i z;rw[zTn];exact z
    ·rename_i z;rw[Ao z] at q;omega
   split at h
   ·rw[←Ds h]
    refine s8c hB ?_
    rw[y8k hk];exact(hB.ready _ (Ag hk)).1.tiny
   ·rw[←Ds h];exact q8u hB.tiny
 | bas c hc=>
  simp only[show((4:Int)=1)=False by simp,show((4:Int)=2)=False by simp,show((4:Int)=3)=False by simp,Bk] at h
  rw[←Ds h];exact hc.tiny
theorem o5f (b:u0j) (r:s67) (hb:tinyB b) (hr:tinyR r):r27 (b,r)=some (s4q b r):=by
 have hq:u0m=1099511627776:=rfl
 rw[o0m];unfold q52
 simp only
 rw[s0l b (by have:=hb.wt;omega),q48 r hr.wt,s0n b hb.few]
 simp only[zOb]
 cases h1:u7m b
 ·unfold s4q u7o
  rw[Ao (by simp[h1])];rfl
 ·cases h2:u6z r
  ·unfold s4q u7o
   rw[Ao (by simp[h2])];rfl
  ·have hB:=p74.mp h1
   have hR:=j44.mp h2
   simp only[Ap,Aa,zOb]
   rw[o96 b r hB hR]
   simp only[zOb]
   unfold s4q u7o
   rw[Al ⟨h1,h2⟩]
   cases hx:u2e b r with
   | none=>rfl
   | some x=>
    have h3:=j34 hB hR hx
    simp only[Ap,Aa]
    rw[r2k _ _ h3.few (by simp)]
    simp only[zOb]
    rw[s0l _ (by have:=(t8m h3 []).wt;omega)]
    simp only[zOb]
    cases u7m (u2y x [])<;>rfl
theorem o07 {b x:u0j} {r:s67} (h:u7o b r=some x):BaseR x∧RecR r:=by
 unfold u7o at h
 split at h
 ·rename_i q
  split at h
  ·cases h
  ·split at h
   ·rename_i z
    rw[←Ds h]
    exact⟨p74.mp z,j44.mp q.2⟩
   ·cases h
 ·cases h
theorem p8q (t:Hs):tinyR (t6v t).1:=by
 unfold t6v
 cases h:u4u t with
 | none=>exact j3n
 | some r=>exact(q7c h).1.tiny
theorem o64 (b:u0j) (t:Hs) (l:Hu Hs):s2o b (t::l)=bif !(t6v t).2 || !(s4q b (t6v t).1).2 then none else s2o (s4q b (t6v t).1).1 l:=by
 unfold t6v s4q
 simp only[s2o]
 cases u4u t with
 | none=>rfl
 | some r=>
  simp only
  cases u7o b r with
  | none=>rfl
  | some x=>rfl
def logR (l:Hu Hs):u0j×Bool:=match t0y l with
 | some b=>(b,true)
 | none=>(u2s,false)
theorem o2d (d:u0l) (hd:d1h.wt d≤1073741824) (ht:∀t∈u0e d,t.size≤u0m) (hl:(u0e d).length≤1000000):t6j d=some (logR (u0e d)):=by
 have L:=s9o u6c (u0e d).length (fun(b:u0j) i=>(u2s,b,u0e d,((u0e d).length:Int),i)) (fun i b=>match s2o b ((u0e d).drop i) with
  | some x=> .inl (u2s,x)
  | none=> .inr (u2s,false)) (fun _ b=>BaseR b)
  (fun b hb=>by
   rw[r5s];simp only[t6z,u0b,Am,Ah,Aa]
   rw[F5];rfl)
  (fun i b hi hb=>by
   have hm:=Ag hi
   have hd:(u0e d).drop i=(u0e d)[i] ::(u0e d).drop (i+1):=Ce hi
   have hw:u6c (u2s,b,u0e d,((u0e d).length:Int),(i:Int))=bif !(t6v (u0e d)[i]).2 || !(s4q b (t6v (u0e d)[i]).1).2 then some (.inr (u2s,false)) else u6c (u2s,(s4q b (t6v (u0e d)[i]).1).1,u0e d,((u0e d).length:Int),((i+1:Nat):Int)):=by
    rw[r5s];simp only[t6z,u0b,hi,Ae,Ad,y7t hi,zTn,y8k (t:=Ty.str) hi,y7l (show i<4611686018427387904 by omega)]
    rw[p2g _ (ht _ hm)]
    simp only[zOb]
    rw[o5e b _ hb.tiny (p8q _)]
    simp only[zOb]
    cases (t6v (u0e d)[i]).2<;>cases (s4q b (t6v (u0e d)[i]).1).2<;>rfl
   rw[hw,hd,o64]
   cases hc:(!(t6v (u0e d)[i]).2 || !(s4q b (t6v (u0e d)[i]).1).2)
   ·refine .inr ⟨(s4q b (t6v (u0e d)[i]).1).1,?_,?_,rfl⟩
    ·unfold s4q at hc ⊢
     cases hp:u7o b (t6v (u0e d)[i]).1 with
     | none=>rw[hp] at hc;simp at hc
     | some x=>exact(o07 hp).1
    ·simp only[Aa]
   ·exact .inl rfl) 0 o65 (Cn _) o3z
 rw[p52];unfold q1l
 rw[p5x];unfold q1g
 rw[p9b d hd]
 simp only[zOb]
 have L' :u6c ((([], [], [],0,0):u0j),(([], [], [],0,1):u0j),u0e d,((u0e d).length:Int),0)=_:=L
 rw[L',Fh]
 unfold logR t0y
 cases s2o o65 (u0e d)<;>rfl
theorem o2e (d:u0l) (hd:d1h.wt d≤1073741824) (ht:∀t∈u0e d,t.size≤u0m) (hl:(u0e d).length≤1000000):t6n d=some (logR (u0e d)):=by
 have L:=s9o u6d (u0e d).length (fun(b:u0j) i=>(u2s,b,u0e d,i)) (fun i b=>match s2o b ((u0e d).drop i) with
  | some x=> .inl (u2s,x)
  | none=> .inr (u2s,false)) (fun _ b=>BaseR b)
  (fun b hb=>by
   rw[r6b];simp only[t7h,u0b,Am,Ah,Aa]
   rw[F5];rfl)
  (fun i b hi hb=>by
   have hm:=Ag hi
   have hd:(u0e d).drop i=(u0e d)[i] ::(u0e d).drop (i+1):=Ce hi
   have hw:u6d (u2s,b,u0e d,(i:Int))=bif !(t6v (u0e d)[i]).2 || !(s4q b (t6v (u0e d)[i]).1).2 then some (.inr (u2s,false)) else u6d (u2s,(s4q b (t6v (u0e d)[i]).1).1,u0e d,((i+1:Nat):Int)):=by
    rw[r6b];simp only[t7h,u0b,hi,Ae,Ad,y7t hi,zTn,y8k (t:=Ty.str) hi,y7l (show i<4611686018427387904 by omega)]
    rw[p2h _ (ht _ hm)]
    simp only[zOb]
    rw[o5f b _ hb.tiny (p8q _)]
    simp only[zOb]
    cases (t6v (u0e d)[i]).2<;>cases (s4q b (t6v (u0e d)[i]).1).2<;>rfl
   rw[hw,hd,o64]
   cases hc:(!(t6v (u0e d)[i]).2 || !(s4q b (t6v (u0e d)[i]).1).2)
   ·refine .inr ⟨(s4q b (t6v (u0e d)[i]).1).1,?_,?_,rfl⟩
    ·unfold s4q at hc ⊢
     cases hp:u7o b (t6v (u0e d)[i]).1 with
     | none=>rw[hp] at hc;simp at hc
     | some x=>exact(o07 hp).1
    ·simp only[Aa]
   ·exact .inl rfl) 0 o65 (Cn _) o3z
 rw[p6p];unfold q18
 rw[q29];unfold q1z
 rw[r2f d hd]
 simp only[zOb]
 have L' :u6d ((([], [], [],0,0):u0j),(([], [], [],0,1):u0j),u0e d,0)=_:=L
 rw[L',Fh]
 unfold logR t0y
 cases s2o o65 (u0e d)<;>rfl
end
section
def txP (t:u0c):Hs×Bool:=if u7k t=true then(t19 t,true) else(emp,false)
def s3i (l m:Hu u0c):Bool:=decide (l.map txP=m.map txP)
theorem j3r (a b:Hs×Bool):(bif a.2==b.2 then z7o a.1 b.1 else false)=decide (a=b):=by
 obtain⟨a1,a2⟩:=a
 obtain⟨b1,b2⟩:=b
 rw[Cd,Ar,Ak]
 cases a2<;>cases b2<;>simp[y7f]
theorem j01 {l m:Hu u0c} (h:l.length=m.length):((List.range l.length).all fun i=>decide (txP (rdL u0q l i)=txP (rdL u0q m i)))=s3i l m:=by
 unfold s3i
 rw[Cd,Bg,Ar]
 constructor
 ·intro k
  apply Gw (by simp[h])
  intro i h1 h2
  rw[F6,F6]
  rw[Da] at h1 h2
  have:=k i (Bq.mpr h1)
  rw[Ar,y8k h1,y8k h2] at this
  exact this
 ·intro k i hi
  have h1:=Bq.mp hi
  have h2:i<m.length:=by omega
  rw[Ar,y8k h1,y8k h2]
  have e:(l.map txP)[i]'(by simpa using h1)=(m.map txP)[i]'(by simpa using h2):=by simp only[k]
  rwa [F6,F6] at e
theorem o58 {l m:Hu u0c} (h:l.length≠m.length):s3i l m=false:=by
 unfold s3i
 rw[Bu]
 intro e
 have:=Dj List.length e
 rw[Da,Da] at this
 exact h this
theorem p70 (l m:Hu u0c) (hl:l.length≤1000) (h1:∀t∈l,tinyT t) (h2:∀t∈m,tinyT t):u1u (l,m,())=some (s3i l m):=by
 rw[t2i];unfold u48
 simp only
 by_cases h:l.length=m.length
 ·have L:=t3r u1o l.length (fun i=>(m,(),l,(l.length:Int),i)) (fun i=>decide (txP (rdL u0q l i)=txP (rdL u0q m i))) (.inl ()) (.inr false)
   (by rw[u4s];simp only[u1n,u0b,Am,Ah,Aa])
   (fun i hi=>by
    have hm1:rdL u0q l i∈l:=by rw[y8k hi];exact Ag hi
    have hi2:i<m.length:=by omega
    have hm2:rdL u0q m i∈m:=by rw[y8k hi2];exact Ag hi2
    have k1:=s18 (rdL u0q l i) (by have:=(h1 _ hm1).wt;omega)
    have k2:=s18 (rdL u0q m i) (by have:=(h2 _ hm2).wt;omega)
    rw[u4s];simp only[u1n,u0b,hi,Ae,Ad,y7t hi,y7t hi2,zTn,y7l (show i<4611686018427387904 by omega)]
    rw[p3i];unfold r7t
    simp only
    rw[k1,k2]
    simp only[zOb]
    rw[←j3r]
    unfold txP
    generalize (if u7k (rdL u0q l i)=true then(t19 (rdL u0q l i),true) else(emp,false))=a
    generalize (if u7k (rdL u0q m i)=true then(t19 (rdL u0q m i),true) else(emp,false))=b
    cases a.2==b.2
    ·rfl
    ·simp only[Ad,zOb]
     cases z7o a.1 b.1<;>rfl)
  rw[j01 h] at L
  rw[L,Bb (show(l.length:Int)=(m.length:Int) by omega)]
  cases s3i l m<;>rfl
 ·rw[A7 (show ¬(l.length:Int)=(m.length:Int) by omega),o58 h];rfl
end
end
end Go.Proofs.YtkdpclfhapphhaaGreat.Ab
