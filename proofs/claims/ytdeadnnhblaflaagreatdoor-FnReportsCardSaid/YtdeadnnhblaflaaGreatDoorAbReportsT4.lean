import Derived.Test.YtdeadnnhblaflaaGreatDoorAbReportsT3
import Derived.Test.YtdeadnnhblaflaaGreatDoorAbK2
import Derived.Test.YtdeadnnhblaflaaGreatDoorAbF4
import Derived.Test.YtdeadnnhblaflaaGreatDoorAbS2
import Derived.Test.YtdeadnnhblaflaaGreatDoorAbS4
namespace Go.Proofs.YtdeadnnhblaflaaGreatDoor.Ab
open Go
set_option linter.unusedVariables false
set_option linter.unusedSimpArgs false
set_option linter.unnecessarySimpa false
set_option linter.unusedSectionVars false
section
section
theorem p2q {s:Src} (h:s.ok) {n:Nat} (hn:n≤5000):Dr (t3p (s,(n:Int))) (fun t=>t.size=n):=by
 have key:∀(r i:Nat) (s:Src) (a:Hu Int),s.ok→a.length=i→i+r=n→ ∃(s' :Src) (a' :Hu Int),u4c (s,(n:Int),a,(i:Int))=some (.inl (s',a'))∧s'.ok∧a'.length=n:=by
  intro r
  induction r with
  | zero=>
   intro i s a hs ha hi
   have:i=n:=by omega
   subst this
   rw[s4b]
   simp only[t0g,u0b,Am,Ah,Aa]
   exact⟨s,a,rfl,hs,ha⟩
  | succ r ih=>
   intro i s a hs ha hi
   obtain⟨y,s1,e1,k1,r1⟩:=r29 hs
   have hlt:i<n:=by omega
   have hc:Nat.ble (a.length+([IntKind.u8.wrap y] :Hu Int).length) z8x=true:=u07 (by simp;omega)
   rw[s4b]
   simp only[t0g,u0b,hlt,Ae,Ad,e1,zOb]
   rw[hc,y7j (by omega)]
   exact ih (i+1) s1 (a++ [IntKind.u8.wrap y]) k1 (by simp[ha]) (by omega)
 obtain⟨s',a',e1,k1,r1⟩:=key n 0 s [] h rfl (by omega)
 have e1:u4c (s,(n:Int), [],0)=_:=e1
 rw[q0i];unfold s8j
 have h5:decide ((n:Int) >5000)=false:=by simp;omega
 simp only[h5,Aa,e1,zOb]
 exact⟨_,_,rfl,k1,by show(y7e a').size=n;rw[u2j];exact r1⟩
theorem p74:∃t,t9b ()=some t∧t.size=64∧t48 t 0=0:=by
 have hset:∀i,(List.replicate 64 (0:Int)).set i 0=List.replicate 64 0:=fun i=>by
  apply Gw (by simp)
  intro j h1 h2
  rw[List.getElem_set,List.getElem_replicate]
  split
  ·rfl
  ·rfl
 have key:∀(r i:Nat),i+r=64→u28 ((64:Int),0,List.replicate 64 0,(i:Int))=some (.inl (List.replicate 64 0)):=by
  intro r
  induction r with
  | zero=>
   intro i hi
   have:i=64:=by omega
   subst this
   rw[t02]
   rfl
  | succ r ih=>
   intro i hi
   have hlt:decide ((i:Int)<64)=true:=by simp;omega
   have hg:y4l (i:Int) (List.replicate 64 (0:Int)).length=true:=y7s (by simp;omega)
   rw[t02]
   simp only[u6c,hlt,Ad,hg,hset]
   rw[y7j (by omega)]
   exact ih (i+1) (by omega)
 have e1:u28 ((64:Int),0,List.replicate 64 0,0)=_:=key 64 0 rfl
 refine⟨y7e (List.replicate 64 0),?_,by rw[u2j];simp,by unfold t48;rw[t61];rfl⟩
 rw[q0k];unfold s8m
 rw[s85];unfold t8v
 have hc:(decide ((0:Int)≤64)&&decide ((64:Int)≤1099511627776))=true:=rfl
 have hr:List.replicate ((64:Int)).toNat (Ty.int .u8).zero=List.replicate 64 (0:Int):=rfl
 simp only[hc,Ad,hr,e1,zOb]
theorem s9t:∃d,t18 ()=some d∧u1i d=true∧u0h d= [] :=by
 obtain⟨z,hz,hz1,hz2⟩:=p74
 have key:∀(r i:Nat),i+r=97→u6h ((97:Int),([], []),(List.replicate i z, []),(i:Int))=some (.inl (([], []),(List.replicate 97 z, []))):=by
  intro r
  induction r with
  | zero=>
   intro i hi
   have:i=97:=by omega
   subst this
   rw[s3y]
   rfl
  | succ r ih=>
   intro i hi
   have hlt:decide ((i:Int)<97)=true:=by simp;omega
   have hc:Nat.ble ((List.replicate i z).length+([z] :Hu Hs).length) z8x=true:=u07 (by simp;omega)
   rw[s3y]
   simp only[t4j,hlt,Ad,hz,zOb,hc]
   rw[y7j (by omega)]
   have e:List.replicate i z++ [z] =List.replicate (i+1) z:=by rw[List.replicate_succ']
   rw[e]
   exact ih (i+1) (by omega)
 have e1:u6h ((97:Int),([], []),([], []),0)=_:=key 97 0 rfl
 have hs:u5i ()=some 97:=by rw[t9v];rfl
 refine⟨(List.replicate 97 z, []),?_,?_⟩
 ·rw[q3f];unfold r0u
  simp only[hs,zOb]
  rw[r9y];unfold s7z
  have hi:r0d 97 1 100=true:=rfl
  simp only[t3h,hi,zOb,Ap,Aa,e1]
 ·have hk:u09 (List.replicate 97 z,([] :Hu (Int×Hs)))=true:=q1s.mpr ⟨by simp,by simp,fun s hs=>by rw[List.eq_of_mem_replicate hs];exact hz1,fun p hp=>by cases hp⟩
  have hl:(List.replicate 97 z,([] :Hu (Int×Hs))).1.length=97:=by simp
  have hf:=t6h hk hl
  have hc:∀a:Int,a=0∨a=1→u05 (List.replicate 97 z, []) a=0:=fun a ha=>by
   obtain⟨f1,_⟩:=u4q ha
   unfold u05 u2v
   rw[p5d.mpr ha,Al rfl]
   have hk2:u0d a=(((u0d a).toNat:Nat):Int):=by rcases ha with rfl | rfl<;>omega
   rw[hk2,s1t rfl (by rw[hl];rcases ha with rfl | rfl<;>omega)]
   have hlt:(u0d a).toNat<(List.replicate 97 z).length:=by simp;rcases ha with rfl | rfl<;>omega
   have e:rdL Ty.str (List.replicate 97 z) (u0d a).toNat=(List.replicate 97 z)[(u0d a).toNat] :=y8l (t:=Ty.str) hlt
   simp only[e,List.getElem_replicate]
   rw[r3h,hz2]
   rfl
  refine⟨r2k hk hl rfl ?_ ?_,?_⟩
  ·rw[u57 hf (.inl rfl),hc 0 (.inl rfl)];rfl
  ·rw[u57 hf (.inr rfl),hc 1 (.inr rfl)];rfl
  ·unfold u0h
   rw[u57 hf (u5y _),hc _ (u5y _)];rfl
theorem p2i:∃d,t18 ()=some d∧u1i d=true:=by
 obtain⟨d,h1,h2,_⟩:=s9t
 exact⟨d,h1,h2⟩
end
section
theorem u7s {d:u0j} (h:u1i d=true):o2z.wt d≤10000000:=A9 (u18 (u13 h).1) (by omega)
theorem q5j {d:u0j} (h:u1i d=true) (t:Hs):u1i (orD d (append_ d t)).1=true:=by
 cases ha:append_ d t with
 | none=>exact h
 | some y=>exact(q1k ha).2.1
theorem q4m {t:Hs} (h:t.size≤100):(u02 t).size≤201:=by
 have:=t8b t
 omega
theorem p1q {d:u0j} (h:u1i d=true) {t:Hs} (h0:t.size≠0) (h1:t.size≤100):∃x y,s5p d [t] =some x∧s1v d [t] =some y∧u1i y=true∧u0h y= [t] :=by
 have hs:=q4m h1
 obtain⟨x,x1,x2,x3,x4,x5⟩:=q9m (l:= [t]) h (by simp) (by simp[q8o];omega) (fun u hu=>by simp at hu;subst hu;exact⟨h0,by omega⟩)
 obtain⟨y,y1,y2,y3,_⟩:=q1v x1 x2 x3 x4 x5 h
 exact⟨x,y,x1,y1,y2,y3⟩
theorem p9s {s:Src} (h:s.ok):∃(d:u0j) (s' :Src),t5v s=some (d,s')∧s'.ok∧u1i d=true:=by
 have key:∀(r i:Nat) (s:Src) (d:u0j),s.ok→u1i d=true→6≤i+r→i≤5→ ∃(s' :Src) (d' :u0j),u78 (s,([], []),d,(i:Int))=some (.inl (s',([], []),d'))∧s'.ok∧u1i d' =true:=by
  intro r
  induction r with
  | zero=>intro i s d _ _ h1 h2;omega
  | succ r ih=>
   intro i s d hs hd hr hi
   obtain⟨y,s1,e1,k1,r1⟩:=u1e hs (n:=6) (by omega)
   rw[r88]
   simp only[t55,e1,zOb]
   by_cases hy:(i:Int)<y
   ·obtain⟨y2,s2,e2,k2,_⟩:=t8s k1 (n:=5) (by omega)
    simp only[hy,Ae,Ad,e2,zOb]
    have hw:=u7s hd
    cases y2 with
    | true=>
     obtain⟨y3,s3,e3,k3,r3⟩:=u1e k2 (n:=9) (by omega)
     obtain⟨n,hn⟩:∃n:Nat,(n:Int)=1+y3:=⟨(1+y3).toNat,by omega⟩
     have w1:IntKind.i64.wrap ((1:Int)+y3)=(n:Int):=by rw[y4u (by omega) (by omega)];omega
     obtain⟨t,s4,e4,k4,r4⟩:=p2q k3 (n:=n) (by omega)
     obtain⟨x,z,z1,z2,z3,_⟩:=p1q hd (t:=t) (by omega) (by omega)
     have hsw:=s7s (l:= [t]) hw (by simp) (fun u hu=>by simp at hu;subst hu;omega)
     simp only[Ad,e3,w1,e4,zOb,hsw,z2,orD]
     rw[y7j (by omega)]
     exact ih (i+1) s4 z k4 z3 (by omega) (by omega)
    | false=>
     obtain⟨y3,s3,e3,k3,r3⟩:=u1e k2 (n:=90) (by omega)
     obtain⟨n,hn⟩:∃n:Nat,(n:Int)=1+y3:=⟨(1+y3).toNat,by omega⟩
     have w1:IntKind.i64.wrap ((1:Int)+y3)=(n:Int):=by rw[y4u (by omega) (by omega)];omega
     obtain⟨t,s4,e4,k4,r4⟩:=p2q k3 (n:=n) (by omega)
     simp only[Aa,e3,w1,e4,zOb,u61 d t hw (by omega)]
     rw[y7j (by omega)]
     exact ih (i+1) s4 _ k4 (q5j hd t) (by omega) (by omega)
   ·simp only[hy,Ah,Aa]
    exact⟨s1,d,rfl,k1,hd⟩
 obtain⟨d0,hd0,hl0⟩:=p2i
 obtain⟨s',d',e1,k1,r1⟩:=key 6 0 s d0 h hl0 (by omega) (by omega)
 have e1:u78 (s,([], []),d0,0)=_:=e1
 have hX:t5v s=some (d',s'):=by
  rw[q3r];unfold r06
  simp only[hd0,zOb,e1]
 exact⟨d',s',hX,k1,r1⟩
end
section
theorem s03 (d:u0j) (hd:o2z.wt d≤1073741824):u8g d=some (u0h d):=by
 rw[r7l];unfold s4v
 simp only[t5k d (show o2z.wt d≤u0y by unfold u0y;omega),s05 d _ hd,zOb];rfl
theorem r9l (a b:u0j) (ha:o2z.wt a≤1073741824) (hb:o2z.wt b≤1073741824):t4s (a,b)=some (p32 a b):=by
 rw[r5x];unfold s2i p32 o0u
 have h1:(u0h a).length<256:=r46 a (u0q a)
 simp only[s03 a ha,s03 b hb,zOb]
 generalize u0h a=a at h1
 generalize u0h b=b
 by_cases h:a.length=b.length
 ·have hz:(a.zip b).length=a.length:=by simp[h]
  have L:=s9w u7p (a.zip b) (fun i=>(a,b,i)) (fun p=> !z7l p.1 p.2) (.inr false) (.inl ())
   (by rw[t8m,hz];simp only[u7h,u0b,Am,Ah,Aa])
   (fun i hi=>by
    have hi1:i<a.length:=by omega
    have hi2:i<b.length:=by omega
    rw[t8m];simp only[u7h,u0b,hi1,Ae,Ad,y7s hi1,y7s hi2,zTn,y8l (t:=Ty.str) hi1,y8l (t:=Ty.str) hi2,List.getElem_zip]
    rw[y7j (by omega)])
  have e1:decide ((a.length:Int)=(b.length:Int))=true:=by simp[h]
  simp only[e1,Ap,Aa,L,zOb]
  rw[←p1k h]
  cases (a.zip b).any fun p=> !z7l p.1 p.2<;>rfl
 ·have e1:decide ((a.length:Int)=(b.length:Int))=false:=by simp;omega
  have e2:decide (a=b)=false:=by
   rw[Bu];intro e;exact h (by rw[e])
  rw[e1,e2];rfl
theorem t3x {d:u0j} (h:o2z.wt d≤1000000) (s at_:Int) (t:Hs):o2z.wt (orD d (u15 d s at_ t)).1≤1000000:=by
 cases hw:u15 d s at_ t with
 | none=>exact h
 | some x=>exact A9 (u18 (u3n hw).2.1) (by omega)
theorem q7j {d:u0j} (h:o2z.wt d≤1000000) (k:Int) (t:Hs):o2z.wt (orD d (u3o d k t)).1≤1000000:=by
 cases hw:u3o d k t with
 | none=>exact h
 | some x=>exact A9 (u18 (u8n hw).1) (by omega)
theorem q59 {d:u0j} (h:o2z.wt d≤1000000):o2z.wt (flush d)≤1000000:=by
 by_cases hd:u09 d=true
 ·exact A9 (u18 (t0u hd).1) (by omega)
 ·unfold flush
  simp[hd]
  exact h
theorem p0j {s:Src} (h:s.ok) (l:Hu Int) (hl:0<l.length) (hm:l.length≤1000):Dr (u9c (s,l)) (fun y=>y∈l):=by
 obtain⟨y,s1,e1,k1,r1⟩:=u1e h (n:=(l.length:Int)) (by omega)
 rw[r3q];unfold t9o
 have hi:y.toNat<l.length:=by omega
 have hg:y4l y l.length=true:=y7r.mpr ⟨r1.1,r1.2⟩
 simp only[e1,zOb,hg,Ad]
 refine⟨_,_,rfl,k1,?_⟩
 show l.getD y.toNat 0∈l
 rw[A5,A4 hi]
 exact Ag hi
theorem p9t (n:Int):u54 n=some (u9p n):=by
 rw[s1b];unfold r07
 rfl
theorem p0g {s:Src} (h:s.ok):Dr (s1m s) (fun d=>o2z.wt d≤1000000):=by
 rw[q3q];unfold r05
 obtain⟨k,s1,e1,k1,r1⟩:=u1e h (n:=10) (by omega)
 obtain⟨x,s2,e2,k2,r2⟩:=u1e k1 (n:=60) (by omega)
 obtain⟨d,s3,e3,k3,hl⟩:=p9s k2
 have hw:o2z.wt d≤1000000:=A9 (u18 (u13 hl).1) (by omega)
 have hlen:=(u13 hl).2.1
 simp only[e1,e2,e3,u2y d (by unfold u0y;omega),zOb]
 by_cases q0:k=0
 ·have hg:(decide ((0:Int)≤0)&&decide ((0:Int)≤x)&&decide (x≤(d.1.length:Int)))=true:=by simp;omega
  simp only[q0,Ae,Ad,hg]
  refine⟨_,_,rfl,k3,?_⟩
  rw[p23] at hw ⊢
  simp only[Ho,Fh,Nat.sub_zero]
  have:((d.1.take x.toNat).map ByteArray.size).sum≤(d.1.map ByteArray.size).sum:=by
   have e:=Dj (fun l=>(l.map ByteArray.size).sum) (En x.toNat d.1)
   simp only[Dh,Fn] at e
   omega
  have:(d.1.take x.toNat).length≤d.1.length:=by simp;omega
  omega
 ·by_cases q1:k=1
  ·simp only[q0,q1,Ae,Ah,Ad,Aa,u9k,p9t,u8a d _ _ (u9p x) (by omega) (by rw[u1z];omega),u4w _ (show o2z.wt (orD d (u15 d (u0d (Int.tmod x 2)) 0 (u9p x))).1≤1073741824 from A9 (t3x hw _ _ _) (by omega)),zOb]
   exact⟨_,_,rfl,k3,q59 (t3x hw _ _ _)⟩
  ·by_cases q2:k=2
   ·obtain⟨t,e4,h4⟩:=q7t 64 (IntKind.u8.wrap x) (by omega)
    have e4:u3t ((64:Int),IntKind.u8.wrap x)=_:=e4
    simp only[q0,q1,q2,Ae,Ah,Ad,Aa,e4,s13 d _ t (by omega) (by omega),zOb]
    exact⟨_,_,rfl,k3,q7j hw _ _⟩
   ·by_cases q3:k=3
    ·simp only[q0,q1,q2,q3,Ae,Ah,Ad,Aa,u8a d _ _ (⟨#[255,255]⟩:Hs) (by omega) (by show 2≤1048576;omega),u4w _ (show o2z.wt (orD d (u15 d 2 0 ⟨#[255,255]⟩)).1≤1073741824 from A9 (t3x hw _ _ _) (by omega)),zOb]
     exact⟨_,_,rfl,k3,q59 (t3x hw _ _ _)⟩
    ·simp only[q0,q1,q2,q3,Ah,Aa]
     exact⟨_,_,rfl,k3,hw⟩
end
section
theorem p2k (b:u0k) (r:t9h) (hB:BaseR b) (hR:RecR r):t9e (b,r)=some (match u1k b r with
 | some x=>(x,true)
 | none=>(b,false)):=by
 have hb:=hB.tiny
 have thr:∀t:u0f,TxnR t→u3q (b,t)=some (u04 b t):=fun t ht=>by
  rw[r4h b t hb.few ht.tiny.few,r82 (q8c hB.cs) (r8k ht.id)]
 rw[q0s];unfold s8u u1k
 cases hR with
 | thr t h hs=>
  simp only[Ae,Ad,Bl]
  rw[t5x (q8c hB.cs),thr t h]
  by_cases q:t.2.2.2.1=b.2.2.2.1+1
  ·rw[Bb q,Al q];rfl
  ·rw[A7 q,Ao q];rfl
 | rdy t h hs=>
  simp only[show decide ((2:Int)=1)=false from rfl,show((2:Int)=1)=False by simp,Ae,Ah,Ad,Aa,Bl,Bk]
  rw[t1b b _ (by have:=hB.rlen;omega)]
  simp only[zOb]
  rw[s7n b t _ hb.few h.tiny.few (r8k h.id)]
  simp only[zOb]
  by_cases q:b.2.2.1.length<3
  ·rw[A7 (show ¬(b.2.2.1.length:Int)≥3 by omega)]
   simp only[Aa,zOb]
   by_cases q2:u0n b t.2.2.2.2.2.2.2<0
   ·rw[A7 (show ¬u0n b t.2.2.2.2.2.2.2≥0 by omega),Al ⟨q,q2⟩];rfl
   ·rw[Bb (show u0n b t.2.2.2.2.2.2.2≥0 by omega),Ao (fun z=>q2 z.2)];rfl
  ·rw[Bb (show(b.2.2.1.length:Int)≥3 by omega),Ao (fun z=>q z.1)];rfl
 | fin n y h=>
  simp only[show decide ((3:Int)=1)=false from rfl,show decide ((3:Int)=2)=false from rfl,show((3:Int)=1)=False by simp,show((3:Int)=2)=False by simp,Ae,Ah,Ad,Aa,Bl,Bk]
  rw[t1b b _ (by have:=hB.rlen;omega)]
  simp only[zOb]
  by_cases q:u0n b n<0
  ·rw[Bb q,Al q];rfl
  ·rw[A7 q,Ao q]
   simp only[Aa]
   rw[r4c b n hb.few]
   simp only[zOb]
   have hk:(u0n b n).toNat<b.2.2.1.length:=by
    unfold u0n at q ⊢
    split
    ·rename_i z;rw[zTn];exact z
    ·rename_i z;rw[Ao z] at q;omega
   obtain⟨k,hkk⟩:∃k:Nat,u0n b n=k:=⟨(u0n b n).toNat,by omega⟩
   have hg:y4l (u0n b n) b.2.2.1.length=true:=by rw[hkk];exact y7s (by rw[hkk] at hk;simpa using hk)
   have hT:TxnR (rdL u1f b.2.2.1 (u0n b n).toNat):=by
    rw[y8l hk];exact(hB.ready _ (Ag hk)).1
   rw[hg,thr _ hT]
   cases y
   ·rfl
   ·rfl
 | bas c h=>
  simp only[show decide ((4:Int)=1)=false from rfl,show decide ((4:Int)=2)=false from rfl,show decide ((4:Int)=3)=false from rfl,show((4:Int)=1)=False by simp,show((4:Int)=2)=False by simp,show((4:Int)=3)=False by simp,Ah,Aa,Bk]
  rw[t09 c h.tiny.few];rfl
theorem p52 {b:u0k} {r:t9h} {x:u0k} (hB:BaseR b) (hR:RecR r) (h:u1k b r=some x):tinyB x:=by
 unfold u1k at h
 cases hR with
 | thr t ht hs=>
  simp only[Bl] at h
  split at h
  ·rw[←Ds h];exact s6k hB ht.tiny
  ·cases h
 | rdy t ht hs=>
  simp only[show((2:Int)=1)=False by simp,Bl,Bk] at h
  split at h
  ·rw[←Ds h];exact q19 hB ht.tiny (by have:=u1w (ht.name hs);omega)
  ·cases h
 | fin n y hn=>
  simp only[show((3:Int)=1)=False by simp,show((3:Int)=2)=False by simp,Bl,Bk] at h
  split at h
  ·cases h
  ·rename_i q
   have hk:(u0n b n).toNat<b.2.2.1.length:=by
    unfold u0n at q ⊢
    split
    ·rename_i z;rw[zTn];exact z
    ·rename_i z;rw[Ao z] at q;omega
   split at h
   ·rw[←Ds h]
    refine s6k hB ?_
    rw[y8l hk];exact(hB.ready _ (Ag hk)).1.tiny
   ·rw[←Ds h];exact q1z hB.tiny
 | bas c hc=>
  simp only[show((4:Int)=1)=False by simp,show((4:Int)=2)=False by simp,show((4:Int)=3)=False by simp,Bk] at h
  rw[←Ds h];exact hc.tiny
theorem q7v (b:u0k) (r:t9h) (hb:tinyB b) (hr:tinyR r):s1l (b,r)=some (r3z b r):=by
 have hq:u0y=1099511627776:=rfl
 rw[q3i];unfold r0x
 simp only
 rw[t2r b (by have:=hb.wt;omega),r0f r hr.wt,t09 b hb.few]
 simp only[zOb]
 cases h1:t2p b
 ·unfold r3z u5l
  rw[Ao (by simp[h1])];rfl
 ·cases h2:u9f r
  ·unfold r3z u5l
   rw[Ao (by simp[h2])];rfl
  ·have hB:=q1n.mp h1
   have hR:=p7e.mp h2
   simp only[Ap,Aa,zOb]
   rw[p2k b r hB hR]
   simp only[zOb]
   unfold r3z u5l
   rw[Al ⟨h1,h2⟩]
   cases hx:u1k b r with
   | none=>rfl
   | some x=>
    have h3:=p52 hB hR hx
    simp only[Ap,Aa]
    rw[s07 _ _ h3.few (by simp)]
    simp only[zOb]
    rw[t2r _ (by have:=(q8t h3 []).wt;omega)]
    simp only[zOb]
    cases t2p (u2c x [])<;>rfl
theorem q9u {b x:u0k} {r:t9h} (h:u5l b r=some x):BaseR x∧RecR r:=by
 unfold u5l at h
 split at h
 ·rename_i q
  split at h
  ·cases h
  ·split at h
   ·rename_i z
    rw[←Ds h]
    exact⟨q1n.mp z,p7e.mp q.2⟩
   ·cases h
 ·cases h
theorem p1h (t:Hs):tinyR (s0i t).1:=by
 unfold s0i
 cases h:u25 t with
 | none=>exact p5p
 | some r=>exact(r2r h).1.tiny
theorem p5k (b:u0k) (t:Hs) (l:Hu Hs):t6r b (t::l)=bif !(s0i t).2 || !(r3z b (s0i t).1).2 then none else t6r (r3z b (s0i t).1).1 l:=by
 unfold s0i r3z
 simp only[t6r]
 cases u25 t with
 | none=>rfl
 | some r=>
  simp only
  cases u5l b r with
  | none=>rfl
  | some x=>rfl
def q8b (l:Hu Hs):u0k×Bool:=match u51 l with
 | some b=>(b,true)
 | none=>(u2f,false)
theorem q5c (d:u0j) (hd:o2z.wt d≤1073741824) (ht:∀t∈u0h d,t.size≤u0y) (hl:(u0h d).length≤1000000):u9q d=some (q8b (u0h d)):=by
 have L:=r65 u27 (u0h d).length (fun(b:u0k) i=>(u2f,b,u0h d,i)) (fun i b=>match t6r b ((u0h d).drop i) with
  | some x=> .inl (u2f,x)
  | none=> .inr (u2f,false)) (fun _ b=>BaseR b)
  (fun b hb=>by
   rw[s32];simp only[u98,u0b,Am,Ah,Aa]
   rw[F5];rfl)
  (fun i b hi hb=>by
   have hm:=Ag hi
   have hd:(u0h d).drop i=(u0h d)[i] ::(u0h d).drop (i+1):=Ce hi
   have hw:u27 (u2f,b,u0h d,(i:Int))=bif !(s0i (u0h d)[i]).2 || !(r3z b (s0i (u0h d)[i]).1).2 then some (.inr (u2f,false)) else u27 (u2f,(r3z b (s0i (u0h d)[i]).1).1,u0h d,((i+1:Nat):Int)):=by
    rw[s32];simp only[u98,u0b,hi,Ae,Ad,y7s hi,zTn,y8l (t:=Ty.str) hi,y7j (show i<4611686018427387904 by omega)]
    rw[r6z _ (ht _ hm)]
    simp only[zOb]
    rw[q7v b _ hb.tiny (p1h _)]
    simp only[zOb]
    cases (s0i (u0h d)[i]).2<;>cases (r3z b (s0i (u0h d)[i]).1).2<;>rfl
   rw[hw,hd,p5k]
   cases hc:(!(s0i (u0h d)[i]).2 || !(r3z b (s0i (u0h d)[i]).1).2)
   ·refine .inr ⟨(r3z b (s0i (u0h d)[i]).1).1,?_,?_,rfl⟩
    ·unfold r3z at hc ⊢
     cases hp:u5l b (s0i (u0h d)[i]).1 with
     | none=>rw[hp] at hc;simp at hc
     | some x=>exact(q9u hp).1
    ·simp only[Aa]
   ·exact .inl rfl) 0 r8l (Cn _) q6n
 rw[r93];unfold s74
 rw[t8y];unfold s7v
 rw[s03 d hd]
 simp only[zOb]
 have L' :u27 ((([], [], [],0,0):u0k),(([], [], [],0,1):u0k),u0h d,0)=_:=L
 rw[L',Fh]
 unfold q8b u51
 cases t6r r8l (u0h d)<;>rfl
end
section
def r9c:t25:=((⟨#[97]⟩:Hs),(⟨#[122,122,122]⟩:Hs))
end
section
theorem q62 (t:Hs) (a:Int):(u0u t a).1.size≤20000:=by
 unfold u0u
 split
 ·rename_i hc
  have:=t1h hc.1
  simp only[Bd];omega
 ·exact Cn _
theorem r4t (t:Hs):∀(m:Nat) (a:Int) (acc:Hu Hs),(∀s∈acc,s.size≤20000)→ ∀s∈(u4p t m a acc).1,s.size≤20000
 | 0,a,acc,h=>h
 | m+1,a,acc,h=>by
  unfold u4p
  split
  ·refine r4t t m _ _ fun s hs=> ?_
   rcases Ay.mp hs with q | q
   ·exact h s q
   ·rw[Ax.mp q];exact q62 _ _
  ·intro s hs;cases hs
theorem q1a (d:u0j) (a:Int):∀s∈(u0c d a).1,s.size≤20000:=by
 unfold u0c
 split
 ·exact r4t _ _ _ _ fun s hs=>by cases hs
 ·intro s hs;cases hs
theorem q06 (d:u0j):∀s∈u0h d,s.size≤20000:=q1a d _
theorem q6k (d:u0j):(u0h d).length<256:=r46 d _
theorem q1g (d:u0j) (hd:o2z.wt d≤1073741824):u9q d=some (q8b (u0h d)):=
 q5c d hd (fun t ht=>by have:=q06 d t ht;unfold u0y;omega) (by have:=q6k d;omega)
theorem q9t:∀ {l:Hu Hs} {b x:u0k},BaseR b→t6r b l=some x→BaseR x
 | [],b,x,hb,h=>by rw[←Ds h];exact hb
 | t::l,b,x,hb,h=>by
  simp only[t6r] at h
  split at h
  ·cases h
  ·split at h
   ·cases h
   ·rename_i r _ y hy
    exact q9t (q9u hy).1 h
theorem q6u {l:Hu Hs} {x:u0k} (h:u51 l=some x):BaseR x:=q9t q6n h
theorem p3i (l:Hu Hs):tinyB (q8b l).1:=by
 unfold q8b
 cases h:u51 l with
 | none=>exact u66
 | some b=>exact(q6u h).tiny
end
section
theorem p4u {y:Hs} (h:y∈K5):u38 y=true:=by
 simp only[K5,A8,Ep,Em] at h
 rcases h with rfl | rfl | rfl | rfl | rfl<;>decide
theorem q2p {s:Src} (h:s.ok):Dr (u19 s) (fun y=>y∈K5):=by
 rw[r1u];unfold s08
 obtain⟨y,s1,e1,k1,r1⟩:=t52 h (l:=K5) (by decide)
 have e1:u0o (s, [(⟨#[97]⟩:Hs),(⟨#[98]⟩:Hs),(⟨#[99]⟩:Hs),(⟨#[100]⟩:Hs),(⟨#[97,98]⟩:Hs)])=_:=e1
 simp only[e1,zOb]
 exact⟨_,_,rfl,k1,r1⟩
def o5l (r:t25):Prop:=r.1∈K5∧r.2∈K5∧u12 r=true
theorem q8g {a b:Hs} (ha:a∈K5) (hb:b∈K5) (h:y2y b a=false):o5l (a,b):=by
 refine⟨ha,hb,?_⟩
 unfold u12
 simp only[p4u ha,p4u hb,Bz,Cr]
 rcases r0a a b with q | rfl | q
 ·exact .inl q
 ·exact .inr (by simp[z7l])
 ·rw[q] at h;cases h
theorem p2l {s:Src} (h:s.ok):Dr (u2x s) o5l:=by
 rw[s5m];unfold t57
 obtain⟨y1,s1,e1,k1,r1⟩:=q2p h
 obtain⟨y2,s2,e2,k2,r2⟩:=t8s k1 (n:=2) (by omega)
 obtain⟨y3,s3,e3,k3,r3⟩:=q2p k2
 simp only[e1,e2,e3,zOb]
 cases y2 with
 | true=>exact⟨_,_,rfl,k2,q8g r1 r1 (u58 _)⟩
 | false=>
  simp only[Aa]
  cases hc:y2y y3 y1 with
  | true=>exact⟨_,_,rfl,k3,q8g r3 r1 (s1u hc)⟩
  | false=>exact⟨_,_,rfl,k3,q8g r1 r3 hc⟩
def o6b (w:WrT):Prop:=w.1∈K5∧u2i w=true
theorem q5i {s:Src} (h:s.ok):Dr (u2a s) o6b:=by
 rw[s5n];unfold t58
 obtain⟨y1,s1,e1,k1,r1⟩:=q2p h
 obtain⟨y2,s2,e2,k2,r2⟩:=t52 k1 (l:= [(⟨#[111,110,101]⟩:Hs),(⟨#[116,119,111]⟩:Hs),(⟨#[]⟩:Hs),(⟨#[120,0]⟩:Hs)]) (by decide)
 obtain⟨y3,s3,e3,k3,r3⟩:=t8s k2 (n:=5) (by omega)
 simp only[e1,e2,e3,zOb]
 have hz:y2.size≤12:=by
  simp only[A8,Ep,Em] at r2
  rcases r2 with rfl | rfl | rfl | rfl<;>decide
 have hk:=p4u r1
 cases y3 with
 | true=>exact⟨_,_,rfl,k3,r1,by simp[u2i,hk,emp,ByteArray.size]⟩
 | false=>exact⟨_,_,rfl,k3,r1,by simp[u2i,hk,hz]⟩
theorem p0m {s:Src} (h:s.ok):Dr (u6y s) (fun y=>u26 y=true∧ ∀w∈y,w.1∈K5):=by
 have key:∀(d i:Nat) (s:Src) (a:Hu WrT),s.ok→a.length≤i→4≤i+d→i≤3→u26 a=true→(∀w∈a,w.1∈K5)→
  ∃(s' :Src) (a' :Hu WrT),u17 (s,a,(i:Int))=some (.inl (s',a'))∧s'.ok∧u26 a' =true∧ ∀w∈a',w.1∈K5:=by
  intro d
  induction d with
  | zero=>intro i s a _ _ h1 h2;omega
  | succ d ih=>
   intro i s a hs ha hd hi hr hk
   obtain⟨y,s1,e1,k1,r1⟩:=u1e hs (n:=4) (by omega)
   rw[t8p]
   simp only[u7k,e1,zOb]
   by_cases hy:(i:Int)<y
   ·obtain⟨y2,s2,e2,k2,r2,r3⟩:=q5i k1
    have hl:=q4h a y2
    simp only[hy,Ae,Ad,e2,zOb,s04 a y2 (by omega)]
    rw[y7j (by omega)]
    exact ih (i+1) s2 (r9e a y2) k2 (by omega) (by omega) (by omega) (q8j hr r3 (by omega)) (fun w hw=>by
     rcases s65 hw with q | q
     ·exact hk w q
     ·rw[q];exact r2)
   ·simp only[hy,Ah,Aa]
    exact⟨_,_,rfl,k1,hr,hk⟩
 obtain⟨s',a',e1,k1,r1,r2⟩:=key 4 0 s [] h (by simp) (by omega) (by omega) (by decide) (fun w hw=>by cases hw)
 rw[s2w];unfold t4n
 have e1:u17 (s, [],0)=_:=e1
 simp only[e1,zOb]
 exact⟨_,_,rfl,k1,r1,r2⟩
end
section
theorem u2z (b:u0k) (o:Hu u0f) (hb:fewB b) (ho:p00 o):u0l (b,o)=some (b,o):=by
 have h1:=t09 b hb
 have h2:=s9s o ho
 rw[q0u];unfold s8w
 simp only[h1,h2,zOb]
end
section
theorem EngR.ot {e:u08} (h:EngR e) {t:u0f} (ht:t∈e.2):tinyT t:=(h.open_ t ht).1.tiny
theorem EngR.fewO {e:u08} (h:EngR e):p00 e.2:=r2u (by have:=h.olen;omega) fun t ht=>h.ot ht
theorem EngR.tinyO {e:u08} (h:EngR e):tinyB e.1:=h.base.tiny
theorem EngR.fewB {e:u08} (h:EngR e):Ab.fewB e.1:=h.base.tiny.few
theorem EngR.oth {e:u08} (h:EngR e):∀t∈t6q e,tinyT t:=fun t ht=>by
 rcases Ay.mp ht with q | q
 ·exact(h.base.past t q).1.tiny
 ·exact(h.base.ready t q).1.tiny
theorem EngR.fewOth {e:u08} (h:EngR e):p00 (t6q e):=r2u (by have:=h.base.plen;have:=h.base.rlen;simp only[t6q,Ba];omega) h.oth
theorem u7y (e:u08) (id:Int) (h:e.2.length≤4194304):u2q (e,id)=some (u2g e.2 id):=by
 have L:=r65 u75 (u10 (fun x:u0f=>decide (x.1=id)) e.2) (fun(_:Unit) i=>(id,e,i)) (fun _ _=>if u10 (fun x:u0f=>decide (x.1=id)) e.2<e.2.length then .inr ((u10 (fun x:u0f=>decide (x.1=id)) e.2:Nat):Int) else .inl ()) (fun _ _=>True)
  (fun a _=>by
   have hle:=t5y (fun x:u0f=>decide (x.1=id)) e.2
   rw[s6t]
   by_cases hk:u10 (fun x:u0f=>decide (x.1=id)) e.2<e.2.length
   ·have hy:=t2u hk
    simp only[u7z,u0b,hk,Ae,Ad,y7s hk,zTn,y8l (t:=u1f) hk,hy,Bl]
   ·simp only[u7z,u0b,hk,Ah,Aa,Bk])
  (fun i a hi _=> .inr ⟨(),trivial,rfl,by
   have hle:=t5y (fun x:u0f=>decide (x.1=id)) e.2
   have hil:i<e.2.length:=by omega
   have hn:=s63 hil hi
   rw[s6t]
   simp only[u7z,u0b,hil,Ae,Ad,y7s hil,zTn,y8l (t:=u1f) hil,hn,Aa]
   rw[y7j (by omega)]⟩) 0 () (Cn _) trivial
 have L:u75 (id,e,0)=_:=L
 rw[q3g];unfold r0v u2g
 simp only[L,zOb]
 by_cases hk:u10 (fun x:u0f=>decide (x.1=id)) e.2<e.2.length
 ·simp only[Al hk]
 ·simp only[Ao hk]
theorem p2z {e:u08} :(decide ((e.2.length:Int)≥4)= !decide (e.2.length<4))∧(decide (e.1.2.2.2.2≥9999)= !decide (e.1.2.2.2.2<9999)):=by
 constructor
 ·by_cases h:e.2.length<4<;>simp[h] <;>omega
 ·by_cases h:e.1.2.2.2.2<9999<;>simp[h] <;>omega
theorem r27 {e:u08} (h:EngR e):u5n e=some (u37 e):=by
 have ho:=h.olen
 have hn:=h.base.next
 have h1:=u2z e.1 e.2 h.fewB h.fewO
 have h2:=q2o e (by have:=h.tinyO.wt;have:=q4n (l:=e.2) (by omega) (fun t ht=>h.ot ht);have:=p69 e;omega)
 have h1:u0l e=some e:=h1
 have hk:=o0c.mpr h
 rw[q5v];unfold r4j u37
 simp only[h1,h2,hk,zOb,Ap,Aa,p2z.1,p2z.2,Aw,u07 (show e.2.length+1≤1099511627776 by omega),Ad]
 by_cases c1:e.2.length<4
 ·by_cases c2:e.1.2.2.2.2<9999
  ·simp only[c1,c2,Ae,Ap,Aa,zOb,and_self,Bl,t5x (n:=e.1.2.2.2.2) (r8k hn)]
   rfl
  ·simp only[c1,c2,Ae,Ah,Ap,Bh,Aa,Ad,zOb,and_false,Bk]
 ·simp only[c1,Ah,Bh,Ad,zOb,false_and,Bk]
theorem o52 (l:Hu t25) (r:t25):(l.any fun x=>z7l x.1 r.1&&(z7l x.2 r.2&&true))=o1x l r:=by
 unfold o1x;simp only[Cz]
theorem s7o {t:u0f} {r:t25} (ht:TxnR t) (h1:t.2.1=1) (hr:u12 r=true):t0x (t,r)=some (t4f t r):=by
 have hy:=ht.tiny
 have hw:=hy.wt
 have hl:=ht.rlen
 have c0:=u59 t hy.few
 have c1:=t1d t (by unfold u0y;omega)
 have k:=u1w (s:=r.1) (by unfold u12 at hr;simp only[Ai] at hr;exact hr.1)
 have k' :=u1w (s:=r.2) (by unfold u12 at hr;simp only[Ai] at hr;exact hr.2.1)
 have c2:=s4n r (by unfold u0y;omega) (by unfold u0y;omega)
 have ok:=r2x.mpr ht
 have L:=s9w u4l t.2.2.2.2.1 (fun i=>(t,r,(u30:u0f),t,i)) (fun x=>z7l x.1 r.1&&(z7l x.2 r.2&&true)) (.inr (t,true)) (.inl (t,r,u30,t))
  (by rw[t8k];simp only[u7f,u0b,Am,Ah,Aa])
  (fun i hi=>by
   rw[t8k]
   simp only[u7f,u0b,hi,Ae,Ad,y7s hi,zTn,y8l (t:=t44) hi]
   rw[y7j (by omega)])
 rw[o52] at L
 have L:u4l (t,r,((0,0,0,0, [], [],false,(⟨#[]⟩:Hs)):u0f),t,0)=_:=L
 rw[r5u];unfold s2f t4f
 simp only[c0,c1,c2,ok,hr,h1,zOb,Ae,Ap,Aa,L]
 cases o1x t.2.2.2.2.1 r
 ·have e8:decide ((t.2.2.2.2.1.length:Int)≥8)= !decide (t.2.2.2.2.1.length<8):=by by_cases c:t.2.2.2.2.1.length<8<;>simp[c] <;>omega
  simp only[Aa,e8,Br,Bk]
  by_cases c:t.2.2.2.2.1.length<8
  ·simp only[c,Ae,Ap,Aa,Aw,u07 (show t.2.2.2.2.1.length+1≤1099511627776 by omega),Ad,Bl]
   rfl
  ·simp only[c,Ah,Bh,Ad,Bk]
 ·rfl
theorem q4w {l:Hu WrT} {w:WrT} (h:u26 l=true) (hw:u2i w=true):u26 (r9e l w)=decide ((r9e l w).length≤8):=by
 by_cases c:(r9e l w).length≤8
 ·rw[q8j h hw c,Bb c]
 ·rw[A7 c]
  cases q:u26 (r9e l w)
  ·rfl
  ·exact absurd (p7i.mp q).2.2 c
theorem r23 {w:WrT} (h:u2i w=true):w.1.size≤3∧w.2.1.size≤12:=by
 unfold u2i at h
 simp only[Ai,Ar] at h
 exact⟨(u1w h.1).2,h.2.1⟩
theorem p4h {l:Hu WrT} (hn:l.length≤1000) (h:∀w∈l,u2i w=true):(Ty.sl u2u).wt l≤20000:=by
 have e:(Ty.sl u2u).wt l=l.length+(l.map u2u.wt).sum:=rfl
 have s:=s0l (f:=u2u.wt) (k:=15) (l:=l) fun w hw=>by
  have:=r23 (h w hw)
  have e:u2u.wt w=w.1.size+(w.2.1.size+0):=rfl
  omega
 omega
theorem p3x {l:Hu WrT} {w:WrT} (h:u26 l=true) (hw:u2i w=true):∀x∈r9e l w,u2i x=true:=fun x hx=>by
 rcases s65 hx with q | q
 ·exact(p7i.mp h).1 x q
 ·rw[q];exact hw
theorem q2u {t:u0f} {w:WrT} (ht:TxnR t) (h1:t.2.1=1) (hw:u2i w=true):t6z (t,w)=some (t4i t w):=by
 have hy:=ht.tiny
 have ht8:=(p7i.mp ht.ws).2.2
 have hl:=q4h t.2.2.2.2.2.1 w
 have c0:=u59 t hy.few
 have c1:=t1d t (by have:=hy.wt;unfold u0y;omega)
 have c2:=s4q w (by have:=r23 hw;unfold u0y;omega)
 have c3:=s04 t.2.2.2.2.2.1 w (by omega)
 have c4:=r0i (r9e t.2.2.2.2.2.1 w) (by have:=p4h (l:=r9e t.2.2.2.2.2.1 w) (by omega) (p3x ht.ws hw);unfold u0y;omega)
 have ok:=r2x.mpr ht
 rw[r7v];unfold s46 t4i
 simp only[c0,c1,c2,c3,c4,ok,hw,h1,zOb,Ae,Ap,Aa,q4w ht.ws hw]
 by_cases c:(r9e t.2.2.2.2.2.1 w).length≤8
 ·simp only[c,Ae,Ap,Aa,Bl]
  unfold o3c
  rw[h1]
 ·simp only[c,Ah,Bh,Ad,Bk]
end
section
def t5f (t:u0f) (l:Hu u1m) (k:Hs):Hs×Bool:=
 if u10 (fun w:WrT=>z7l w.1 k) t.2.2.2.2.2.1<t.2.2.2.2.2.1.length then
  (if(rdL u2u t.2.2.2.2.2.1 (u10 (fun w:WrT=>z7l w.1 k) t.2.2.2.2.2.1)).2.2=true then(emp,false) else((rdL u2u t.2.2.2.2.2.1 (u10 (fun w:WrT=>z7l w.1 k) t.2.2.2.2.2.1)).2.1,true))
 else t2l l k t.2.2.1
def s1f (t:u0f) (l:Hu u1m) (r:t25):Hu PrT:=
 ((r2h (l.map (fun v=>v.1)++t.2.2.2.2.2.1.map fun w=>w.1)).filter fun k=>(t5f t l k).2&&inR r k).map fun k=>(k,(t5f t l k).1)
theorem r6y (t:u0f) (l:Hu u1m) (k:Hs) (ht:r3u t) (hl:l.length≤4194304):t5t (t,l,k)=some (t5f t l k):=by
 have h8:=ht.2
 have L:=r65 u76 (u10 (fun w:WrT=>z7l w.1 k) t.2.2.2.2.2.1) (fun(_:Unit) i=>(l,k,t,i)) (fun _ _=>if u10 (fun w:WrT=>z7l w.1 k) t.2.2.2.2.2.1<t.2.2.2.2.2.1.length then .inr (if(rdL u2u t.2.2.2.2.2.1 (u10 (fun w:WrT=>z7l w.1 k) t.2.2.2.2.2.1)).2.2=true then(emp,false) else((rdL u2u t.2.2.2.2.2.1 (u10 (fun w:WrT=>z7l w.1 k) t.2.2.2.2.2.1)).2.1,true)) else .inl (l,k,t)) (fun _ _=>True)
  (fun a _=>by
   have hle:=t5y (fun w:WrT=>z7l w.1 k) t.2.2.2.2.2.1
   rw[s6u]
   by_cases hk:u10 (fun w:WrT=>z7l w.1 k) t.2.2.2.2.2.1<t.2.2.2.2.2.1.length
   ·have hy:=t2u hk
    simp only[u70,u0b,hk,Ae,Ad,y7s hk,zTn,y8l (t:=u2u) hk,hy,Bl]
    cases (t.2.2.2.2.2.1[u10 (fun w:WrT=>z7l w.1 k) t.2.2.2.2.2.1]).2.2<;>rfl
   ·simp only[u70,u0b,hk,Ah,Aa,Bk])
  (fun i a hi _=> .inr ⟨(),trivial,rfl,by
   have hle:=t5y (fun w:WrT=>z7l w.1 k) t.2.2.2.2.2.1
   have hil:i<t.2.2.2.2.2.1.length:=by omega
   have hn:=s63 hil hi
   rw[s6u]
   simp only[u70,u0b,hil,Ae,Ad,y7s hil,zTn,y8l (t:=u2u) hil,hn,Aa]
   rw[y7j (by omega)]⟩) 0 () (Cn _) trivial
 have L:u76 (l,k,t,0)=_:=L
 rw[q3h];unfold r0w t5f
 simp only[L,zOb]
 by_cases hk:u10 (fun w:WrT=>z7l w.1 k) t.2.2.2.2.2.1<t.2.2.2.2.2.1.length
 ·simp only[Al hk]
 ·simp only[Ao hk,r61 l k _ (show l.length≤1099511627776 by omega),zOb]
theorem q5b (t:u0f) (l:Hu u1m) (r:t25) (ht:r3u t) (hl:l.length≤4194304):t87 (t,l,r)=some (s1f t l r):=by
 have h8:=ht.2
 have L:=t40 u6j t.2.2.2.2.2.1 (fun(a:Hu u1m) i=>(l,t,r,a,i)) (fun a (w:WrT)=>a++ [((w.1,emp,false,(0:Int)):u1m)]) (fun a=> .inl (l,t,r,a)) (fun i a=>a.length=l.length+i)
  (fun a _=>by rw[s30];simp only[u96,u0b,Am,Ah,Aa])
  (fun i hi a ha=>⟨by simp[ha];omega,by
   rw[s30]
   simp only[u96,u0b,hi,Ae,Ad,y7s hi,zTn,y8l (t:=u2u) hi,Aw,u07 (show a.length+1≤1099511627776 by omega)]
   rw[y7j (by omega)]
   rfl⟩) l rfl
 have fo:∀(ws:Hu WrT) (a:Hu u1m),ws.foldl (fun a (w:WrT)=>a++ [((w.1,emp,false,(0:Int)):u1m)]) a=a++ws.map fun w=>((w.1,emp,false,(0:Int)):u1m):=by
  intro ws
  induction ws with
  | nil=>intro a;simp
  | cons w ws ih=>intro a;rw[Bs,ih,C8,Bi];rfl
 rw[fo] at L
 obtain⟨all,ha⟩:∃all,all=l++t.2.2.2.2.2.1.map fun w:WrT=>((w.1,emp,false,(0:Int)):u1m):=⟨_,rfl⟩
 rw[←ha] at L
 have hal:all.length≤6000000:=by rw[ha];simp;omega
 have hmap:all.map (fun v=>v.1)=l.map (fun v=>v.1)++t.2.2.2.2.2.1.map fun w=>w.1:=by
  rw[ha,Dh,List.map_map];rfl
 obtain⟨ks,hks⟩:∃ks,ks=(r2h (all.map fun v=>v.1)).filter fun k=>inR r k:=⟨_,rfl⟩
 have hkl:ks.length≤all.length:=by
  rw[hks]
  refine A9 (Cs _ _) (A9 (t9y _) (by simp))
 have L2:=t7f t0n ks (fun a i=>(l,t,a,ks,i)) (fun k=>(t5f t l k).2) (fun k=>(k,(t5f t l k).1)) (fun a=> .inl a) (by omega)
  (fun a _=>by rw[s31];simp only[u97,u0b,Am,Ah,Aa])
  (fun i hi a ha=>by
   rw[s31];simp only[u97,u0b,hi,Ae,Ad,y7s hi,zTn,y8l (t:=Ty.str) hi,r6y t l _ ht hl,zOb,Aw,u07 (show a.length+1≤1099511627776 by omega)]
   rw[y7j (by omega)])
 have L:u6j (l,t,r,l,0)=_:=L
 rw[r92];unfold s73
 simp only[Cc,Co,Cf,u07 (show l.length≤1099511627776 by omega),Ad,L,zOb,q5a all r (show all.length≤500000000000 by omega)]
 rw[←hks]
 simp only[L2,zOb]
 rw[hks,List.filter_filter,hmap]
 rfl
theorem q4i {k:Hs} :u12 (k,k)=u38 k:=by
 unfold u12
 have:z7l k k=true:=by simp[z7l]
 rw[this,Ew,Cz,Dt]
def p4l (e:u08) (id:Int) (k:Hs):u08×Hs×Bool×Int:=
 if(u7x e id (k,k) (u38 k)).2=0 then((u7x e id (k,k) (u38 k)).1,(t5f (u03 e id) e.1.1 k).1,(t5f (u03 e id) e.1.1 k).2,0)
 else((u7x e id (k,k) (u38 k)).1,emp,false,(u7x e id (k,k) (u38 k)).2)
def r6c (e:u08) (id:Int) (r:t25):u08×Hu PrT×Int:=
 if(u7x e id r (u12 r)).2=0 then((u7x e id r (u12 r)).1,s1f (u03 e id) e.1.1 r,0) else((u7x e id r (u12 r)).1, [],(u7x e id r (u12 r)).2)
theorem r2q {t:u0f} {r:t25} :(t4f t r).1.2.2.1=t.2.2.1∧(t4f t r).1.2.2.2.2.2.1=t.2.2.2.2.2.1:=by
 unfold t4f
 split
 ·exact⟨rfl,rfl⟩
 ·split<;>exact⟨rfl,rfl⟩
theorem r8m (t:u0f) (r:t25) (l:Hu u1m) (k:Hs):t5f (t4f t r).1 l k=t5f t l k:=by
 unfold t5f;rw[r2q.1,r2q.2]
theorem q6r (t:u0f) (r q:t25) (l:Hu u1m):s1f (t4f t r).1 l q=s1f t l q:=by
 unfold s1f;rw[r2q.2];simp only[r8m]
theorem q61 {t:u0f} {r:t25} (h:tinyT t):r3u (t4f t r).1:=by
 unfold t4f
 split
 ·exact h.few
 ·split
  ·refine⟨?_,h.few.2⟩
   show(t.2.2.2.2.1++ [r]).length≤1048576
   have:=h.rl
   simp;omega
  ·exact h.few
theorem r6u {e:u08} (h:EngR e) (id:Int) {k:Hs} (hk:k.size≤1048576):u53 (e,id,k)=some (p4l e id k):=by
 have ho:=h.olen
 have h1:u0l e=some e:=u2z e.1 e.2 h.fewB h.fewO
 have h2:=u7y e id (by omega)
 have h3:=t1a k (by unfold u0y;omega)
 rw[q3e];unfold r0t p4l u7x
 simp only[h1,h2,h3,zOb]
 by_cases hn:u2g e.2 id<0
 ·simp only[hn,Ae,Ad,Bl]
  rfl
 ·obtain⟨j,hj,e1,e2,e3⟩:=u0w hn
  have hR:=h.open_ _ (Ag hj)
  simp only[hn,Ah,Aa,Bk]
  cases hok:u38 k with
  | false=>rfl
  | true=>
   have c:=s7o (r:=(k,k)) hR.1 hR.2.1 (by rw[q4i];exact hok)
   simp only[Ap,Aa,e1,y7s hj,Ad,zTn,y8l (t:=u1f) hj,c,zOb,e2,Fm,Bk]
   cases hr:(t4f e.2[j] (k,k)).2 with
   | false=>rfl
   | true=>
    have g:=r6y (t4f e.2[j] (k,k)).1 e.1.1 k (q61 hR.1.tiny) (by have:=h.tinyO.vl;omega)
    simp only[Ap,Aa,g,zOb,Bl,r8m]
    rfl
theorem r0g {e:u08} (h:EngR e) (id:Int) {r:t25} (hk:r.1.size≤1048576∧r.2.size≤1048576):u33 (e,id,r)=some (r6c e id r):=by
 have ho:=h.olen
 have h1:u0l e=some e:=u2z e.1 e.2 h.fewB h.fewO
 have h2:=u7y e id (by omega)
 have h3:=s4n r (by unfold u0y;omega) (by unfold u0y;omega)
 rw[r7s];unfold s42 r6c u7x
 simp only[h1,h2,h3,zOb]
 by_cases hn:u2g e.2 id<0
 ·simp only[hn,Ae,Ad,Bl]
  rfl
 ·obtain⟨j,hj,e1,e2,e3⟩:=u0w hn
  have hR:=h.open_ _ (Ag hj)
  simp only[hn,Ah,Aa,Bk]
  cases hok:u12 r with
  | false=>rfl
  | true=>
   have c:=s7o (r:=r) hR.1 hR.2.1 hok
   simp only[Ap,Aa,e1,y7s hj,Ad,zTn,y8l (t:=u1f) hj,c,zOb,e2,Fm,Bk]
   cases hr:(t4f e.2[j] r).2 with
   | false=>rfl
   | true=>
    have g:=q5b (t4f e.2[j] r).1 e.1.1 r (q61 hR.1.tiny) (by have:=h.tinyO.vl;omega)
    simp only[Ap,Aa,g,zOb,Bl,q6r]
    rfl
theorem s9u {e:u08} (h:EngR e) (id:Int) {w:WrT} (hw:w.1.size≤1048576):u4s (e,id,w)=some (r6m e id w):=by
 have ho:=h.olen
 have h1:u0l e=some e:=u2z e.1 e.2 h.fewB h.fewO
 have h2:=u7y e id (by omega)
 have h3:=s4q w (by unfold u0y;omega)
 rw[q3j];unfold r0y r6m
 simp only[h1,h2,h3,zOb]
 by_cases hn:u2g e.2 id<0
 ·simp only[hn,Ae,Ad,Bl]
 ·obtain⟨j,hj,e1,e2,e3⟩:=u0w hn
  have hR:=h.open_ _ (Ag hj)
  simp only[hn,Ah,Aa,Bk]
  cases hok:u2i w with
  | false=>rfl
  | true=>
   have c:=q2u (w:=w) hR.1 hR.2.1 hok
   simp only[Ap,Aa,e1,y7s hj,Ad,zTn,y8l (t:=u1f) hj,c,zOb,e2,Fm,Bk]
   cases hr:(t4i e.2[j] w).2 with
   | false=>rfl
   | true=>rfl
theorem t5l (b:u0k) (o:Hu u0f) (id:Int) (hb:fewB b) (ho:o.length≤1000):u0v ((b,o),id)=some ((u2c b (o.filter fun x=> !decide (x.1=id))),o.filter fun x=> !decide (x.1=id)):=by
 have L:=t7f u79 o (fun a i=>((b,o),id,a,i)) (fun x:u0f=> !decide (x.1=id)) (fun x=>x) (fun a=> .inl ((b,o),a)) (by omega)
  (fun a _=>by rw[s6x];simp only[t1x,u0b,Am,Ah,Aa])
  (fun i hi a ha=>by
   rw[s6x];simp only[t1x,u0b,hi,Ae,Ad,y7s hi,zTn,y8l (t:=u1f) hi,Aw,u07 (show a.length+1≤1099511627776 by omega)]
   rw[y7j (by omega)])
 rw[Er] at L
 have L:u79 ((b,o),id, [],0)=_:=L
 have hl:=Cs (fun x:u0f=> !decide (x.1=id)) o
 rw[q32];unfold r1i
 simp only[L,zOb,s07 b (o.filter fun x=> !decide (x.1=id)) hb (by omega)]
theorem q1f {e:u08} (h:EngR e) (id:Int):u8f (e,id)=some (leaveP e id):=by
 have ho:=h.olen
 have h1:u0l e=some e:=u2z e.1 e.2 h.fewB h.fewO
 have h2:=u7y e id (by omega)
 have h3:u0v (e,id)=some (leaveE e id):=t5l e.1 e.2 id h.fewB (by omega)
 rw[q5y];unfold r4m leaveP
 simp only[h1,h2,h3,zOb]
 by_cases hn:u2g e.2 id<0
 ·simp only[hn,Ae,Ad,Bl]
 ·simp only[hn,Ah,Aa,Bk]
end
section
theorem p98 {E:Type} (l:Hu E) (f g:E→Bool):l.any (fun x=>f x || g x)=(l.any f || l.any g):=by
 induction l with
 | nil=>rfl
 | cons x l ih=>
  simp only[Gd,ih]
  cases f x<;>cases g x<;>cases l.any f<;>cases l.any g<;>rfl
theorem p4z {E:Type} (l:Hu E) (f g:E→Bool) (i:Bool):l.any (fun x=>f x&&(i || g x))=((i&&l.any f) || l.any fun x=>f x&&g x):=by
 cases i
 ·simp
 ·simp only[Dx,Cz,Bz]
  cases h:l.any f with
  | true=>rfl
  | false=>
   rw[Ct] at h
   symm
   rw[Ci,Ct]
   intro x hx
   have:=h x hx
   simp[this]
theorem q45 (t:u0f) (l:Hu u0f) (ht:r3u t) (hl:p00 l):t85 (t,l)=some (s9y t l):=by
 obtain⟨l1,l2⟩:=hl
 have L:=s9w u6g l (fun i=>(l,t,i)) (fun x=> !decide (x.1=t.1)&&((decide (x.2.1=2) || (decide (x.2.1=3)&&decide (x.2.2.2.1 >t.2.2.1)))&&r2l x.2.2.2.2.2.1 t.2.2.2.2.2.1)) (.inr true) (.inl ())
  (by rw[s3w];simp only[u93,u0b,Am,Ah,Aa])
  (fun i hi=>by
   have h1:=p0i l[i].2.2.2.2.2.1 t.2.2.2.2.2.1 (t9w (l2 _ (Ag hi)).2) (t9w ht.2)
   rw[s3w]
   simp only[u93,u0b,hi,Ae,Ad,y7s hi,zTn,y8l (t:=u1f) hi,h1,zOb]
   rw[y7j (by omega)]
   cases decide (l[i].1=t.1)<;>cases decide (l[i].2.1=2)<;>cases decide (l[i].2.1=3)<;>cases decide (l[i].2.2.2.1 >t.2.2.1)<;>cases r2l l[i].2.2.2.2.2.1 t.2.2.2.2.2.1<;>rfl)
 rw[r9v];unfold s7w s9y
 have L:u6g (l,t,0)=_:=L
 simp only[L,zOb]
 cases l.any fun x:u0f=> !decide (x.1=t.1)&&((decide (x.2.1=2) || (decide (x.2.1=3)&&decide (x.2.2.2.1 >t.2.2.1)))&&r2l x.2.2.2.2.2.1 t.2.2.2.2.2.1)<;>rfl
theorem q48 (t:u0f) (l:Hu u0f) (ht:r3u t) (hl:p00 l):s1k (t,l)=some (q9s t l):=by
 obtain⟨l1,l2⟩:=hl
 have L:=s9w t13 l (fun i=>(l,t,i)) (fun x=>p3b x&&ahead x t) (.inr true) (.inl ())
  (by rw[r21];simp only[t5m,u0b,Am,Ah,Aa])
  (fun i hi=>by
   have h1:=u8o l[i] t (t9w (l2 _ (Ag hi)).1) (t9w ht.2)
   rw[r21]
   simp only[t5m,u0b,hi,Ae,Ad,y7s hi,zTn,y8l (t:=u1f) hi,h1,zOb,p3b]
   rw[y7j (by omega)]
   cases decide (l[i].2.1=2)<;>cases decide (l[i].2.1=3)<;>cases ahead l[i] t<;>rfl)
 rw[q75];unfold r66 q9s
 have L:t13 (l,t,0)=_:=L
 simp only[L,zOb]
 cases l.any fun x=>p3b x&&ahead x t<;>rfl
def q22 (t:u0f) (l:Hu u0f) (p:u0f):Bool:=
 (p3b p&&(p.2.2.2.2.2.2.1&&ahead t p)) || (decide (p.2.1=2)&&(ahead p t&&(ahead t p || l.any fun x=>decide (x.2.1=2)&&(!decide (x.1=t.1)&&ahead x p))))
theorem p46 (t:u0f) (l:Hu u0f):s84 t l=((q9s t l&&s7h t l) || l.any (q22 t l)):=by
 unfold s84 r7g
 rw[←p98]
 rfl
theorem r6t (t:u0f) (l:Hu u0f) (ht:r3u t) (hl:p00 l):t5r (t,l)=some (s84 t l):=by
 obtain⟨l1,l2⟩:=hl
 have inner:∀(i:Nat) (hi:i<l.length),u4b (l,t,(i:Int),l[i],0)=some (bif (decide (l[i].2.1=2)&&ahead l[i] t)&&(l.any fun x=>decide (x.2.1=2)&&(!decide (x.1=t.1)&&ahead x l[i])) then .inr true else .inl (l,t,(i:Int))):=fun i hi=>by
  have g1:=u8o l[i] t (t9w (l2 _ (Ag hi)).1) (t9w ht.2)
  cases hg:(decide (l[i].2.1=2)&&ahead l[i] t) with
  | false=>
   have e0:u4b (l,t,(i:Int),l[i],0)=_:=t4y _
   rw[e0]
   simp only[u6a,g1,zOb,Fx,Aa]
   cases decide ((0:Int)<(l.length:Int))
   ·rfl
   ·revert hg
    cases decide (l[i].2.1=2)<;>cases ahead l[i] t<;>simp
  | true=>
   rw[Ai,Ar] at hg
   obtain⟨q1,q2⟩:=hg
   have L:=s9w u4b l (fun k=>(l,t,(i:Int),l[i],k)) (fun x=>decide (x.2.1=2)&&(!decide (x.1=t.1)&&ahead x l[i])) (.inr true) (.inl (l,t,(i:Int)))
    (by rw[t4y];simp only[u6a,u0b,Am,Ah,Aa,zOb])
    (fun k hk=>by
     have g2:=u8o l[k] l[i] (t9w (l2 _ (Ag hk)).1) (t9w (l2 _ (Ag hi)).2)
     rw[t4y]
     simp only[u6a,u0b,hk,Ae,Ad,q1,g1,q2,g2,y7s hk,zTn,y8l (t:=u1f) hk,zOb]
     rw[y7j (by omega)]
     cases decide (l[k].2.1=2)<;>cases decide (l[k].1=t.1)<;>cases ahead l[k] l[i] <;>rfl)
   rw[Bz]
   exact L
 have L:=s9w u74 l (fun i=>(l,t,i)) (q22 t l) (.inr true) (.inl ())
  (by rw[s6q];simp only[t1r,u0b,Am,Ah,Aa])
  (fun i hi=>by
   have g1:=u8o l[i] t (t9w (l2 _ (Ag hi)).1) (t9w ht.2)
   have g2:=u8o t l[i] (t9w ht.1) (t9w (l2 _ (Ag hi)).2)
   rw[s6q]
   simp only[t1r,u0b,hi,Ae,Ad,y7s hi,zTn,y8l (t:=u1f) hi,g1,g2,inner i hi,zOb,q22,p3b]
   have ws:=y7j (i:=i) (by omega)
   cases decide (l[i].2.1=2)<;>cases decide (l[i].2.1=3)<;>cases l[i].2.2.2.2.2.2.1<;>cases ahead l[i] t<;>cases ahead t l[i] <;>cases (l.any fun x=>decide (x.2.1=2)&&(!decide (x.1=t.1)&&ahead x l[i]))<;>first | rfl | (simp only[Dt,Fy,Fx,Bz,Fp,Ew,Ci,Ad,Aa,zOb,ws]))
 rw[q3b];unfold r0q
 have L:u74 (l,t,0)=_:=L
 simp only[q48 t l ht ⟨l1,l2⟩,r3d t l ht ⟨l1,l2⟩,L,zOb]
 rw[p46]
 cases q9s t l<;>cases s7h t l<;>cases l.any (q22 t l)<;>rfl
theorem r5g (t:u0f) (l:Hu u0f) (ht:r3u t) (hl:p00 l):t2a (t,l)=some (t07 t l):=by
 obtain⟨l1,l2⟩:=hl
 have inner:∀(i:Nat) (hi:i<l.length) (b:Bool),u2t (l,t,b,(i:Int),l[i],0)=some (bif (l.any fun y=>decide (y.2.1=2)&&(!decide (y.1=t.1)&&ahead l[i] y)) then .inr true else .inl (l,t,b,(i:Int))):=fun i hi b=>
  s9w u2t l (fun k=>(l,t,b,(i:Int),l[i],k)) (fun y=>decide (y.2.1=2)&&(!decide (y.1=t.1)&&ahead l[i] y)) (.inr true) (.inl (l,t,b,(i:Int)))
   (by rw[t4h];simp only[u4i,u0b,Am,Ah,Aa,zOb])
   (fun k hk=>by
    have g2:=u8o l[i] l[k] (t9w (l2 _ (Ag hi)).1) (t9w (l2 _ (Ag hk)).2)
    rw[t4h]
    simp only[u4i,u0b,hk,Ae,Ad,g2,y7s hk,zTn,y8l (t:=u1f) hk,zOb]
    rw[y7j (by omega)]
    cases decide (l[k].2.1=2)<;>cases decide (l[k].1=t.1)<;>cases ahead l[i] l[k] <;>rfl)
 have L:=s9w u3f l (fun i=>(l,t,q9s t l,i)) (fun x=>(decide (x.2.1=2)&&ahead t x)&&(q9s t l || l.any fun y=>decide (y.2.1=2)&&(!decide (y.1=t.1)&&ahead x y))) (.inr true) (.inl ())
  (by rw[t5j];simp only[u44,u0b,Am,Ah,Aa])
  (fun i hi=>by
   have g2:=u8o t l[i] (t9w ht.1) (t9w (l2 _ (Ag hi)).2)
   rw[t5j]
   simp only[u44,u0b,hi,Ae,Ad,y7s hi,zTn,y8l (t:=u1f) hi,g2,inner i hi (q9s t l),zOb]
   have ws:=y7j (i:=i) (by omega)
   cases decide (l[i].2.1=2)<;>cases ahead t l[i] <;>cases q9s t l<;>cases (l.any fun y=>decide (y.2.1=2)&&(!decide (y.1=t.1)&&ahead l[i] y))<;>first | rfl | (simp only[Dt,Fy,Fx,Bz,Fp,Ew,Ci,Ap,Bh,Ad,Aa,zOb,ws]))
 rw[p4z] at L
 rw[r1s];unfold t7h t07 s6h
 have L:u3f (l,t,q9s t l,0)=_:=L
 simp only[r6t t l ht ⟨l1,l2⟩,q48 t l ht ⟨l1,l2⟩,L,zOb]
 have e:r7g (fun x:u0f=> !decide (x.1=t.1)) t l=s84 t l:=rfl
 rw[e]
 cases s84 t l<;>cases ((q9s t l&&l.any fun x=>decide (x.2.1=2)&&ahead t x) || l.any fun x=>(decide (x.2.1=2)&&ahead t x)&&l.any fun y=>decide (y.2.1=2)&&(!decide (y.1=t.1)&&ahead x y))<;>rfl
theorem q81 (b:u0k) (hb:fewB b):u9e b=some (b.2.1++b.2.2.1):=by
 have h1:=hb.2.1.1
 have h2:=hb.2.2.1
 rw[q30];unfold r1g
 simp only[Cc,Co,Cf,u07 (show b.2.1.length≤1099511627776 by omega),u07 (show b.2.1.length+b.2.2.1.length≤1099511627776 by omega),Ad]
theorem q1e {e:u08} (h:EngR e) (id:Int):t76 (e,id)=some (t35 e id):=by
 have ho:=h.olen
 have h2:=u7y e id (by omega)
 have h3:=q81 e.1 h.fewB
 have h3:u9e e.1=some (t6q e):=h3
 have h4:=q6a e.1
 rw[q5w];unfold r4k t35
 simp only[h2,h3,zOb]
 by_cases hn:u2g e.2 id<0
 ·simp only[hn,Ae,Ad,Bl]
 ·obtain⟨j,hj,e1,e2,e3⟩:=u0w hn
  have hT:=(h.ot (Ag hj)).few
  simp only[hn,Ah,Aa,Bk,e1,y7s hj,Ad,zTn,y8l (t:=u1f) hj,q45 _ _ hT h.fewOth,r6t _ _ hT h.fewOth,h4,zOb,e2]
  have hn' : ¬((j:Int)<0):=by omega
  simp only[hn',Ah,Aa,Bk]
  cases s9y e.2[j] (t6q e)<;>cases s84 e.2[j] (t6q e)<;>cases t80 e.1<;>rfl
end
section
theorem q63 {b:u0k} {t:u0f} {n:Hs} (h: ¬(0≤u0n b n)):∃(k:Nat) (hk:k<(u1a b t n).2.2.1.length),u0n (u1a b t n) n=(k:Int)∧(u1a b t n).2.2.1[k] =u2b b t n:=by
 have hb:=p8m.mp (show u0n b n<0 by omega)
 have hm:u2b b t n∈(u1a b t n).2.2.1:=by
  show u2b b t n∈(b.2.2.1.filter fun x=>y2y x.2.2.2.2.2.2.2 n)++ [u2b b t n] ++(b.2.2.1.filter fun x=> !y2y x.2.2.2.2.2.2.2 n)
  simp
 have hn: ¬u0n (u1a b t n) n<0:=fun q=>p8m.mp q _ hm rfl
 obtain⟨k,hk,e1,e2⟩:=u40 hn
 refine⟨k,hk,e1,?_⟩
 have hx:=Ag hk
 have hx:(u1a b t n).2.2.1[k] ∈(b.2.2.1.filter fun x=>y2y x.2.2.2.2.2.2.2 n)++ [u2b b t n] ++(b.2.2.1.filter fun x=> !y2y x.2.2.2.2.2.2.2 n):=hx
 simp only[Ay,A6,Ax] at hx
 rcases hx with (q | q) | q
 ·exact absurd e2 (hb _ q.1)
 ·exact q
 ·exact absurd e2 (hb _ q.1)
theorem EngR.mids {e:u08} (h:EngR e):p15 e.1.2.2.2.1:=q8c h.base.cs
theorem q88 {e:u08} (h:EngR e) {t:u0f} (ht:t∈e.2∨t∈e.1.2.2.1):u3q (e.1,t)=some (u04 e.1 t):=by
 have hT:TxnR t:=by
  rcases ht with q | q
  ·exact(h.open_ t q).1
  ·exact(h.base.ready t q).1
 rw[r4h e.1 t h.fewB hT.tiny.few,r82 h.mids (r8k hT.id)]
theorem q89 {e:u08} (h:EngR e) {t:u0f} (ht:t∈e.2∨t∈e.1.2.2.1):tinyB (u04 e.1 t):=by
 have hT:TxnR t:=by
  rcases ht with q | q
  ·exact(h.open_ t q).1
  ·exact(h.base.ready t q).1
 exact s6k h.base hT.tiny
theorem p3q (b:u0k) (t:u0f) (hb:b.2.1.length≤1000):∃(k:Nat) (hk:k<(u04 b t).2.1.length),IntKind.i64.wrap (((u04 b t).2.1.length:Int) - (1:Int))=(k:Int)∧(u04 b t).2.1[k] =u41 b t:=by
 have e:(u04 b t).2.1=b.2.1++ [u41 b t] :=rfl
 refine⟨b.2.1.length,by rw[e];simp,?_,?_⟩
 ·rw[e,Ba,Aw,y4u (by omega) (by omega)];omega
 ·simp[e]
theorem p24 {b:u0k} {t:u0f} (h:r3u t):r3u (u41 b t):=h
theorem r6s {e:u08} (h:EngR e) (id:Int):t5q (e,id)=some (u1s e id):=by
 have ho:=h.olen
 have h1:u0l e=some e:=u2z e.1 e.2 h.fewB h.fewO
 have h2:=u7y e id (by omega)
 have hJ:=q1e h id
 have hO:u0v (e,id)=some (leaveE e id):=t5l e.1 e.2 id h.fewB (by omega)
 rw[q3a];unfold r0p u1s
 simp only[h1,hJ,zOb]
 by_cases c1:t35 e id=1
 ·simp only[c1,Ae,Ad,Bl]
  rfl
 ·simp only[c1,Ah,Aa,Bk]
  by_cases c0:t35 e id=0
  ·obtain⟨hn,_,_,_⟩:=t4o c0
   obtain⟨j,hj,e1,e2,e3⟩:=u0w hn
   have hm:e.2[j] ∈e.2∨e.2[j] ∈e.1.2.2.1:= .inl (Ag hj)
   have hT:=q88 h hm
   obtain⟨k,hk,f1,f2⟩:=p3q e.1 e.2[j] (by have:=h.base.plen;omega)
   have hC:=u59 (u41 e.1 e.2[j]) (p24 (h.ot (Ag hj)).few)
   have hO2:=t5l (u04 e.1 e.2[j]) e.2 id (q89 h hm).few (by omega)
   simp only[c0,Ae,Ap,Aa,Bl,h2,e1,y7s hj,Ad,zTn,y8l (t:=u1f) hj,hT,f1,y7s hk,y8l (t:=u1f) hk,f2,hC,hO2,zOb,e2]
   show some _=some (t6e e e.2[j],_)
   unfold t6e t2q
   rw[e3]
   rfl
  ·simp only[c0,Ah,Bh,Ad,Bk,hO,zOb]
   rfl
theorem r4e {e:u08} (h:EngR e) (id:Int) {n:Hs} (hn1:n.size≤1048576):t3l (e,id,n)=some (u9a e id n):=by
 have ho:=h.olen
 have h1:u0l e=some e:=u2z e.1 e.2 h.fewB h.fewO
 have h2:=u7y e id (by omega)
 have hK:=t1a n (by unfold u0y;omega)
 have hA:u1c (e.1,n)=some (u0n e.1 n):=t1b e.1 n (by have:=h.base.rlen;omega)
 have hJ:=q1e h id
 have hL:u9e e.1=some (t6q e):=q81 e.1 h.fewB
 have hO:u0v (e,id)=some (leaveE e id):=t5l e.1 e.2 id h.fewB (by omega)
 rw[r94];unfold s75 u9a
 simp only[h1,h2,zOb]
 by_cases c1:u2g e.2 id<0
 ·simp only[c1,Ae,Ad,Bl]
  rfl
 simp only[c1,Ah,Aa,Bk,hK,zOb]
 cases c2:u38 n with
 | false=>simp only[Bh,Ad,Bl];rfl
 | true=>
 simp only[Ap,Aa,Fm,Bk,hA,zOb]
 by_cases c3:0≤u0n e.1 n
 ·have c3' :decide (u0n e.1 n≥0)=true:=by simpa using c3
  simp only[c3,c3',Ad,Bl]
  rfl
 have c3' :decide (u0n e.1 n≥0)=false:=by simpa using c3
 simp only[c3,c3',Aa,Bk,hJ,zOb]
 unfold t3i
 by_cases c4:t35 e id=0
 ·obtain⟨j,hj,e1,e2,e3⟩:=u0w c1
  have hT:=(h.ot (Ag hj))
  have hTR:=(h.open_ _ (Ag hj)).1
  have hD:=r5g e.2[j] (t6q e) hT.few h.fewOth
  have hr:=h.base.rlen
  simp only[c4,Ae,e1,y7s hj,Ad,zTn,y8l (t:=u1f) hj,hL,hD,zOb,e2,ne_eq,not_true_eq_false,Bk]
  cases c5:t07 e.2[j] (t6q e) with
  | true=>
   have d5:decide ((5:Int)=0)=false:=by decide
   simp only[Ad,d5,Aa,zOb,Bh,hO,Bl]
   rfl
  | false=>
   simp only[Aa,zOb,Br,Bk]
   have e6:decide ((e.1.2.2.1.length:Int)≥3)=decide (3≤e.1.2.2.1.length):=by simp;omega
   simp only[e6]
   by_cases c6:3≤e.1.2.2.1.length
   ·have d3:decide ((3:Int)=0)=false:=by decide
    simp only[c6,Ae,Ad,d3,Bh,hO,zOb,Bl]
    rfl
   ·have hM:=s7n e.1 e.2[j] n h.fewB hT.few (r8k hTR.id)
    obtain⟨k,hk,f1,f2⟩:=q63 (t:=e.2[j]) c3
    have hns:n.size≤100:=by have:=(u1w c2).2;omega
    have hMt:=q19 (t:=e.2[j]) h.base hT hns
    have hA2:u1c (u1a e.1 e.2[j] n,n)=some ((k:Nat):Int):=by rw[t1b _ n (by have:=hMt.rl;omega),f1]
    have hC:=u59 (u2b e.1 e.2[j] n) hT.few
    have hO2:=t5l (u1a e.1 e.2[j] n) e.2 id hMt.few (by omega)
    simp only[c6,Ah,Aa,Ae,Ap,y7s hj,Ad,y8l (t:=u1f) hj,hM,hA2,y7s hk,zTn,y8l (t:=u1f) hk,f2,hC,hO2,zOb,Bk,Bl]
    show some _=some (p3s e e.2[j] n,_)
    unfold p3s t2q
    rw[e3]
    rfl
 ·simp only[c4,Ah,Aa,zOb,Bh,Ad,hO,ne_eq,not_false_eq_true,Bl,Bk]
  rfl
theorem r0e {e:u08} (h:EngR e) (n:Hs) (yes:Bool):t5s (e,n,yes)=some (s4k e n yes):=by
 have ho:=h.olen
 have h1:u0l e=some e:=u2z e.1 e.2 h.fewB h.fewO
 have hA:u1c (e.1,n)=some (u0n e.1 n):=t1b e.1 n (by have:=h.base.rlen;omega)
 have hF:=q6a e.1
 have hG:=r4c e.1 n h.fewB
 have hG2:=s07 (u50 e.1 n) e.2 (q1z h.tinyO).few (by omega)
 rw[q3d];unfold r0s s4k
 simp only[h1,hA,hF,zOb]
 by_cases c1:u0n e.1 n<0
 ·simp only[c1,Ae,Ad,Bl]
  rfl
 obtain⟨k,hk,f1,f2⟩:=u40 c1
 simp only[c1,Ah,Aa,Bk]
 cases yes with
 | false=>simp only[Aa,zOb,hG,hG2,Br,false_and,Bk];rfl
 | true=>
  have hm:e.1.2.2.1[k] ∈e.2∨e.1.2.2.1[k] ∈e.1.2.2.1:= .inr (Ag hk)
  have hT:=q88 h hm
  have hT2:=s07 (u04 e.1 e.1.2.2.1[k]) e.2 (q89 h hm).few (by omega)
  simp only[Ad,true_and]
  cases t80 e.1 with
  | true=>rfl
  | false=>
   simp only[Aa,Br,Bk,Bl,f1,y7s hk,Ad,zTn,y8l (t:=u1f) hk,hT,hT2,zOb]
   rfl
end
section
theorem q1t:emp.size≤100:=by decide
theorem t9g (r:t9h):(u0z r).1.size≤20000:=by
 cases h:u9f r with
 | false=>unfold u0z;rw[h];exact A9 q1t (by omega)
 | true=>
  have hR:=p7e.mp h
  rw[u8k hR]
  have:=s0j hR
  show(s7i (s6i r)).size≤20000
  rw[q2b];omega
def q7z (b:u0k):t9h:=(4,u30,emp,false,b)
theorem q5l {b:u0k} (h:tinyB b):tinyR (q7z b):=⟨t24,q1t,h⟩
theorem r3a (d:u0j) (hd:o2z.wt d≤10000000):u8j d=some (orD d (p0o d)):=by
 have h1:=q1g d (by omega)
 have h2:=u47 (q7z (q8b (u0h d)).1) (q5l (p3i _)).wt
 have h3:=u2y d (by unfold u0y;omega)
 rw[r72];unfold s5e
 simp only[h1,zOb]
 have h2:u1p (4,(0,0,0,0, [], [],false,(⟨#[]⟩:Hs)),(⟨#[]⟩:Hs),false,(q8b (u0h d)).1)=_:=h2
 simp only[h2,h3,zOb]
 unfold p0o
 cases hp:u51 (u0h d) with
 | none=>
  have e:(q8b (u0h d)).2=false:=by unfold q8b;rw[hp]
  simp only[e,Bh,Ad,zOb]
  rfl
 | some b=>
  have e:q8b (u0h d)=(b,true):=by unfold q8b;rw[hp]
  simp only[e,Ap,Aa,zOb]
  have e4:q7z b=(4,u30,emp,false,b):=rfl
  rw[e4]
  cases ht:(u0z (4,u30,emp,false,b)).2 with
  | false=>simp only[Bh,Ad,Br,Bk];rfl
  | true=>
   have h5:=s7s (d:=d) (l:= [(u0z (4,u30,emp,false,b)).1]) hd (by simp) (fun t h=>by
    rw[Ax.mp h];have:=t9g (4,u30,emp,false,b);omega)
   simp only[Ap,Aa,Bl,h5,zOb]
theorem p2v {d z:u0j} (h:p0o d=some z):u1i z=true:=by
 unfold p0o at h
 split at h
 ·cases h
 ·split at h
  ·exact(q2f h).2.1
  ·cases h
theorem r6x (s:u0p) (r:t9h) (hd:o2z.wt s.2≤10000000) (hr:tinyR r):u9v (s,r)=some ((u4x s.2 r).isSome,s.1,(u4x s.2 r).getD s.2):=by
 have h1:=u47 r hr.wt
 have hl:=t9g r
 have h2:=u61 s.2 (u0z r).1 hd (by omega)
 have h3:=r3a s.2 hd
 rw[q0x];unfold s8z u4x
 simp only[h1,zOb]
 cases ht:(u0z r).2 with
 | false=>simp only[Bh,Ad,Br,Bk];rfl
 | true=>
  simp only[Ap,Aa,Bl,h2,zOb]
  cases ha:append_ s.2 (u0z r).1 with
  | some y=>rfl
  | none=>
   simp only[orD,Bh,Ad,h3,zOb]
   cases hz:p0o s.2 with
   | none=>rfl
   | some z=>
    have h4:=u61 z (u0z r).1 (u7s (p2v hz)) (by omega)
    simp only[orD,Ap,Aa,h4,zOb]
    cases hq:append_ z (u0z r).1<;>rfl
theorem t1j:tinyR q43:=⟨t24,by decide,u66⟩
theorem r4v {e:u08} (h:EngR e) (id:Int):tinyR (u1s e id).2.1:=by
 unfold u1s
 split
 ·exact t1j
 ·split
  ·rename_i c1 c0
   obtain⟨hn,_,_,_⟩:=t4o c0
   obtain⟨j,hj,e1,e2,e3⟩:=u0w hn
   rw[e2]
   exact⟨(h.ot (Ag hj)).like rfl rfl q1t,q1t,u66⟩
  ·exact t1j
theorem q16 {e:u08} (h:EngR e) (id:Int) (n:Hs):tinyR (u9a e id n).2.1:=by
 unfold u9a
 split
 ·exact t1j
 ·rename_i hn
  split
  ·exact t1j
  ·rename_i hk
   split
   ·exact t1j
   ·split
    ·obtain⟨j,hj,e1,e2,e3⟩:=u0w hn
     rw[e2]
     have hk:u38 n=true:=by simpa using hk
     have:=(u1w hk).2
     exact⟨(h.ot (Ag hj)).like rfl rfl (by show n.size≤100;omega),q1t,u66⟩
    ·exact t1j
theorem q58 {e:u08} (n:Hs) (hn:n.size≤100) (y:Bool):tinyR (s4k e n y).2.1:=by
 unfold s4k
 split
 ·exact t1j
 ·split
  ·exact t1j
  ·split
   ·exact⟨t24,hn,u66⟩
   ·exact⟨t24,hn,u66⟩
theorem q04 {s:u0p} (h:EngR s.1) (hd:u1i s.2=true) (id:Int):u4f (s,id)=some ((u1l s id).2,(u1l s id).1):=by
 have ho:=h.olen
 have h1:=r6s h id
 have h2:=r6x s (u1s s.1 id).2.1 (u7s hd) (r4v h id)
 have h3:u0l s.1=some s.1:=u2z s.1.1 s.1.2 h.fewB h.fewO
 have hO:u0v (s.1,id)=some (leaveE s.1 id):=t5l s.1.1 s.1.2 id h.fewB (by omega)
 rw[r56];unfold s2r u1l
 simp only[h1,zOb]
 by_cases c:(u1s s.1 id).2.2=0
 ·simp only[c,Ae,Ad,Bl,h2,zOb]
  cases u4x s.2 (u1s s.1 id).2.1 with
  | none=>simp only[Option.isSome_none,Bh,Ad,h3,hO,zOb];rfl
  | some d=>rfl
 ·simp only[c,Ah,Aa,Bk]
theorem r8g {s:u0p} (h:EngR s.1) (hd:u1i s.2=true) (id:Int) {n:Hs} (hn:n.size≤1048576):u3z (s,id,n)=some ((u7w s id n).2,(u7w s id n).1):=by
 have ho:=h.olen
 have h1:=r4e h id hn
 have h2:=r6x s (u9a s.1 id n).2.1 (u7s hd) (q16 h id n)
 have h3:u0l s.1=some s.1:=u2z s.1.1 s.1.2 h.fewB h.fewO
 have hO:u0v (s.1,id)=some (leaveE s.1 id):=t5l s.1.1 s.1.2 id h.fewB (by omega)
 rw[r3s];unfold t9q u7w
 simp only[h1,zOb]
 by_cases c:(u9a s.1 id n).2.2=0
 ·simp only[c,Ae,Ad,Bl,h2,zOb]
  cases u4x s.2 (u9a s.1 id n).2.1 with
  | none=>simp only[Option.isSome_none,Bh,Ad,h3,hO,zOb];rfl
  | some d=>rfl
 ·simp only[c,Ah,Aa,Bk]
theorem p27 {e:u08} {n:Hs} {y:Bool} (c:(s4k e n y).2.2≠0):(s4k e n y).1=e:=by
 unfold s4k at c ⊢
 split
 ·rfl
 ·split
  ·rfl
  ·rename_i h1 h2
   rw[Ao h1,Ao h2] at c
   split at c<;>exact absurd rfl c
theorem q05 {s:u0p} (h:EngR s.1) (hd:u1i s.2=true) {n:Hs} (hn:n.size≤100) (y:Bool):u4g (s,n,y)=some ((t1l s n y).2,(t1l s n y).1):=by
 have h1:=r0e h n y
 have h2:=r6x s (s4k s.1 n y).2.1 (u7s hd) (q58 n hn y)
 rw[r57];unfold s2s t1l
 simp only[h1,zOb]
 by_cases c:(s4k s.1 n y).2.2=0
 ·simp only[c,Ae,Ad,Bl,h2,zOb]
  cases u4x s.2 (s4k s.1 n y).2.1 with
  | none=>rfl
  | some d=>rfl
 ·simp only[c,Ah,Aa,Bk,p27 c]
theorem q1d {s:u0p} (h:EngR s.1) (hd:o2z.wt s.2≤10000000):t3v s=some s:=by
 have h1:u0l s.1=some s.1:=u2z s.1.1 s.1.2 h.fewB h.fewO
 have h2:=u2y s.2 (by unfold u0y;omega)
 rw[q0w];unfold s8y
 simp only[h1,h2,zOb]
theorem q82 {s:u0p} (h:EngR s.1) (hd:u1i s.2=true):u1n s=some (q9n s):=by
 have h1:=q1d h (u7s hd)
 have h2:=r3a s.2 (u7s hd)
 rw[r7k];unfold s4u q9n
 simp only[h1,h2,zOb]
 cases p0o s.2<;>rfl
end
section
def PQR:Hu Hs:= [⟨#[112]⟩,⟨#[113]⟩,⟨#[114]⟩]
theorem q87 {y:Hs} (h:y∈PQR):y.size≤100:=by
 simp only[PQR,A8,Ep,Em] at h
 rcases h with rfl | rfl | rfl<;>decide
theorem Stt.mono {k m:Nat} {s:u0p} (h:Stt k s) (hm:k≤m):Stt m s:=by
 obtain⟨b,h1,h2⟩:=h.sync
 exact⟨⟨b,h1,by omega⟩,h.dom,h.num.mono hm⟩
theorem Stt.log {k:Nat} {s:u0p} (h:Stt k s):u1i s.2=true:=by obtain⟨b,h1,_⟩:=h.sync;exact h1.log
def RN (e:u08):Prop:= ∀x∈e.1.2.2.1,x.2.2.2.2.2.2.2∈PQR
theorem RN.sub {e e' :u08} (h:RN e) (hs:∀x∈e'.1.2.2.1,∃y∈e.1.2.2.1,x.2.2.2.2.2.2.2=y.2.2.2.2.2.2.2):RN e' :=fun x hx=>by
 obtain⟨y,hy,q⟩:=hs x hx
 rw[q];exact h y hy
theorem RN.same {e e' :u08} (h:RN e) (hs:e'.1.2.2.1=e.1.2.2.1):RN e' :=h.sub fun x hx=>⟨x,by rw[←hs];exact hx,rfl⟩
theorem RN.through {e:u08} (h:RN e) (t:u0f) (o:Hu u0f):RN (u2c (u04 e.1 t) o,o):=h.sub fun x hx=>by
 have hx:x∈(e.1.2.2.1.filter fun x=> !decide (x.1=t.1)).map (q1w (u41 e.1 t)):=hx
 obtain⟨y,hy,rfl⟩:=Bx.mp hx
 exact⟨y,(A6.mp hy).1,rfl⟩
theorem RN.commit {e:u08} (h:RN e) (id:Int):RN (u1s e id).1:=by
 unfold u1s
 split
 ·exact h
 ·split
  ·exact h.through _ _
  ·exact h.same rfl
theorem RN.prep {e:u08} (h:RN e) (id:Int) {n:Hs} (hn:n∈PQR):RN (u9a e id n).1:=by
 unfold u9a
 split
 ·exact h
 ·split
  ·exact h
  ·split
   ·exact h
   ·split
    ·intro x hx
     have hx:x∈(e.1.2.2.1.filter fun x=>y2y x.2.2.2.2.2.2.2 n)++ [u2b e.1 (u03 e id) n] ++(e.1.2.2.1.filter fun x=> !y2y x.2.2.2.2.2.2.2 n):=hx
     simp only[Ay,A6,Ax] at hx
     rcases hx with (q | rfl) | q
     ·exact h x q.1
     ·exact hn
     ·exact h x q.1
    ·exact h.same rfl
theorem RN.fin {e:u08} (h:RN e) (n:Hs) (y:Bool):RN (s4k e n y).1:=by
 unfold s4k
 split
 ·exact h
 ·split
  ·exact h
  ·split
   ·exact h.through _ _
   ·exact h.sub fun x hx=>⟨x,(A6.mp hx).1,rfl⟩
theorem RN.look {e:u08} (h:RN e) {id:Int} {r:t25} {right:Bool} :RN (u7x e id r right).1:=by
 unfold u7x
 split
 ·exact h
 ·split
  ·exact h
  ·split<;>exact h
theorem RN.put {e:u08} (h:RN e) {id:Int} {w:WrT} :RN (r6m e id w).1:=by
 unfold r6m
 split
 ·exact h
 ·split
  ·exact h
  ·split<;>exact h
theorem RN.begin {e:u08} (h:RN e):RN (u37 e).1:=by
 unfold u37
 split<;>exact h
theorem RN.leave {e:u08} (h:RN e) (id:Int):RN (leaveP e id).1:=by
 unfold leaveP
 split<;>exact h
structure SttN (k:Nat) (s:u0p):Prop extends Stt k s where
 rn:RN s.1
theorem SttN.mono {k m:Nat} {s:u0p} (h:SttN k s) (hm:k≤m):SttN m s:=⟨h.toStt.mono hm,h.rn⟩
theorem SttN.begin {k:Nat} {s:u0p} (h:SttN k s):SttN (k+1) ((u37 s.1).1,s.2):=⟨h.toStt.begin,h.rn.begin⟩
theorem SttN.look {k:Nat} {s:u0p} (h:SttN k s) {id:Int} {r:t25} {right:Bool} (hr:right=true→u12 r=true) (hk:r.1∈K5∧r.2∈K5):SttN (k+1) ((u7x s.1 id r right).1,s.2):=⟨h.toStt.look hr hk,h.rn.look⟩
theorem SttN.put {k:Nat} {s:u0p} (h:SttN k s) {id:Int} {w:WrT} (hk:w.1∈K5):SttN (k+1) ((r6m s.1 id w).1,s.2):=⟨h.toStt.put hk,h.rn.put⟩
theorem SttN.leave {k:Nat} {s:u0p} (h:SttN k s) (id:Int):SttN (k+1) ((leaveP s.1 id).1,s.2):=⟨h.toStt.leave id,h.rn.leave id⟩
theorem SttN.fix {k:Nat} {s:u0p} (h:SttN k s):SttN (k+1) (q9n s).1:=⟨h.toStt.fix,by
 unfold q9n
 split<;>exact h.rn⟩
theorem SttN.commit {k:Nat} {s:u0p} (h:SttN k s) (id:Int):SttN (k+1) (u1l s id).1:=⟨h.toStt.commit id,by
 unfold u1l
 split
 ·split
  ·exact h.rn.commit id
  ·exact h.rn.same rfl
 ·exact h.rn.commit id⟩
theorem SttN.prep {k:Nat} {s:u0p} (h:SttN k s) (id:Int) {n:Hs} (hn:n∈PQR):SttN (k+1) (u7w s id n).1:=⟨h.toStt.prep id n,by
 unfold u7w
 split
 ·split
  ·exact h.rn.prep id hn
  ·exact h.rn.same rfl
 ·exact h.rn.prep id hn⟩
theorem SttN.fin {k:Nat} {s:u0p} (h:SttN k s) (n:Hs) (y:Bool):SttN (k+1) (t1l s n y).1:=⟨h.toStt.fin n y,by
 unfold t1l
 split
 ·split
  ·exact h.rn.fin n y
  ·exact h.rn
 ·exact h.rn⟩
theorem q2r:∃s,u8h ()=some s∧SttN 0 s:=by
 obtain⟨d,h1,h2,h3⟩:=s9t
 have h0:t0w ()=some (r8l, []):=by
  rw[s2v];unfold t4m
  rw[t8y];rfl
 refine⟨((r8l, []),d),?_,?_⟩
 ·rw[s5l];unfold t56
  simp only[h0,h1,zOb]
 ·have hp:u51 (u0h d)=some r8l:=by rw[h3];rfl
  have hE:EngR ((r8l, []):u08):=o0c.mp (by decide)
  have hL:Like0 r8l r8l:=⟨by decide,rfl,rfl,rfl⟩
  have hN:r8l.2.2.2.2≤((0:Nat):Int)+1:=by decide
  have hM:Num 0 ((r8l, []):u08):=⟨by decide,by decide⟩
  have hD:DomE ((r8l, []):u08):=⟨⟨(fun v hv=>by cases hv),(fun t ht=>by cases ht)⟩,(fun t ht=>by cases ht)⟩
  exact⟨⟨⟨r8l,⟨hE,h2,hp,q6n,hL⟩,hN⟩,hD,hM⟩,fun x hx=>by cases hx⟩
def DrS (F:Ht (Src×u0p)) (k:Nat):Prop:= ∃s t,F=some (s,t)∧s.ok∧SttN k t
theorem p4t {y:Hs} (h:y∈K5):y.size≤1048576:=by have:=(u1w (p4u h)).2;omega
theorem q7c {k:Nat} {s:u0p} (h:SttN k s) (id:Int) {c:Src} (hc:c.ok):DrS ((u0e (c,(16:Int))).bind fun(y20:(Int×((Hu Int)×(Int×Int))))=>(((bif (decide (id=(0:Int))) then(some true) else(some (decide (y20.1<(3:Int))))):Ht Bool).bind fun j21=>(bif j21 then((u5n s.1).bind fun y22=>(some (y20.2,(y22.1,s.2)))) else(bif (decide (y20.1<(6:Int))) then((u19 y20.2).bind fun y23=>((u53 (s.1,(id,y23.1))).bind fun y24=>(some (y23.2,(y24.1,s.2))))) else(bif (decide (y20.1<(7:Int))) then((u2x y20.2).bind fun y25=>((u33 (s.1,(id,y25.1))).bind fun y26=>(some (y25.2,(y26.1,s.2))))) else(bif (decide (y20.1<(10:Int))) then((u2a y20.2).bind fun y27=>((u4s (s.1,(id,y27.1))).bind fun y28=>(some (y27.2,(y28.1,s.2))))) else(bif (decide (y20.1<(13:Int))) then((u4f (s,id)).bind fun y29=>(some (y20.2,y29.2))) else(bif (decide (y20.1=(13:Int))) then((u0o (y20.2,PQR)).bind fun y30=>((u3z (s,(id,y30.1))).bind fun y31=>(some (y30.2,y31.2)))) else(bif (decide (y20.1=(14:Int))) then((u0o (y20.2,PQR)).bind fun y32=>((u06 (y32.2,(2:Int))).bind fun(y33:(Bool×((Hu Int)×(Int×Int))))=>((u4g (s,(y32.1,y33.1))).bind fun y34=>(some (y33.2,y34.2))))) else((u06 (y20.2,(3:Int))).bind fun(y35:(Bool×((Hu Int)×(Int×Int))))=>(bif y35.1 then((u1n s).bind fun y36=>(some (y35.2,y36.1))) else((u8f (s.1,id)).bind fun y37=>(some (y35.2,(y37.1,s.2))))))))))))))) (k+1):=by
 obtain⟨y,c1,e1,k1,r1⟩:=u1e hc (n:=16) (by omega)
 have hE:=h.eng
 simp only[e1,zOb]
 have key:∀j:Bool,DrS ((some j).bind fun j21=>(bif j21 then((u5n s.1).bind fun y22=>(some (c1,(y22.1,s.2)))) else(bif (decide (y<(6:Int))) then((u19 c1).bind fun y23=>((u53 (s.1,(id,y23.1))).bind fun y24=>(some (y23.2,(y24.1,s.2))))) else(bif (decide (y<(7:Int))) then((u2x c1).bind fun y25=>((u33 (s.1,(id,y25.1))).bind fun y26=>(some (y25.2,(y26.1,s.2))))) else(bif (decide (y<(10:Int))) then((u2a c1).bind fun y27=>((u4s (s.1,(id,y27.1))).bind fun y28=>(some (y27.2,(y28.1,s.2))))) else(bif (decide (y<(13:Int))) then((u4f (s,id)).bind fun y29=>(some (c1,y29.2))) else(bif (decide (y=(13:Int))) then((u0o (c1,PQR)).bind fun y30=>((u3z (s,(id,y30.1))).bind fun y31=>(some (y30.2,y31.2)))) else(bif (decide (y=(14:Int))) then((u0o (c1,PQR)).bind fun y32=>((u06 (y32.2,(2:Int))).bind fun(y33:(Bool×((Hu Int)×(Int×Int))))=>((u4g (s,(y32.1,y33.1))).bind fun y34=>(some (y33.2,y34.2))))) else((u06 (c1,(3:Int))).bind fun(y35:(Bool×((Hu Int)×(Int×Int))))=>(bif y35.1 then((u1n s).bind fun y36=>(some (y35.2,y36.1))) else((u8f (s.1,id)).bind fun y37=>(some (y35.2,(y37.1,s.2)))))))))))))) (k+1):=by
  intro j
  simp only[zOb]
  cases j with
  | true=>
   simp only[Ad,r27 hE,zOb]
   exact⟨_,_,rfl,k1,h.begin⟩
  | false=>
   simp only[Aa]
   cases decide (y<(6:Int)) with
   | true=>
    obtain⟨z,c2,e2,k2,r2⟩:=q2p k1
    simp only[Ad,e2,zOb,r6u hE id (p4t r2)]
    refine⟨_,_,rfl,k2,?_⟩
    have:=h.look (id:=id) (r:=(z,z)) (right:=u38 z) (fun hk=>by rw[q4i];exact hk) ⟨r2,r2⟩
    unfold p4l
    split<;>exact this
   | false=>
   simp only[Aa]
   cases decide (y<(7:Int)) with
   | true=>
    obtain⟨z,c2,e2,k2,r2⟩:=p2l k1
    simp only[Ad,e2,zOb,r0g hE id ⟨p4t r2.1,p4t r2.2.1⟩]
    refine⟨_,_,rfl,k2,?_⟩
    have:=h.look (id:=id) (r:=z) (right:=u12 z) (fun hk=>hk) ⟨r2.1,r2.2.1⟩
    unfold r6c
    split<;>exact this
   | false=>
   simp only[Aa]
   cases decide (y<(10:Int)) with
   | true=>
    obtain⟨z,c2,e2,k2,r2⟩:=q5i k1
    simp only[Ad,e2,zOb,s9u hE id (p4t r2.1)]
    exact⟨_,_,rfl,k2,h.put r2.1⟩
   | false=>
   simp only[Aa]
   cases decide (y<(13:Int)) with
   | true=>
    simp only[Ad,q04 hE h.log,zOb]
    exact⟨_,_,rfl,k1,h.commit id⟩
   | false=>
   simp only[Aa]
   cases decide (y=(13:Int)) with
   | true=>
    obtain⟨z,c2,e2,k2,r2⟩:=t52 k1 (l:=PQR) (by decide)
    have hz:=q87 r2
    simp only[Ad,e2,zOb,r8g hE h.log id (show z.size≤1048576 by omega)]
    exact⟨_,_,rfl,k2,h.prep id r2⟩
   | false=>
   simp only[Aa]
   cases decide (y=(14:Int)) with
   | true=>
    obtain⟨z,c2,e2,k2,r2⟩:=t52 k1 (l:=PQR) (by decide)
    obtain⟨z2,c3,e3,k3,r3⟩:=t8s k2 (n:=2) (by omega)
    simp only[Ad,e2,e3,zOb,q05 hE h.log (q87 r2)]
    exact⟨_,_,rfl,k3,h.fin z z2⟩
   | false=>
    obtain⟨z2,c3,e3,k3,r3⟩:=t8s k1 (n:=3) (by omega)
    simp only[Aa,e3,zOb]
    cases z2 with
    | true=>
     simp only[Ad,q82 hE h.log,zOb]
     exact⟨_,_,rfl,k3,h.fix⟩
    | false=>
     simp only[Aa,q1f hE,zOb]
     exact⟨_,_,rfl,k3,h.leave id⟩
 cases decide (id=0) with
 | true=>simp only[Ad];exact key true
 | false=>simp only[Aa];exact key _
theorem p2o {k:Nat} {s:u0p} (h:SttN k s) {c:Src} (hc:c.ok):DrS (t9f (c,s)) (k+1):=by
 rw[q0y];unfold s80
 cases hd:decide ((s.1.2.length:Int) >0) with
 | true=>
  have hl:0<s.1.2.length:=by simpa using hd
  obtain⟨y,c1,e1,k1,r1⟩:=u1e hc (n:=(s.1.2.length:Int)) (by omega)
  obtain⟨i,rfl⟩:∃i:Nat,y=(i:Int):=⟨y.toNat,by omega⟩
  have hi:i<s.1.2.length:=by omega
  simp only[hd,Ad,e1,zOb,y7s hi]
  exact q7c h _ k1
 | false=>
  simp only[hd,Aa]
  exact q7c h 0 hc
theorem r62 (m:Nat) (hm:1≤m∧m≤1000) {c:Src} (hc:c.ok):∃(s:u0p) (c' :Src),u3u (c,(m:Int))=some (s,c')∧c'.ok∧SttN (m+1) s:=by
 have key:∀(d i:Nat) (c:Src) (j s:u0p),c.ok→SttN i s→m+2≤i+d→i≤m+1→ ∃(c' :Src) (s' :u0p),u6s (c,(m:Int),j,s,(i:Int))=some (.inl (c',j,s'))∧c'.ok∧SttN (m+1) s' :=by
  intro d
  induction d with
  | zero=>intro i c j s _ _ h1 h2;omega
  | succ d ih=>
   intro i c j s hc hs hd hi
   obtain⟨y,c1,e1,k1,r1⟩:=u1e hc (n:=(m:Int)) (by omega)
   rw[r6f]
   simp only[t4k,e1,zOb]
   rw[y4u (n:=2+y) (by omega) (by omega)]
   by_cases hy:(i:Int)<2+y
   ·obtain⟨c2,s2,e2,k2,r2⟩:=p2o hs k1
    simp only[hy,Ae,Ad,e2,zOb]
    rw[y7j (by omega)]
    exact ih (i+1) c2 j s2 k2 r2 (by omega) (by omega)
   ·simp only[hy,Ah,Aa]
    exact⟨_,_,rfl,k1,hs.mono hi⟩
 obtain⟨s0,e0,h0⟩:=q2r
 obtain⟨c',s',e1,k1,r1⟩:=key (m+2) 0 c (((([], [], [],0,0):u0k), []),([], [])) s0 hc h0 (by omega) (by omega)
 rw[q0z];unfold s81
 have e1:u6s (c,(m:Int),(((([], [], [],0,0):u0k), []),([], [])),s0,0)=_:=e1
 simp only[e0,e1,zOb]
 exact⟨_,_,rfl,k1,r1⟩
end
section
theorem p3j {e:u08} {id:Int} {r:t25} {right:Bool} (h:(u7x e id r right).2=0): ¬u2g e.2 id<0:=by
 intro hn
 unfold u7x at h
 rw[Al hn] at h
 exact(by decide: ¬((1:Int)=0)) h
end
section
theorem p6q {l:Hu u1m} (hA:VAsc l) {a s:Int} (h:a≤s) (k v:Hs):
 (∃x∈u1r l a,x.1=k∧vCs x≤s∧x.2.2.1=false∧x.2.1=v∧ ∀y∈u1r l a,y.1=k→vCs y≤s→vCs y≤vCs x)↔
 ∃x∈l,x.1=k∧vCs x≤s∧x.2.2.1=false∧x.2.1=v∧ ∀y∈l,y.1=k→vCs y≤s→vCs y≤vCs x:=by
 constructor
 ·rintro⟨x,hx,h1,h2,h3,h4,h5⟩
  obtain⟨m1,m2⟩:=(u2o hA).mp hx
  refine⟨x,m1,h1,h2,h3,h4,fun y hy q1 q2=> ?_⟩
  obtain⟨z,hz,z1,z2,z3⟩:=p3f (s:=s) (k:=k) l ⟨y,hy,q1,q2⟩
  have hzy:=z3 y hy q1 q2
  have hzx:=z3 x m1 h1 h2
  by_cases hza:vCs z >a
  ·have:=h5 z ((u2o hA).mpr ⟨hz, .inl hza⟩) z1 z2
   omega
  ·rcases m2 with c | ⟨c,_⟩
   ·omega
   ·have:=c.2 z hz (z1.trans h1.symm) (by omega)
    omega
 ·rintro⟨x,hx,h1,h2,h3,h4,h5⟩
  refine⟨x,(u2o hA).mpr ⟨hx,?_⟩,h1,h2,h3,h4,fun y hy q1 q2=>h5 y ((u2o hA).mp hy).1 q1 q2⟩
  by_cases c:vCs x >a
  ·exact .inl c
  ·exact .inr ⟨⟨by omega,fun y hy q1 q2=>h5 y hy (q1.trans h1) (by omega)⟩, .inl h3⟩
theorem q4g {r s:Hu PrT} (h1:q86 r) (h2:q86 s) (h:∀k v,(k,v)∈r↔(k,v)∈s):r=s:=by
 refine p3z (r:=fun a b:PrT=>y2y a.1 b.1=true) (fun x=>by rw[u58];simp) (fun x y q=>by rw[s1u q];simp) h1 h2 fun x=>h x.1 x.2
theorem r8v {l:Hu u1m} (hA:VAsc l) {a s:Int} (h:a≤s) (r:t25):u9x (u1r l a) r s=u9x l r s:=by
 refine q4g (r6o _ _ _) (r6o _ _ _) fun k v=> ?_
 rw[r2m _ _ _ _ _ (t08 hA a).uni,r2m _ _ _ _ _ hA.uni,p6q hA h k v]
theorem BaseR.asc {b:u0k} (h:BaseR b):VAsc b.1:=(p4m.mp h.vs).2.1
theorem q8s {b:u0k} (h:BaseR b) (o:Hu u0f) (r:t25):u9x (u2c b o).1 r b.2.2.2.1=u9x b.1 r b.2.2.2.1:=r8v h.asc (q6q b o) r
end
section
def o3s:u0p:=((u2f, []),([], []))
def p55 (d:u0j):u0p×Bool:=if u1i d=true∧(q8b (u0h d)).2=true then((((q8b (u0h d)).1, []),d),true) else(o3s,false)
theorem p2n (d:u0j) (hd:o2z.wt d≤10000000):u3c d=some (p55 d):=by
 have hb:u0y=1099511627776:=rfl
 rw[r5w];unfold s2h p55
 rw[q1g d (by omega),r3c d (by omega),u2y d (by omega)]
 simp only[zOb]
 cases u1i d<;>cases (q8b (u0h d)).2<;>rfl
end
section
structure View (H:Hu u0f) (b:u0k):Prop where
 eq:r86 (q07 H) r9c=u9x b.1 r9c b.2.2.2.1
 right:∀t∈H,TxnR t
theorem p8n {c:Int} {t:u0f} (ht:TxnR t) (hs:t.2.2.1≤c) (hc:c<9999):TxnR (s4j (c+1) t):=
 ⟨ht.id,⟨by show(1:Int)≤3;omega,by show(3:Int)≤3;omega⟩,ht.snap,ht.rlen,ht.ws,ht.rs,fun _=>⟨by show t.2.2.1+1≤c+1;omega,by show c+1≤9999;omega⟩,
   fun e=>absurd rfl e,fun e=>by have e:(3:Int)=2:=e;omega,fun _=>rfl,fun e=>by have e:(3:Int)=1:=e;omega⟩
theorem View.through {H:Hu u0f} {b:u0k} (h:View H b) (hb:BaseR b) {t:u0f} (ht:TxnR t) (hs:t.2.2.1≤b.2.2.2.1) (hc:b.2.2.2.1<9999):
 View (H++ [s4j (b.2.2.2.1+1) t]) (u04 b t):=by
 refine⟨?_,fun x hx=> ?_⟩
 ·have kd:=r89 ht.ws
  have hA:VAsc (t05 b.1 t.2.2.2.2.2.1 (b.2.2.2.1+1)):=s6b _ hb.asc kd fun x hx w _ q=>by
   have:=hb.vcs x hx
   have q2:x.2.2.2=b.2.2.2.1+1:=q.2
   omega
  show r86 (q07 (H++ [s4j (b.2.2.2.1+1) t])) r9c=u9x (t05 b.1 t.2.2.2.2.2.1 (b.2.2.2.1+1)) r9c (b.2.2.2.1+1)
  refine q4g (p0a (q6t _) _) (r6o _ _ _) fun k v=> ?_
  rw[r2m _ _ _ _ _ hA.uni,p1c]
  unfold r86
  rw[A6]
  show(k,v)∈t81 (q07 H) t.2.2.2.2.2.1∧inR r9c k=true↔_
  rw[r8j _ _ kd]
  have old:inR r9c k=true→((k,v)∈q07 H↔ ∃x∈b.1,x.1=k∧vCs x≤b.2.2.2.1∧x.2.2.1=false∧x.2.1=v∧ ∀y∈b.1,y.1=k→vCs y≤b.2.2.2.1→vCs y≤vCs x):=fun hr=>by
   have q:(k,v)∈r86 (q07 H) r9c↔(k,v)∈u9x b.1 r9c b.2.2.2.1:=by rw[h.eq]
   rw[r2m _ _ _ _ _ hb.asc.uni] at q
   unfold r86 at q
   rw[A6] at q
   simpa only[hr,and_true,true_and] using q
  have top:∀y∈t05 b.1 t.2.2.2.2.2.1 (b.2.2.2.1+1),vCs y≤b.2.2.2.1+1:=fun y hy=>by
   rcases(u2w _ _ _).mp hy with hy | ⟨w,hw,rfl⟩
   ·have:=hb.vcs y hy;show y.2.2.2≤_;omega
   ·exact Bv _
  constructor
  ·rintro⟨⟨w,hw,e1,e2,e3⟩ | ⟨h1,h2⟩,hr⟩
   ·exact⟨hr,(w.1,w.2.1,w.2.2,b.2.2.2.1+1),(u2w _ _ _).mpr (.inr ⟨w,hw,rfl⟩),e1,Bv _,e2,e3,fun y hy _ _=>top y hy⟩
   ·obtain⟨x,hx,q1,q2,q3,q4,q5⟩:=(old hr).mp h2
    refine⟨hr,x,(u2w _ _ _).mpr (.inl hx),q1,by omega,q3,q4,fun y hy ey _=> ?_⟩
    rcases(u2w _ _ _).mp hy with hy | ⟨w,hw,rfl⟩
    ·exact q5 y hy ey (hb.vcs y hy)
    ·exact absurd ey (h1 w hw)
  ·rintro⟨hr,x,hx,q1,q2,q3,q4,q5⟩
   refine⟨?_,hr⟩
   rcases(u2w _ _ _).mp hx with hx | ⟨w,hw,rfl⟩
   ·by_cases hk:∃w∈t.2.2.2.2.2.1,w.1=k
    ·exfalso
     obtain⟨w,hw,ew⟩:=hk
     have z:=q5 (w.1,w.2.1,w.2.2,b.2.2.2.1+1) ((u2w _ _ _).mpr (.inr ⟨w,hw,rfl⟩)) ew (Bv _)
     have z:b.2.2.2.1+1≤x.2.2.2:=z
     have:=hb.vcs x hx
     omega
    ·exact .inr ⟨fun w hw e=>hk ⟨w,hw,e⟩,(old hr).mpr ⟨x,hx,q1,hb.vcs x hx,q3,q4,fun y hy ey _=>q5 y ((u2w _ _ _).mpr (.inl hy)) ey (by have:=hb.vcs y hy;show y.2.2.2≤_;omega)⟩⟩
   ·exact .inl ⟨w,hw,q1,q3,q4⟩
 ·rcases Ay.mp hx with hx | hx
  ·exact h.right x hx
  ·rw[Ax.mp hx];exact p8n ht hs hc
theorem View.same {H:Hu u0f} {b b' :u0k} (h:View H b) (h1:b'.1=b.1) (h2:b'.2.2.2.1=b.2.2.2.1):View H b' :=⟨by rw[h1,h2];exact h.eq,h.right⟩
theorem View.tidy {H:Hu u0f} {b:u0k} (h:View H b) (hb:BaseR b) (o:Hu u0f):View H (u2c b o):=
 ⟨by show _=u9x (u2c b o).1 r9c b.2.2.2.1;rw[q8s hb];exact h.eq,h.right⟩
theorem View.rise {H:Hu u0f} {b e:u0k} (h:View H e) (he:BaseR e) (l:Like0 b e):View H b:=
 ⟨by rw[l.vs,l.cs,r8v he.asc (Bv _)];exact h.eq,h.right⟩
theorem View.leaveE {H:Hu u0f} {e:u08} (h:View H e.1) (hE:EngR e) (id:Int):View H (Ab.leaveE e id).1:=h.tidy hE.base _
theorem View.commitS {H:Hu u0f} {s:u0p} (v:View H s.1.1) (h:Ser H s.1) (id:Int) (t0:u0f):
 View (s9j H (u1l s id).1.1 s.1.1.2.2.2.1 (if u2g s.1.2 id<0 then t0 else u03 s.1 id)) (u1l s id).1.1.1:=by
 have hm:=h.mid
 unfold u1l u1s
 by_cases j1:t35 s.1 id=1
 ·rw[Al j1,Ao (show ¬((1:Int)=0) by decide)]
  show View (s9j H s.1 s.1.1.2.2.2.1 _) s.1.1
  rw[t22 _ hm rfl];exact v
 ·rw[Ao j1]
  by_cases j0:t35 s.1 id=0
  ·rw[Al j0,Al rfl]
   obtain⟨n,b1,b2,b3⟩:=t4o j0
   rw[Ao n]
   obtain⟨j,hj,e1,e2,e3⟩:=u0w n
   have ht:u03 s.1 id∈s.1.2:=by rw[e2];exact Ag hj
   obtain⟨t1,t2,t3⟩:=h.eng.open_ _ ht
   split
   ·show View (s9j H (t6e s.1 (u03 s.1 id)) s.1.1.2.2.2.1 _) (t6e s.1 (u03 s.1 id)).1
    rw[r6q (e' :=t6e s.1 (u03 s.1 id)) _ hm rfl]
    exact(v.through h.eng.base t1 t3 (r2b b3).2.2).tidy (t1i h.eng (.inl ht) b3) _
   ·show View (s9j H (Ab.leaveE s.1 id) s.1.1.2.2.2.1 _) (Ab.leaveE s.1 id).1
    rw[t22 (e' :=Ab.leaveE s.1 id) _ hm rfl];exact v.leaveE h.eng id
  ·rw[Ao j0,Ao j0]
   show View (s9j H (Ab.leaveE s.1 id) s.1.1.2.2.2.1 _) (Ab.leaveE s.1 id).1
   rw[t22 (e' :=Ab.leaveE s.1 id) _ hm rfl];exact v.leaveE h.eng id
theorem View.prepS {H:Hu u0f} {s:u0p} (v:View H s.1.1) (h:Ser H s.1) (id:Int) (n:Hs):View H (u7w s id n).1.1.1:=by
 unfold u7w u9a
 by_cases c1:u2g s.1.2 id<0
 ·rw[Al c1,Ao (show ¬((1:Int)=0) by decide)];exact v
 rw[Ao c1]
 cases hk:u38 n with
 | false=>rw[Al rfl,Ao (show ¬((2:Int)=0) by decide)];exact v
 | true=>
  rw[Ao (show ¬(true=false) by decide)]
  by_cases c2:0≤u0n s.1.1 n
  ·rw[Al c2,Ao (show ¬((6:Int)=0) by decide)];exact v
  rw[Ao c2]
  by_cases c3:t3i s.1 id=0
  ·rw[Al c3,Al rfl]
   obtain⟨j0,d0,l0⟩:=p3u c3
   obtain⟨j,hj,e1,e2,e3⟩:=u0w c1
   have ht:u03 s.1 id∈s.1.2:=by rw[e2];exact Ag hj
   split
   ·show View H (u2c (u1a s.1.1 (u03 s.1 id) n) (t2q s.1 (u03 s.1 id).1))
    have hp:=q14 (fun x hx=>(h.eng.base.past x hx).2.1) (fun x hx=>(h.eng.base.ready x hx).2.1) (t4o j0).2.1 d0
    have hM:BaseR (u1a s.1.1 (u03 s.1 id) n):=(h.ready ht hk l0 (p8m.mp (by omega)) hp).eng.base
    exact View.tidy (View.same (b' :=u1a s.1.1 (u03 s.1 id) n) v rfl rfl) hM _
   ·exact v.leaveE h.eng id
  ·rw[Ao c3,Ao c3];exact v.leaveE h.eng id
theorem View.finS {H:Hu u0f} {s:u0p} (v:View H s.1.1) (h:Ser H s.1) (n:Hs) (y:Bool) (t0:u0f):
 View (s9j H (t1l s n y).1.1 s.1.1.2.2.2.1 (if u0n s.1.1 n<0 then t0 else rdL u1f s.1.1.2.2.1 (u0n s.1.1 n).toNat)) (t1l s n y).1.1.1:=by
 have hm:=h.mid
 have same:∀t,View (s9j H s.1 s.1.1.2.2.2.1 t) s.1.1:=fun t=>by rw[t22 (e' :=s.1) _ hm rfl];exact v
 unfold t1l s4k
 by_cases c1:u0n s.1.1 n<0
 ·rw[Al c1,Ao (show ¬((1:Int)=0) by decide)];exact same _
 rw[Ao c1]
 by_cases c2:y=true∧t80 s.1.1=true
 ·rw[Al c2,Ao (show ¬((3:Int)=0) by decide)];exact same _
 rw[Ao c2]
 obtain⟨j,hj,e1,e2⟩:=u40 c1
 have e3:rdL u1f s.1.1.2.2.1 (u0n s.1.1 n).toNat=s.1.1.2.2.1[j] :=by rw[e1];exact y8l hj
 by_cases c3:y=true
 ·rw[Al c3,Al rfl]
  have hf:t80 s.1.1=false:=by
   cases q:t80 s.1.1 with
   | false=>rfl
   | true=>exact absurd ⟨c3,q⟩ c2
  have ht:rdL u1f s.1.1.2.2.1 (u0n s.1.1 n).toNat∈s.1.1.2.2.1:=by rw[e3];exact Ag hj
  obtain⟨t1,t2,t3⟩:=h.eng.base.ready _ ht
  split
  ·show View (s9j H (p6t s.1 (rdL u1f s.1.1.2.2.1 (u0n s.1.1 n).toNat)) s.1.1.2.2.2.1 _) (p6t s.1 (rdL u1f s.1.1.2.2.1 (u0n s.1.1 n).toNat)).1
   rw[Ao c1,r6q (e' :=p6t s.1 (rdL u1f s.1.1.2.2.1 (u0n s.1.1 n).toNat)) _ hm rfl]
   exact(v.through h.eng.base t1 t3 (r2b hf).2.2).tidy (t1i h.eng (.inr ht) hf) _
  ·exact same _
 ·rw[Ao c3,Al rfl]
  split
  ·show View (s9j H (Ab.noE s.1 n) s.1.1.2.2.2.1 _) (u2c (u50 s.1.1 n) s.1.2)
   rw[t22 (e' :=Ab.noE s.1 n) _ hm rfl];exact View.tidy (View.same (b' :=u50 s.1.1 n) v rfl rfl) (s5q h.eng.base n) _
  ·exact same _
structure Life (k:Nat) (H:Hu u0f) (s:u0p):Prop where
 ser:Ser H s.1
 disk:HB H s
 view:View H s.1.1
 few:H.length≤k
theorem Life.log {k:Nat} {H:Hu u0f} {s:u0p} (h:Life k H s):u1i s.2=true:=by
 obtain⟨b,hs,_⟩:=h.disk
 exact hs.log
theorem HB.opens {H:Hu u0f} {s:u0p} {e:u08} (h:HB H s) (he:EngR e) (h1:e.1.1=s.1.1.1) (h2:e.1.2.2.1=s.1.1.2.2.1) (h3:e.1.2.2.2.1=s.1.1.2.2.2.1):HB H (e,s.2):=by
 obtain⟨b,hs,hb⟩:=h
 exact⟨b,hs.opens he h1 h2 h3,hb⟩
theorem Life.opens {k:Nat} {H:Hu u0f} {s:u0p} (h:Life k H s) {e:u08} (hS:Ser H e) (h1:e.1.1=s.1.1.1) (h2:e.1.2.2.1=s.1.1.2.2.1) (h3:e.1.2.2.2.1=s.1.1.2.2.2.1):Life (k+1) H (e,s.2):=
 ⟨hS,h.disk.opens hS.eng h1 h2 h3,h.view.same h1 h3,by have:=h.few;omega⟩
theorem Life.begin {k:Nat} {H:Hu u0f} {s:u0p} (h:Life k H s):Life (k+1) H ((u37 s.1).1,s.2):=by
 have e:(u37 s.1).1.1.1=s.1.1.1∧(u37 s.1).1.1.2.2.1=s.1.1.2.2.1∧(u37 s.1).1.1.2.2.2.1=s.1.1.2.2.2.1:=by
  unfold u37;split<;>exact⟨rfl,rfl,rfl⟩
 exact h.opens (h.ser.begin (q2x h.ser.eng)) e.1 e.2.1 e.2.2
theorem p3k (e:u08) (id:Int) (r:t25) (right:Bool):(u7x e id r right).1.1=e.1:=by
 unfold u7x;split
 ·rfl
 ·split
  ·rfl
  ·split<;>rfl
theorem p5y (e:u08) (id:Int) (w:WrT):(r6m e id w).1.1=e.1:=by
 unfold r6m;split
 ·rfl
 ·split
  ·rfl
  ·split<;>rfl
theorem Life.look {k:Nat} {H:Hu u0f} {s:u0p} (h:Life k H s) {id:Int} {r:t25} {right:Bool} (hr:right=true→u12 r=true):Life (k+1) H ((u7x s.1 id r right).1,s.2):=by
 have e:=p3k s.1 id r right
 exact h.opens (h.ser.look (p7a h.ser.eng hr)) (by rw[e]) (by rw[e]) (by rw[e])
theorem Life.put {k:Nat} {H:Hu u0f} {s:u0p} (h:Life k H s) (id:Int) (w:WrT):Life (k+1) H ((r6m s.1 id w).1,s.2):=by
 have e:=p5y s.1 id w
 exact h.opens (h.ser.put (o0s h.ser.eng)) (by rw[e]) (by rw[e]) (by rw[e])
theorem Life.leave {k:Nat} {H:Hu u0f} {s:u0p} (h:Life k H s) (id:Int):Life (k+1) H ((leaveP s.1 id).1,s.2):=by
 refine⟨h.ser.leave id,?_,?_,by have:=h.few;omega⟩
 ·unfold leaveP;split
  ·exact h.disk
  ·obtain⟨b,hs,hb⟩:=h.disk
   exact⟨b,hs.leave id,hb⟩
 ·unfold leaveP;split
  ·exact h.view
  ·exact h.view.leaveE h.ser.eng id
theorem q37 (s:u0p):(q9n s).1.1=s.1:=by
 unfold q9n;split<;>rfl
theorem Life.fix {k:Nat} {H:Hu u0f} {s:u0p} (h:Life k H s):Life (k+1) H (q9n s).1:=by
 refine⟨by rw[q37];exact h.ser,?_,by rw[q37];exact h.view,by have:=h.few;omega⟩
 obtain⟨b,hs,hb⟩:=h.disk
 exact⟨b,hs.fix,hb⟩
theorem p39 (H:Hu u0f) (e' :u08) (c:Int) (t:u0f):(s9j H e' c t).length≤H.length+1:=by
 unfold s9j;split
 ·simp
 ·omega
theorem Life.commit {k:Nat} {H:Hu u0f} {s:u0p} (h:Life k H s) (id:Int) (t0:u0f):
 Life (k+1) (s9j H (u1l s id).1.1 s.1.1.2.2.2.1 (if u2g s.1.2 id<0 then t0 else u03 s.1 id)) (u1l s id).1:=
 ⟨h.ser.commitS id t0,h.disk.commit h.ser id t0,h.view.commitS h.ser id t0,by have:=h.few;have:=p39 H (u1l s id).1.1 s.1.1.2.2.2.1 (if u2g s.1.2 id<0 then t0 else u03 s.1 id);omega⟩
theorem Life.prep {k:Nat} {H:Hu u0f} {s:u0p} (h:Life k H s) (id:Int) (n:Hs):Life (k+1) H (u7w s id n).1:=
 ⟨h.ser.prepS id n,h.disk.prep id n,h.view.prepS h.ser id n,by have:=h.few;omega⟩
theorem Life.fin {k:Nat} {H:Hu u0f} {s:u0p} (h:Life k H s) (n:Hs) (y:Bool) (t0:u0f):
 Life (k+1) (s9j H (t1l s n y).1.1 s.1.1.2.2.2.1 (if u0n s.1.1 n<0 then t0 else rdL u1f s.1.1.2.2.1 (u0n s.1.1 n).toNat)) (t1l s n y).1:=
 ⟨h.ser.finS n y t0,h.disk.fin h.ser n y t0,h.view.finS h.ser n y t0,by
   have:=h.few
   have:=p39 H (t1l s n y).1.1 s.1.1.2.2.2.1 (if u0n s.1.1 n<0 then t0 else rdL u1f s.1.1.2.2.1 (u0n s.1.1 n).toNat)
   omega⟩
theorem Life.mono {k m:Nat} {H:Hu u0f} {s:u0p} (h:Life k H s) (hm:k≤m):Life m H s:=⟨h.ser,h.disk,h.view,by have:=h.few;omega⟩
theorem Life.rise {k:Nat} {H:Hu u0f} {s:u0p} (h:Life k H s) {d:u0j} (hd:u1i d=true) (ht:u0h d=u0h s.2):
 ∃b,u51 (u0h d)=some b∧Life k H ((b, []),d):=by
 obtain⟨b,hs,hb⟩:=h.disk
 have hY:Sync ((b, []),s.2) b:=(p1i hs).2
 have hp:u51 (u0h d)=some b:=by rw[ht];exact hs.play
 exact⟨b,hp,HB.rise h.ser hs hb,⟨b,⟨hY.eng,hd,hp,hY.right,hY.like⟩,hb⟩,h.view.rise h.ser.eng.base hs.like,h.few⟩
end
section
theorem p1l {l:Hu u1m} (hl:u4h l=true) (k:Hs) (s:Int):(t2l l k s).1.size≤12:=by
 obtain⟨h1,_,_⟩:=p4m.mp hl
 have hr:=s0f l k s
 unfold t2l
 split
 ·exact(by decide:(emp).size≤12)
 ·rename_i c
  have c1: ¬u5j l k s<0:=fun q=>c (.inl q)
  have hlt:(u5j l k s).toNat<l.length:=by omega
  rw[y8l (t:=u0g) hlt]
  have:=h1 _ (Ag hlt)
  unfold s7k at this
  simp only[Ai,Ar] at this
  exact this.2.1
theorem r44 {t:u0f} {l:Hu u1m} (ht:TxnR t) (hl:u4h l=true) (k:Hs):(t5f t l k).1.size≤12:=by
 unfold t5f
 split
 ·rename_i c
  rw[y8l (t:=u2u) c]
  have:=r23 ((p7i.mp ht.ws).1 _ (Ag c))
  split
  ·exact(by decide:(emp).size≤12)
  ·exact this.2
 ·exact p1l hl k _
theorem q4f {t:u0f} {l:Hu u1m} (ht:TxnR t) (hl:u4h l=true) (r:t25):(s1f t l r).length≤200∧ ∀x∈s1f t l r,x.1.size≤3∧x.2.size≤12:=by
 obtain⟨h1,_,h3⟩:=p4m.mp hl
 obtain⟨w1,_,w3⟩:=p7i.mp ht.ws
 unfold s1f
 constructor
 ·rw[Da]
  refine A9 (Cs _ _) (A9 (t9y _) ?_)
  rw[Ba,Da,Da];omega
 ·intro x hx
  obtain⟨k,hk,rfl⟩:=Bx.mp hx
  refine⟨?_,r44 ht hl k⟩
  have hk:=((t1f _).2 k).mp (A6.mp hk).1
  rcases Ay.mp hk with hk | hk
  ·obtain⟨v,hv,rfl⟩:=Bx.mp hk
   have:=h1 v hv
   unfold s7k at this
   simp only[Ai] at this
   exact(u1w this.1).2
  ·obtain⟨w,hw,rfl⟩:=Bx.mp hk
   exact(r23 (w1 w hw)).1
theorem r8w {e:u08} (hE:EngR e) (id:Int) (r:t25):(r6c e id r).2.1.length≤200∧ ∀x∈(r6c e id r).2.1,x.1.size≤3∧x.2.size≤12:=by
 unfold r6c
 split
 ·rename_i c
  obtain⟨j,hj,e1,e2,e3⟩:=u0w (p3j c)
  have ht:u03 e id∈e.2:=by rw[e2];exact Ag hj
  exact q4f (hE.open_ _ ht).1 hE.base.vs r
 ·exact⟨by show 0≤200;omega,fun x hx=>by cases hx⟩
theorem p33 (e:u08) (id:Int) (r:t25):(r6c e id r).1=(u7x e id r (u12 r)).1:=by
 unfold r6c;split<;>rfl
theorem p49 (e:u08) (id:Int) (k:Hs):(p4l e id k).1=(u7x e id (k,k) (u38 k)).1:=by
 unfold p4l;split<;>rfl
structure EvR (e:p62.den):Prop where
 kind:1≤e.1∧e.1≤12
 at0:0≤e.2.1
 key6:e.2.2.1.size≤6
 text:e.2.2.2.1.size≤20
 keep:e.2.2.2.2.length≤10
 nokeep:e.1≠12→e.2.2.2.2.length=0
theorem p0h {e:p62.den} (h:EvR e):t86 e=some true:=by
 have l1:u0r (e.1,1,12)=some true:=by
  rw[r4y];unfold s49
  have:=h.kind
  simp[this.1,this.2]
 have a1:decide (e.2.1<0)=false:=A7 (Hk.mpr h.at0)
 have a2:decide ((e.2.2.1.size:Int) >6)=false:=A7 (by have:=h.key6;omega)
 have a3:decide ((e.2.2.2.1.size:Int) >20)=false:=A7 (by have:=h.text;omega)
 have a4:decide ((e.2.2.2.2.length:Int) >10)=false:=A7 (by have:=h.keep;omega)
 rw[r9z];unfold s70
 simp only[l1,a1,a2,a3,a4,zOb,Ap,Aa]
 by_cases c:e.1=12
 ·simp only[c,Ae,Ad,zOb]
 ·have:=h.nokeep c
  simp[c,this]
abbrev r9k:=Hu Int×Hu Hs
end
section
def nlc (b:Hs):Nat:=b.data.toList.count 10
theorem t8x (a b:Hs):nlc (a++b)=nlc a+nlc b:=by
 unfold nlc
 rw[Ft,Ha,List.count_append]
structure NlE (e:u08):Prop where
 vs:∀v∈e.1.1,nlc v.2.1=0
 ready:∀t∈e.1.2.2.1,∀w∈t.2.2.2.2.2.1,nlc w.2.1=0
 open_:∀t∈e.2,∀w∈t.2.2.2.2.2.1,nlc w.2.1=0
theorem NlE.rest {e:u08} (h:NlE e) (id:Int):∀t∈t2q e id,∀w∈t.2.2.2.2.2.1,nlc w.2.1=0:=fun t ht=>h.open_ t ((u3m e id).subset ht)
theorem NlE.tidy {e:u08} (h:NlE e) (p o:Hu u0f) (ho:∀t∈o,∀w∈t.2.2.2.2.2.1,nlc w.2.1=0):NlE (u2c e.1 p,o):=⟨fun v hv=>h.vs v ((u35 _ _).subset hv),h.ready,ho⟩
theorem NlE.through {e:u08} (h:NlE e) {t:u0f} (ht:∀w∈t.2.2.2.2.2.1,nlc w.2.1=0):NlE (u04 e.1 t,e.2):=by
 refine⟨fun v hv=> ?_,fun x hx=> ?_,h.open_⟩
 ·rcases(u2w _ _ _).mp hv with hv | ⟨w,hw,rfl⟩
  ·exact h.vs v hv
  ·exact ht w hw
 ·obtain⟨q,hq,rfl⟩:=Bx.mp hx
  exact h.ready q (A6.mp hq).1
theorem NlE.made {e:u08} (h:NlE e) {t:u0f} {n:Hs} (ht:∀w∈t.2.2.2.2.2.1,nlc w.2.1=0):NlE (u1a e.1 t n,e.2):=by
 refine⟨h.vs,fun x hx=> ?_,h.open_⟩
 rcases Ay.mp hx with hx | hx
 ·rcases Ay.mp hx with hx | hx
  ·exact h.ready x (A6.mp hx).1
  ·rw[Ax] at hx;subst hx;exact ht
 ·exact h.ready x (A6.mp hx).1
theorem NlE.given {e:u08} (h:NlE e) (n:Hs):NlE (u50 e.1 n,e.2):=⟨h.vs,fun x hx=>h.ready x (A6.mp hx).1,h.open_⟩
theorem NlE.leave {e:u08} (h:NlE e) (id:Int):NlE (leaveE e id):=h.tidy _ _ (h.rest id)
theorem NlE.begin {e:u08} (h:NlE e):NlE (u37 e).1:=by
 unfold u37
 split
 ·refine⟨h.vs,h.ready,fun t ht=> ?_⟩
  rcases Ay.mp ht with ht | ht
  ·exact h.open_ t ht
  ·rw[Ax] at ht;subst ht
   exact fun w hw=>by cases hw
 ·exact h
theorem NlE.commit {e:u08} (h:NlE e) (id:Int):NlE (u1s e id).1:=by
 unfold u1s
 split
 ·exact h
 ·split
  ·rename_i _ q
   obtain⟨k,hk,e1,e2,e3⟩:=u0w (t4o q).1
   rw[e2]
   exact(h.through (h.open_ _ (Ag hk))).tidy _ _ (h.rest _)
  ·exact h.leave id
theorem NlE.prep {e:u08} (h:NlE e) (id:Int) (n:Hs):NlE (u9a e id n).1:=by
 unfold u9a
 split
 ·exact h
 ·rename_i q
  split
  ·exact h
  ·split
   ·exact h
   ·split
    ·obtain⟨k,hk,e1,e2,e3⟩:=u0w q
     rw[e2]
     exact(h.made (h.open_ _ (Ag hk))).tidy _ _ (h.rest _)
    ·exact h.leave id
theorem NlE.fin {e:u08} (h:NlE e) (n:Hs) (y:Bool):NlE (s4k e n y).1:=by
 unfold s4k
 split
 ·exact h
 ·rename_i q
  split
  ·exact h
  ·split
   ·obtain⟨k,hk,r1,r2⟩:=u40 q
    rw[r1,zTn,y8l (t:=u1f) hk]
    exact(h.through (h.ready _ (Ag hk))).tidy _ _ h.open_
   ·exact(h.given n).tidy _ _ h.open_
theorem NlE.look {e:u08} (h:NlE e) {id:Int} {r:t25} {right:Bool} :NlE (u7x e id r right).1:=by
 unfold u7x
 split
 ·exact h
 ·rename_i q
  split
  ·exact h
  ·split
   ·obtain⟨k,hk,e1,e2,e3⟩:=u0w q
    rw[e2]
    have ho:=h.open_ _ (Ag hk)
    refine⟨h.vs,h.ready,fun t ht=> ?_⟩
    rcases s69 ht with ht | rfl
    ·exact h.open_ t ht
    ·rw[r2q.2];exact ho
   ·exact h
theorem NlE.put {e:u08} (h:NlE e) {id:Int} {w:WrT} (hw:nlc w.2.1=0):NlE (r6m e id w).1:=by
 unfold r6m
 split
 ·exact h
 ·rename_i q
  split
  ·exact h
  ·split
   ·obtain⟨k,hk,e1,e2,e3⟩:=u0w q
    rw[e2]
    have ho:=h.open_ _ (Ag hk)
    refine⟨h.vs,h.ready,fun t ht=> ?_⟩
    rcases s69 ht with ht | rfl
    ·exact h.open_ t ht
    ·unfold t4i
     split
     ·intro x hx
      rcases s65 hx with hx | rfl
      ·exact ho x hx
      ·exact hw
     ·exact ho
   ·exact h
theorem NlE.leaveP {e:u08} (h:NlE e) (id:Int):NlE (Ab.leaveP e id).1:=by
 unfold Ab.leaveP;split
 ·exact h
 ·exact h.leave id
theorem NlE.commitS {s:u0p} (h:NlE s.1) (id:Int):NlE (u1l s id).1.1:=by
 unfold u1l;split
 ·split
  ·exact h.commit id
  ·exact h.leave id
 ·exact h.commit id
theorem NlE.prepS {s:u0p} (h:NlE s.1) (id:Int) (n:Hs):NlE (u7w s id n).1.1:=by
 unfold u7w;split
 ·split
  ·exact h.prep id n
  ·exact h.leave id
 ·exact h.prep id n
theorem NlE.finS {s:u0p} (h:NlE s.1) (n:Hs) (y:Bool):NlE (t1l s n y).1.1:=by
 unfold t1l;split
 ·split
  ·exact h.fin n y
  ·exact h
 ·exact h
theorem NlE.rise {e:u08} (h:NlE e) {b:u0k} (l:Like0 b e.1):NlE (b, []):=
 ⟨fun v hv=>h.vs v ((u35 _ _).subset (by rw[←l.vs];exact hv)),fun t ht=>h.ready t (by rw[←l.ready];exact ht),fun t ht=>by cases ht⟩
abbrev smc (c:Int):Prop:=0≤c∧c≤9
theorem p59 (e:u08):smc (u37 e).2.2:=by
 unfold u37;split
 ·exact(by decide:smc 0)
 ·exact(by decide:smc 3)
theorem p34 (e:u08) (id:Int) (r:t25) (right:Bool):smc (u7x e id r right).2:=by
 unfold u7x;split
 ·exact(by decide:smc 1)
 ·split
  ·exact(by decide:smc 2)
  ·split
   ·exact(by decide:smc 0)
   ·exact(by decide:smc 3)
theorem p7g (e:u08) (id:Int) (w:WrT):smc (r6m e id w).2:=by
 unfold r6m;split
 ·exact(by decide:smc 1)
 ·split
  ·exact(by decide:smc 2)
  ·split
   ·exact(by decide:smc 0)
   ·exact(by decide:smc 3)
theorem o0w (e:u08) (id:Int) (k:Hs):smc (p4l e id k).2.2.2:=by
 unfold p4l;split
 ·exact(by decide:smc 0)
 ·exact p34 _ _ _ _
theorem p8u (e:u08) (id:Int) (r:t25):smc (r6c e id r).2.2:=by
 unfold r6c;split
 ·exact(by decide:smc 0)
 ·exact p34 _ _ _ _
theorem p6a (e:u08) (id:Int):smc (leaveP e id).2:=by
 unfold leaveP;split
 ·exact(by decide:smc 1)
 ·exact(by decide:smc 0)
theorem q96 (e:u08) (id:Int):smc (t35 e id):=by
 rcases p3c e id with h | h | h | h | h<;>rw[h] <;>decide
theorem p1o (e:u08) (id:Int):smc (u1s e id).2.2:=by
 unfold u1s;split
 ·exact(by decide:smc 1)
 ·split
  ·exact(by decide:smc 0)
  ·exact q96 e id
theorem q69 (s:u0p) (id:Int):smc (u1l s id).2:=by
 unfold u1l;split
 ·split
  ·exact(by decide:smc 0)
  ·exact(by decide:smc 3)
 ·exact p1o s.1 id
theorem p6b (e:u08) (id:Int):smc (t3i e id):=by
 unfold t3i;split
 ·exact q96 e id
 ·split
  ·exact(by decide:smc 5)
  ·split
   ·exact(by decide:smc 3)
   ·exact(by decide:smc 0)
theorem p6c (e:u08) (id:Int) (n:Hs):smc (u9a e id n).2.2:=by
 unfold u9a;split
 ·exact(by decide:smc 1)
 ·split
  ·exact(by decide:smc 2)
  ·split
   ·exact(by decide:smc 6)
   ·split
    ·exact(by decide:smc 0)
    ·exact p6b e id
theorem p8t (s:u0p) (id:Int) (n:Hs):smc (u7w s id n).2:=by
 unfold u7w;split
 ·split
  ·exact(by decide:smc 0)
  ·exact(by decide:smc 3)
 ·exact p6c s.1 id n
theorem p8s (e:u08) (n:Hs) (y:Bool):smc (s4k e n y).2.2:=by
 unfold s4k;split
 ·exact(by decide:smc 1)
 ·split
  ·exact(by decide:smc 3)
  ·split
   ·exact(by decide:smc 0)
   ·exact(by decide:smc 0)
theorem p7f (s:u0p) (n:Hs) (y:Bool):smc (t1l s n y).2:=by
 unfold t1l;split
 ·split
  ·exact(by decide:smc 0)
  ·exact(by decide:smc 3)
 ·exact p8s s.1 n y
end
section
def fig (n:Nat):Int:=if n<10 then 48+(n:Int) else 87+(n:Int)
def o1y (b:UInt8):Hu Int:= [fig (b.toNat / 16),fig (b.toNat % 16)]
def q6c (l:Hu UInt8):Hu Int:=l.flatMap o1y
def q9q (s:Hs):Hs×Bool:=if s.size >20000 then(⟨#[]⟩,false) else(y7e (q6c s.data.toList),true)
theorem s93 (l:Hu UInt8):(q6c l).length=2*l.length:=by
 induction l with
 | nil=>rfl
 | cons x l ih=>
  simp only[q6c,List.flatMap_cons,Ba] at ih ⊢
  rw[ih]
  simp[o1y];omega
theorem q6d {l:Hu UInt8} {i:Nat} (h:i<l.length):q6c (l.take (i+1))=q6c (l.take i)++o1y l[i] :=by
 unfold q6c
 rw[B9 h,List.flatMap_append]
 simp only[List.flatMap_cons,List.flatMap_nil,Bw]
theorem o0a {n:Nat} (h:n≤100000000000):Nat.ble n z8x=true:=Nat.ble_eq_true_of_le (A9 h (by decide))
theorem o03 {n:Nat} (h:n<200):IntKind.u8.wrap (n:Int)=(n:Int):=p4f (by omega)
theorem r77 (n:Nat) (h:n<16):u4e (n:Int)=some (fig n):=by
 rw[r52];unfold s2n fig
 by_cases hc:n<10
 ·have:decide ((n:Int)<(10:Int))=true:=by simp;omega
  have e1:IntKind.i64.wrap ((48:Int)+(n:Int))=((48+n:Nat):Int):=by rw[y4u (by omega) (by omega)];omega
  rw[this,Ad,Al hc,e1,o03 (by omega)];exact Dj some (by omega)
 ·have:decide ((n:Int)<(10:Int))=false:=by simp;omega
  have e1:IntKind.i64.wrap ((97:Int)+(n:Int))=(97:Int)+(n:Int):=y4u (by omega) (by omega)
  have e2:IntKind.i64.wrap ((97:Int)+(n:Int) - 10)=((87+n:Nat):Int):=by rw[y4u (by omega) (by omega)];omega
  rw[this,Aa,Ao hc,e1,e2,o03 (by omega)];exact Dj some (by omega)
theorem p4s (s:Hs):r31 s=some (q9q s):=by
 rw[p0z];unfold q1j q9q
 by_cases hz:s.size >20000
 ·have:decide ((s.size:Int) >(20000:Int))=true:=by simp;omega
  rw[this,Ad,Al hz]
 have h0:decide ((s.size:Int) >(20000:Int))=false:=by simp;omega
 rw[h0,Aa,Ao hz]
 have L:=r65 t30 s.size (fun(_:Unit) i=>(s,q6c (s.data.toList.take i.toNat),i)) (fun _ _=> .inl (q6c s.data.toList)) (fun _ _=>True)
  (fun a _=>by
   rw[r5f];simp only[t7e,u0b,Am,Ah,Aa,zTn]
   rw[List.take_of_length_le (by simp)])
  (fun i a hi _=> .inr ⟨(),trivial,rfl,by
   have hb:(s.data.toList[i]'(by simpa using hi)).toNat<256:=Fw _
   rw[r5f]
   have t1:Int.tdiv (((s.data.toList[i]'(by simpa using hi)).toNat:Nat):Int) (16:Int)=(((s.data.toList[i]'(by simpa using hi)).toNat / 16:Nat):Int):=p38 _ 16
   have t2:Int.tmod (((s.data.toList[i]'(by simpa using hi)).toNat:Nat):Int) (16:Int)=(((s.data.toList[i]'(by simpa using hi)).toNat % 16:Nat):Int):=q7e _ 16
   have hble:Nat.ble ((q6c (s.data.toList.take i)).length+2) z8x=true:=o0a (by rw[s93];simp;omega)
   simp only[t7e,u0b,hi,Ae,Ad,y7s hi,zTn,r6i hi,y8b (show(s.data.toList[i]'(by simpa using hi)).toNat≤4611686018427387904 by omega),t1,t2,y8b (show(s.data.toList[i]'(by simpa using hi)).toNat / 16≤4611686018427387904 by omega),
    r77 ((s.data.toList[i]'(by simpa using hi)).toNat / 16) (by omega),r77 ((s.data.toList[i]'(by simpa using hi)).toNat % 16) (by omega),zOb,Bc,Cc,hble]
   rw[y7j (by omega),q6d (by simpa using hi)]
   rfl⟩) 0 () (by omega) trivial
 have L:t30 (s, [],0)=some (.inl (q6c s.data.toList)):=L
 simp only[L,zOb]
def o6d:Hs:=⟨#[48,49,50,51,52,53,54,55,56,57,97,98,99,100,101,102]⟩
theorem o0y:(⟨#[48,49,50,51,52,53,54,55,56,57,97,98,99,100,101,102]⟩:Hs)=o6d:=rfl
theorem p6h:o6d.size=16:=rfl
theorem o5n:∀n:Nat,n<16→((([48,49,50,51,52,53,54,55,56,57,97,98,99,100,101,102] :Hu UInt8).getD n 0).toNat:Int)=fig n:=by decide
theorem p4r (s:Hs):r30 s=some (q9q s):=by
 rw[p0w];unfold q1h q9q
 by_cases hz:s.size >20000
 ·have:decide ((s.size:Int) >(20000:Int))=true:=by simp;omega
  rw[this,Ad,Al hz]
 have h0:decide ((s.size:Int) >(20000:Int))=false:=by simp;omega
 rw[h0,Aa,Ao hz]
 have L:=r65 t3z s.size (fun(_:Unit) i=>(s,q6c (s.data.toList.take i.toNat),i)) (fun _ _=> .inl (q6c s.data.toList)) (fun _ _=>True)
  (fun a _=>by
   rw[r5e];simp only[t7d,u0b,Am,Ah,Aa,zTn]
   rw[List.take_of_length_le (by simp)])
  (fun i a hi _=> .inr ⟨(),trivial,rfl,by
   have hb:(s.data.toList[i]'(by simpa using hi)).toNat<256:=Fw _
   rw[r5e]
   have t1:Int.tdiv (((s.data.toList[i]'(by simpa using hi)).toNat:Nat):Int) (16:Int)=(((s.data.toList[i]'(by simpa using hi)).toNat / 16:Nat):Int):=p38 _ 16
   have t2:Int.tmod (((s.data.toList[i]'(by simpa using hi)).toNat:Nat):Int) (16:Int)=(((s.data.toList[i]'(by simpa using hi)).toNat % 16:Nat):Int):=q7e _ 16
   have w2:IntKind.u8.wrap (((s.data.toList[i]'(by simpa using hi)).toNat / 16:Nat):Int)=(((s.data.toList[i]'(by simpa using hi)).toNat / 16:Nat):Int):=p4f (by omega)
   have hble:Nat.ble ((q6c (s.data.toList.take i)).length+2) z8x=true:=o0a (by rw[s93];simp;omega)
   simp only[t7d,o0y,p6h,u0b,hi,Ae,Ad,y7s hi,zTn,r6i hi,t1,t2,w2,y7s (show(s.data.toList[i]'(by simpa using hi)).toNat / 16<16 by omega),y7s (show(s.data.toList[i]'(by simpa using hi)).toNat % 16<16 by omega),
    o5n ((s.data.toList[i]'(by simpa using hi)).toNat / 16) (by omega),o5n ((s.data.toList[i]'(by simpa using hi)).toNat % 16) (by omega),Bc,Cc,hble]
   rw[y7j (by omega),q6d (by simpa using hi)]
   rfl⟩) 0 () (by omega) trivial
 have L:t3z (s, [],0)=some (.inl (q6c s.data.toList)):=L
 simp only[L,zOb]
def s58 (p:o20.den):Hs:=p.1++⟨#[61]⟩++(q9q p.2).1++⟨#[10]⟩
def s1d (l:Hu o20.den):Hs:=l.foldl (fun a p=>a++s58 p) ⟨#[]⟩
theorem r8b (s:Hs):(q9q s).1.size≤40000:=by
 unfold q9q
 split
 ·show 0≤_;omega
 ·show(y7e _).size≤_
  rw[u2j,s93]
  simp;omega
theorem s96 (p:o20.den):(s58 p).size≤p.1.size+40002:=by
 have:=r8b p.2
 have e1:(⟨#[61]⟩:Hs).size=1:=rfl
 have e2:(⟨#[10]⟩:Hs).size=1:=rfl
 unfold s58
 simp only[Af,e1,e2]
 omega
theorem q12:∀(l:Hu o20.den) (a:Hs),(∀p∈l,p.1.size≤1048576)→(l.foldl (fun a p=>a++s58 p) a).size≤a.size+l.length*2000000
 | [],a,_=>by simp
 | p::l,a,h=>by
  have h1:=q12 l (a++s58 p) fun q hq=>h q (Bm _ hq)
  have h2:=s96 p
  have h3:=h p (C9 ..)
  rw[Bs,Bc,C7]
  rw[Af] at h1
  omega
theorem q6j {l:Hu o20.den} (h:∀p∈l,p.1.size≤1048576):(s1d l).size≤l.length*2000000:=by
 have:=q12 l ⟨#[]⟩ h
 have e:(⟨#[]⟩:Hs).size=0:=rfl
 unfold s1d
 omega
theorem s7q (l:Hu o20.den) (hn:l.length≤1048576) (hk:∀p∈l,p.1.size≤1048576):t0z l=some (s1d l):=by
 have L:=t40 u7q l (fun a i=>(l,a,i)) (fun a p=>a++s58 p) (fun a=> .inl a) (fun i a=>a.size≤i*2000000)
  (fun a _=>by rw[t8n];simp only[u7i,u0b,Am,Ah,Aa])
  (fun i hi a ha=>by
   have hk:=hk _ (Ag hi)
   have hh:=r8b l[i].2
   have e1:(⟨#[61]⟩:Hs).size=1:=rfl
   have e2:(⟨#[10]⟩:Hs).size=1:=rfl
   have hs:=s96 l[i]
   refine⟨by rw[Af];omega,?_⟩
   rw[t8n]
   simp only[u7i,u0b,hi,Ae,Ad,y7s hi,zTn,y8l hi,p4s,zOb,Af,e1,e2]
   rw[Bb (show a.size+(l[i]).1.size≤140737488355328 by omega),Bb (show a.size+(l[i]).1.size+1≤140737488355328 by omega),Bb (show a.size+(l[i]).1.size+1+(q9q (l[i]).2).1.size≤140737488355328 by omega),Bb (show a.size+(l[i]).1.size+1+(q9q (l[i]).2).1.size+1≤140737488355328 by omega)]
   simp only[Ad]
   rw[y7j (by omega)]
   simp only[s58,ByteArray.append_assoc]) ⟨#[]⟩ (by show 0≤_;omega)
 rw[r5y];unfold s2j
 simp only[L,zOb]
 rfl
theorem t8t (l:Hu o20.den) (hn:l.length≤1048576) (hk:∀p∈l,p.1.size≤1048576):u6w l=some (s1d l):=by
 have L:=t40 u7m l (fun a i=>(a,l,(l.length:Int),i)) (fun a p=>a++s58 p) (fun a=> .inl a) (fun i a=>a.size≤i*2000000)
  (fun a _=>by rw[t8c];simp only[u67,u0b,Am,Ah,Aa])
  (fun i hi a ha=>by
   have hk:=hk _ (Ag hi)
   have hh:=r8b l[i].2
   have e1:(⟨#[61]⟩:Hs).size=1:=rfl
   have e2:(⟨#[10]⟩:Hs).size=1:=rfl
   have hs:=s96 l[i]
   refine⟨by rw[Af];omega,?_⟩
   rw[t8c]
   simp only[u67,u0b,hi,Ae,Ad,y7s hi,zTn,y8l hi,p4r,zOb,Af,e1,e2]
   rw[Bb (show(l[i]).1.size+1≤140737488355328 by omega),Bb (show(l[i]).1.size+1+(q9q (l[i]).2).1.size≤140737488355328 by omega),Bb (show(l[i]).1.size+1+(q9q (l[i]).2).1.size+1≤140737488355328 by omega),Bb (show a.size+((l[i]).1.size+1+(q9q (l[i]).2).1.size+1)≤140737488355328 by omega)]
   simp only[Ad]
   rw[y7j (by omega)]
   rfl) ⟨#[]⟩ (by show 0≤_;omega)
 rw[r5j];unfold s14
 simp only[L,zOb]
 rfl
theorem o57:∀k:Nat,k<10→y7e [fig k] =(⟨#[UInt8.ofNat (48+k)]⟩:Hs):=by decide
theorem p47 (u:Nat) (h:u<9223372036854775808):(Lib.decDigits u).length≤19:=by
 rw[Lib.decDigits_length]
 have h2:=Lib.nDigits_pos u
 have key:∀(m v:Nat),v<10^m→1≤m→Lib.nDigits v≤m:=by
  intro m
  induction m with
  | zero=>intro v _ h;omega
  | succ m ih=>
   intro v hv _
   by_cases c:v<10
   ·rw[Lib.nDigits_small c];omega
   ·rw[Lib.nDigits_big c]
    have hv' :v / 10<10^m:=by rw[Gr] at hv;omega
    have hm:1≤m:=by
     rcases De m with e | e
     ·subst e;simp at hv';omega
     ·exact e
    have:=ih (v / 10) hv' hm
    omega
 exact key 19 u (by have:(10:Nat)^19=10000000000000000000:=by decide
                    omega) (by omega)
theorem r2g (u:Nat):y5q (u:Int)=⟨(Lib.decDigits u).toArray⟩:=by unfold y5q;rw[Lib.itoa_nonneg]
theorem t1e {n:Int} (h0:0≤n) (h1:n≤9223372036854775807):(y5q n).size≤19:=by
 obtain⟨u,rfl⟩:∃u:Nat,n=(u:Int):=⟨n.toNat,by omega⟩
 rw[r2g]
 show(Lib.decDigits u).toArray.size≤19
 have:=p47 u (by omega)
 simpa using this
theorem q9l {u:Nat} (h: ¬u<10):y5q (u:Int)=y5q ((u / 10:Nat):Int)++⟨#[UInt8.ofNat (48+u % 10)]⟩:=by
 rw[r2g,r2g,Lib.decDigits,dif_neg h]
 apply Gf
 simp[Ft]
theorem q23 {u:Nat} (h:u<10):y5q (u:Int)=⟨#[UInt8.ofNat (48+u)]⟩:=by
 rw[r2g,Lib.decDigits_one h]
theorem p22:∀(m:Nat) (u:Nat) (s:Hs),u<10^m→0<u→u<9223372036854775808→s.size+m≤1000→t0m ((u:Int),false,s)=some (.inl (false,y5q (u:Int)++s))
 | 0,u,s,h1,h2,h3,h4=>by simp at h1;omega
 | m+1,u,s,h1,h2,h3,h4=>by
  have e1:Int.tmod (u:Int) 10=((u % 10:Nat):Int):=q7e u 10
  have e2:Int.tdiv (u:Int) 10=((u / 10:Nat):Int):=p38 u 10
  have d1:decide ((u:Int)=0)=false:=A7 (by omega)
  have d2:decide (((u % 10:Nat):Int)<0)=false:=A7 (by omega)
  have hl:(y7e [fig (u % 10)]).size+s.size≤140737488355328:=by rw[u2j];simp only[Aw];omega
  rw[s3x]
  simp only[u94,d1,e1,e2,d2,Bh,Ad,Aa,r77 (u % 10) (by omega),zOb,hl,Ae,y8b (show u / 10≤4611686018427387904 by omega)]
  rw[o57 (u % 10) (by omega)]
  by_cases c:u<10
  ·have z:u / 10=0:=by omega
   have z2:u % 10=u:=by omega
   rw[z,s3x,z2,←q23 c]
   simp[u94]
  ·have p:u / 10<10^m:=by rw[Gr] at h1;omega
   have:=p22 m (u / 10) (⟨#[UInt8.ofNat (48+u % 10)]⟩++s) p (by omega) (by omega) (by rw[Af];show 1+s.size+m≤1000;omega)
   rw[this,q9l c,ByteArray.append_assoc]
theorem t7c {n:Int} (h0:0≤n) (h1:n≤9223372036854775807):u63 n=some (y5q n):=by
 obtain⟨u,rfl⟩:∃u:Nat,n=(u:Int):=⟨n.toNat,by omega⟩
 rw[r9x];unfold s7y
 by_cases c:u=0
 ·subst c
  have:=q23 (u:=0) (by omega)
  simp only[this]
  rfl
 ·have p:u<10^19:=by have:(10:Nat)^19=10000000000000000000:=by decide
                     omega
  have e:=p22 19 u (⟨#[]⟩:Hs) p (by omega) (by omega) (by decide)
  have d:decide ((u:Int)<0)=false:=A7 (by omega)
  have d0:decide ((u:Int)=0)=false:=A7 (by omega)
  have ez:y5q (u:Int)++(⟨#[]⟩:Hs)=y5q (u:Int):=ByteArray.append_empty
  simp only[d0,Aa,d,e,zOb,ez]
end
section
theorem cc {T:Type} {a b:Nat} {x:Ht T} (h:a+b≤140737488355328):(bif decide (a+b≤140737488355328) then x else none)=x:=by rw[Bb h];rfl
def p8g (n:Int):Hs:=y5q (y8h n 0)
theorem r2f {n:Int} (h:n≤9223372036854775807):0≤y8h n 0∧y8h n 0≤9223372036854775807:=by
 unfold y8h;split<;>omega
theorem s0g {n:Int} (h:n≤9223372036854775807):(p8g n).size≤19:=t1e (r2f h).1 (r2f h).2
theorem s4l {n:Int} (h0:0≤n) (h1:n≤9223372036854775807):u16 n=some (y5q n):=by
 rw[r9s];unfold s7t
 rw[q02];unfold y6x
 have d1:decide (-9223372036854775808≤n)=true:=Bb (by omega)
 have d2:decide (n≤9223372036854775807)=true:=Bb h1
 rw[d1,d2];rfl
theorem q85 {n:Int} (h:n≤9223372036854775807):t2j n=some (p8g n):=by
 rw[q35];unfold r1l p8g y8h
 by_cases c:n<0
 ·have d:decide (n<0)=true:=Bb c
  have e:y5q 0=(⟨#[48]⟩:Hs):=q23 (u:=0) (by omega)
  rw[d,Ad,Al (by omega),e]
 ·have d:decide (n<0)=false:=A7 c
  rw[d,Aa,Ao (by omega),t7c (by omega) h];rfl
theorem q84 {n:Int} (h:n≤9223372036854775807):u16 (y8h n 0)=some (p8g n):=s4l (r2f h).1 (r2f h).2
def r8a (s:p93.den):Hs:=((((((⟨#[99,115,32]⟩:Hs)++p8g s.1.1.2.2.2.1)++(⟨#[32,111,112,101,110,32]⟩:Hs))++y5q (s.1.2.length:Int))++(⟨#[32,114,101,97,100,121,32]⟩:Hs))++y5q (s.1.1.2.2.1.length:Int))++(⟨#[10]⟩:Hs)
def t4a (s:p93.den):Hu o20.den:=u9x s.1.1.1 r9c s.1.1.2.2.2.1
def p1n (s:p93.den):Hs:=r8a s++s1d (t4a s)
structure SmallS (s:p93.den):Prop where
 cs:s.1.1.2.2.2.1≤9223372036854775807
 vl:s.1.1.1.length≤1048576
 vk:∀v∈s.1.1.1,v.1.size≤1048576
 ol:s.1.2.length≤4194304
 rl:s.1.1.2.2.1.length≤1048576
theorem SmallS.pairs {s:p93.den} (h:SmallS s):(t4a s).length≤1048576∧ ∀p∈t4a s,p.1.size≤1048576:=by
 unfold t4a u9x
 constructor
 ·rw[Da]
  refine A9 (Cs _ _) (A9 (t9y _) ?_)
  rw[Da];exact h.vl
 ·intro p hp
  obtain⟨k,hk,rfl⟩:=Bx.mp hp
  have hk:=((t1f _).2 k).mp (A6.mp hk).1
  obtain⟨v,hv,rfl⟩:=Bx.mp hk
  exact h.vk v hv
theorem SmallS.lines {s:p93.den} (h:SmallS s):(s1d (t4a s)).size≤3000000000000:=by
 have:=q6j h.pairs.2
 have:=h.pairs.1
 omega
theorem p03 {s:p93.den} (h:SmallS s):(r8a s).size≤100:=by
 have h1:=s0g h.cs
 have h2:=t1e (n:=(s.1.2.length:Int)) (by omega) (by have:=h.ol;omega)
 have h3:=t1e (n:=(s.1.1.2.2.1.length:Int)) (by omega) (by have:=h.rl;omega)
 have z1:(⟨#[99,115,32]⟩:Hs).size=3:=rfl
 have z2:(⟨#[32,111,112,101,110,32]⟩:Hs).size=6:=rfl
 have z3:(⟨#[32,114,101,97,100,121,32]⟩:Hs).size=7:=rfl
 have z4:(⟨#[10]⟩:Hs).size=1:=rfl
 unfold r8a
 simp only[Af]
 omega
theorem s7r {s:p93.den} (h:SmallS s):t00 s=some (p1n s):=by
 have h1:=s0g h.cs
 have h2:=t1e (n:=(s.1.2.length:Int)) (by omega) (by have:=h.ol;omega)
 have h3:=t1e (n:=(s.1.1.2.2.1.length:Int)) (by omega) (by have:=h.rl;omega)
 have h4:=h.lines
 have z1:(⟨#[99,115,32]⟩:Hs).size=3:=rfl
 have z2:(⟨#[32,111,112,101,110,32]⟩:Hs).size=6:=rfl
 have z3:(⟨#[32,114,101,97,100,121,32]⟩:Hs).size=7:=rfl
 have z4:(⟨#[10]⟩:Hs).size=1:=rfl
 have hall:t2g ()=some r9c:=by rw[r1v];rfl
 have hsc:u4u (s.1.1.1,r9c,s.1.1.2.2.2.1)=some (t4a s):=s9v s.1.1.1 r9c _ (by have:=h.vl;omega)
 rw[r5z];unfold s2k
 simp only[q85 h.cs,t7c (n:=(s.1.2.length:Int)) (by omega) (by have:=h.ol;omega),t7c (n:=(s.1.1.2.2.1.length:Int)) (by omega) (by have:=h.rl;omega),hall,hsc,s7q _ h.pairs.1 h.pairs.2,zOb]
 repeat rw[cc]
 ·rfl
 all_goals ((try simp only[Af]);omega)
theorem t8u {s:p93.den} (h:SmallS s):u6x s=some (p1n s):=by
 have h1:=s0g h.cs
 have h2:=t1e (n:=(s.1.2.length:Int)) (by omega) (by have:=h.ol;omega)
 have h3:=t1e (n:=(s.1.1.2.2.1.length:Int)) (by omega) (by have:=h.rl;omega)
 have h4:=h.lines
 have z1:(⟨#[99,115,32]⟩:Hs).size=3:=rfl
 have z2:(⟨#[32,111,112,101,110,32]⟩:Hs).size=6:=rfl
 have z3:(⟨#[32,114,101,97,100,121,32]⟩:Hs).size=7:=rfl
 have z4:(⟨#[10]⟩:Hs).size=1:=rfl
 have hall:t83 ()=some r9c:=by rw[r9u];rfl
 have hsc:t5p (s.1.1.1,r9c,s.1.1.2.2.2.1)=some (t4a s):=q7w s.1.1.1 r9c _ (by have:=h.vl;omega)
 rw[r5k];unfold s15
 simp only[q84 h.cs,s4l (n:=(s.1.2.length:Int)) (by omega) (by have:=h.ol;omega),s4l (n:=(s.1.1.2.2.1.length:Int)) (by omega) (by have:=h.rl;omega),hall,hsc,t8t _ h.pairs.1 h.pairs.2,zOb]
 repeat rw[cc]
 ·rfl
 all_goals ((try simp only[Af]);omega)
def s6j (l:Hu Hs) (i:Nat):Hs:=if i<l.length∧z7l (rdL Ty.str l i) (⟨#[]⟩:Hs)=false then rdL Ty.str l i else(⟨#[46]⟩:Hs)
def q4d (w:o3u.den) (i:Nat):Hs:=((p8g (rdL (Ty.int .i64) w.2.2.1 i)++(⟨#[32]⟩:Hs))++s6j w.2.2.2 i)++(⟨#[10]⟩:Hs)
def t38 (w:o3u.den):Nat→Hs
 | 0=>⟨#[]⟩
 | n+1=>t38 w n++q4d w n
def p8p (w:o3u.den):Hs:=t38 w w.2.2.1.length++p1n w.1
structure SmallW (w:o3u.den):Prop where
 st:SmallS w.1
 cl:w.2.2.1.length≤1048576
 cr:∀c∈w.2.2.1,c≤9223372036854775807
 sd:∀t∈w.2.2.2,t.size≤1048576
 sl:w.2.2.2.length≤1048576
theorem r33 {w:o3u.den} (h:SmallW w) (i:Nat):(s6j w.2.2.2 i).size≤1048576:=by
 unfold s6j
 split
 ·rename_i c
  rw[y8l (t:=Ty.str) c.1]
  exact h.sd _ (Ag c.1)
 ·have z:(⟨#[46]⟩:Hs).size=1:=rfl
  omega
theorem s61 {w:o3u.den} (h:SmallW w) {i:Nat} (hi:i<w.2.2.1.length):rdL (Ty.int .i64) w.2.2.1 i≤(9223372036854775807:Int):=by
 rw[y8l (t:=Ty.int .i64) hi]
 exact h.cr _ (Ag hi)
theorem p07 {w:o3u.den} (h:SmallW w) {i:Nat} (hi:i<w.2.2.1.length):(q4d w i).size≤1048600:=by
 have h1:=s0g (s61 h hi)
 have h2:=r33 h i
 have z1:(⟨#[32]⟩:Hs).size=1:=rfl
 have z2:(⟨#[10]⟩:Hs).size=1:=rfl
 unfold q4d
 simp only[Af]
 omega
theorem t2v {w:o3u.den} (h:SmallW w):∀n:Nat,n≤w.2.2.1.length→(t38 w n).size≤n*1048600
 | 0,_=>by rw[show(t38 w 0).size=0 from rfl];exact Cn _
 | n+1,hn=>by
  have h1:=t2v h n (by omega)
  have h2:=p07 h (i:=n) (by omega)
  unfold t38
  rw[Af,C7];omega
theorem o3d {w:o3u.den} (h:SmallW w):∀d i:Nat,i+d=w.2.2.1.length→u4n (w,t38 w i,(i:Int))=some (.inl (w,t38 w w.2.2.1.length)):=by
 intro d
 induction d with
 | zero=>
  intro i hi
  rw[t8o];simp only[u7j,u0b,show ¬i<w.2.2.1.length by omega,Ah,Aa]
  rw[show i=w.2.2.1.length by omega]
 | succ d ih=>
  intro i hi
  have hlt:i<w.2.2.1.length:=by omega
  have hcl:=h.cl
  have k1:=s0g (s61 h hlt)
  have k2:=r33 h i
  have k3:=t2v h i (by omega)
  have z1:(⟨#[32]⟩:Hs).size=1:=rfl
  have z2:(⟨#[10]⟩:Hs).size=1:=rfl
  have z3:(⟨#[46]⟩:Hs).size=1:=rfl
  have nx:=ih (i+1) (by omega)
  have e:t38 w (i+1)=t38 w i++q4d w i:=rfl
  rw[e] at nx
  unfold q4d at nx
  rw[t8o]
  simp only[u7j,u0b,hlt,Ae,Ad,y7s hlt,zTn,q85 (s61 h hlt),zOb]
  rw[y7j (by omega)]
  by_cases c1:i<w.2.2.2.length
  ·cases c2:z7l (rdL Ty.str w.2.2.2 i) (⟨#[]⟩:Hs)
   ·have es:s6j w.2.2.2 i=rdL Ty.str w.2.2.2 i:=by unfold s6j;rw[Al ⟨c1,c2⟩]
    rw[es] at nx k2
    simp only[c1,Ae,Ad,y7s c1,c2,Bh,zOb]
    repeat rw[cc]
    ·rw[←nx];simp only[ByteArray.append_assoc]
    all_goals ((try simp only[Af]);omega)
   ·have es:s6j w.2.2.2 i=(⟨#[46]⟩:Hs):=by unfold s6j;rw[Ao (by rw[c2];simp)]
    rw[es] at nx k2
    simp only[c1,Ae,Ad,y7s c1,c2,Ap,zOb,Aa]
    repeat rw[cc]
    ·rw[←nx];simp only[ByteArray.append_assoc]
    all_goals ((try simp only[Af]);omega)
  ·have es:s6j w.2.2.2 i=(⟨#[46]⟩:Hs):=by unfold s6j;rw[Ao (fun q=>c1 q.1)]
   rw[es] at nx k2
   simp only[c1,Ah,Aa,zOb]
   repeat rw[cc]
   ·rw[←nx];simp only[ByteArray.append_assoc]
   all_goals ((try simp only[Af]);omega)
theorem o26 {w:o3u.den} (h:SmallW w):∀d i:Nat,i+d=w.2.2.1.length→u4j (w,t38 w i,w.2.2.1,(w.2.2.1.length:Int),(i:Int))=some (.inl (w,t38 w w.2.2.1.length)):=by
 intro d
 induction d with
 | zero=>
  intro i hi
  rw[t8d];simp only[u68,u0b,show ¬i<w.2.2.1.length by omega,Ah,Aa]
  rw[show i=w.2.2.1.length by omega]
 | succ d ih=>
  intro i hi
  have hlt:i<w.2.2.1.length:=by omega
  have hcl:=h.cl
  have k1:=s0g (s61 h hlt)
  have k2:=r33 h i
  have k3:=t2v h i (by omega)
  have z1:(⟨#[32]⟩:Hs).size=1:=rfl
  have z2:(⟨#[10]⟩:Hs).size=1:=rfl
  have z3:(⟨#[46]⟩:Hs).size=1:=rfl
  have nx:=ih (i+1) (by omega)
  have e:t38 w (i+1)=t38 w i++q4d w i:=rfl
  rw[e] at nx
  unfold q4d at nx
  rw[t8d]
  simp only[u68,u0b,hlt,Ae,Ad,y7s hlt,zTn,q84 (s61 h hlt),zOb]
  rw[y7j (by omega)]
  have e0:z7l (⟨#[]⟩:Hs) (⟨#[]⟩:Hs)=true:=y7d.mpr rfl
  by_cases c1:i<w.2.2.2.length
  ·cases c2:z7l (rdL Ty.str w.2.2.2 i) (⟨#[]⟩:Hs)
   ·have es:s6j w.2.2.2 i=rdL Ty.str w.2.2.2 i:=by unfold s6j;rw[Al ⟨c1,c2⟩]
    rw[es] at nx k2
    simp only[c1,Ae,Ad,y7s c1,c2,Aa]
    repeat rw[cc]
    ·exact nx
    all_goals ((try simp only[Af]);omega)
   ·have es:s6j w.2.2.2 i=(⟨#[46]⟩:Hs):=by unfold s6j;rw[Ao (by rw[c2];simp)]
    rw[es] at nx k2
    simp only[c1,Ae,Ad,y7s c1,c2]
    repeat rw[cc]
    ·exact nx
    all_goals ((try simp only[Af]);omega)
  ·have es:s6j w.2.2.2 i=(⟨#[46]⟩:Hs):=by unfold s6j;rw[Ao (fun q=>c1 q.1)]
   rw[es] at nx k2
   simp only[c1,Ah,Aa,e0,Ad]
   repeat rw[cc]
   ·exact nx
   all_goals ((try simp only[Af]);omega)
theorem r35 {s:p93.den} (h:SmallS s):(p1n s).size≤4000000000000:=by
 have:=p03 h
 have:=h.lines
 unfold p1n
 rw[Af];omega
theorem r9n {w:o3u.den} (h:SmallW w):t4t w=some (p8p w):=by
 have e:=o3d h w.2.2.1.length 0 (by omega)
 have e:u4n (w,(⟨#[]⟩:Hs),0)=_:=e
 have k:=t2v h _ (Au _)
 have hcl:=h.cl
 have k2:=r35 h.st
 rw[r50];unfold s2l
 simp only[e,s7r h.st,zOb]
 rw[cc (by omega)];rfl
theorem r9m {w:o3u.den} (h:SmallW w):t4p w=some (p8p w):=by
 have e:=o26 h w.2.2.1.length 0 (by omega)
 have e:u4j (w,(⟨#[]⟩:Hs),w.2.2.1,(w.2.2.1.length:Int),0)=_:=e
 have k:=t2v h _ (Au _)
 have hcl:=h.cl
 have k2:=r35 h.st
 rw[r5l];unfold s16
 simp only[e,t8u h.st,zOb]
 rw[cc (by omega)];rfl
end
section
abbrev okS (t:Hs):Prop:=nlc t=0∧t.size≤10000
theorem p21:∀k:Nat,k<10→nlc (⟨#[UInt8.ofNat (48+k)]⟩:Hs)=0:=by decide
theorem q9i (u:Nat):nlc (y5q (u:Int))=0:=by
 induction u using Nat.strongRecOn with
 | _ u ih=>
  by_cases h:u<10
  ·rw[q23 h];exact p21 u h
  ·rw[q9l h,t8x,ih (u / 10) (by omega),p21 (u % 10) (by omega)]
theorem q5o {n:Int} (h:0≤n):nlc (y5q n)=0:=by
 obtain⟨u,rfl⟩:∃u:Nat,n=(u:Int):=⟨n.toNat,by omega⟩
 exact q9i u
theorem q71 {s:Hs} (h:u38 s=true):nlc s=0:=by
 unfold u38 at h
 simp only[Ai,Bg,Ar] at h
 unfold nlc
 refine List.count_eq_zero.mpr fun m=> ?_
 have:=(h.1 10 m).1
 exact absurd this (by decide)
theorem q70:nlc (emp)=0:=by decide
theorem p8o {l:Hu u1m} (h:∀v∈l,nlc v.2.1=0) (k:Hs) (s:Int):nlc (t2l l k s).1=0:=by
 have hr:=s0f l k s
 unfold t2l
 split
 ·exact q70
 ·rename_i c
  have c1: ¬u5j l k s<0:=fun q=>c (.inl q)
  have hlt:(u5j l k s).toNat<l.length:=by omega
  rw[y8l (t:=u0g) hlt]
  exact h _ (Ag hlt)
theorem p7b {t:u0f} {l:Hu u1m} (ht:∀w∈t.2.2.2.2.2.1,nlc w.2.1=0) (hl:∀v∈l,nlc v.2.1=0) (k:Hs):nlc (t5f t l k).1=0:=by
 unfold t5f
 split
 ·rename_i c
  rw[y8l (t:=u2u) c]
  split
  ·exact q70
  ·exact ht _ (Ag c)
 ·exact p8o hl k _
theorem p79 {e:u08} (hE:EngR e) (z:NlE e) (id:Int) (k:Hs):okS (p4l e id k).2.1:=by
 unfold p4l
 split
 ·rename_i c
  obtain⟨j,hj,e1,e2,e3⟩:=u0w (p3j c)
  rw[e2]
  have:=r44 (hE.open_ _ (Ag hj)).1 hE.base.vs k
  exact⟨p7b (z.open_ _ (Ag hj)) z.vs k,by show(t5f e.2[j] e.1.1 k).1.size≤10000;omega⟩
 ·exact⟨q70,(by decide:(emp).size≤10000)⟩
theorem p56 {e:u08} (hE:EngR e) (z:NlE e) (id:Int) (r:t25):∀x∈(r6c e id r).2.1,nlc x.1=0∧nlc x.2=0:=by
 unfold r6c
 split
 ·rename_i c
  obtain⟨j,hj,e1,e2,e3⟩:=u0w (p3j c)
  intro x hx
  rw[e2] at hx
  have ht:=(hE.open_ _ (Ag hj)).1
  unfold s1f at hx
  obtain⟨k,hk,rfl⟩:=Bx.mp hx
  refine⟨?_,p7b (z.open_ _ (Ag hj)) z.vs k⟩
  have hk:=((t1f _).2 k).mp (A6.mp hk).1
  rcases Ay.mp hk with hk | hk
  ·obtain⟨v,hv,rfl⟩:=Bx.mp hk
   have:=(p4m.mp hE.base.vs).1 v hv
   unfold s7k at this
   simp only[Ai] at this
   exact q71 this.1
  ·obtain⟨w,hw,rfl⟩:=Bx.mp hk
   have:=(p7i.mp ht.ws).1 w hw
   unfold u2i at this
   simp only[Ai] at this
   exact q71 this.1
 ·intro x hx;cases hx
theorem p5s {l:Hu PrT} (hl:l.length≤200) (hs:∀x∈l,x.1.size≤3∧x.2.size≤12) (hz:∀x∈l,nlc x.1=0∧nlc x.2=0):∀(d i:Nat) (acc:Hs),i+d=l.length→acc.size≤17*i→nlc acc=0→ ∃t,u5f (l,acc,(i:Int))=some (.inl t)∧okS t:=by
 intro d
 induction d with
 | zero=>
  intro i acc hi ha hc
  refine⟨acc,?_,hc,by omega⟩
  rw[s02];simp only[u84,u0b,show ¬i<l.length by omega,Ah,Aa]
 | succ d ih=>
  intro i acc hi ha hc
  have hlt:i<l.length:=by omega
  obtain⟨s1,s2⟩:=hs _ (Ag hlt)
  obtain⟨n1,n2⟩:=hz _ (Ag hlt)
  have z1:(⟨#[44]⟩:Hs).size=1:=rfl
  have z2:(⟨#[61]⟩:Hs).size=1:=rfl
  have y1:nlc (⟨#[44]⟩:Hs)=0:=by decide
  have y2:nlc (⟨#[61]⟩:Hs)=0:=by decide
  rw[s02]
  simp only[u84,u0b,hlt,Ae,Ad,y7s hlt,zTn,y8l (t:=o20) hlt,Af,z1,z2]
  rw[y7j (by omega)]
  by_cases c:(i:Int) >0
  ·simp only[c,Ae,Ad,show acc.size+1≤140737488355328 by omega,show acc.size+1+l[i].1.size≤140737488355328 by omega,show acc.size+1+l[i].1.size+1≤140737488355328 by omega,show acc.size+1+l[i].1.size+1+l[i].2.size≤140737488355328 by omega]
   exact ih (i+1) _ (by omega) (by simp only[Af,z1,z2];omega) (by simp only[t8x,hc,n1,n2,y1,y2])
  ·simp only[c,Ah,Aa,Ae,Ad,show acc.size+l[i].1.size≤140737488355328 by omega,show acc.size+l[i].1.size+1≤140737488355328 by omega,show acc.size+l[i].1.size+1+l[i].2.size≤140737488355328 by omega]
   exact ih (i+1) _ (by omega) (by simp only[Af,z1,z2];omega) (by simp only[t8x,hc,n1,n2,y1,y2])
theorem q5d {l:Hu PrT} (hl:l.length≤200) (hs:∀x∈l,x.1.size≤3∧x.2.size≤12) (hz:∀x∈l,nlc x.1=0∧nlc x.2=0):∃t,t60 l=some t∧okS t:=by
 obtain⟨t,e,h⟩:=p5s hl hs hz l.length 0 (⟨#[]⟩:Hs) (by omega) (by decide) (by decide)
 have e:u5f (l,(⟨#[]⟩:Hs),0)=some (.inl t):=e
 exact⟨t,by rw[r74];unfold s5f;simp only[e,zOb],h⟩
structure LifeN (k:Nat) (H:Hu u0f) (s:u0p):Prop extends Life k H s where
 nl:NlE s.1
theorem o2w {k:Nat} {H:Hu u0f} {s:u0p} (h:LifeN k H s) (r:r9k) {e:p62.den} (he:EvR e) (hn:nlc e.2.2.2.1=0) (h5:e.1≤5):
 ∃(code:Int) (said:Hs) (s' :u0p),u4z ((s,H,r),e)=some (code,said,(s',H,r))∧LifeN (k+1) H s' ∧smc code∧okS said:=by
 have hE:=h.ser.eng
 have hz:=h.nl
 obtain⟨kd,at_,key,tx,kp⟩:=e
 have hn:nlc tx=0:=hn
 have k1:(1:Int)≤kd:=he.kind.1
 have hk:key.size≤6:=he.key6
 have ht5:tx.size≤20:=he.text
 have h5:kd≤(5:Int):=h5
 have c0:okS (⟨#[]⟩:Hs):=⟨by decide,by decide⟩
 have cs:∀q:Int,1≤q→q≤5→q=1∨q=2∨q=3∨q=4∨q=5:=fun q h1 h2=>by omega
 rw[q01];unfold s83
 rcases cs kd k1 h5 with rfl | rfl | rfl | rfl | rfl
 ·simp only[Ae,Ad,r27 hE,zOb]
  by_cases c:(u37 s.1).2.2=0
  ·have hn:0≤(u37 s.1).2.1∧(u37 s.1).2.1≤9999:=by
    have:=hE.base.next
    unfold u37;split
    ·exact⟨by show 0≤s.1.1.2.2.2.2;omega,this.2⟩
    ·exact⟨by show(0:Int)≤0;omega,by show(0:Int)≤9999;omega⟩
   simp only[c,Ae,Ap,Aa,t7c hn.1 (by omega),zOb]
   exact⟨_,_,_,rfl,⟨h.toLife.begin,hz.begin⟩,by decide,⟨q5o hn.1,by have:=t1e hn.1 (by omega:(u37 s.1).2.1≤9223372036854775807);omega⟩⟩
  ·simp only[c,Ah,Bh,Ad]
   exact⟨_,_,_,rfl,⟨h.toLife.begin,hz.begin⟩,p59 _,c0⟩
 ·have hL:=h.toLife.look (id:=at_) (r:=(key,key)) (right:=u38 key) (fun q=>by rw[q4i];exact q)
  have hN:=hz.look (id:=at_) (r:=(key,key)) (right:=u38 key)
  rw[←p49] at hL hN
  have hv:=p79 hE hz at_ key
  have hs:=o0w s.1 at_ key
  simp only[show decide ((2:Int)=1)=false by decide,Aa,Ae,Ad,r6u hE at_ (show key.size≤1048576 by omega),zOb]
  obtain⟨g,hg⟩:∃g,g=p4l s.1 at_ key:=⟨_,rfl⟩
  rw[←hg] at hL hN hv hs ⊢
  by_cases c:g.2.2.2=0
  ·cases c2:g.2.2.1
   ·simp only[c,c2,Ae,Ad,zOb,Bh]
    exact⟨_,_,_,rfl,⟨hL,hN⟩,by decide,⟨by decide,by decide⟩⟩
   ·simp only[c,c2,Ae,Ad,Aa,zOb,Ap]
    exact⟨_,_,_,rfl,⟨hL,hN⟩,by decide,hv⟩
  ·simp only[c,Ah,Aa,zOb]
   exact⟨_,_,_,rfl,⟨hL,hN⟩,hs,hv⟩
 ·have hL:=h.toLife.look (id:=at_) (r:=(key,tx)) (right:=u12 (key,tx)) (fun q=>q)
  have hN:=hz.look (id:=at_) (r:=(key,tx)) (right:=u12 (key,tx))
  rw[←p33] at hL hN
  obtain⟨t,ht,hc⟩:=q5d (r8w hE at_ (key,tx)).1 (r8w hE at_ (key,tx)).2 (p56 hE hz at_ (key,tx))
  simp only[show decide ((3:Int)=1)=false by decide,show decide ((3:Int)=2)=false by decide,Aa,Ae,Ad,r0g hE at_ (r:=(key,tx)) ⟨by show key.size≤_;omega,by show tx.size≤_;omega⟩,ht,zOb]
  exact⟨_,_,_,rfl,⟨hL,hN⟩,p8u _ _ _,hc⟩
 ·have hL:=h.toLife.put at_ (key,tx,false)
  simp only[show decide ((4:Int)=1)=false by decide,show decide ((4:Int)=2)=false by decide,show decide ((4:Int)=3)=false by decide,Aa,Ae,Ad,s9u hE at_ (w:=(key,tx,false)) (by show key.size≤_;omega),zOb]
  exact⟨_,_,_,rfl,⟨hL,hz.put (w:=(key,tx,false)) hn⟩,p7g _ _ _,c0⟩
 ·have hL:=h.toLife.put at_ (key,(⟨#[]⟩:Hs),true)
  simp only[show decide ((5:Int)=1)=false by decide,show decide ((5:Int)=2)=false by decide,show decide ((5:Int)=3)=false by decide,show decide ((5:Int)=4)=false by decide,Aa,s9u hE at_ (w:=(key,(⟨#[]⟩:Hs),true)) (by show key.size≤_;omega),zOb]
  exact⟨_,_,_,rfl,⟨hL,hz.put (w:=(key,(⟨#[]⟩:Hs),true)) c0.1⟩,p7g _ _ _,c0⟩
end
section
abbrev p4x:=Hu u0f×(Hu Int×Hu Hs)
theorem r3b (s:u0p) (z0:p4x) (r:t9h) (hd:o2z.wt s.2≤10000000) (hr:tinyR r):u6z ((s,z0),r)=some ((u4x s.2 r).isSome,(s.1,(u4x s.2 r).getD s.2),z0):=by
 have h1:=u47 r hr.wt
 have hl:=t9g r
 have h2:=u61 s.2 (u0z r).1 hd (by omega)
 have h3:=r3a s.2 hd
 rw[r58];unfold s2t u4x
 simp only[h1,zOb]
 cases ht:(u0z r).2 with
 | false=>simp only[Bh,Ad,Br,Bk];rfl
 | true=>
  simp only[Ap,Aa,Bl,h2,zOb]
  cases ha:append_ s.2 (u0z r).1 with
  | some y=>rfl
  | none=>
   simp only[orD,Bh,Ad,h3,zOb]
   cases hz:p0o s.2 with
   | none=>rfl
   | some z=>
    have h4:=u61 z (u0z r).1 (u7s (p2v hz)) (by omega)
    simp only[orD,Ap,Aa,h4,zOb]
    cases hq:append_ z (u0z r).1<;>rfl
theorem r8e {s:u0p} (h:EngR s.1) (hd:u1i s.2=true) (z0:p4x) (id:Int):u7v ((s,z0),id)=some ((u1l s id).2,(u1l s id).1,z0):=by
 have ho:=h.olen
 have h1:=r6s h id
 have h2:=r3b s z0 (u1s s.1 id).2.1 (u7s hd) (r4v h id)
 have h3:u0l s.1=some s.1:=u2z s.1.1 s.1.2 h.fewB h.fewO
 have hO:u0v (s.1,id)=some (leaveE s.1 id):=t5l s.1.1 s.1.2 id h.fewB (by omega)
 rw[r1y];unfold t7l u1l
 simp only[h1,zOb]
 by_cases c:(u1s s.1 id).2.2=0
 ·simp only[c,Ae,Ad,Bl,h2,zOb]
  cases u4x s.2 (u1s s.1 id).2.1 with
  | none=>simp only[Option.isSome_none,Bh,Ad,h3,hO,zOb];rfl
  | some d=>rfl
 ·simp only[c,Ah,Aa,Bk]
theorem r6a {s:u0p} (h:EngR s.1) (hd:u1i s.2=true) (z0:p4x) (id:Int) {n:Hs} (hn:n.size≤1048576):t06 ((s,z0),id,n)=some ((u7w s id n).2,(u7w s id n).1,z0):=by
 have ho:=h.olen
 have h1:=r4e h id hn
 have h2:=r3b s z0 (u9a s.1 id n).2.1 (u7s hd) (q16 h id n)
 have h3:u0l s.1=some s.1:=u2z s.1.1 s.1.2 h.fewB h.fewO
 have hO:u0v (s.1,id)=some (leaveE s.1 id):=t5l s.1.1 s.1.2 id h.fewB (by omega)
 rw[s91];unfold t6a u7w
 simp only[h1,zOb]
 by_cases c:(u9a s.1 id n).2.2=0
 ·simp only[c,Ae,Ad,Bl,h2,zOb]
  cases u4x s.2 (u9a s.1 id n).2.1 with
  | none=>simp only[Option.isSome_none,Bh,Ad,h3,hO,zOb];rfl
  | some d=>rfl
 ·simp only[c,Ah,Aa,Bk]
theorem r8f {s:u0p} (h:EngR s.1) (hd:u1i s.2=true) (z0:p4x) {n:Hs} (hn:n.size≤100) (y:Bool):u24 ((s,z0),n,y)=some ((t1l s n y).2,(t1l s n y).1,z0):=by
 have h1:=r0e h n y
 have h2:=r3b s z0 (s4k s.1 n y).2.1 (u7s hd) (q58 n hn y)
 rw[r1z];unfold t7m t1l
 simp only[h1,zOb]
 by_cases c:(s4k s.1 n y).2.2=0
 ·simp only[c,Ae,Ad,Bl,h2,zOb]
  cases u4x s.2 (s4k s.1 n y).2.1 with
  | none=>rfl
  | some d=>rfl
 ·simp only[c,Ah,Aa,Bk,p27 c]
end
section
theorem r9p {n:Nat} (h:n≤100000000):Nat.ble n z8x=true:=Nat.ble_eq_true_of_le (A9 h (by decide))
theorem p0f {t:u0f} (h:r3u t):u0t t=some t:=by
 rw[t8z];unfold t3g
 have h1:Nat.ble (([] :Hu t25).length+t.2.2.2.2.1.length) z8x=true:=r9p (by have:=h.1;rw[Cc];omega)
 have h2:Nat.ble (([] :Hu WrT).length+t.2.2.2.2.2.1.length) z8x=true:=r9p (by have:=h.2;rw[Cc];omega)
 simp only[h1,h2,Ad,Cf]
theorem s6z (s:u0p) (H:Hu u0f) (r:r9k) (c:Int) {t:u0f} (ht:r3u t) (hn:H.length≤1000000):u14 ((s,H,r),c,t)=some (s,s9j H s.1 c t,r):=by
 have h1:Nat.ble (([] :Hu u0f).length+H.length) z8x=true:=r9p (by rw[Cc];omega)
 rw[r3t];unfold t9r s9j
 by_cases q:s.1.1.2.2.2.1=IntKind.i64.wrap (c+1)
 ·rw[Al q]
  have h2:∀x:u0f,Nat.ble (H.length+ [x].length) z8x=true:=fun x=>r9p (by rw[Aw];omega)
  simp only[q,Ae,Ap,Aa,p0f ht,zOb,h1,h2,Ad,Cf]
  rfl
 ·rw[Ao q]
  simp only[q,Ah,Bh,Ad]
theorem q7n:r3u u30:=⟨by show 0≤1048576;omega,by show 0≤1048576;omega⟩
theorem o5w {k:Nat} {H:Hu u0f} {s:u0p} (h:LifeN k H s) (hk:k≤1000) (r:r9k) {e:p62.den} (he:EvR e) (h6:6≤e.1) (h10:e.1≤10):
 ∃(code:Int) (H' :Hu u0f) (s' :u0p),u55 ((s,H,r),e)=some (code,(s',H',r))∧LifeN (k+1) H' s' ∧smc code:=by
 have hE:=h.ser.eng
 have hd:=h.toLife.log
 have hz:=h.nl
 have hn:=h.few
 obtain⟨kd,at_,key,tx,kp⟩:=e
 have h6:(6:Int)≤kd:=h6
 have h10:kd≤(10:Int):=h10
 have key6:key.size≤6:=he.key6
 have fo:∀t∈s.1.2,r3u t:=fun t ht=>(hE.fewO).2 t ht
 have fr:∀t∈s.1.1.2.2.1,r3u t:=fun t ht=>(hE.fewB).2.2.2 t ht
 have hzero:((0,0,0,0, [], [],false,(⟨#[]⟩:Hs)):u0f)=u30:=rfl
 rw[q34];unfold r1k
 have cs:∀q:Int,6≤q→q≤10→q=6∨q=7∨q=8∨q=9∨q=10:=fun q h1 h2=>by omega
 have fin:∀y:Bool,∃(code:Int) (H' :Hu u0f) (s' :u0p),((u1c (s.1.1,key)).bind fun y8=>(bif (decide (y8≥(0:Int))) then(bif (y4l y8 s.1.1.2.2.1.length) then((u24 ((s,H,r),(key,y))).bind fun y9=>((u14 (y9.2,(s.1.1.2.2.2.1,(rdL u1f s.1.1.2.2.1 (y8).toNat)))).bind fun y10=>(some (y9.1,y10)))) else none) else((u24 ((s,H,r),(key,y))).bind fun y11=>((u14 (y11.2,(s.1.1.2.2.2.1,u30))).bind fun y12=>(some (y11.1,y12))))))=some (code,(s',H',r))∧LifeN (k+1) H' s' ∧smc code:=fun y=>by
  have hL:=h.toLife.fin key y u30
  have e1:=t1b s.1.1 key (by have:=hE.base.rlen;omega)
  simp only[e1,zOb,r8f hE hd (H,r) (by omega:key.size≤100) y]
  by_cases c:u0n s.1.1 key<0
  ·rw[Al c] at hL
   have c1:decide (u0n s.1.1 key≥0)=false:=A7 (by omega)
   simp only[c1,Aa,s6z _ H r _ q7n (by omega),zOb]
   exact⟨_,_,_,rfl,⟨hL,hz.finS key y⟩,p7f _ _ _⟩
  ·rw[Ao c] at hL
   have c1:decide (u0n s.1.1 key≥0)=true:=Bb (by omega)
   obtain⟨j,hj,e2,e3⟩:=u40 c
   have e4:(u0n s.1.1 key).toNat=j:=by omega
   have hf:r3u (rdL u1f s.1.1.2.2.1 (u0n s.1.1 key).toNat):=by
    rw[e4,y8l (t:=u1f) hj];exact fr _ (Ag hj)
   have hg:y4l (u0n s.1.1 key) s.1.1.2.2.1.length=true:=by rw[e2];exact y7s hj
   simp only[c1,Ad,hg,s6z _ H r _ hf (by omega),zOb]
   exact⟨_,_,_,rfl,⟨hL,hz.finS key y⟩,p7f _ _ _⟩
 rcases cs kd h6 h10 with rfl | rfl | rfl | rfl | rfl
 ·have hL:=h.toLife.commit at_ u30
  have e1:=u7y s.1 at_ (by have:=hE.olen;omega)
  simp only[Ae,Ad,e1,zOb,r8e hE hd (H,r) at_,hzero]
  by_cases c:u2g s.1.2 at_<0
  ·rw[Al c] at hL
   have c1:decide (u2g s.1.2 at_≥0)=false:=A7 (by omega)
   simp only[c1,Aa,s6z _ H r _ q7n (by omega),zOb]
   exact⟨_,_,_,rfl,⟨hL,hz.commitS at_⟩,q69 _ _⟩
  ·rw[Ao c] at hL
   have c1:decide (u2g s.1.2 at_≥0)=true:=Bb (by omega)
   obtain⟨j,hj,e2,e3,e5⟩:=u0w c
   have hf:r3u (u03 s.1 at_):=by rw[e3];exact fo _ (Ag hj)
   have hg:y4l (u2g s.1.2 at_) s.1.2.length=true:=by rw[e2];exact y7s hj
   have ha:rdL u1f s.1.2 (u2g s.1.2 at_).toNat=u03 s.1 at_:=rfl
   simp only[c1,Ad,hg,ha,s6z _ H r _ hf (by omega),zOb]
   exact⟨_,_,_,rfl,⟨hL,hz.commitS at_⟩,q69 _ _⟩
 ·have hL:=h.toLife.leave at_
  simp only[show decide ((7:Int)=6)=false by decide,Aa,Ae,Ad,q1f hE at_,zOb]
  exact⟨_,_,_,rfl,⟨hL,hz.leaveP at_⟩,p6a _ _⟩
 ·have hL:=h.toLife.prep at_ key
  simp only[show decide ((8:Int)=6)=false by decide,show decide ((8:Int)=7)=false by decide,Aa,Ae,Ad,r6a hE hd (H,r) at_ (by omega:key.size≤1048576),zOb]
  exact⟨_,_,_,rfl,⟨hL,hz.prepS at_ key⟩,p8t _ _ _⟩
 ·have:=fin true
  simpa only[show decide ((9:Int)=6)=false by decide,show decide ((9:Int)=7)=false by decide,show decide ((9:Int)=8)=false by decide,Ae,Aa,hzero] using this
 ·have:=fin false
  simpa only[show decide ((10:Int)=6)=false by decide,show decide ((10:Int)=7)=false by decide,show decide ((10:Int)=8)=false by decide,show decide ((10:Int)=9)=false by decide,Aa,hzero] using this
theorem p2h {d:u0j} (hd:u1i d=true) (e:p62.den):∃x,u4y (d,e)=some x∧u1i x=true∧u0h x=u0h d:=by
 have hw:=u7s hd
 obtain⟨x,hx⟩:∃x,x=u3j d (⟨#[120]⟩:Hs) 0 e.2.2.2.2 e.2.1:=⟨_,rfl⟩
 have e1:=r9i (d:=d) (t:=(⟨#[120]⟩:Hs)) hw (by decide) 0 e.2.2.2.2 e.2.1
 have w1:=q5s (d:=d) (t:=(⟨#[120]⟩:Hs)) hw 0 e.2.2.2.2 e.2.1
 rw[←hx] at e1 w1
 have k:u1i x=true∧u0h x=u0h d:=by
  rw[hx]
  cases ha:append_ d (⟨#[120]⟩:Hs) with
  | none=>rw[r9q ha];exact⟨hd,rfl⟩
  | some y=>
   have:=(r9r ha 0 e.2.2.2.2 e.2.1).1 rfl
   exact⟨this.1,this.tx⟩
 rw[q00];unfold s82
 simp only[e1,r9l x d (by omega) (by omega),u2y d (by unfold u0y;omega),zOb]
 cases p32 x d
 ·exact⟨d,rfl,hd,rfl⟩
 ·exact⟨x,rfl,k⟩
theorem DoN {k:Nat} {H:Hu u0f} {s:u0p} (h:LifeN k H s) (hk:k≤1000) (r:r9k) {e:p62.den} (he:EvR e) (hn:nlc e.2.2.2.1=0):
 ∃(code:Int) (said:Hs) (H' :Hu u0f) (s' :u0p),s6c ((s,H,r),e)=some (code,said,(s',H',r))∧LifeN (k+1) H' s' ∧smc code∧okS said:=by
 have hE:=h.ser.eng
 have hd:=h.toLife.log
 have hz:=h.nl
 have k1:=he.kind
 have cs:∀q:Int,1≤q→q≤12→(q=1∨q=2∨q=3∨q=4∨q=5)∨q=11∨q=12∨(6≤q∧q≤10):=fun q h1 h2=>by omega
 rw[q54];unfold r4s
 rcases cs e.1 k1.1 k1.2 with c | c | c | ⟨c1,c2⟩
 ·have c5:e.1≤(5:Int):=by
   have z:∀q:Int,(q=1∨q=2∨q=3∨q=4∨q=5)→q≤5:=fun q h=>by omega
   exact z e.1 c
  obtain⟨code,said,s',e1,e2⟩:=o2w h r he hn c5
  refine⟨code,said,H,s',?_,e2⟩
  rcases c with q | q | q | q | q<;>simp[q,e1]
 ·have hL:=h.toLife.fix
  have hF:NlE (q9n s).1.1:=by rw[q37];exact hz
  simp only[c,show decide ((11:Int)=1)=false by decide,show decide ((11:Int)=2)=false by decide,show decide ((11:Int)=3)=false by decide,show decide ((11:Int)=4)=false by decide,show decide ((11:Int)=5)=false by decide,Aa,Ae,Ad,q82 hE hd,zOb]
  cases (q9n s).2
  ·exact⟨_,_,_,_,rfl,⟨hL,hF⟩,by decide,⟨by decide,by decide⟩⟩
  ·exact⟨_,_,_,_,rfl,⟨hL,hF⟩,by decide,⟨by decide,by decide⟩⟩
 ·obtain⟨x,x1,x2,x3⟩:=p2h hd e
  obtain⟨b,b1,b2⟩:=h.toLife.rise x2 x3
  have hN:NlE (b, []):=by
   obtain⟨b0,hs,_⟩:=h.disk
   have e0:b=b0:=by
    have:=hs.play
    rw[←x3,b1] at this
    exact Ds this
   rw[e0];exact hz.rise hs.like
  have hr:p55 x=(((b, []),x),true):=by
   unfold p55 q8b
   rw[b1,Al ⟨x2,rfl⟩]
  simp only[c,show decide ((12:Int)=1)=false by decide,show decide ((12:Int)=2)=false by decide,show decide ((12:Int)=3)=false by decide,show decide ((12:Int)=4)=false by decide,show decide ((12:Int)=5)=false by decide,show decide ((12:Int)=11)=false by decide,Aa,Ae,Ad,x1,p2n x (u7s x2),hr,zOb,Ap]
  exact⟨_,_,_,_,rfl,⟨b2.mono (by omega),hN⟩,by decide,⟨by decide,by decide⟩⟩
 ·have n:∀q:Int,6≤q→q≤10→decide (q=1)=false∧decide (q=2)=false∧decide (q=3)=false∧decide (q=4)=false∧decide (q=5)=false∧decide (q=11)=false∧decide (q=12)=false:=fun q h1 h2=>by
   simp only[Bu];omega
  obtain⟨n1,n2,n3,n4,n5,n6,n7⟩:=n e.1 c1 c2
  obtain⟨code,H',s',e1,e2,e3⟩:=o5w h hk r he c1 c2
  simp only[n1,n2,n3,n4,n5,n6,n7,Aa,e1,zOb]
  exact⟨_,_,_,_,rfl,e2,e3,⟨by decide,by decide⟩⟩
end
end
end Go.Proofs.YtdeadnnhblaflaaGreatDoor.Ab
