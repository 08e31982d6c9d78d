import Derived.Test.YtkdpclfhapphhaaGreatAbFixesT4
import Derived.Test.YtkdpclfhapphhaaGreatAbK2
import Derived.Test.YtkdpclfhapphhaaGreatAbF4
import Derived.Test.YtkdpclfhapphhaaGreatAbS2
namespace Go.Proofs.YtkdpclfhapphhaaGreat.Ab
open Go
set_option linter.unusedVariables false
set_option linter.unusedSimpArgs false
set_option linter.unnecessarySimpa false
section
section
def PQR:Hu Hs:= [⟨#[112]⟩,⟨#[113]⟩,⟨#[114]⟩]
theorem o4d {y:Hs} (h:y∈PQR):y.size≤100:=by
 simp only[PQR,A8,Ep,Em] at h
 rcases h with rfl | rfl | rfl<;>decide
theorem Stt.mono {k m:Nat} {s:u1q} (h:Stt k s) (hm:k≤m):Stt m s:=by
 obtain⟨b,h1,h2⟩:=h.sync
 exact⟨⟨b,h1,by omega⟩,h.dom,h.num.mono hm⟩
theorem Stt.log {k:Nat} {s:u1q} (h:Stt k s):u2g s.2=true:=by obtain⟨b,h1,_⟩:=h.sync;exact h1.log
def RN (e:u3a):Prop:= ∀x∈e.1.2.2.1,x.2.2.2.2.2.2.2∈PQR
theorem RN.sub {e e' :u3a} (h:RN e) (hs:∀x∈e'.1.2.2.1,∃y∈e.1.2.2.1,x.2.2.2.2.2.2.2=y.2.2.2.2.2.2.2):RN e' :=fun x hx=>by
 obtain⟨y,hy,q⟩:=hs x hx
 rw[q];exact h y hy
theorem RN.same {e e' :u3a} (h:RN e) (hs:e'.1.2.2.1=e.1.2.2.1):RN e' :=h.sub fun x hx=>⟨x,by rw[←hs];exact hx,rfl⟩
theorem RN.through {e:u3a} (h:RN e) (t:u0h) (o:Hu u0h):RN (u34 (u1n e.1 t) o,o):=h.sub fun x hx=>by
 have hx:x∈(e.1.2.2.1.filter fun x=> !decide (x.1=t.1)).map (q9z (s3b e.1 t)):=hx
 obtain⟨y,hy,rfl⟩:=Bx.mp hx
 exact⟨y,(A6.mp hy).1,rfl⟩
theorem RN.commit {e:u3a} (h:RN e) (id:Int):RN (u6d e id).1:=by
 unfold u6d
 split
 ·exact h
 ·split
  ·exact h.through _ _
  ·exact h.same rfl
theorem RN.prep {e:u3a} (h:RN e) (id:Int) {n:Hs} (hn:n∈PQR):RN (s14 e id n).1:=by
 unfold s14
 split
 ·exact h
 ·split
  ·exact h
  ·split
   ·exact h
   ·split
    ·intro x hx
     have hx:x∈(e.1.2.2.1.filter fun x=>y3c x.2.2.2.2.2.2.2 n)++ [u5m e.1 (u4c e id) n] ++(e.1.2.2.1.filter fun x=> !y3c x.2.2.2.2.2.2.2 n):=hx
     simp only[Ay,A6,Ax] at hx
     rcases hx with (q | rfl) | q
     ·exact h x q.1
     ·exact hn
     ·exact h x q.1
    ·exact h.same rfl
theorem RN.fin {e:u3a} (h:RN e) (n:Hs) (y:Bool):RN (q6s e n y).1:=by
 unfold q6s
 split
 ·exact h
 ·split
  ·exact h
  ·split
   ·exact h.through _ _
   ·exact h.sub fun x hx=>⟨x,(A6.mp hx).1,rfl⟩
theorem RN.look {e:u3a} (h:RN e) {id:Int} {r:s5p} {right:Bool} :RN (s5s e id r right).1:=by
 unfold s5s
 split
 ·exact h
 ·split
  ·exact h
  ·split<;>exact h
theorem RN.put {e:u3a} (h:RN e) {id:Int} {w:WrT} :RN (o43 e id w).1:=by
 unfold o43
 split
 ·exact h
 ·split
  ·exact h
  ·split<;>exact h
theorem RN.begin {e:u3a} (h:RN e):RN (s8z e).1:=by
 unfold s8z
 split<;>exact h
theorem RN.leave {e:u3a} (h:RN e) (id:Int):RN (p2v e id).1:=by
 unfold p2v
 split<;>exact h
structure SttN (k:Nat) (s:u1q):Prop extends Stt k s where
 rn:RN s.1
theorem SttN.mono {k m:Nat} {s:u1q} (h:SttN k s) (hm:k≤m):SttN m s:=⟨h.toStt.mono hm,h.rn⟩
theorem SttN.begin {k:Nat} {s:u1q} (h:SttN k s):SttN (k+1) ((s8z s.1).1,s.2):=⟨h.toStt.begin,h.rn.begin⟩
theorem SttN.look {k:Nat} {s:u1q} (h:SttN k s) {id:Int} {r:s5p} {right:Bool} (hr:right=true→u25 r=true) (hk:r.1∈K5∧r.2∈K5):SttN (k+1) ((s5s s.1 id r right).1,s.2):=⟨h.toStt.look hr hk,h.rn.look⟩
theorem SttN.put {k:Nat} {s:u1q} (h:SttN k s) {id:Int} {w:WrT} (hk:w.1∈K5):SttN (k+1) ((o43 s.1 id w).1,s.2):=⟨h.toStt.put hk,h.rn.put⟩
theorem SttN.leave {k:Nat} {s:u1q} (h:SttN k s) (id:Int):SttN (k+1) ((p2v s.1 id).1,s.2):=⟨h.toStt.leave id,h.rn.leave id⟩
theorem SttN.fix {k:Nat} {s:u1q} (h:SttN k s):SttN (k+1) (p9s s).1:=⟨h.toStt.fix,by
 unfold p9s
 split<;>exact h.rn⟩
theorem SttN.commit {k:Nat} {s:u1q} (h:SttN k s) (id:Int):SttN (k+1) (t9q s id).1:=⟨h.toStt.commit id,by
 unfold t9q
 split
 ·split
  ·exact h.rn.commit id
  ·exact h.rn.same rfl
 ·exact h.rn.commit id⟩
theorem SttN.prep {k:Nat} {s:u1q} (h:SttN k s) (id:Int) {n:Hs} (hn:n∈PQR):SttN (k+1) (r78 s id n).1:=⟨h.toStt.prep id n,by
 unfold r78
 split
 ·split
  ·exact h.rn.prep id hn
  ·exact h.rn.same rfl
 ·exact h.rn.prep id hn⟩
theorem SttN.fin {k:Nat} {s:u1q} (h:SttN k s) (n:Hs) (y:Bool):SttN (k+1) (p3d s n y).1:=⟨h.toStt.fin n y,by
 unfold p3d
 split
 ·split
  ·exact h.rn.fin n y
  ·exact h.rn
 ·exact h.rn⟩
theorem p7d:∃s,s44 ()=some s∧SttN 0 s:=by
 obtain⟨d,h1,h2,h3⟩:=p0m
 have h0:s2g ()=some (p9t, []):=by
  rw[q9m];unfold r2z
  rw[q1a];rfl
 refine⟨((p9t, []),d),?_,?_⟩
 ·rw[p18];unfold r6s
  simp only[h0,h1,zOb]
 ·have hp:t1p (u0g d)=some p9t:=by rw[h3];rfl
  have hE:EngR ((p9t, []):u3a):=j4f.mp (by decide)
  have hL:Like0 p9t p9t:=⟨by decide,rfl,rfl,rfl⟩
  have hN:p9t.2.2.2.2≤((0:Nat):Int)+1:=by decide
  have hM:Num 0 ((p9t, []):u3a):=⟨by decide,by decide⟩
  have hD:DomE ((p9t, []):u3a):=⟨⟨(fun v hv=>by cases hv),(fun t ht=>by cases ht)⟩,(fun t ht=>by cases ht)⟩
  exact⟨⟨⟨p9t,⟨hE,h2,hp,o1j,hL⟩,hN⟩,hD,hM⟩,fun x hx=>by cases hx⟩
def DrS (F:Ht (Src×u1q)) (k:Nat):Prop:= ∃s t,F=some (s,t)∧s.ok∧SttN k t
theorem o9e {y:Hs} (h:y∈K5):y.size≤1048576:=by have:=(u29 (o9f h)).2;omega
theorem o2f {k:Nat} {s:u1q} (h:SttN k s) (id:Int) {c:Src} (hc:c.ok):DrS ((u0m (c,(16:Int))).bind fun(y20:(Int×((Hu Int)×(Int×Int))))=>(((bif (decide (id=(0:Int))) then(some true) else(some (decide (y20.1<(3:Int))))):Ht Bool).bind fun j21=>(bif j21 then((t3e s.1).bind fun y22=>(some (y20.2,(y22.1,s.2)))) else(bif (decide (y20.1<(6:Int))) then((u4g y20.2).bind fun y23=>((t4u (s.1,(id,y23.1))).bind fun y24=>(some (y23.2,(y24.1,s.2))))) else(bif (decide (y20.1<(7:Int))) then((u5l y20.2).bind fun y25=>((u80 (s.1,(id,y25.1))).bind fun y26=>(some (y25.2,(y26.1,s.2))))) else(bif (decide (y20.1<(10:Int))) then((u4h y20.2).bind fun y27=>((t4v (s.1,(id,y27.1))).bind fun y28=>(some (y27.2,(y28.1,s.2))))) else(bif (decide (y20.1<(13:Int))) then((u7l (s,id)).bind fun y29=>(some (y20.2,y29.2))) else(bif (decide (y20.1=(13:Int))) then((u2a (y20.2,PQR)).bind fun y30=>((u6y (s,(id,y30.1))).bind fun y31=>(some (y30.2,y31.2)))) else(bif (decide (y20.1=(14:Int))) then((u2a (y20.2,PQR)).bind fun y32=>((u12 (y32.2,(2:Int))).bind fun(y33:(Bool×((Hu Int)×(Int×Int))))=>((u7m (s,(y32.1,y33.1))).bind fun y34=>(some (y33.2,y34.2))))) else((u12 (y20.2,(3:Int))).bind fun(y35:(Bool×((Hu Int)×(Int×Int))))=>(bif y35.1 then((u5k s).bind fun y36=>(some (y35.2,y36.1))) else((t76 (s.1,id)).bind fun y37=>(some (y35.2,(y37.1,s.2))))))))))))))) (k+1):=by
 obtain⟨y,c1,e1,k1,r1⟩:=u2k hc (n:=16) (by omega)
 have hE:=h.eng
 simp only[e1,zOb]
 have key:∀j:Bool,DrS ((some j).bind fun j21=>(bif j21 then((t3e s.1).bind fun y22=>(some (c1,(y22.1,s.2)))) else(bif (decide (y<(6:Int))) then((u4g c1).bind fun y23=>((t4u (s.1,(id,y23.1))).bind fun y24=>(some (y23.2,(y24.1,s.2))))) else(bif (decide (y<(7:Int))) then((u5l c1).bind fun y25=>((u80 (s.1,(id,y25.1))).bind fun y26=>(some (y25.2,(y26.1,s.2))))) else(bif (decide (y<(10:Int))) then((u4h c1).bind fun y27=>((t4v (s.1,(id,y27.1))).bind fun y28=>(some (y27.2,(y28.1,s.2))))) else(bif (decide (y<(13:Int))) then((u7l (s,id)).bind fun y29=>(some (c1,y29.2))) else(bif (decide (y=(13:Int))) then((u2a (c1,PQR)).bind fun y30=>((u6y (s,(id,y30.1))).bind fun y31=>(some (y30.2,y31.2)))) else(bif (decide (y=(14:Int))) then((u2a (c1,PQR)).bind fun y32=>((u12 (y32.2,(2:Int))).bind fun(y33:(Bool×((Hu Int)×(Int×Int))))=>((u7m (s,(y32.1,y33.1))).bind fun y34=>(some (y33.2,y34.2))))) else((u12 (c1,(3:Int))).bind fun(y35:(Bool×((Hu Int)×(Int×Int))))=>(bif y35.1 then((u5k s).bind fun y36=>(some (y35.2,y36.1))) else((t76 (s.1,id)).bind fun y37=>(some (y35.2,(y37.1,s.2)))))))))))))) (k+1):=by
  intro j
  simp only[zOb]
  cases j with
  | true=>
   simp only[Ad,p5w hE,zOb]
   exact⟨_,_,rfl,k1,h.begin⟩
  | false=>
   simp only[Aa]
   cases decide (y<(6:Int)) with
   | true=>
    obtain⟨z,c2,e2,k2,r2⟩:=p69 k1
    simp only[Ad,e2,zOb,o2y hE id (o9e r2)]
    refine⟨_,_,rfl,k2,?_⟩
    have:=h.look (id:=id) (r:=(z,z)) (right:=u66 z) (fun hk=>by rw[o46];exact hk) ⟨r2,r2⟩
    unfold j7d
    split<;>exact this
   | false=>
   simp only[Aa]
   cases decide (y<(7:Int)) with
   | true=>
    obtain⟨z,c2,e2,k2,r2⟩:=o7d k1
    simp only[Ad,e2,zOb,p7c hE id ⟨o9e r2.1,o9e r2.2.1⟩]
    refine⟨_,_,rfl,k2,?_⟩
    have:=h.look (id:=id) (r:=z) (right:=u25 z) (fun hk=>hk) ⟨r2.1,r2.2.1⟩
    unfold j2j
    split<;>exact this
   | false=>
   simp only[Aa]
   cases decide (y<(10:Int)) with
   | true=>
    obtain⟨z,c2,e2,k2,r2⟩:=o0g k1
    simp only[Ad,e2,zOb,o24 hE id (o9e r2.1)]
    exact⟨_,_,rfl,k2,h.put r2.1⟩
   | false=>
   simp only[Aa]
   cases decide (y<(13:Int)) with
   | true=>
    simp only[Ad,p5p hE h.log,zOb]
    exact⟨_,_,rfl,k1,h.commit id⟩
   | false=>
   simp only[Aa]
   cases decide (y=(13:Int)) with
   | true=>
    obtain⟨z,c2,e2,k2,r2⟩:=q17 k1 (l:=PQR) (by decide)
    have hz:=o4d r2
    simp only[Ad,e2,zOb,p2s hE h.log id (show z.size≤1048576 by omega)]
    exact⟨_,_,rfl,k2,h.prep id r2⟩
   | false=>
   simp only[Aa]
   cases decide (y=(14:Int)) with
   | true=>
    obtain⟨z,c2,e2,k2,r2⟩:=q17 k1 (l:=PQR) (by decide)
    obtain⟨z2,c3,e3,k3,r3⟩:=r00 k2 (n:=2) (by omega)
    simp only[Ad,e2,e3,zOb,p5q hE h.log (o4d r2)]
    exact⟨_,_,rfl,k3,h.fin z z2⟩
   | false=>
    obtain⟨z2,c3,e3,k3,r3⟩:=r00 k1 (n:=3) (by omega)
    simp only[Aa,e3,zOb]
    cases z2 with
    | true=>
     simp only[Ad,o9b hE h.log,zOb]
     exact⟨_,_,rfl,k3,h.fix⟩
    | false=>
     simp only[Aa,o5n hE,zOb]
     exact⟨_,_,rfl,k3,h.leave id⟩
 cases decide (id=0) with
 | true=>simp only[Ad];exact key true
 | false=>simp only[Aa];exact key _
theorem o7g {k:Nat} {s:u1q} (h:SttN k s) {c:Src} (hc:c.ok):DrS (s8a (c,s)) (k+1):=by
 rw[p5l];unfold q07
 cases hd:decide ((s.1.2.length:Int) >0) with
 | true=>
  have hl:0<s.1.2.length:=by simpa using hd
  obtain⟨y,c1,e1,k1,r1⟩:=u2k hc (n:=(s.1.2.length:Int)) (by omega)
  obtain⟨i,rfl⟩:∃i:Nat,y=(i:Int):=⟨y.toNat,by omega⟩
  have hi:i<s.1.2.length:=by omega
  simp only[hd,Ad,e1,zOb,y7t hi]
  exact o2f h _ k1
 | false=>
  simp only[hd,Aa]
  exact o2f h 0 hc
theorem q22 (m:Nat) (hm:1≤m∧m≤1000) {c:Src} (hc:c.ok):∃(s:u1q) (c' :Src),u35 (c,(m:Int))=some (s,c')∧c'.ok∧SttN (m+1) s:=by
 have key:∀(d i:Nat) (c:Src) (j s:u1q),c.ok→SttN i s→m+2≤i+d→i≤m+1→ ∃(c' :Src) (s' :u1q),t0z (c,(m:Int),j,s,(i:Int))=some (.inl (c',j,s'))∧c'.ok∧SttN (m+1) s' :=by
  intro d
  induction d with
  | zero=>intro i c j s _ _ h1 h2;omega
  | succ d ih=>
   intro i c j s hc hs hd hi
   obtain⟨y,c1,e1,k1,r1⟩:=u2k hc (n:=(m:Int)) (by omega)
   rw[q95]
   simp only[s1z,e1,zOb]
   rw[y4y (n:=2+y) (by omega) (by omega)]
   by_cases hy:(i:Int)<2+y
   ·obtain⟨c2,s2,e2,k2,r2⟩:=o7g hs k1
    simp only[hy,Ae,Ad,e2,zOb]
    rw[y7l (by omega)]
    exact ih (i+1) c2 j s2 k2 r2 (by omega) (by omega)
   ·simp only[hy,Ah,Aa]
    exact⟨_,_,rfl,k1,hs.mono hi⟩
 obtain⟨s0,e0,h0⟩:=p7d
 obtain⟨c',s',e1,k1,r1⟩:=key (m+2) 0 c (((([], [], [],0,0):u0j), []),([], [])) s0 hc h0 (by omega) (by omega)
 rw[p5m];unfold q08
 have e1:t0z (c,(m:Int),(((([], [], [],0,0):u0j), []),([], [])),s0,0)=_:=e1
 simp only[e0,e1,zOb]
 exact⟨_,_,rfl,k1,r1⟩
end
section
theorem o6x (d:u0i) (hd:d0s.wt d≤10000000):q2o d=some (orD d (p3w d)):=by
 have h1:=p95 d (by omega)
 have h2:=t8c (p02 (logR (u0g d)).1) (q75 (p2w _)).wt
 have h3:=t1e d (by unfold u0k;omega)
 rw[o3e];unfold p0x
 simp only[h1,zOb]
 have h2:u49 (4,(0,0,0,0, [], [],false,(⟨#[]⟩:Hs)),(⟨#[]⟩:Hs),false,(logR (u0g d)).1)=_:=h2
 simp only[h2,h3,zOb]
 unfold p3w
 cases hp:t1p (u0g d) with
 | none=>
  have e:(logR (u0g d)).2=false:=by unfold logR;rw[hp]
  simp only[e,Bh,Ad,zOb]
  rfl
 | some b=>
  have e:logR (u0g d)=(b,true):=by unfold logR;rw[hp]
  simp only[e,Ap,Aa,zOb]
  have e4:p02 b=(4,u4n,emp,false,b):=rfl
  rw[e4]
  cases ht:(u01 (4,u4n,emp,false,b)).2 with
  | false=>simp only[Bh,Ad,Br,Bk];rfl
  | true=>
   have h5:=p3u (d:=d) (l:= [(u01 (4,u4n,emp,false,b)).1]) hd (by simp) (fun t h=>by
    rw[Ax.mp h];have:=s8c (4,u4n,emp,false,b);omega)
   simp only[Ap,Aa,Bl,h5,zOb]
theorem o5k {s:u1q} (hb:fewB s.1.1) (ho:q9y s.1.2) (hd:d0s.wt s.2≤10000000):s19 s=some s:=by
 have h1:t4r s.1=some s.1:=o5j s.1.1 s.1.2 hb ho
 have h2:=t1e s.2 (by unfold u0k;omega)
 rw[q89];unfold r2m
 simp only[h1,h2,zOb]
theorem o2v {s:u1q} (hb:fewB s.1.1) (ho:q9y s.1.2) (hd:d0s.wt s.2≤10000000):t5t s=some s:=by
 have h1:u0n s.1=some s.1:=u6t s.1.1 s.1.2 hb ho
 have h2:=u8g s.2 (by unfold u0k;omega)
 rw[q1e];unfold s7l
 simp only[h1,h2,zOb]
theorem p9x {s:u1q} (hb:fewB s.1.1) (ho:q9y s.1.2) (hd:d0s.wt s.2≤10000000):t85 s=some (p9s s):=by
 have h1:=o5k hb ho hd
 have h2:=o6x s.2 hd
 rw[p1e];unfold r5z p9s
 simp only[h1,h2,zOb]
 cases p3w s.2<;>rfl
theorem o60 {s:u1q} (hb:fewB s.1.1) (ho:q9y s.1.2) (hd:d0s.wt s.2≤10000000):u5k s=some (p9s s):=by
 have h1:=o2v hb ho hd
 have h2:=q5y s.2 hd
 rw[r66];unfold s34 p9s
 simp only[h1,h2,zOb]
 cases p3w s.2<;>rfl
theorem q8m (l:Hu u0h):s2l l l=true:=by
 unfold s2l
 simp
theorem p9g (l:Hu u2b) (s:Int):q5e l l s=true:=by
 unfold q5e q8l
 simp
theorem o4w {a b:u0j} (h1:a.1=b.1) (h2:a.2.1=b.2.1) (h3:a.2.2.1=b.2.2.1) (h4:a.2.2.2.1=b.2.2.2.1):likeP a b=true:=by
 unfold likeP
 rw[h1,h2,h3,h4,q8m,q8m,p9g]
 simp
theorem Sync.likeP {s:u1q} {b:u0j} (h:Sync s b):Ab.likeP b (u34 s.1.1 [])=true:=by
 rw[s94 fun t ht=>(h.eng.base.past t ht).2.2]
 exact o4w h.like.vs h.like.past h.like.ready h.like.cs
theorem Sync.logR {s:u1q} {b:u0j} (h:Sync s b):Ab.logR (u0g s.2)=(b,true):=by unfold Ab.logR;rw[h.play]
theorem Sync.storeOk {s:u1q} {b:u0j} (h:Sync s b):Ab.storeOk s=true:=by
 unfold Ab.storeOk
 rw[h.logR,j4f.mpr h.eng,h.log,h.likeP]
 rfl
theorem o7h {s:u1q} (hE:EngR s.1) (hd:u2g s.2=true):s02 s=some (Ab.storeOk s):=by
 have hb:u0k=1099511627776:=rfl
 have hw:=t2i hd
 have ew:j63.wt s.1≤549755813888:=by
  have e2:=o4s s.1
  have h1:=hE.tinyO.wt
  have h2:=p0f (l:=s.1.2) (by have:=hE.olen;omega) fun t ht=>hE.ot ht
  omega
 rw[p37];unfold r9s Ab.storeOk
 rw[p95 s.2 (by omega),p66 s.1 (by omega),q5z s.2 (by omega)]
 simp only[zOb]
 rw[t90 s.1.1 [] hE.fewB (by simp)]
 simp only[zOb]
 rw[p91 _ _ (p2w _) (s0b hE.base.tiny [])]
 cases o04 s.1<;>cases u2g s.2<;>cases (Ab.logR (u0g s.2)).2<;>rfl
end
section
theorem p81 {y:Int} (h:0≤y) {n:Nat} (hn:0<n):y4q (Int.tmod y (n:Int)) n=true:=by
 have:=r8z h (n:=(n:Int)) (by omega)
 exact y7s.mpr ⟨this.1,this.2⟩
theorem midTx.tiny {n:Nat} (hn:n≤100) {t:u0h} (h:midTx n t):tinyT t:=by
 obtain⟨h1,h2,h3,h4,h5⟩:=h
 refine⟨by omega,fun r hr=> ?_,by omega,fun w hw=> ?_,by omega⟩
 ·have:=h2 r hr;omega
 ·have:=h4 w hw;unfold j53 at this;omega
def o33 (l:Hu u2b):Prop:= ∀v∈l,v.1.size≤100∧v.2.1.size≤100
theorem j1s {s:Src} (h:s.ok):Dr (t9m s) (fun y=>y.length≤100∧o33 y):=by
 have key:∀(d i:Nat) (s:Src) (a:Hu u2b),s.ok→a.length≤8*i→8≤i+d→i≤7→o33 a→
  ∃(s' :Src) (a' :Hu u2b),u58 (s,a,(i:Int))=some (.inl (s',a'))∧s'.ok∧a'.length≤100∧o33 a' :=by
  intro d
  induction d with
  | zero=>intro i s a _ _ h1 h2;omega
  | succ d ih=>
   intro i s a hs ha hd hi ht
   obtain⟨y,s1,e1,k1,r1⟩:=u2k hs (n:=8) (by omega)
   rw[r9a]
   simp only[t47,e1,zOb]
   by_cases hy:(i:Int)<y
   ·obtain⟨ws,s2,e2,k2,r2,r3⟩:=o5t k1
    obtain⟨w1,_,w3⟩:=j08.mp r2
    have hp:=q47 ws a ((i+1:Nat):Int)
    simp only[hy,Ae,Ad,e2,zOb]
    rw[y7l (by omega)]
    simp only[r12 a ws _ (show a.length+ws.length≤1000000000000 by omega),zOb]
    refine ih (i+1) s2 _ k2 (by omega) (by omega) (by omega) fun v hv=> ?_
    rcases(t80 _ _ _).mp hv with q | ⟨w,hw,rfl⟩
    ·exact ht v q
    ·have:=p9o (w1 w hw)
     show w.1.size≤100∧w.2.1.size≤100
     omega
   ·simp only[hy,Ah,Aa]
    exact⟨_,_,rfl,k1,by omega,ht⟩
 obtain⟨s',a',e1,k1,r1,r2⟩:=key 8 0 s [] h (by simp) (by omega) (by omega) (fun v hv=>by cases hv)
 rw[q4w];unfold s56
 have e1:u58 (s, [],0)=_:=e1
 simp only[e1,zOb]
 exact⟨_,_,rfl,k1,r1,r2⟩
theorem q5h {l:Hu u2b} (h:o33 l) {i:Nat} {v:u2b} (hv:v.1.size≤100∧v.2.1.size≤100):o33 (l.set i v):=fun x hx=>by
 rcases E0 hx with q | rfl
 ·exact h x q
 ·exact hv
theorem j0h {l:Hu u2b} (h:o33 l) (i:Nat):(rdL u0e l i).1.size≤100∧(rdL u0e l i).2.1.size≤100:=by
 by_cases c:i<l.length
 ·rw[y8k (t:=u0e) c];exact h _ (Ag c)
 ·have:rdL u0e l i=u0e.zero:=by unfold rdL;rw[A5,Be (by omega)];rfl
  rw[this]
  decide
theorem o6j (a b c:Hs) (i:Nat) (ha:a.size≤100) (hb:b.size≤100) (hc:c.size≤100):(rdL Ty.str [a,b,c] i).size≤100:=by
 match i with
 | 0=>exact ha
 | 1=>exact hb
 | 2=>exact hc
 | n+3=>exact p6g
theorem o5s {s:Src} (h:s.ok):Dr (r1q s) (fun y=>y.length≤100∧o33 y):=by
 obtain⟨y1,s1,e1,k1,r1⟩:=u2k h (n:=10) (by omega)
 obtain⟨y2,s2,e2,k2,r2⟩:=u2k k1 (n:=60) (by omega)
 obtain⟨l,s3,e3,k3,m1,m2⟩:=j1s k2
 rw[p8p];unfold q34
 simp only[e1,e2,e3,zOb,Cc,Co,Cf,u0r (show l.length≤1099511627776 by omega),Ad]
 by_cases hl:l.length=0
 ·have c0:decide ((l.length:Int) >0)=false:=A7 (by omega)
  simp only[c0,Aa]
  exact⟨_,_,rfl,k3,m1,m2⟩
 ·have c0:decide ((l.length:Int) >0)=true:=Bb (by omega)
  have c1:decide ((l.length:Int)=0)=false:=A7 (by omega)
  have g4:=p81 r2.1 (n:=4) (by omega)
  have g3:=p81 r2.1 (n:=3) (by omega)
  have gl:=p81 r2.1 (n:=l.length) (by omega)
  have g4:y4q (Int.tmod y2 4) ([(0:Int),9999,10000,3] :Hu Int).length=true:=g4
  have g3:y4q (Int.tmod y2 3) ([(⟨#[]⟩:Hs),(⟨#[65]⟩:Hs),(⟨#[122]⟩:Hs)] :Hu Hs).length=true:=g3
  obtain⟨lt,q4,q5⟩:=o2z 13 97 (by omega)
  have q4:u6s (13,97)=some lt:=q4
  have hrd:=fun i=>j0h m2 i
  simp only[c0,c1,Ad,Bh]
  cases decide (y1=0) with
  | true=>
   simp only[Ad]
   rw[g4,gl]
   simp only[Ad]
   exact⟨_,_,rfl,k3,by rw[Dq];exact m1,q5h m2 (hrd _)⟩
  | false=>
  simp only[Aa]
  cases decide (y1=1) with
  | true=>
   simp only[Ad]
   rw[g3,gl]
   simp only[Ad]
   exact⟨_,_,rfl,k3,by rw[Dq];exact m1,q5h m2 ⟨o6j _ _ _ _ (by decide) (by decide) (by decide),(hrd _).2⟩⟩
  | false=>
  simp only[Aa]
  cases decide (y1=2) with
  | true=>
   simp only[Ad]
   rw[gl]
   simp only[Ad]
   exact⟨_,_,rfl,k3,by rw[Dq];exact m1,q5h m2 (hrd _)⟩
  | false=>
  simp only[Aa]
  cases decide (y1=3) with
  | true=>
   simp only[Ad,q4,zOb]
   rw[gl]
   simp only[Ad]
   exact⟨_,_,rfl,k3,by rw[Dq];exact m1,q5h m2 ⟨(hrd _).1,by show lt.size≤100;omega⟩⟩
  | false=>
   simp only[Aa]
   exact⟨_,_,rfl,k3,m1,m2⟩
theorem o9a {s:Src} (h:s.ok):∃(b:u0j) (s' :Src),s1b s=some (b,s')∧s'.ok∧BaseR b∧b.2.2.2.1≤25∧b.2.2.2.2≤26∧DomB b:=by
 obtain⟨st,c1,e2,k2,r2⟩:=q22 24 (by omega) h
 have e2:u35 (s,24)=some (st,c1):=e2
 have hn:=r2.num
 have e:((24+1:Nat):Int)=25:=rfl
 refine⟨st.1.1,c1,?_,k2,r2.eng.base,by have:=hn.1;omega,by have:=hn.2;omega,r2.dom.base⟩
 rw[p5d];unfold q0z
 simp only[e2,zOb]
theorem j1n {s:Src} (h:s.ok):∃(b:u0j) (s' :Src),s1b s=some (b,s')∧s'.ok∧BaseR b∧b.2.2.2.1≤25∧b.2.2.2.2≤26:=by
 obtain⟨b,s',h1,h2,h3,h4,h5,_⟩:=o9a h
 exact⟨b,s',h1,h2,h3,h4,h5⟩
theorem o2d {l:Hu u0h} {t:u0h} {n:Nat} (h:∀x∈l,tinyT x) (ht:tinyT t):∀x∈l++ [t],tinyT x:=fun x hx=>by
 rcases Ay.mp hx with q | q
 ·exact h x q
 ·rw[Ax.mp q];exact ht
theorem o5h {s:Src} (h:s.ok):Dr (r1s s) (fun b=>tinyB b∧ -1000000≤b.2.2.2.1∧b.2.2.2.1≤100000):=by
 obtain⟨y1,s1,e1,k1,r1⟩:=u2k h (n:=14) (by omega)
 obtain⟨y2,s2,e2,k2,r2⟩:=u2k k1 (n:=60) (by omega)
 obtain⟨b,s3,e3,k3,hB,hc,hn⟩:=j1n k2
 have hT:=hB.tiny
 have hc0:=hB.cs
 have hp:=hB.plen
 have hr:=hB.rlen
 have e4:=t7t b hT.few
 have g4:=p81 r2.1 (n:=4) (by omega)
 have g4:y4q (Int.tmod y2 4) ([(0:Int),1,9999,10000] :Hu Int).length=true:=g4
 rw[p8u];unfold q39
 simp only[e1,e2,e3,e4,zOb]
 have hbd: -1000000≤b.2.2.2.1∧b.2.2.2.1≤100000:=by omega
 cases decide (y1=0) with
 | true=>
  simp only[Ad]
  rw[g4]
  refine⟨_,_,rfl,k3,⟨hT.vl,hT.vs,hT.pl,hT.ps,hT.rl,hT.rs⟩,?_⟩
  have hq:=r8z r2.1 (n:=4) (by omega)
  have:(Int.tmod y2 4).toNat=0∨(Int.tmod y2 4).toNat=1∨(Int.tmod y2 4).toNat=2∨(Int.tmod y2 4).toNat=3:=by omega
  show -1000000≤rdL (Ty.int .i64) _ _∧rdL (Ty.int .i64) _ _≤100000
  rcases this with q | q | q | q<;>rw[q] <;>decide
 | false=>
 simp only[Aa]
 cases decide (y1=1) with
 | true=>exact⟨_,_,rfl,k3,⟨hT.vl,hT.vs,hT.pl,hT.ps,hT.rl,hT.rs⟩,hbd⟩
 | false=>
 simp only[Aa]
 cases decide (y1=2) with
 | true=>
  obtain⟨t,s5,e5,k5,m5⟩:=p7e k3
  simp only[Ad,e5,zOb,Aw,u0r (show b.2.1.length+1≤1099511627776 by omega)]
  exact⟨_,_,rfl,k5,⟨hT.vl,hT.vs,by show(b.2.1++ [t]).length≤1000;simp;omega,o2d (n:=0) hT.ps (m5.tiny (by omega)),hT.rl,hT.rs⟩,hbd⟩
 | false=>
 simp only[Aa]
 cases decide (y1=3) with
 | true=>
  obtain⟨t,s5,e5,k5,m5⟩:=p7e k3
  simp only[Ad,e5,zOb,Aw,u0r (show b.2.2.1.length+1≤1099511627776 by omega)]
  exact⟨_,_,rfl,k5,⟨hT.vl,hT.vs,hT.pl,hT.ps,by show(b.2.2.1++ [t]).length≤1000;simp;omega,o2d (n:=0) hT.rs (m5.tiny (by omega))⟩,hbd⟩
 | false=>
 simp only[Aa]
 cases decide (y1=4) with
 | true=>
  obtain⟨l,s5,e5,k5,m5,m6⟩:=o5s k3
  simp only[Ad,e5,zOb]
  exact⟨_,_,rfl,k5,⟨by show l.length≤10000;omega,m6,hT.pl,hT.ps,hT.rl,hT.rs⟩,hbd⟩
 | false=>exact⟨_,_,rfl,k3,hT,hbd⟩
end
section
theorem sr (t:Hs):z7o t t=true:=by simp[z7o]
theorem p29 (a:Hu WrT) (ha:a.length≤1048576):t95 (a,a)=some true:=by
 rw[q6i];unfold s8q
 have L:=s11 u9t a (fun i=>(a,a,i)) (fun _=>false) (.inr false) (.inl ())
  (by rw[s5g];simp only[u9k,u0b,Am,Ah,Aa])
  (fun i hi=>by
   rw[s5g];simp only[u9k,u0b,hi,Ae,Ad,y7t hi,zTn,y8k (t:=u2m) hi,sr,beq_self_eq_true,Cz,Ap,Aa]
   rw[y7l (by omega)])
 have hn:(a.any fun _=>false)=false:=by simp
 rw[hn] at L
 simp only[Ae,Ap,Aa,L,zOb]
theorem q64 (a:Hu u2b) (ha:a.length≤1048576):t7p (a,a)=some true:=by
 rw[q2b];unfold s32
 have L:=s11 u7u a (fun i=>(a,a,i)) (fun _=>false) (.inr false) (.inl ())
  (by rw[s1w];simp only[u7p,u0b,Am,Ah,Aa])
  (fun i hi=>by
   rw[s1w];simp only[u7p,u0b,hi,Ae,Ad,y7t hi,zTn,y8k (t:=u0e) hi,sr,beq_self_eq_true,Cz,Ap,Aa]
   rw[y7l (by omega)])
 have hn:(a.any fun _=>false)=false:=by simp
 rw[hn] at L
 simp only[Ae,Ap,Aa,L,zOb]
theorem o1x (t:u0h) (h:q5u t):s7x (t,t)=some true:=by
 have h1:=h.1
 have L:=s11 t0k t.2.2.2.2.1 (fun i=>(t,t,i)) (fun _=>false) (.inr false) (.inl ())
  (by rw[r4t];simp only[t6c,u0b,Am,Ah,Aa])
  (fun i hi=>by
   rw[r4t];simp only[t6c,u0b,hi,Ae,Ad,y7t hi,zTn,y8k (t:=t2h) hi,sr,Cz,Ap,Aa]
   rw[y7l (by omega)])
 have hn:(t.2.2.2.2.1.any fun _=>false)=false:=by simp
 rw[hn] at L
 have L:t0k (t,t,0)=_:=L
 rw[p4k];unfold r94
 simp only[Ae,Ap,Aa,beq_self_eq_true,sr,p29 _ h.2,L,zOb]
theorem r1y (a:Hu u0h) (h:q9y a):t3b (a,a)=some true:=by
 have h1:=h.1
 rw[p1x];unfold r6h
 have L:=s11 t4i a (fun i=>(a,a,i)) (fun _=>false) (.inr false) (.inl ())
  (by rw[r0h];simp only[t3u,u0b,Am,Ah,Aa])
  (fun i hi=>by
   rw[r0h];simp only[t3u,u0b,hi,Ae,Ad,y7t hi,zTn,y8k (t:=u00) hi,o1x _ (h.2 _ (Ag hi)),zOb,Ap,Aa]
   rw[y7l (by omega)])
 have hn:(a.any fun _=>false)=false:=by simp
 rw[hn] at L
 simp only[Ae,Ap,Aa,L,zOb]
theorem p9f (b:u0j) (h:tinyB b):s4y (b,b)=some true:=by
 have hf:=h.few
 rw[p1v];unfold r6f
 simp only[q64 b.1 (by have:=h.vl;omega),r1y _ hf.2.1,r1y _ hf.2.2,zOb,Ad,Ae]
theorem r76 (e:u3a) (hb:tinyB e.1) (ho:q9y e.2):t4s (e,e)=some true:=by
 rw[q6h];unfold s8p
 simp only[p9f _ hb,r1y _ ho,zOb,Ad]
theorem p5u (s:u1q) (hb:tinyB s.1.1) (ho:q9y s.1.2) (hd:d0s.wt s.2≤10000000):s2d (s,s)=some true:=by
 rw[q9h];unfold r2u
 simp only[r76 _ hb ho,q44 s.2 (by omega),zOb,Ad]
end
section
def smallE (e:u3a):Prop:=tinyB e.1∧q9y e.2
theorem EngR.smallE {e:u3a} (h:EngR e):Ab.smallE e:=⟨h.tinyO,h.fewO⟩
theorem o6z {s:Src} (h:s.ok):Dr (r1t s) smallE:=by
 obtain⟨y1,s1,e1,k1,r1⟩:=u2k h (n:=12) (by omega)
 obtain⟨y2,s2,e2,k2,r2⟩:=u2k k1 (n:=60) (by omega)
 obtain⟨st,s3,e3,k3,hS⟩:=q22 22 (by omega) k2
 have e3:u35 (s2,22)=some (st,s3):=e3
 have e3:s2k s2=some (st.1,s3):=by
  rw[q9v];unfold r28
  simp only[e3,zOb]
 have hE:=hS.eng
 have e4:u0n st.1=some st.1:=u6t st.1.1 st.1.2 hE.fewB hE.fewO
 have ho:=hE.olen
 have hsm:=hE.smallE
 rw[p8w];unfold q4b
 simp only[e1,e2,e3,e4,zOb]
 cases decide (y1=0) with
 | true=>
  obtain⟨b,s5,e5,k5,m5,_⟩:=o5h k3
  simp only[Ad,e5,zOb]
  exact⟨_,_,rfl,k5,m5,hsm.2⟩
 | false=>
 simp only[Aa]
 cases decide (y1=1) with
 | true=>
  obtain⟨t,s5,e5,k5,m5⟩:=p7e k3
  simp only[Ad,e5,zOb,Aw,u0r (show st.1.2.length+1≤1099511627776 by omega)]
  exact⟨_,_,rfl,k5,hsm.1,⟨by show(st.1.2++ [t]).length≤4194304;simp;omega,fun x hx=>by
   rcases Ay.mp hx with q | q
   ·exact hsm.2.2 x q
   ·rw[Ax.mp q];exact(m5.tiny (by omega)).few⟩⟩
 | false=>
 simp only[Aa]
 cases decide (y1=2) with
 | true=>
  simp only[Ad]
  by_cases h0:st.1.2.length=0
  ·have c0:decide ((st.1.2.length:Int) >0)=false:=A7 (by omega)
   rw[c0]
   exact⟨_,_,rfl,k3,hsm⟩
  ·have c0:decide ((st.1.2.length:Int) >0)=true:=Bb (by omega)
   have g0:y4q (0:Int) st.1.2.length=true:=y7t (i:=0) (by omega)
   rw[c0,g0]
   refine⟨_,_,rfl,k3,hsm.1,⟨by show(List.set _ _ _).length≤4194304;rw[Dq];omega,fun x hx=> ?_⟩⟩
   rcases E0 hx with q | rfl
   ·exact hsm.2.2 x q
   ·have hk:0<st.1.2.length:=by omega
    have e0:rdL u00 st.1.2 ((0:Int)).toNat=st.1.2[0] :=y8k (t:=u00) hk
    have:=hsm.2.2 _ (Ag hk)
    rw[e0]
    exact this
 | false=>
 simp only[Aa]
 cases decide (y1=3) with
 | true=>
  have key:∀(d x:Nat) (e:u3a) (j:u3a),EngR e→x≤70→71≤x+d→ ∃e',EngR e' ∧(u7d (s3,j,(x:Int),e)=some (.inl (s3,j,e'))∨u7d (s3,j,(x:Int),e)=some (.inr (s3,e'))):=by
   intro d
   induction d with
   | zero=>intro x e j _ h1 h2;omega
   | succ d ih=>
    intro x e j hE hx hd
    have e0:u7d (s3,j,(x:Int),e)=_:=q94 _
    rw[e0]
    by_cases c:(e.2.length:Int)<4
    ·have hb:=o4o hE
     simp only[t6y,c,Ae,Ad,p5w hE,zOb]
     rw[y7l (by omega)]
     by_cases c2:(((x+1:Nat)):Int) >70
     ·simp only[c2,Ae,Ad]
      exact⟨_,hb, .inr rfl⟩
     ·simp only[c2,Ah,Aa]
      exact ih (x+1) _ j hb (by omega) (by omega)
    ·simp only[t6y,c,Ah,Aa]
     exact⟨e,hE, .inl rfl⟩
  obtain⟨m,hm⟩:∃m:Nat,y2=(m:Int):=⟨y2.toNat,by omega⟩
  obtain⟨e',hE',hor⟩:=key (71 - m) m st.1 ((([], [], [],0,0):u0j), []) hE (by omega) (by omega)
  simp only[Ad]
  rw[hm]
  rcases hor with q | q
  ·rw[q];exact⟨_,_,rfl,k3,hE'.smallE⟩
  ·rw[q];exact⟨_,_,rfl,k3,hE'.smallE⟩
 | false=>exact⟨_,_,rfl,k3,hsm⟩
def o8j (s:u1q):Prop:=smallE s.1∧d0s.wt s.2≤10000000
theorem o27 {s:Src} (h:s.ok):Dr (r1u s) o8j:=by
 obtain⟨y1,s1,e1,k1,r1⟩:=u2k h (n:=12) (by omega)
 obtain⟨st,s3,e3,k3,hS⟩:=q22 22 (by omega) k1
 have e3:u35 (s1,22)=some (st,s3):=e3
 have hE:=hS.eng
 have hw:=t2i hS.log
 have e4:=p5z hE hw
 rw[p8y];unfold q4d
 simp only[e1,e3,e4,zOb]
 cases decide (y1=0) with
 | true=>
  obtain⟨e,s5,e5,k5,m5⟩:=o6z k3
  simp only[Ad,e5,zOb]
  exact⟨_,_,rfl,k5,m5,hw⟩
 | false=>
 simp only[Aa]
 cases decide (y1=1) with
 | true=>
  obtain⟨d,s5,e5,k5,m5⟩:=o5m k3
  simp only[Ad,e5,zOb]
  exact⟨_,_,rfl,k5,hE.smallE,by show d0s.wt d≤10000000;omega⟩
 | false=>exact⟨_,_,rfl,k3,hE.smallE,hw⟩
theorem o9k {d z:u0i} (h:p3w d=some z):(u0g z).length=1:=by
 unfold p3w at h
 split at h
 ·cases h
 ·split at h
  ·rw[(q65 h).2.2];rfl
  ·cases h
theorem o5z {s:u1q} (h:o8j s):o8j (p9s s).1:=by
 unfold p9s
 cases hz:p3w s.2 with
 | none=>exact h
 | some d=>exact⟨h.1,t2i (o29 hz)⟩
theorem o3m (x:Hu Int) (hx:(Ty.sl (.int .u8)).fine x):q1q x=some true:=by
 rw[p4j];unfold r93
 rw[o5y];unfold p55
 simp only[zOb]
 by_cases hb:(x.length:Int) >1048576
 ·simp only[hb,Ae,Ad]
 simp only[hb,Ah,Aa]
 obtain⟨c0,z1,z2⟩:=j3z (l:=x) (by omega)
 obtain⟨s,c1,z3,z4,hS⟩:=q22 24 (by omega) z2
 have z3:u35 (c0,24)=some (s,c1):=z3
 have d0:s2f x=some s:=by
  rw[q9l];unfold r2y
  simp only[z1,z3,zOb]
 obtain⟨y,c2,z5,z6,hY⟩:=o27 z2
 have d1:t7q x=some y:=by
  rw[q2c];unfold s33
  simp only[z1,z5,zOb]
 obtain⟨b,hB,hbn⟩:=hS.sync
 have hE:=hB.eng
 obtain⟨d,hd⟩:=hS.fixes
 have hdo:=o29 hd
 have hF:p9s s=((s.1,d),true):=by unfold p9s;rw[hd]
 have hSf:=hB.fix
 rw[hF] at hSf
 have a1:=p9x hE.fewB hE.fewO (t2i hB.log)
 rw[hF] at a1
 have a2:=q51 s.2 (by have:=t2i hB.log;omega)
 rw[hB.logR] at a2
 have a3:=q51 d (by have:=t2i hdo;omega)
 have hlr:logR (u0g d)=(b,true):=hSf.logR
 rw[hlr] at a3
 have a4:=p91 b b hB.right.tiny hB.right.tiny
 rw[o4w rfl rfl rfl rfl] at a4
 have a5:=q2y d (by have:=t2i hdo;omega)
 have h1:decide (((u0g d).length:Int)=1)=true:=by rw[o9k hd];rfl
 have a6:=r76 s.1 hE.tinyO hE.fewO
 have a7:s02 (s.1,d)=some (storeOk (s.1,d)):=o7h (s:=(s.1,d)) hE hdo
 rw[hSf.storeOk] at a7
 have b1:=p9x hY.1.1.few hY.1.2 hY.2
 have b2:=o60 hY.1.1.few hY.1.2 hY.2
 have hys:=o5z hY
 have b3:=p5u (p9s y).1 hys.1.1 hys.1.2 hys.2
 simp only[d0,d1,a1,a2,a3,a4,a5,a6,a7,b1,b2,b3,h1,Ad,zOb,beq_self_eq_true]
end
end
end Go.Proofs.YtkdpclfhapphhaaGreat.Ab
