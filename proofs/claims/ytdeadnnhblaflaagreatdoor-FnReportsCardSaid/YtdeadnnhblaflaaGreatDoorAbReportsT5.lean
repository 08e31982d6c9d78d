import Derived.Test.YtdeadnnhblaflaaGreatDoorAbReportsT4
import Derived.Test.YtdeadnnhblaflaaGreatDoorAbK2
import Derived.Test.YtdeadnnhblaflaaGreatDoorAbF4
import Derived.Test.YtdeadnnhblaflaaGreatDoorAbS2
import Derived.Test.YtdeadnnhblaflaaGreatDoorAbS4
namespace Go.Proofs.YtdeadnnhblaflaaGreatDoor.Ab
open Go
set_option linter.unusedVariables false
set_option linter.unusedSimpArgs false
set_option linter.unnecessarySimpa false
set_option linter.unusedSectionVars false
section
section
def EvN (e:p62.den):Prop:=EvR e∧nlc e.2.2.2.1=0
theorem s4m {kd at_:Int} {key tx:Hs} (h1:1≤kd) (h2:kd≤11) (h0:0≤at_) (hk:key.size≤6) (ht:tx.size≤6) (hc:nlc tx=0):EvN ((kd,at_,key,tx,([] :Hu Int)):p62.den):=
 ⟨⟨⟨h1,by show kd≤12;omega⟩,h0,hk,by show tx.size≤20;omega,by show 0≤10;omega,fun _=>rfl⟩,hc⟩
def K3:Hu Hs:= [⟨#[97]⟩,⟨#[98]⟩,⟨#[99]⟩]
def T3:Hu Hs:= [⟨#[111,110,101]⟩,⟨#[116,119,111]⟩,⟨#[116,104,114,101,101]⟩]
def PQ3:Hu Hs:= [⟨#[112]⟩,⟨#[113]⟩,⟨#[114]⟩]
theorem p35 {y a b c:Hs} (h:y∈ [a,b,c]) (ha:a.size≤6) (hb:b.size≤6) (hc:c.size≤6):y.size≤6:=by
 simp only[A8,Ep,Em] at h
 rcases h with rfl | rfl | rfl
 ·exact ha
 ·exact hb
 ·exact hc
theorem r6w {y:Hs} (h:y∈K3):y.size≤6:=p35 h (by decide) (by decide) (by decide)
theorem p7z {y:Hs} (h:y∈T3):y.size≤6:=p35 h (by decide) (by decide) (by decide)
theorem o5h {y a b c:Hs} (h:y∈ [a,b,c]) (ha:nlc a=0) (hb:nlc b=0) (hc:nlc c=0):nlc y=0:=by
 simp only[A8,Ep,Em] at h
 rcases h with rfl | rfl | rfl
 ·exact ha
 ·exact hb
 ·exact hc
theorem p9r {y:Hs} (h:y∈K3):nlc y=0:=o5h h (by decide) (by decide) (by decide)
theorem p9v {y:Hs} (h:y∈T3):nlc y=0:=o5h h (by decide) (by decide) (by decide)
theorem q2q {y:Hs} (h:y∈PQ3):y.size≤6:=p35 h (by decide) (by decide) (by decide)
theorem p8e (c:Src) (most:Int) (out:Hu p62.den) (next:Int) (op:Hu Int) (id:Int) (ho:op.length≤4) (h0:∀x∈op,0≤x):
 ∀(d i:Nat) (l:Hu Int),i+d=op.length→l.length≤i→(∀x∈l,0≤x)→ ∃l' :Hu Int,u1h (c,most,out,next,op,id,l,(i:Int))=some (.inl (c,most,out,next,l'))∧l'.length≤4∧ ∀x∈l',0≤x:=by
 intro d
 induction d with
 | zero=>
  intro i l hi hl h
  refine⟨l,?_,by omega,h⟩
  rw[t7a];simp only[u5u,u0b,show ¬i<op.length by omega,Ah,Aa]
 | succ d ih=>
  intro i l hi hl h
  have hlt:i<op.length:=by omega
  rw[t7a]
  have hb:∀x:Int,Nat.ble (l.length+ [x].length) z8x=true:=fun x=>r9p (by rw[Aw];omega)
  simp only[u5u,u0b,hlt,Ae,Ad,y7s hlt,zTn,y8l (t:=Ty.int .i64) hlt,hb]
  rw[y7j (by omega)]
  by_cases q:op[i] =id
  ·simp only[q,Ae,Ap,Aa]
   exact ih (i+1) l (by omega) (by omega) h
  ·simp only[q,Ah,Bh,Ad]
   refine ih (i+1) _ (by omega) (by rw[Ba,Aw];omega) fun x hx=> ?_
   rcases Ay.mp hx with hx | hx
   ·exact h x hx
   ·rw[Ax.mp hx];exact h0 _ (Ag hlt)
def o2x (most:Int) (out:Hu p62.den) (F:Ht (Hu p62.den⊕Unit)) (next:Int):Prop:=
 ∃(c' :Src) (e:p62.den) (next' :Int) (op' :Hu Int),F=u1t (c',most,out++ [e],next',op')∧c'.ok∧EvN e∧0≤next' ∧next' ≤next+1∧op'.length≤4∧ ∀x∈op',0≤x
theorem p78 {c:Src} (hc:c.ok) {most:Int} {out:Hu p62.den} {next:Int} {op:Hu Int} (hlt:(out.length:Int)<most) (hm:most≤74) (n0:0≤next) (n1:next≤100) (ho:op.length≤4) (h0:∀x∈op,0≤x):
 o2x most out (u1t (c,most,out,next,op)) next:=by
 obtain⟨y2,c1,e2,k2,r2⟩:=u1e hc (n:=18) (by omega)
 have hb:∀x:p62.den,Nat.ble (out.length+ [x].length) z8x=true:=fun x=>r9p (by rw[Aw];omega)
 have hb1:Nat.ble (([] :Hu Int).length+op.length) z8x=true:=r9p (by rw[Cc];omega)
 have hb2:∀x:Int,Nat.ble ((([] :Hu Int)++op).length+ [x].length) z8x=true:=fun x=>r9p (by rw[Aw,Cf];omega)
 have wn:IntKind.i64.wrap (next+1)=next+1:=y4u (by omega) (by omega)
 have opn:∀x∈op++ [next],0≤x:=fun x hx=>by
  rcases Ay.mp hx with hx | hx
  ·exact h0 x hx
  ·rw[Ax.mp hx];exact n0
 have ev1:EvN ((1,0,(⟨#[]⟩:Hs),(⟨#[]⟩:Hs),([] :Hu Int)):p62.den):=s4m (by omega) (by omega) (by omega) (by decide) (by decide) (by decide)
 rw[t8q]
 simp only[u7l,hlt,Ae,Ad,e2,zOb]
 cases op with
 | nil=>
  obtain⟨y4,c2,e4,k4,r4⟩:=t52 k2 (l:=K3) (by decide)
  have e4:u0o (c1, [(⟨#[97]⟩:Hs),(⟨#[98]⟩:Hs),(⟨#[99]⟩:Hs)])=some (y4,c2):=e4
  simp only[Cc,show decide (((0:Nat):Int) >0)=false by decide,show decide (((0:Nat):Int)=0)=true by decide,Aa,Ad,e4,zOb,hb]
  simp only[Cc] at hb1 hb2
  simp only[hb1,hb2,Ad,wn]
  exact⟨c2,_,next+1,_,rfl,k4,ev1,by omega,by omega,by simp,opn⟩
 | cons o os=>
  obtain⟨op,hop⟩:∃op,op=o::os:=⟨_,rfl⟩
  rw[←hop] at ho h0 hb1 hb2 opn ⊢
  have hl0:0<op.length:=by rw[hop];simp
  have g1:decide ((op.length:Int) >0)=true:=Bb (by omega)
  have g2:decide ((op.length:Int)=0)=false:=A7 (by omega)
  obtain⟨y3,c3,e3,k3,r3⟩:=u1e k2 (n:=(op.length:Int)) (by omega)
  obtain⟨j,hj⟩:∃j:Nat,y3=(j:Int):=⟨y3.toNat,by omega⟩
  subst hj
  have hjl:j<op.length:=by omega
  obtain⟨y4,c4,e4,k4,r4⟩:=t52 k3 (l:=K3) (by decide)
  have e4:u0o (c3, [(⟨#[97]⟩:Hs),(⟨#[98]⟩:Hs),(⟨#[99]⟩:Hs)])=some (y4,c4):=e4
  have hid:0≤op[j] :=h0 _ (Ag hjl)
  simp only[g1,g2,Ad,Aa,e3,y7s hjl,zTn,y8l (t:=Ty.int .i64) hjl,e4,zOb,hb,hb1,hb2,wn]
  obtain⟨id,hidd⟩:∃id,id=op[j] :=⟨_,rfl⟩
  rw[←hidd] at hid ⊢
  obtain⟨bg,hbg⟩:∃bg,bg=(bif decide (y2<3) then some (decide ((op.length:Int)<4)) else some false:Ht Bool):=⟨_,rfl⟩
  have hbg2:bg=some (decide (y2<3)&&decide ((op.length:Int)<4)):=by rw[hbg];cases decide (y2<3)<;>rfl
  rw[←hbg,hbg2]
  simp only[zOb]
  by_cases b1:(decide (y2<3)&&decide ((op.length:Int)<4))=true
  ·simp only[b1,Ad]
   have:(op.length:Int)<4:=by simp at b1;omega
   exact⟨c4,_,next+1,_,rfl,k4,ev1,by omega,by omega,by simp;omega,opn⟩
  ·have b1:(decide (y2<3)&&decide ((op.length:Int)<4))=false:=by simpa using b1
   simp only[b1,Aa]
   by_cases b2:y2<6
   ·simp only[b2,Ae,Ad]
    exact⟨c4,_,next,op,rfl,k4,s4m (by omega) (by omega) hid (r6w r4) (by decide) (by decide),n0,by omega,ho,h0⟩
   simp only[b2,Ah,Aa]
   by_cases b3:y2=6
   ·simp only[b3,Ae,Ad]
    exact⟨c4,_,next,op,rfl,k4,s4m (by omega) (by omega) hid (by decide) (r6w r4) (p9r r4),n0,by omega,ho,h0⟩
   simp only[b3,Ah,Aa]
   by_cases b4:y2<10
   ·obtain⟨y6,c6,e6,k6,r6⟩:=t52 k4 (l:=T3) (by decide)
    have e6:u0o (c4, [(⟨#[111,110,101]⟩:Hs),(⟨#[116,119,111]⟩:Hs),(⟨#[116,104,114,101,101]⟩:Hs)])=some (y6,c6):=e6
    simp only[b4,Ae,Ad,e6,zOb,hb]
    exact⟨c6,_,next,op,rfl,k6,s4m (by omega) (by omega) hid (r6w r4) (p7z r6) (p9v r6),n0,by omega,ho,h0⟩
   simp only[b4,Ah,Aa]
   by_cases b5:y2=10
   ·simp only[b5,Ae,Ad]
    exact⟨c4,_,next,op,rfl,k4,s4m (by omega) (by omega) hid (r6w r4) (by decide) (by decide),n0,by omega,ho,h0⟩
   simp only[b5,Ah,Aa]
   have pq:∀ {s:Src},s.ok→ ∃(y:Hs) (s' :Src),u0o (s, [(⟨#[112]⟩:Hs),(⟨#[113]⟩:Hs),(⟨#[114]⟩:Hs)])=some (y,s')∧s'.ok∧y∈PQ3:=fun {s} hs=>by
    obtain⟨y,s',q1,q2,q3⟩:=t52 hs (l:=PQ3) (by decide)
    exact⟨y,s',q1,q2,q3⟩
   by_cases b6:y2<14
   ·obtain⟨y7,c7,e7,k7,r7⟩:=pq k4
    have lf:=fun(o:Hu p62.den)=>p8e c7 most o next op id ho h0 op.length 0 [] (by omega) (by simp) (fun x hx=>by cases hx)
    simp only[b6,Ae,Ad,e7,zOb,hb]
    by_cases b7:y2=13
    ·simp only[b7,Ae,Ad]
     obtain⟨l',q1,q2,q3⟩:=lf (out++ [((8:Int),id,y7,(⟨#[]⟩:Hs),([] :Hu Int))])
     have q1:u1h (c7,most,out++ [((8:Int),id,y7,(⟨#[]⟩:Hs),([] :Hu Int))],next,op,id, [],(0:Int))=_:=q1
     simp only[q1,zOb]
     exact⟨c7,_,next,l',rfl,k7,s4m (by omega) (by omega) hid (q2q r7) (by decide) (by decide),n0,by omega,q2,q3⟩
    ·simp only[b7,Ah,Aa]
     obtain⟨l',q1,q2,q3⟩:=lf (out++ [((6:Int),id,y7,(⟨#[]⟩:Hs),([] :Hu Int))])
     have q1:u1h (c7,most,out++ [((6:Int),id,y7,(⟨#[]⟩:Hs),([] :Hu Int))],next,op,id, [],(0:Int))=_:=q1
     simp only[q1,zOb]
     exact⟨c7,_,next,l',rfl,k7,s4m (by omega) (by omega) hid (q2q r7) (by decide) (by decide),n0,by omega,q2,q3⟩
   simp only[b6,Ah,Aa]
   by_cases b8:y2=14
   ·obtain⟨y15,c5,e5,k5,r5⟩:=p0j k4 [9,10,9] (by decide) (by decide)
    obtain⟨y16,c6,e6,k6,r6⟩:=pq k5
    simp only[b8,Ae,Ad,e5,e6,zOb,hb]
    have hy:y15=9∨y15=10:=by
     simp only[A8,Ep,Em] at r5
     omega
    exact⟨c6,_,next,op,rfl,k6,s4m (by omega) (by omega) (by omega) (q2q r6) (by decide) (by decide),n0,by omega,ho,h0⟩
   simp only[b8,Ah,Aa]
   by_cases b9:y2=15
   ·simp only[b9,Ae,Ad]
    exact⟨c4,_,next,op,rfl,k4,s4m (by omega) (by omega) (by omega) (by decide) (by decide) (by decide),n0,by omega,ho,h0⟩
   simp only[b9,Ah,Aa]
   by_cases b10:y2=16
   ·obtain⟨y17,c5,e5,k5,_⟩:=t8s k4 (n:=3) (by omega)
    simp only[b10,Ae,Ad,e5,zOb]
    cases y17
    ·simp only[Aa]
     exact⟨c5,_,next,op,rfl,k5,s4m (by omega) (by omega) hid (by decide) (by decide) (by decide),n0,by omega,ho,h0⟩
    ·obtain⟨y18,c6,e6,k6,r6⟩:=u1e k5 (n:=70) (by omega)
     obtain⟨y19,c7,e7,k7,r7⟩:=u1e k6 (n:=2) (by omega)
     simp only[Ad,e6,e7,zOb,hb]
     refine⟨c7,_,next, [],rfl,k7,⟨⟨⟨by show(1:Int)≤12;omega,by show(12:Int)≤12;omega⟩,r6.1,(by decide:(⟨#[]⟩:Hs).size≤6),(by decide:(⟨#[]⟩:Hs).size≤20),by show 2≤10;omega,fun q=>absurd rfl q⟩,(by decide:nlc (⟨#[]⟩:Hs)=0)⟩,n0,by omega,by simp,fun x hx=>by cases hx⟩
   simp only[b10,Ah,Aa]
   exact⟨c4,_,next,op,rfl,k4,s4m (by omega) (by omega) (by omega) (r6w r4) (by decide) (by decide),n0,by omega,ho,h0⟩
theorem o24 {most:Int} (hm:most≤74):∀(d:Nat) {c:Src} {out:Hu p62.den} {next:Int} {op:Hu Int},c.ok→(out.length:Int)+d=most→0≤next→next≤(out.length:Int)+1→op.length≤4→(∀x∈op,0≤x)→(∀e∈out,EvN e)→
 ∃out' :Hu p62.den,u1t (c,most,out,next,op)=some (.inl out')∧(out'.length:Int)=most∧ ∀e∈out',EvN e:=by
 intro d
 induction d with
 | zero=>
  intro c out next op hc hd n0 n1 ho h0 he
  refine⟨out,?_,by omega,he⟩
  rw[t8q]
  simp only[u7l,show decide ((out.length:Int)<most)=false from A7 (by omega),Aa]
 | succ d ih=>
  intro c out next op hc hd n0 n1 ho h0 he
  obtain⟨c',e,next',op',q1,q2,q3,q4,q5,q6,q7⟩:=p78 hc (most:=most) (out:=out) (next:=next) (op:=op) (by omega) hm n0 (by omega) ho h0
  rw[q1]
  refine ih q2 (by rw[Ba,Aw];omega) q4 (by rw[Ba,Aw];omega) q6 q7 fun x hx=> ?_
  rcases Ay.mp hx with hx | hx
  ·exact he x hx
  ·rw[Ax.mp hx];exact q3
theorem p7y {l:Hu Int} (hl:l.length≤1048576):∃es:Hu p62.den,t4x l=some es∧es.length≤74∧ ∀e∈es,EvN e:=by
 obtain⟨c,e1,k1⟩:=p2j hl
 have w0:Int.tdiv (l.length:Int) 3=(l.length:Int) / 3:=Int.tdiv_eq_ediv_of_nonneg (by omega)
 have w1:IntKind.i64.wrap ((l.length:Int) / 3)=(l.length:Int) / 3:=y4u (by omega) (by omega)
 have w2:IntKind.i64.wrap (16+(l.length:Int) / 3)=16+(l.length:Int) / 3:=y4u (by omega) (by omega)
 have run:∀most:Int,0≤most→most≤74→ ∃es:Hu p62.den,u1t (c,most, [],1, [])=some (.inl es)∧es.length≤74∧ ∀e∈es,EvN e:=fun most h0 h1=>by
  obtain⟨es,q1,q2,q3⟩:=o24 h1 most.toNat (c:=c) (out:= []) (next:=1) (op:= []) k1 (by simp;omega) (by omega) (by simp) (by simp) (fun x hx=>by cases hx) (fun x hx=>by cases hx)
  exact⟨es,q1,by omega,q3⟩
 rw[r59];unfold s2u
 simp only[e1,w0,w1,w2,zOb]
 by_cases b:16+(l.length:Int) / 3 >74
 ·obtain⟨es,q1,q2,q3⟩:=run 74 (by omega) (by omega)
  exact⟨es,by simp only[b,Ae,Ad,q1,zOb],q2,q3⟩
 ·obtain⟨es,q1,q2,q3⟩:=run (16+(l.length:Int) / 3) (by omega) (by omega)
  exact⟨es,by simp only[b,Ah,Aa,q1,zOb],q2,q3⟩
end
section
theorem q38 {y:Int} (h:0≤y) {n:Nat} (hn:0<n):y4l (Int.tmod y (n:Int)) n=true:=by
 have:=s7a h (n:=(n:Int)) (by omega)
 exact y7r.mpr ⟨this.1,this.2⟩
theorem midTx.tiny {n:Nat} (hn:n≤100) {t:u0f} (h:midTx n t):tinyT t:=by
 obtain⟨h1,h2,h3,h4,h5⟩:=h
 refine⟨by omega,fun r hr=> ?_,by omega,fun w hw=> ?_,by omega⟩
 ·have:=h2 r hr;omega
 ·have:=h4 w hw;unfold o1z at this;omega
def q8u (l:Hu u1m):Prop:= ∀v∈l,v.1.size≤100∧v.2.1.size≤100
theorem p2s {s:Src} (h:s.ok):Dr (u7t s) (fun y=>y.length≤100∧q8u y):=by
 have key:∀(d i:Nat) (s:Src) (a:Hu u1m),s.ok→a.length≤8*i→8≤i+d→i≤7→q8u a→
  ∃(s' :Src) (a' :Hu u1m),u3g (s,a,(i:Int))=some (.inl (s',a'))∧s'.ok∧a'.length≤100∧q8u a' :=by
  intro d
  induction d with
  | zero=>intro i s a _ _ h1 h2;omega
  | succ d ih=>
   intro i s a hs ha hd hi ht
   obtain⟨y,s1,e1,k1,r1⟩:=u1e hs (n:=8) (by omega)
   rw[s7l]
   simp only[u9g,e1,zOb]
   by_cases hy:(i:Int)<y
   ·obtain⟨ws,s2,e2,k2,r2,r3⟩:=p0m k1
    obtain⟨w1,_,w3⟩:=p7i.mp r2
    have hp:=r2o ws a ((i+1:Nat):Int)
    simp only[hy,Ae,Ad,e2,zOb]
    rw[y7j (by omega)]
    simp only[s1z a ws _ (show a.length+ws.length≤1000000000000 by omega),zOb]
    refine ih (i+1) s2 _ k2 (by omega) (by omega) (by omega) fun v hv=> ?_
    rcases(u2w _ _ _).mp hv with q | ⟨w,hw,rfl⟩
    ·exact ht v q
    ·have:=r23 (w1 w hw)
     show w.1.size≤100∧w.2.1.size≤100
     omega
   ·simp only[hy,Ah,Aa]
    exact⟨_,_,rfl,k1,by omega,ht⟩
 obtain⟨s',a',e1,k1,r1,r2⟩:=key 8 0 s [] h (by simp) (by omega) (by omega) (fun v hv=>by cases hv)
 rw[r1w];unfold t7j
 have e1:u3g (s, [],0)=_:=e1
 simp only[e1,zOb]
 exact⟨_,_,rfl,k1,r1,r2⟩
theorem r2v {l:Hu u1m} (h:q8u l) {i:Nat} {v:u1m} (hv:v.1.size≤100∧v.2.1.size≤100):q8u (l.set i v):=fun x hx=>by
 rcases E0 hx with q | rfl
 ·exact h x q
 ·exact hv
theorem p6i {l:Hu u1m} (h:q8u l) (i:Nat):(rdL u0g l i).1.size≤100∧(rdL u0g l i).2.1.size≤100:=by
 by_cases c:i<l.length
 ·rw[y8l (t:=u0g) c];exact h _ (Ag c)
 ·have:rdL u0g l i=u0g.zero:=by unfold rdL;rw[A5,Be (by omega)];rfl
  rw[this]
  decide
theorem p1r (a b c:Hs) (i:Nat) (ha:a.size≤100) (hb:b.size≤100) (hc:c.size≤100):(rdL Ty.str [a,b,c] i).size≤100:=by
 match i with
 | 0=>exact ha
 | 1=>exact hb
 | 2=>exact hc
 | n+3=>exact q1t
theorem p0l {s:Src} (h:s.ok):Dr (s1o s) (fun y=>y.length≤100∧q8u y):=by
 obtain⟨y1,s1,e1,k1,r1⟩:=u1e h (n:=10) (by omega)
 obtain⟨y2,s2,e2,k2,r2⟩:=u1e k1 (n:=60) (by omega)
 obtain⟨l,s3,e3,k3,m1,m2⟩:=p2s k2
 rw[q3u];unfold r1a
 simp only[e1,e2,e3,zOb,Cc,Co,Cf,u07 (show l.length≤1099511627776 by omega),Ad]
 by_cases hl:l.length=0
 ·have c0:decide ((l.length:Int) >0)=false:=A7 (by omega)
  simp only[c0,Aa]
  exact⟨_,_,rfl,k3,m1,m2⟩
 ·have c0:decide ((l.length:Int) >0)=true:=Bb (by omega)
  have c1:decide ((l.length:Int)=0)=false:=A7 (by omega)
  have g4:=q38 r2.1 (n:=4) (by omega)
  have g3:=q38 r2.1 (n:=3) (by omega)
  have gl:=q38 r2.1 (n:=l.length) (by omega)
  have g4:y4l (Int.tmod y2 4) ([(0:Int),9999,10000,3] :Hu Int).length=true:=g4
  have g3:y4l (Int.tmod y2 3) ([(⟨#[]⟩:Hs),(⟨#[65]⟩:Hs),(⟨#[122]⟩:Hs)] :Hu Hs).length=true:=g3
  obtain⟨lt,q4,q5⟩:=q7t 13 97 (by omega)
  have q4:u3t (13,97)=some lt:=q4
  have hrd:=fun i=>p6i m2 i
  simp only[c0,c1,Ad,Bh]
  cases decide (y1=0) with
  | true=>
   simp only[Ad]
   rw[g4,gl]
   simp only[Ad]
   exact⟨_,_,rfl,k3,by rw[Dq];exact m1,r2v m2 (hrd _)⟩
  | false=>
  simp only[Aa]
  cases decide (y1=1) with
  | true=>
   simp only[Ad]
   rw[g3,gl]
   simp only[Ad]
   exact⟨_,_,rfl,k3,by rw[Dq];exact m1,r2v m2 ⟨p1r _ _ _ _ (by decide) (by decide) (by decide),(hrd _).2⟩⟩
  | false=>
  simp only[Aa]
  cases decide (y1=2) with
  | true=>
   simp only[Ad]
   rw[gl]
   simp only[Ad]
   exact⟨_,_,rfl,k3,by rw[Dq];exact m1,r2v m2 (hrd _)⟩
  | false=>
  simp only[Aa]
  cases decide (y1=3) with
  | true=>
   simp only[Ad,q4,zOb]
   rw[gl]
   simp only[Ad]
   exact⟨_,_,rfl,k3,by rw[Dq];exact m1,r2v m2 ⟨(hrd _).1,by show lt.size≤100;omega⟩⟩
  | false=>
   simp only[Aa]
   exact⟨_,_,rfl,k3,m1,m2⟩
theorem p4q {s:Src} (h:s.ok):∃(b:u0k) (s' :Src),t3s s=some (b,s')∧s'.ok∧BaseR b∧b.2.2.2.1≤25∧b.2.2.2.2≤26∧DomB b:=by
 obtain⟨st,c1,e2,k2,r2⟩:=r62 24 (by omega) h
 have e2:u3u (s,24)=some (st,c1):=e2
 have hn:=r2.num
 have e:((24+1:Nat):Int)=25:=rfl
 refine⟨st.1.1,c1,?_,k2,r2.eng.base,by have:=hn.1;omega,by have:=hn.2;omega,r2.dom.base⟩
 rw[q0p];unfold s8r
 simp only[e2,zOb]
theorem p7u {s:Src} (h:s.ok):∃(b:u0k) (s' :Src),t3s s=some (b,s')∧s'.ok∧BaseR b∧b.2.2.2.1≤25∧b.2.2.2.2≤26:=by
 obtain⟨b,s',h1,h2,h3,h4,h5,_⟩:=p4q h
 exact⟨b,s',h1,h2,h3,h4,h5⟩
theorem q7a {l:Hu u0f} {t:u0f} {n:Nat} (h:∀x∈l,tinyT x) (ht:tinyT t):∀x∈l++ [t],tinyT x:=fun x hx=>by
 rcases Ay.mp hx with q | q
 ·exact h x q
 ·rw[Ax.mp q];exact ht
theorem p0e {s:Src} (h:s.ok):Dr (s1q s) (fun b=>tinyB b∧ -1000000≤b.2.2.2.1∧b.2.2.2.1≤100000):=by
 obtain⟨y1,s1,e1,k1,r1⟩:=u1e h (n:=14) (by omega)
 obtain⟨y2,s2,e2,k2,r2⟩:=u1e k1 (n:=60) (by omega)
 obtain⟨b,s3,e3,k3,hB,hc,hn⟩:=p7u k2
 have hT:=hB.tiny
 have hc0:=hB.cs
 have hp:=hB.plen
 have hr:=hB.rlen
 have e4:=t09 b hT.few
 have g4:=q38 r2.1 (n:=4) (by omega)
 have g4:y4l (Int.tmod y2 4) ([(0:Int),1,9999,10000] :Hu Int).length=true:=g4
 rw[q3z];unfold r1f
 simp only[e1,e2,e3,e4,zOb]
 have hbd: -1000000≤b.2.2.2.1∧b.2.2.2.1≤100000:=by omega
 cases decide (y1=0) with
 | true=>
  simp only[Ad]
  rw[g4]
  refine⟨_,_,rfl,k3,⟨hT.vl,hT.vs,hT.pl,hT.ps,hT.rl,hT.rs⟩,?_⟩
  have hq:=s7a r2.1 (n:=4) (by omega)
  have:(Int.tmod y2 4).toNat=0∨(Int.tmod y2 4).toNat=1∨(Int.tmod y2 4).toNat=2∨(Int.tmod y2 4).toNat=3:=by omega
  show -1000000≤rdL (Ty.int .i64) _ _∧rdL (Ty.int .i64) _ _≤100000
  rcases this with q | q | q | q<;>rw[q] <;>decide
 | false=>
 simp only[Aa]
 cases decide (y1=1) with
 | true=>exact⟨_,_,rfl,k3,⟨hT.vl,hT.vs,hT.pl,hT.ps,hT.rl,hT.rs⟩,hbd⟩
 | false=>
 simp only[Aa]
 cases decide (y1=2) with
 | true=>
  obtain⟨t,s5,e5,k5,m5⟩:=q2s k3
  simp only[Ad,e5,zOb,Aw,u07 (show b.2.1.length+1≤1099511627776 by omega)]
  exact⟨_,_,rfl,k5,⟨hT.vl,hT.vs,by show(b.2.1++ [t]).length≤1000;simp;omega,q7a (n:=0) hT.ps (m5.tiny (by omega)),hT.rl,hT.rs⟩,hbd⟩
 | false=>
 simp only[Aa]
 cases decide (y1=3) with
 | true=>
  obtain⟨t,s5,e5,k5,m5⟩:=q2s k3
  simp only[Ad,e5,zOb,Aw,u07 (show b.2.2.1.length+1≤1099511627776 by omega)]
  exact⟨_,_,rfl,k5,⟨hT.vl,hT.vs,hT.pl,hT.ps,by show(b.2.2.1++ [t]).length≤1000;simp;omega,q7a (n:=0) hT.rs (m5.tiny (by omega))⟩,hbd⟩
 | false=>
 simp only[Aa]
 cases decide (y1=4) with
 | true=>
  obtain⟨l,s5,e5,k5,m5,m6⟩:=p0l k3
  simp only[Ad,e5,zOb]
  exact⟨_,_,rfl,k5,⟨by show l.length≤10000;omega,m6,hT.pl,hT.ps,hT.rl,hT.rs⟩,hbd⟩
 | false=>exact⟨_,_,rfl,k3,hT,hbd⟩
end
section
theorem Ser.start {e:u08} (hE:EngR e) (h1:e.1.2.1= []) (h2:e.1.2.2.1= []) (h3:e.2= []):Ser [] e:=by
 have np:∀ {P:Prop} {x:u0f},x∈e.1.2.1→P:=fun {P} {x} hx=>by rw[h1] at hx;cases hx
 have nr:∀ {P:Prop} {x:u0f},x∈e.1.2.2.1→P:=fun {P} {x} hx=>by rw[h2] at hx;cases hx
 have nh:∀ {P:Prop} {x:u0f},x∈([] :Hu u0f)→P:=fun {P} {x} hx=>by cases hx
 exact⟨hE,fun x hx=>nh hx,fun x hx=>nh hx,List.Pairwise.nil,by rw[h2,h3];exact List.Pairwise.nil,fun x hx=>nh hx,fun x hx=>np hx,fun x hx=>nh hx,fun x hx=>np hx,fun x hx=>nr hx,
  fun x hx=>nh hx,fun x hx=>nh hx,fun x hx=>nr hx,fun x hx=>nr hx,fun x hx=>nr hx,fun x hx=>nh hx,fun x hx=>nr hx,fun x hx=>nr hx⟩
theorem p9u:∃s,u8h ()=some s∧LifeN 0 [] s:=by
 obtain⟨d,h1,h2,h3⟩:=s9t
 have h0:t0w ()=some (r8l, []):=by
  rw[s2v];unfold t4m
  rw[t8y];rfl
 have hE:EngR ((r8l, []):u08):=o0c.mp (by decide)
 have hL:Like0 r8l r8l:=⟨by decide,rfl,rfl,rfl⟩
 have hN:NlE ((r8l, []):u08):=⟨(fun v hv=>by cases hv),(fun t ht=>by cases ht),(fun t ht=>by cases ht)⟩
 refine⟨((r8l, []),d),?_,⟨⟨Ser.start hE rfl rfl rfl,⟨r8l,⟨hE,h2,by rw[h3];rfl,q6n,hL⟩,fun x hx=>by cases hx⟩,⟨?_,fun x hx=>by cases hx⟩,by simp⟩,hN⟩⟩
 ·rw[s5l];unfold t56
  simp only[h0,h1,zOb]
 ·refine q4g (p0a (q6t _) _) (r6o _ _ _) fun k v=> ?_
  rw[r2m _ _ _ _ _ (fun x hx=>by cases hx)]
  constructor
  ·intro q
   have:=(A6.mp q).1
   cases this
  ·rintro⟨_,x,hx,_⟩
   cases hx
theorem o6c {es:Hu p62.den} (z:o3u.den) (hn:es.length≤90) (he:∀e∈es,EvN e):∀(d i:Nat),i+d=es.length→u5b (es,z,true,(i:Int))=some (.inl (es,z,true)):=by
 intro d
 induction d with
 | zero=>
  intro i hi
  rw[s0v];simp only[u8x,u0b,show ¬i<es.length by omega,Ah,Aa,zOb]
 | succ d ih=>
  intro i hi
  have hlt:i<es.length:=by omega
  rw[s0v]
  simp only[u8x,u0b,hlt,Ae,Ad,y7s hlt,zTn,y8l (t:=p62) hlt,p0h (he _ (Ag hlt)).1,zOb]
  rw[y7j (by omega)]
  exact ih (i+1) (by omega)
structure SaidN (n:Nat) (r:r9k):Prop where
 cl:r.1.length=n
 sl:r.2.length=n
 cr:∀c∈r.1,smc c
 sr:∀t∈r.2,okS t
theorem SaidN.snoc {n:Nat} {r:r9k} (h:SaidN n r) {c:Int} {t:Hs} (hc:smc c) (ht:okS t):SaidN (n+1) (r.1++ [c],r.2++ [t]):=by
 refine⟨by rw[Ba,Aw,h.cl],by rw[Ba,Aw,h.sl],fun x hx=> ?_,fun x hx=> ?_⟩
 ·rcases Ay.mp hx with hx | hx
  ·exact h.cr x hx
  ·rw[Ax.mp hx];exact hc
 ·rcases Ay.mp hx with hx | hx
  ·exact h.sr x hx
  ·rw[Ax.mp hx];exact ht
theorem o3b {es:Hu p62.den} (z:o3u.den) (hn:es.length≤90) (he:∀e∈es,EvN e):∀(d i:Nat) {H:Hu u0f} {s:u0p} {r:r9k},i+d=es.length→LifeN i H s→SaidN i r→
 ∃(H' :Hu u0f) (s' :u0p) (r' :r9k),u4m (es,z,(s,H,r),(i:Int))=some (.inl (z,(s',H',r')))∧LifeN es.length H' s' ∧SaidN es.length r' :=by
 intro d
 induction d with
 | zero=>
  intro i H s r hi hL hS
  have hi:i=es.length:=by omega
  refine⟨H,s,r,?_,by rw[←hi];exact hL,by rw[←hi];exact hS⟩
  rw[t8l];simp only[u7g,u0b,show ¬i<es.length by omega,Ah,Aa]
 | succ d ih=>
  intro i H s r hi hL hS
  have hlt:i<es.length:=by omega
  obtain⟨h1,h2⟩:=he _ (Ag hlt)
  obtain⟨code,said,H',s',e1,e2,e3,e4⟩:=DoN hL (by omega) r h1 h2
  have b1:Nat.ble (r.1.length+ [code].length) z8x=true:=r9p (by rw[Aw,hS.cl];omega)
  have b2:Nat.ble (r.2.length+ [said].length) z8x=true:=r9p (by rw[Aw,hS.sl];omega)
  rw[t8l]
  simp only[u7g,u0b,hlt,Ae,Ad,y7s hlt,zTn,y8l (t:=p62) hlt,e1,zOb,b1,b2]
  rw[y7j (by omega)]
  exact ih (i+1) (by omega) e2 (hS.snoc e3 e4)
theorem p91 {l:Hu Int} (hl:l.length≤1048576):∃(H:Hu u0f) (s:u0p) (r:r9k) (n:Nat),u9j l=some (s,H,r)∧LifeN n H s∧SaidN n r∧n≤74:=by
 obtain⟨es,d1,d2,d3⟩:=p7y (l:=l) hl
 obtain⟨s0,e0,h0⟩:=p9u
 have w0:t6y ()=some (s0, [], [], []):=by
  rw[r7u];unfold s45
  simp only[e0,zOb]
 have hs0:SaidN 0 (([], []):r9k):=⟨rfl,rfl,(fun x hx=>by cases hx),(fun x hx=>by cases hx)⟩
 obtain⟨H,s,r,e1,hL,hS⟩:=o3b (es:=es) ((((([], [], [],0,0), []),([], [])),([], [], [])):o3u.den) (by omega) d3 es.length 0 (H:= []) (s:=s0) (r:=([], [])) (by omega) h0 hs0
 have e2:=o6c (es:=es) ((((([], [], [],0,0), []),([], [])),([], [], [])):o3u.den) (by omega) d3 es.length 0 (by omega)
 have e1:u4m (es,((((([], [], [],0,0), []),([], [])),([], [], [])):o3u.den),(s0, [],([], [])),(0:Int))=_:=e1
 have e2:u5b (es,((((([], [], [],0,0), []),([], [])),([], [], [])):o3u.den),true,(0:Int))=_:=e2
 have e3:t6w es=some ((s,H,r),true):=by
  rw[r7r];unfold s41
  have d:decide ((es.length:Int)≤90)=true:=Bb (by omega)
  simp only[d,e2,w0,e1,zOb,Ap,Aa]
 refine⟨H,s,r,es.length,?_,hL,hS,d2⟩
 rw[s7g];unfold t43
 rw[r75];unfold s5g
 simp only[d1,e3,zOb]
end
section
theorem sr (t:Hs):z7l t t=true:=by simp[z7l]
end
section
def o0x (e:u08):Prop:=tinyB e.1∧p00 e.2
def small2 (e:u08):Prop:=o0x e∧e.1.2.2.2.1≤1000000
theorem EngR.small2 {e:u08} (h:EngR e):Ab.small2 e:=⟨⟨h.tinyO,h.fewO⟩,by have:=h.base.cs;omega⟩
theorem p7x {s:Src} (h:s.ok):Dr (s1r s) small2:=by
 obtain⟨y1,s1,e1,k1,r1⟩:=u1e h (n:=12) (by omega)
 obtain⟨y2,s2,e2,k2,r2⟩:=u1e k1 (n:=60) (by omega)
 obtain⟨st,s3,e3,k3,hS⟩:=r62 22 (by omega) k2
 have e3:u3u (s2,22)=some (st,s3):=e3
 have e3:t4w s2=some (st.1,s3):=by
  rw[r55];unfold s2q
  simp only[e3,zOb]
 have hE:=hS.eng
 have e4:u0l st.1=some st.1:=u2z st.1.1 st.1.2 hE.fewB hE.fewO
 have ho:=hE.olen
 have hs2:=hE.small2
 have hsm:=hs2.1
 have hcs:=hs2.2
 rw[q31];unfold r1h
 simp only[e1,e2,e3,e4,zOb]
 cases decide (y1=0) with
 | true=>
  obtain⟨b,s5,e5,k5,m5,m6⟩:=p0e k3
  simp only[Ad,e5,zOb]
  exact⟨_,_,rfl,k5,⟨m5,hsm.2⟩,by show b.2.2.2.1≤1000000;have:=m6.2;omega⟩
 | false=>
 simp only[Aa]
 cases decide (y1=1) with
 | true=>
  obtain⟨t,s5,e5,k5,m5⟩:=q2s k3
  simp only[Ad,e5,zOb,Aw,u07 (show st.1.2.length+1≤1099511627776 by omega)]
  exact⟨_,_,rfl,k5,⟨hsm.1,⟨by show(st.1.2++ [t]).length≤4194304;simp;omega,fun x hx=>by
   rcases Ay.mp hx with q | q
   ·exact hsm.2.2 x q
   ·rw[Ax.mp q];exact(m5.tiny (by omega)).few⟩⟩,hcs⟩
 | false=>
 simp only[Aa]
 cases decide (y1=2) with
 | true=>
  simp only[Ad]
  by_cases h0:st.1.2.length=0
  ·have c0:decide ((st.1.2.length:Int) >0)=false:=A7 (by omega)
   rw[c0]
   exact⟨_,_,rfl,k3,hs2⟩
  ·have c0:decide ((st.1.2.length:Int) >0)=true:=Bb (by omega)
   have g0:y4l (0:Int) st.1.2.length=true:=y7s (i:=0) (by omega)
   rw[c0,g0]
   refine⟨_,_,rfl,k3,⟨hsm.1,⟨by show(List.set _ _ _).length≤4194304;rw[Dq];omega,fun x hx=> ?_⟩⟩,hcs⟩
   rcases E0 hx with q | rfl
   ·exact hsm.2.2 x q
   ·have hk:0<st.1.2.length:=by omega
    have e0:rdL u1f st.1.2 ((0:Int)).toNat=st.1.2[0] :=y8l (t:=u1f) hk
    have:=hsm.2.2 _ (Ag hk)
    rw[e0]
    exact this
 | false=>
 simp only[Aa]
 cases decide (y1=3) with
 | true=>
  have key:∀(d x:Nat) (e:u08) (j:u08),EngR e→x≤70→71≤x+d→ ∃e',EngR e' ∧(u4d (s3,j,(x:Int),e)=some (.inl (s3,j,e'))∨u4d (s3,j,(x:Int),e)=some (.inr (s3,e'))):=by
   intro d
   induction d with
   | zero=>intro x e j _ h1 h2;omega
   | succ d ih=>
    intro x e j hE hx hd
    have e0:u4d (s3,j,(x:Int),e)=_:=r6e _
    rw[e0]
    by_cases c:(e.2.length:Int)<4
    ·have hb:=q2x hE
     simp only[t0l,c,Ae,Ad,r27 hE,zOb]
     rw[y7j (by omega)]
     by_cases c2:(((x+1:Nat)):Int) >70
     ·simp only[c2,Ae,Ad]
      exact⟨_,hb, .inr rfl⟩
     ·simp only[c2,Ah,Aa]
      exact ih (x+1) _ j hb (by omega) (by omega)
    ·simp only[t0l,c,Ah,Aa]
     exact⟨e,hE, .inl rfl⟩
  obtain⟨m,hm⟩:∃m:Nat,y2=(m:Int):=⟨y2.toNat,by omega⟩
  obtain⟨e',hE',hor⟩:=key (71 - m) m st.1 ((([], [], [],0,0):u0k), []) hE (by omega) (by omega)
  simp only[Ad]
  rw[hm]
  rcases hor with q | q
  ·rw[q];exact⟨_,_,rfl,k3,hE'.small2⟩
  ·rw[q];exact⟨_,_,rfl,k3,hE'.small2⟩
 | false=>exact⟨_,_,rfl,k3,hs2⟩
def p8v (s:u0p):Prop:=small2 s.1
theorem p2p {s:Src} (h:s.ok):Dr (s1s s) p8v:=by
 obtain⟨y1,s1,e1,k1,r1⟩:=u1e h (n:=12) (by omega)
 obtain⟨st,s3,e3,k3,hS⟩:=r62 22 (by omega) k1
 have e3:u3u (s1,22)=some (st,s3):=e3
 have hE:=hS.eng
 have hw:=u7s hS.log
 have e4:=q1d hE hw
 rw[q33];unfold r1j
 simp only[e1,e3,e4,zOb]
 cases decide (y1=0) with
 | true=>
  obtain⟨e,s5,e5,k5,m5⟩:=p7x k3
  simp only[Ad,e5,zOb]
  exact⟨_,_,rfl,k5,m5⟩
 | false=>
 simp only[Aa]
 cases decide (y1=1) with
 | true=>
  obtain⟨d,s5,e5,k5,m5⟩:=p0g k3
  simp only[Ad,e5,zOb]
  exact⟨_,_,rfl,k5,hE.small2⟩
 | false=>exact⟨_,_,rfl,k3,hE.small2⟩
end
section
theorem q9j {n:Int} (h:n≤9223372036854775807):nlc (p8g n)=0:=q5o (r2f h).1
theorem q9h:∀k:Nat,k<16→UInt8.ofNat (fig k).toNat≠10:=by decide
theorem p77 (s:Hs):nlc (q9q s).1=0:=by
 unfold q9q
 split
 ·exact(by decide:nlc (⟨#[]⟩:Hs)=0)
 ·show nlc (y7e (q6c s.data.toList))=0
  unfold nlc y7e
  refine List.count_eq_zero.mpr fun m=> ?_
  have m:(10:UInt8)∈(q6c s.data.toList).map fun n=>UInt8.ofNat n.toNat:=by simpa using m
  obtain⟨x,hx,e⟩:=Bx.mp m
  unfold q6c at hx
  obtain⟨b,_,hb⟩:=List.mem_flatMap.mp hx
  have l:b.toNat<256:=Fw _
  unfold o1y at hb
  simp only[A8,Ep,Em] at hb
  rcases hb with rfl | rfl
  ·exact q9h _ (by omega) e
  ·exact q9h _ (by omega) e
theorem p43 {p:o20.den} (h:nlc p.1=0):nlc (s58 p)=1:=by
 have y1:nlc (⟨#[61]⟩:Hs)=0:=by decide
 have y2:nlc (⟨#[10]⟩:Hs)=1:=by decide
 unfold s58
 simp only[t8x,h,p77,y1,y2]
theorem q5p:∀(l:Hu o20.den) (a:Hs),(∀p∈l,nlc p.1=0)→nlc (l.foldl (fun a p=>a++s58 p) a)=nlc a+l.length
 | [],a,_=>by simp
 | p::l,a,h=>by
  rw[Bs,q5p l _ fun q hq=>h q (Bm _ hq),t8x,p43 (h p (C9 ..)),Bc]
  omega
theorem q72 {l:Hu o20.den} (h:∀p∈l,nlc p.1=0):nlc (s1d l)=l.length:=by
 have:=q5p l ⟨#[]⟩ h
 have e:nlc (⟨#[]⟩:Hs)=0:=by decide
 unfold s1d
 omega
theorem p42 {s:p93.den} (h:SmallS s):nlc (r8a s)=1:=by
 have y1:nlc (⟨#[99,115,32]⟩:Hs)=0:=by decide
 have y2:nlc (⟨#[32,111,112,101,110,32]⟩:Hs)=0:=by decide
 have y3:nlc (⟨#[32,114,101,97,100,121,32]⟩:Hs)=0:=by decide
 have y4:nlc (⟨#[10]⟩:Hs)=1:=by decide
 unfold r8a
 simp only[t8x,q9j h.cs,q9i,y1,y2,y3,y4]
theorem p44 {l:Hu Hs} (h:∀t∈l,nlc t=0) (i:Nat):nlc (s6j l i)=0:=by
 unfold s6j
 split
 ·rename_i c
  rw[y8l (t:=Ty.str) c.1]
  exact h _ (Ag c.1)
 ·exact(by decide:nlc (⟨#[46]⟩:Hs)=0)
theorem q1p {w:o3u.den} (h:SmallW w) (hs:∀t∈w.2.2.2,nlc t=0):∀n:Nat,n≤w.2.2.1.length→nlc (t38 w n)=n
 | 0,_=>(by decide:nlc (⟨#[]⟩:Hs)=0)
 | n+1,hn=>by
  have y1:nlc (⟨#[32]⟩:Hs)=0:=by decide
  have y2:nlc (⟨#[10]⟩:Hs)=1:=by decide
  have e:t38 w (n+1)=t38 w n++q4d w n:=rfl
  rw[e,t8x,q1p h hs n (by omega)]
  unfold q4d
  simp only[t8x,q9j (s61 h (show n<w.2.2.1.length by omega)),p44 hs,y1,y2]
theorem bsz (s:Hs):s.data.toList.length=s.size:=B6
theorem q97 (a t:Hs):(a++t).extract a.size (a++t).size=t:=by
 rw[s5o _ _ _ (Au _)]
 apply Gf
 have e1:(a++t).data.toList=a.data.toList++t.data.toList:=by rw[Ft,Ha]
 have e3:(a++t).size - a.size=t.data.toList.length:=by rw[Af,bsz];omega
 have e4:(a.data.toList++t.data.toList).drop a.size=t.data.toList:=by rw[←bsz a,Hg]
 rw[e1,e3,e4,Cq]
theorem p45 (x:Hu Int) (w:o3u.den) (s t:Hs) (b:u0k) (u:Hs) (hs:s.size≤4000000000000000000):∀(d i:Nat),i+d=s.size→
 ∃z,u31 (x,w,s,t,b,u,(((s.data.toList.take i).count 10:Nat):Int),(i:Int))=some (.inl z)∧
  z=(x,(w.1.1.1.1,w.1.1.1.2.1,w.1.1.1.2.2.1,w.1.1.1.2.2.2.1,w.1.1.1.2.2.2.2,w.1.1.2,w.1.2.1,w.1.2.2,w.2),s,t,b,u,((nlc s:Nat):Int)):=by
 intro d
 induction d with
 | zero=>
  intro i hi
  refine⟨_,?_,rfl⟩
  rw[t63]
  simp only[u5o,u0b,show ¬i<s.size by omega,Ah,Aa]
  have e:s.data.toList.take i=s.data.toList:=List.take_of_length_le (by rw[bsz];omega)
  rw[e];rfl
 | succ d ih=>
  intro i hi
  have hlt:i<s.size:=by omega
  have hll:i<s.data.toList.length:=by rw[bsz];exact hlt
  obtain⟨z,h1,h2⟩:=ih (i+1) (by omega)
  refine⟨z,?_,h2⟩
  rw[←h1]
  have ct:(s.data.toList.take (i+1)).count 10=(s.data.toList.take i).count 10+(if s.data.toList[i] =10 then 1 else 0):=by
   rw[B9 hll,List.count_append,List.count_singleton]
   simp only[Hq]
  have cl:(s.data.toList.take i).count 10≤i:=A9 List.count_le_length (by rw[Ec];omega)
  rw[t63]
  simp only[u5o,u0b,hlt,Ae,Ad,y7s hlt,zTn,r6i hlt]
  rw[y7j (show i<4611686018427387904 by omega)]
  by_cases c:s.data.toList[i] =10
  ·have c1:decide ((s.data.toList[i].toNat:Int)=10)=true:=by rw[c];decide
   rw[c1,Ad,y7j (by omega),ct,Al c]
  ·have c1:decide ((s.data.toList[i].toNat:Int)=10)=false:=A7 fun q=>c (by
    have q:s.data.toList[i].toNat=(10:UInt8).toNat:=by show _=10;omega
    exact UInt8.toNat_inj.mp q)
   rw[c1,Aa,ct,Ao c]
   rfl
theorem LifeN.small {k:Nat} {H:Hu u0f} {s:u0p} (h:LifeN k H s):SmallS s:=by
 have hE:=h.ser.eng
 obtain⟨h1,_,h3⟩:=p4m.mp hE.base.vs
 refine⟨Int.le_trans hE.base.cs.2 (by decide),by omega,fun v hv=> ?_,by have:=hE.olen;omega,by have:=hE.base.rlen;omega⟩
 have:=h1 v hv
 unfold s7k at this
 simp only[Ai] at this
 have:=(u1w this.1).2
 omega
theorem LifeN.keys {k:Nat} {H:Hu u0f} {s:u0p} (h:LifeN k H s):∀p∈t4a s,nlc p.1=0:=by
 intro p hp
 unfold t4a u9x at hp
 obtain⟨q,hq,rfl⟩:=Bx.mp hp
 have hq:=((t1f _).2 q).mp (A6.mp hq).1
 obtain⟨v,hv,rfl⟩:=Bx.mp hq
 have:=(p4m.mp h.ser.eng.base.vs).1 v hv
 unfold s7k at this
 simp only[Ai] at this
 exact q71 this.1
theorem p9q {l:Hu Int} (hl:l.length≤1048576):∃y,u9i l=some y∧SmallS y:=by
 obtain⟨c,e1,k1⟩:=p2j hl
 obtain⟨y,c2,e2,k2,⟨⟨m1,m2⟩,m3⟩⟩:=p2p k1
 refine⟨y,?_,⟨Int.le_trans m3 (by decide),by have:=m1.vl;omega,fun v hv=>by have:=(m1.vs v hv).1;omega,m2.1,by have:=m1.rl;omega⟩⟩
 rw[s7f];unfold t42
 simp only[e1,e2,zOb]
theorem p9p {l:Hu Int} (hl:l.length≤1048576):∃y:Hu o20.den,u9h l=some y∧y.length≤1048576∧ ∀p∈y,p.1.size≤1048576:=by
 obtain⟨c,e1,k1⟩:=p2j hl
 obtain⟨vs,c2,e2,k2,m1,m2⟩:=p2s k1
 have hall:t2g ()=some r9c:=by rw[r1v];rfl
 have e3:=s9v vs r9c 9 (by omega)
 refine⟨u9x vs r9c 9,?_,?_,fun p hp=> ?_⟩
 ·rw[s7e];unfold t41
  simp only[e1,e2,hall,e3,zOb]
 ·unfold u9x
  rw[Da]
  refine A9 (Cs _ _) (A9 (t9y _) ?_)
  rw[Da];omega
 ·unfold u9x at hp
  obtain⟨q,hq,rfl⟩:=Bx.mp hp
  have hq:=((t1f _).2 q).mp (A6.mp hq).1
  obtain⟨v,hv,rfl⟩:=Bx.mp hq
  have q:v.1.size≤100:=(m2 v hv).1
  have q2:v.1.size≤1048576:=by omega
  exact q2
theorem q4c (x:Hu Int) (hx:(Ty.sl (.int .u8)).fine x):s3r x=some true:=by
 rw[r5m];unfold s17
 rw[p0y];unfold q1i
 simp only[zOb]
 by_cases hb:(x.length:Int) >1048576
 ·simp only[hb,Ae,Ad]
 simp only[hb,Ah,Aa]
 obtain⟨H,s,r,n,d1,hL,hS,hn⟩:=p91 (l:=x) (by omega)
 have hs:=hL.small
 have hw:SmallW (s,H,r):=⟨hs,by show r.1.length≤_;rw[hS.cl];omega,fun c hc=>by have:=(hS.cr c hc).2;exact Int.le_trans this (by decide),fun t ht=>by have:=(hS.sr t ht).2;omega,by show r.2.length≤_;rw[hS.sl];omega⟩
 have qa:s66 ()=some r9c:=by rw[p0x];rfl
 have qs:u4u (s.1.1.1,r9c,s.1.1.2.2.2.1)=some (t4a s):=s9v s.1.1.1 r9c _ (by have:=hs.vl;omega)
 have qp:=t8t (t4a s) hs.pairs.1 hs.pairs.2
 have q1:=r9m hw
 have q2:=r9n hw
 have q3:=t8u hs
 obtain⟨y,q5,hy⟩:=p9q (l:=x) (by omega)
 obtain⟨l,q6,hl1,hl2⟩:=p9p (l:=x) (by omega)
 have q7:=t8u hy
 have q8:=s7r hy
 have q9:=t8t l hl1 hl2
 have q10:=s7q l hl1 hl2
 obtain⟨a,ha⟩:∃a,a=t38 (s,H,r) r.1.length:=⟨_,rfl⟩
 obtain⟨U,hU⟩:∃U,U=s1d (t4a s):=⟨_,rfl⟩
 obtain⟨T,hT⟩:∃T,T=p1n s:=⟨_,rfl⟩
 obtain⟨S,hSS⟩:∃S,S=p8p (s,H,r):=⟨_,rfl⟩
 have eT:T=r8a s++U:=by rw[hT,hU];rfl
 have eS:S=a++T:=by rw[hSS,ha,hT];rfl
 have la:a.size≤100*1048600:=by
  have k1:a.size≤r.1.length*1048600:=by rw[ha];exact t2v hw r.1.length (Au _)
  have k2:r.1.length*1048600≤100*1048600:=Bo _ (by rw[hS.cl];omega)
  exact A9 k1 k2
 have lT:T.size≤4000000000000:=by rw[hT];exact r35 hs
 have zS:S.size=a.size+T.size:=by rw[eS,Af]
 have zT:T.size=(r8a s).size+U.size:=by rw[eT,Af]
 have cU:nlc U=(t4a s).length:=by rw[hU];exact q72 hL.keys
 have ca:nlc a=n:=by
  rw[ha,q1p hw (fun t ht=>(hS.sr t ht).1) _ (Au _),hS.cl]
 have cS:nlc S=n+1+(t4a s).length:=by rw[eS,t8x,eT,t8x,ca,cU,p42 hs];omega
 have x1:S.extract a.size S.size=T:=by rw[eS];exact q97 a T
 have x2:T.extract (r8a s).size T.size=U:=by rw[eT];exact q97 _ U
 have w1:IntKind.i64.wrap ((S.size:Int) - (T.size:Int))=(a.size:Int):=by rw[y4u (by omega) (by omega)];omega
 have w2:IntKind.i64.wrap ((T.size:Int) - (U.size:Int))=((r8a s).size:Int):=by rw[y4u (by omega) (by omega)];omega
 have g1:decide ((S.size:Int)≥(T.size:Int))=true:=Bb (by omega)
 have g2:decide ((T.size:Int)≥(U.size:Int))=true:=Bb (by omega)
 have g3:decide ((0:Int)≤(a.size:Int))=true:=Bb (by omega)
 have g4:decide ((a.size:Int)≤(S.size:Int))=true:=Bb (by omega)
 have g5:decide ((S.size:Int)≤(S.size:Int))=true:=Bb (by omega)
 have g6:decide ((0:Int)≤((r8a s).size:Int))=true:=Bb (by omega)
 have g7:decide (((r8a s).size:Int)≤(T.size:Int))=true:=Bb (by omega)
 have g8:decide ((T.size:Int)≤(T.size:Int))=true:=Bb (by omega)
 have hpl:=hs.pairs.1
 have w3:IntKind.i64.wrap ((r.1.length:Int)+1)=((n+1:Nat):Int):=by rw[hS.cl];exact y7j (by omega)
 have w4:IntKind.i64.wrap (((n+1:Nat):Int)+((t4a s).length:Int))=((n+1+(t4a s).length:Nat):Int):=by rw[y4u (by omega) (by omega)];omega
 have e0:∀b:Hs,z7l b b=true:=fun b=>y7d.mpr rfl
 obtain⟨z,c1,c2⟩:=p45 x (s,H,r) S T s.1.1 U (by omega) S.size 0 (by omega)
 rw[c2] at c1
 have c1:u31 (x,(s,H,r),S,T,s.1.1,U,(0:Int),(0:Int))=_:=c1
 rw[←hSS] at q1 q2
 rw[←hT] at q3
 rw[←hU] at qp
 have d5:decide (((nlc S:Nat):Int)=((n+1+(t4a s).length:Nat):Int))=true:=by rw[cS];exact Bb rfl
 simp only[d1,q1,q2,q3,qa,qs,qp,c1,q5,q6,q7,q8,q9,q10,e0,g1,g2,w1,w2,g3,g4,g5,g6,g7,g8,x1,x2,w3,w4,d5,zTn,Dt,zOb,Ad]
end
end
end Go.Proofs.YtdeadnnhblaflaaGreatDoor.Ab
