import Derived.Test.YtkdpclfhapphhaaGreatAbSoundWorldT3
import Derived.Test.YtkdpclfhapphhaaGreatAbK2
import Derived.Test.YtkdpclfhapphhaaGreatAbF4
import Derived.Test.YtkdpclfhapphhaaGreatAbS2
namespace Go.Proofs.YtkdpclfhapphhaaGreat.Ab
open Go
set_option linter.unusedVariables false
set_option linter.unusedSimpArgs false
set_option linter.unnecessarySimpa false
section
section
theorem o37 {E:Type} (f:E→Nat):∀(l:Hu E),∀x∈l,f x≤(l.map f).sum
 | [],x,h=>by cases h
 | y::l,x,h=>by
  simp only[C8,Ge]
  rcases A8.mp h with rfl | h
  ·omega
  ·have:=o37 f l x h
   omega
theorem p6h {l:Hu u0i.den} (h:(Ty.sl u0i).wt l≤1048576):l.length≤1048576∧ ∀t∈l,p0p t:=by
 have e:(Ty.sl u0i).wt l=l.length+(l.map u0i.wt).sum:=rfl
 refine⟨by omega,fun t ht=> ?_⟩
 have h1:=o37 u0i.wt l t ht
 have h2:u0i.wt t≤1048576:=by omega
 have h3:t.2.2.2.2.1.length≤u0i.wt t:=by simp only[Ty.wt];omega
 have h4:t.2.2.2.2.2.1.length≤u0i.wt t:=by simp only[Ty.wt];omega
 exact⟨by omega,by omega⟩
theorem o1s (w:q5y.den) (hb:smallB w.1.1.1) (ho:p6k w.1.1.2):t8c w=some true:=by
 have hl:=hb.2.2.1
 have L:=s1i u53 w.1.1.1.2.2.1.length (fun(_:Unit) i=>(w,i)) (fun _ _=> .inl ()) (fun _ _=>True)
  (fun a _=>by rw[s3u];simp only[u8o,u0b,Am,Ah,Aa])
  (fun i a hi _=> .inr ⟨(),trivial,rfl,by
   obtain⟨k,hk,hr⟩:=p3k w.1.1.1 (n:=w.1.1.1.2.2.1[i].2.2.2.2.2.2.2) hi rfl
   obtain⟨e,r,code,hf,hc⟩:=p9f w.1.1.1 w.1.1.2 w.1.1.1.2.2.1[i].2.2.2.2.2.2.2 hb ho hk hr
   have hf:s1s (w.1.1,w.1.1.1.2.2.1[i].2.2.2.2.2.2.2,true)=some (e,r,code):=hf
   rw[s3u]
   simp only[u8o,u0b,hi,Ae,Ad,y7t hi,zTn,y8k (t:=u0i) hi,hf,zOb]
   rw[y7l (by omega)]
   rcases hc with rfl | rfl<;>rfl⟩) 0 () (Cn _) trivial
 have L:u53 (w,0)=_:=L
 rw[q4e];unfold s64
 simp only[L,zOb]
theorem o1r (w:q5y.den) (hb:smallB w.1.1.1) (ho:p6k w.1.1.2):t73 w=some true:=by
 have hl:=hb.2.2.1
 have hq:∀x∈w.1.1.1.2.2.1,u87 (x,w.1.1.1.1,w.1.1.1.2.1,w.1.1.1.2.2.1,w.1.1.1.2.2.2.1,w.1.1.1.2.2.2.2,w.1.1.2,w.1.2.1,w.1.2.2,w.2)=some false:=fun x hx=>by
  obtain⟨i,hi,rfl⟩:=B7 hx
  obtain⟨k,hk,hr⟩:=p3k w.1.1.1 (n:=w.1.1.1.2.2.1[i].2.2.2.2.2.2.2) hi rfl
  obtain⟨e,r,code,hf,hc⟩:=p9e w.1.1.1 w.1.1.2 w.1.1.1.2.2.1[i].2.2.2.2.2.2.2 hb ho hk hr
  rw[q0d];unfold s17
  simp only[hf,zOb]
  rcases hc with rfl | rfl<;>rfl
 have L:=Q.first (T:=u0i) (W:=u0q) (q:=u87) (p:=fun _=>false) (fun x=>u60 x) w.1.1.1.2.2.1 _ (by omega) hq
 have hn: ¬u1e (fun _:u0i.den=>false) w.1.1.1.2.2.1<w.1.1.1.2.2.1.length:=fun h=>by
  have:=s2e h
  cases this
 rw[Ao hn] at L
 rw[q30];unfold s6q
 simp only[s0a,u9w,u6s,u2k,u7x,u24,L,zOb]
 rfl
end
section
abbrev o7p:=(q5y.den×Hu PrT)⊕Bool
def r6g (l:Hu u0i.den) (i:Nat) (t:u0i.den):Bool:= !decide (t.2.1=3) || (decide (0<i)&&decide ((rdL u0i l (i - 1)).2.2.2.1≥t.2.2.2.1))
def p8a (l:Hu u0i.den) (i:Nat) (t:u0i.den) (m:Hu PrT):Hu PrT⊕o7p:=if r6g l i t=true then .inr (.inr false) else .inl (t3g m t.2.2.2.2.2.1)
def r6h (w:q5y.den) (m:Hu PrT):o7p:= .inl (w,m)
def p3e (w:q5y.den):o7p:=o2c (p8a w.2.1) (r6h w) 0 w.2.1 []
theorem o6i {α:Type} (f:α→Nat) (l:Hu α) (i:Nat) (h:i<l.length):((l.take (i+1)).map f).sum=((l.take i).map f).sum+f l[i] :=by
 rw[B9 h,Dh,Fn]
 simp
theorem q99 {α:Type} (f:α→Nat) (l:Hu α) (i:Nat):((l.take i).map f).sum≤(l.map f).sum:=by
 conv=>rhs;rw[←En i l]
 rw[Dh,Fn]
 omega
theorem p6g (t:u0i.den):(Ty.sl u0o).wt t.2.2.2.2.2.1≤u0i.wt t:=by
 simp only[Ty.wt]
 omega
theorem o4c (l:Hu u0i.den) (h:(l.map u0i.wt).sum≤100000000000) {i:Nat} (hi:i<l.length) {m:Hu PrT} (hm:(Ty.sl q3u).wt m≤((l.take i).map u0i.wt).sum):
 (Ty.sl q3u).wt (t3g m l[i].2.2.2.2.2.1)≤((l.take (i+1)).map u0i.wt).sum∧m.length+l[i].2.2.2.2.2.1.length≤400000000000:=by
 have h1:=p3f l[i].2.2.2.2.2.1 m
 have h2:=p6g l[i]
 have h3:=o6i u0i.wt l i hi
 have h4:=q99 u0i.wt l (i+1)
 have h5:=o1f (t:=q3u) (l:=m)
 have h6:=o1f (t:=u0o) (l:=l[i].2.2.2.2.2.1)
 exact⟨by omega,by omega⟩
theorem o2j (w:q5y.den) (h:(w.2.1.map u0i.wt).sum≤100000000000) (hl:w.2.1.length≤100000000000):u3q (w, [],0)=some (p3e w):=by
 refine p23 u3q w.2.1 (fun a i=>(w,a,i)) (p8a w.2.1) (r6h w) (fun i m=>(Ty.sl q3u).wt m≤((w.2.1.take i).map u0i.wt).sum)
  (fun a _=>by rw[s5o];simp only[t0q,u0b,Am,Ah,Aa];rfl)
  (fun i hi m hm=> ?_) [] (by simp[Ty.wt])
 obtain⟨p1,p2⟩:=o4c w.2.1 h hi hm
 have hw:u3q (w,m,(i:Int))=if r6g w.2.1 i w.2.1[i] =true then some (.inr false) else u3q (w,t3g m w.2.1[i].2.2.2.2.2.1,((i+1:Nat):Int)):=by
  rw[s5o]
  simp only[t0q,u0b,hi,Ae,Ad,y7t hi,zTn,y8k (t:=u0i) hi,q47 m w.2.1[i] p2,zOb]
  rw[y7l (by omega)]
  unfold r6g
  by_cases h1:w.2.1[i].2.1=3
  ·by_cases h2:0<i
   ·have e1:IntKind.i64.wrap ((i:Int) - 1)=((i - 1:Nat):Int):=by rw[y4y (by omega) (by omega)];omega
    have h3:decide ((i:Int) >0)=true:=by simp;omega
    simp only[h1,h2,h3,e1,Ae,Ap,Ad,Aa,y7t (show i - 1<w.2.1.length by omega),zTn,zOb,Ci,Bz]
    cases decide ((rdL u0i w.2.1 (i - 1)).2.2.2.1≥w.2.1[i].2.2.2.1)<;>simp
   ·have h3:decide ((i:Int) >0)=false:=by simp;omega
    simp[h1,h2,h3]
  ·simp[h1]
 unfold p8a
 by_cases hb:r6g w.2.1 i w.2.1[i] =true
 ·rw[Al hb] at hw ⊢;exact hw
 ·rw[Ao hb] at hw ⊢;exact⟨p1,hw⟩
theorem o2i (w:q5y.den) (h:(w.2.1.map u0i.wt).sum≤100000000000) (hl:w.2.1.length≤100000000000):u3p (w, [],w.2.1,(w.2.1.length:Int),0)=some (p3e w):=by
 refine p23 u3p w.2.1 (fun a i=>(w,a,w.2.1,(w.2.1.length:Int),i)) (p8a w.2.1) (r6h w) (fun i m=>(Ty.sl q3u).wt m≤((w.2.1.take i).map u0i.wt).sum)
  (fun a _=>by rw[s5h];simp only[t0j,u0b,Am,Ah,Aa];rfl)
  (fun i hi m hm=> ?_) [] (by simp[Ty.wt])
 obtain⟨p1,p2⟩:=o4c w.2.1 h hi hm
 have hw:u3p (w,m,w.2.1,(w.2.1.length:Int),(i:Int))=if r6g w.2.1 i w.2.1[i] =true then some (.inr false) else u3p (w,t3g m w.2.1[i].2.2.2.2.2.1,w.2.1,(w.2.1.length:Int),((i+1:Nat):Int)):=by
  rw[s5h]
  simp only[t0j,u0b,hi,Ae,Ad,y7t hi,zTn,y8k (t:=u0i) hi,q46 m w.2.1[i] p2,s9t,s9m,zOb]
  rw[y7l (by omega)]
  unfold r6g
  by_cases h1:w.2.1[i].2.1=3
  ·by_cases h2:0<i
   ·have e1:IntKind.i64.wrap ((i:Int) - 1)=((i - 1:Nat):Int):=by rw[y4y (by omega) (by omega)];omega
    have h3:decide ((i:Int) >0)=true:=by simp;omega
    simp only[h1,h2,h3,e1,Ae,Ap,Ad,Aa,y7t (show i - 1<w.2.1.length by omega),zTn,zOb,Ci,Bz]
    cases decide ((rdL u0i w.2.1 (i - 1)).2.2.2.1≥w.2.1[i].2.2.2.1)<;>simp
   ·have h3:decide ((i:Int) >0)=false:=by simp;omega
    simp[h1,h2,h3]
  ·simp[h1]
 unfold p8a
 by_cases hb:r6g w.2.1 i w.2.1[i] =true
 ·rw[Al hb] at hw ⊢;exact hw
 ·rw[Ao hb] at hw ⊢;exact⟨p1,hw⟩
theorem p91 (w:q5y.den) (h:(w.2.1.map u0i.wt).sum≤100000000000):p3e w= .inr false∨ ∃m:Hu PrT,p3e w=r6h w m∧m.length≤100000000000:=by
 have key:∀(d i:Nat) (m:Hu PrT),i+d=w.2.1.length→(Ty.sl q3u).wt m≤((w.2.1.take i).map u0i.wt).sum→
  o2c (p8a w.2.1) (r6h w) i (w.2.1.drop i) m= .inr false∨ ∃m' :Hu PrT,o2c (p8a w.2.1) (r6h w) i (w.2.1.drop i) m=r6h w m' ∧m'.length≤100000000000:=by
  intro d
  induction d with
  | zero=>
   intro i m hi hm
   rw[Dp (by omega)]
   refine .inr ⟨m,rfl,?_⟩
   have:=o1f (t:=q3u) (l:=m)
   have:=q99 u0i.wt w.2.1 i
   omega
  | succ d ih=>
   intro i m hi hm
   have hlt:i<w.2.1.length:=by omega
   rw[Ce hlt]
   simp only[o2c]
   unfold p8a
   by_cases hb:r6g w.2.1 i w.2.1[i] =true
   ·rw[Al hb];exact .inl rfl
   ·rw[Ao hb]
    exact ih (i+1) _ (by omega) (o4c w.2.1 h hlt hm).1
 have:=key w.2.1.length 0 [] (by omega) (by simp[Ty.wt])
 simpa[p3e] using this
def s2q (w:q5y.den):Bool:=match p3e w with
 | .inl o=>decide (r6x o.2 p0x=s5d w.1.1.1.1 p0x w.1.1.1.2.2.2.1)
 | .inr b=>b
theorem p0s (w:q5y.den) (h:q5y.wt w≤10000000):s0j w=some (s2q w)∧s0d w=some (s2q w):=by
 have hw:q5y.wt w=q2d.wt w.1+((Ty.sl u0i).wt w.2.1+((Ty.sl (Ty.int .i64)).wt w.2.2.1+(Ty.sl Ty.str).wt w.2.2.2)):=rfl
 have hp:(Ty.sl u0i).wt w.2.1=w.2.1.length+(w.2.1.map u0i.wt).sum:=rfl
 have h1:(w.2.1.map u0i.wt).sum≤100000000000:=by omega
 have h2:w.2.1.length≤100000000000:=by omega
 have hv:w.1.1.1.1.length≤10000000:=by
  have k1:q2d.wt w.1=(((Ty.sl u0c).wt w.1.1.1.1+((Ty.sl u0i).wt w.1.1.1.2.1+((Ty.sl u0i).wt w.1.1.1.2.2.1+(0+0))))+(Ty.sl u0i).wt w.1.1.2)+p4i.wt w.1.2:=rfl
  have k2:=o1f (t:=u0c) (l:=w.1.1.1.1)
  omega
 rw[q7c,q6r]
 unfold r1g r0x s2q
 simp only[o2j w h1 h2,o2i w h1 h2,zOb,q2t,s9n,r9h,s5r]
 rcases p91 w h1 with q | ⟨m,q,hm⟩
 ·rw[q];exact⟨rfl,rfl⟩
 ·rw[q]
  have hml:(r6x m p0x).length≤1099511627776:=A9 (Cs _ _) (by omega)
  have hall:((⟨#[97]⟩:Hs),(⟨#[122,122,122]⟩:Hs))=p0x:=rfl
  simp only[r6h,hall,q71 m p0x (by omega),q70 m p0x (by omega),s9j w.1.1.1.1 p0x _ (show w.1.1.1.1.length≤500000000000 by omega),s9i w.1.1.1.1 p0x _ (show w.1.1.1.1.length≤500000000000 by omega),zOb,
   q3s (r6x m p0x) _ hml,q3r (r6x m p0x) _ hml,and_self]
end
section
theorem o2t {l:Hu u0i.den} (h:(Ty.sl u0i).wt l≤1048576):(∀x∈l,u0i.wt x≤u0e)∧l.length+t7s l≤1048576∧ ∀x∈l,x.2.2.2.2.1.length≤1048576:=by
 have e:(Ty.sl u0i).wt l=l.length+(l.map u0i.wt).sum:=rfl
 have hs:∀(l:Hu u0i.den),t7s l≤(l.map u0i.wt).sum∧ ∀x∈l,u0i.wt x≤(l.map u0i.wt).sum:=by
  intro l
  induction l with
  | nil=>exact⟨Au _,fun x h=>by cases h⟩
  | cons t l ih=>
   have h1:=t7t (a:=t)
   simp only[t7s,C8,Ge] at ih ⊢
   refine⟨by omega,fun x hx=> ?_⟩
   rcases A8.1 hx with rfl | hx
   ·omega
   ·have:=ih.2 x hx
    omega
 obtain⟨h1,h2⟩:=hs l
 refine⟨fun x hx=>by have:=h2 x hx;unfold u0e;omega,by omega,fun x hx=> ?_⟩
 have:=h2 x hx
 have:=q3i (a:=x)
 omega
end
section
theorem r6e (x:q5y.den) (hx:q5y.fine x):t6a x=some true:=by
 rw[s7g];unfold t52
 refine o8g (o6g x _ hx (by omega) (by omega)) (fun c1=> ?_)
 have wx:q5y.wt x≤1099511627776:=by omega
 have hw:q5y.wt x=q2d.wt x.1+((Ty.sl u0i).wt x.2.1+((Ty.sl (Ty.int .i64)).wt x.2.2.1+(Ty.sl Ty.str).wt x.2.2.2)):=rfl
 have k1:q2d.wt x.1=(((Ty.sl u0c).wt x.1.1.1.1+((Ty.sl u0i).wt x.1.1.1.2.1+((Ty.sl u0i).wt x.1.1.1.2.2.1+(0+0))))+(Ty.sl u0i).wt x.1.1.2)+p4i.wt x.1.2:=rfl
 have k2:(Ty.sl u0c).wt x.1.1.1.1=x.1.1.1.1.length+(x.1.1.1.1.map u0c.wt).sum:=rfl
 have t1:=p6h (l:=x.1.1.1.2.1) (by omega)
 have t2:=p6h (l:=x.1.1.1.2.2.1) (by omega)
 have t3:=p6h (l:=x.1.1.2) (by omega)
 have hb:smallB x.1.1.1:=⟨by omega,t1,t2⟩
 have ho:p6k x.1.1.2:=⟨by have:=t3.1;omega,t3.2⟩
 obtain⟨p1,p2,p3⟩:=o2t (l:=x.2.1) (by omega)
 obtain⟨r1,r2⟩:=p0s x (by omega)
 have h1:r0l x=some (o48 x.2.1):=by
  rw[p5r];unfold q17
  simp only[q6i p1 p2 p3,zOb]
 have h2:s93 x=some (o48 x.2.1):=by
  rw[p4w];unfold q1b
  simp only[q6h p1 p2 p3,zOb]
 have s1:t8f x=some (o48 x.2.1&&(p70 x.1&&s2q x)):=by
  rw[q4j];unfold s69
  simp only[h1,o3d x (by omega),r1,o1s x hb ho,zOb]
  cases o48 x.2.1<;>cases p70 x.1<;>cases s2q x<;>rfl
 have s2:t76 x=some (o48 x.2.1&&(p70 x.1&&s2q x)):=by
  rw[q36];unfold s6w
  simp only[h2,o3c x (by omega),r2,o1r x hb ho,zOb]
  cases o48 x.2.1<;>cases p70 x.1<;>cases s2q x<;>rfl
 simp only[o6l x wx,s1,s2,o5p x wx,zOb,beq_self_eq_true,Ap,Aa]
end
end
end Go.Proofs.YtkdpclfhapphhaaGreat.Ab
