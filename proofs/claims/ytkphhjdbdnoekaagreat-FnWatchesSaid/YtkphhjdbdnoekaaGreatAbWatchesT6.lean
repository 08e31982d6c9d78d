import Derived.Test.YtkphhjdbdnoekaaGreatAbWatchesT5
import Derived.Test.YtkphhjdbdnoekaaGreatAbK2
import Derived.Test.YtkphhjdbdnoekaaGreatAbF4
import Derived.Test.YtkphhjdbdnoekaaGreatAbS2
namespace Go.Proofs.YtkphhjdbdnoekaaGreat.Ab
open Go
set_option linter.unusedVariables false
set_option linter.unusedSimpArgs false
set_option linter.unnecessarySimpa false
set_option linter.unusedSectionVars false
theorem c53 {es:Hu d3n.den} (z:c13.den) (hn:es.length<=90) (he:∀e∈es,EvR e):∀(d i:Nat),i+d=es.length->t0u (es,z,true,(i:Int))=some (.inl (es,z,true)):=by
 intro d
 induction d with
 | zero=>
  intro i hi;rw[r6x];simp only[t62,u0b,show ¬i<es.length by omega,Ah,Aa,zOb]
 | succ d ih=>
  intro i hi;have hlt:i<es.length:=by omega
  rw[r6x];simp only[t62,u0b,hlt,Ae,Ad,y7p hlt,zTn,y8f (t:=d3n) hlt,j7h (he _ (Ag hlt)),zOb];rw[y7h (by omega)];exact ih (i+1) (by omega)
theorem c1m {es:Hu d3n.den} (z:c13.den) (hn:es.length<=90) (he:∀e∈es,EvR e):∀(d i:Nat) {H:Hu u0i} {s:u0u} {r:j1g},i+d=es.length->Fit i H s->r.1.length<=1000+i->r.2.length<=1000+i->
 ∃(H' :Hu u0i) (s' :u0u) (r' :j1g),u9j (es,z,(s,H,r),(i:Int))=some (.inl (z,(s',H',r')))/\Fit es.length H' s' :=by
 intro d
 induction d with
 | zero=>
  intro i H s r hi hL r1 r2;have hi:i=es.length:=by omega
  refine⟨H,s,r,?_,by rw[←hi];exact hL⟩;rw[r3b];simp only[t4u,u0b,show ¬i<es.length by omega,Ah,Aa]
 | succ d ih=>
  intro i H s r hi hL r1 r2;have hlt:i<es.length:=by omega
  obtain⟨code,said,H',s',e1,e2⟩:=DoF hL (by omega) r (he _ (Ag hlt));have b1:Nat.ble (r.1.length+ [code].length) z7v=true:=o4b (by rw[Aw];omega);have b2:Nat.ble (r.2.length+ [said].length) z7v=true:=o4b (by rw[Aw];omega);rw[r3b];simp only[t4u,u0b,hlt,Ae,Ad,y7p hlt,zTn,y8f (t:=d3n) hlt,e1,zOb,b1,b2];rw[y7h (by omega)];exact ih (i+1) (by omega) e2 (by simp only[Ba,Aw];omega) (by simp only[Ba,Aw];omega)
theorem c5t {es:Hu d3n.den} (hn:es.length<=74) (he:∀e∈es,EvR e):∃(H:Hu u0i) (s:u0u) (r:j1g),r0d es=some ((s,H,r),true)/\Fit 74 H s:=by
 obtain⟨s0,e0,h0⟩:=d3k;have w0:r0g ()=some (s0, [], [], []):=by
  rw[o2a];unfold q3y;simp only[e0,zOb]
 obtain⟨H,s,r,e1,hL⟩:=c1m (es:=es) ((((([], [], [],0,0), []),([], [])),([], [], [])):c13.den) (by omega) he es.length 0 (H:= []) (s:=s0) (r:=([], [])) (by omega) h0.fit (by simp) (by simp);have e2:=c53 (es:=es) ((((([], [], [],0,0), []),([], [])),([], [], [])):c13.den) (by omega) he es.length 0 (by omega);have e1:u9j (es,((((([], [], [],0,0), []),([], [])),([], [], [])):c13.den),(s0, [],([], [])),(0:Int))=_:=e1;have e2:t0u (es,((((([], [], [],0,0), []),([], [])),([], [], [])):c13.den),true,(0:Int))=_:=e2;refine⟨H,s,r,?_,hL.mono hn⟩;rw[o1w];unfold q3t;have d:decide ((es.length:Int)<=90)=true:=Bb (by omega);simp only[d,e2,w0,e1,zOb,Ap,Aa]
def tinyE (e:u21):Prop:=tinyB e.1/\e.2.length<=1000/\ ∀t∈e.2,tinyT t
theorem EngR.tinyE {e:u21} (h:EngR e):Ab.tinyE e:=⟨h.tinyO,by have:=h.olen;omega,fun t ht=>h.ot ht⟩
theorem d4s {s:Src} (h:s.ok):Dr (r8a s) tinyE:=by
 obtain⟨y1,s1,e1,k1,r1⟩:=u1m h (n:=12) (by omega);obtain⟨y2,s2,e2,k2,r2⟩:=u1m k1 (n:=60) (by omega);obtain⟨st,s3,e3,k3,hS⟩:=c07 22 (by omega) k2;have e3:u90 (s2,22)=some (st,s3):=e3;have e3:s63 s2=some (st.1,s3):=by
  rw[p9a];unfold r9l;simp only[e3,zOb]
 have hE:=hS.eng;have e4:u0p st.1=some st.1:=u53 st.1.1 st.1.2 hE.fewB hE.fewO;have ho:=hE.olen;have hs2:=hE.tinyE;rw[o9x];unfold p2z;simp only[e1,e2,e3,e4,zOb];cases decide (y1=0) with
 | true=>
  obtain⟨b,s5,e5,k5,m5,m6⟩:=j67 k3;simp only[Ad,e5,zOb];exact⟨_,_,rfl,k5,m5,hs2.2⟩
 | false=>
 simp only[Aa];cases decide (y1=1) with
 | true=>
  obtain⟨t,s5,e5,k5,m5⟩:=o76 k3;simp only[Ad,e5,zOb,Aw,u0q (show st.1.2.length+1<=1099511627776 by omega)];exact⟨_,_,rfl,k5,hs2.1,by show(st.1.2++ [t]).length<=1000;simp;omega,fun x hx=>by
   rcases Ay.mp hx with q | q
   .exact hs2.2.2 x q
   .rw[Ax.mp q];exact m5.tiny (by omega)⟩
 | false=>
 simp only[Aa];cases decide (y1=2) with
 | true=>
  simp only[Ad];by_cases h0:st.1.2.length=0
  .have c0:decide ((st.1.2.length:Int) >0)=false:=A7 (by omega);rw[c0];exact⟨_,_,rfl,k3,hs2⟩
  .have c0:decide ((st.1.2.length:Int) >0)=true:=Bb (by omega);have g0:y4o (0:Int) st.1.2.length=true:=y7p (i:=0) (by omega);rw[c0,g0];refine⟨_,_,rfl,k3,hs2.1,by show(List.set _ _ _).length<=1000;rw[Dq];omega,fun x hx=> ?_⟩;rcases E0 hx with q | rfl
   .exact hs2.2.2 x q
   .have hk:0<st.1.2.length:=by omega
    have e0:rdL u0v st.1.2 ((0:Int)).toNat=st.1.2[0] :=y8f (t:=u0v) hk;have:=hs2.2.2 _ (Ag hk);rw[e0];exact⟨this.rl,this.rs,this.wl,this.ws,this.nm⟩
 | false=>
 simp only[Aa];cases decide (y1=3) with
 | true=>
  have key:∀(d x:Nat) (e:u21) (j:u21),EngR e->x<=70->71<=x+d-> ∃e',EngR e' /\(u83 (s3,j,(x:Int),e)=some (.inl (s3,j,e'))\/u83 (s3,j,(x:Int),e)=some (.inr (s3,e'))):=by
   intro d
   induction d with
   | zero=>intro x e j _ h1 h2;omega | succ d ih=>
    intro x e j hE hx hd;have e0:u83 (s3,j,(x:Int),e)=_:=p9m _;rw[e0];by_cases c:(e.2.length:Int)<4
    .have hb:=o8f hE;simp only[s0d,c,Ae,Ad,q6k hE,zOb];rw[y7h (by omega)];by_cases c2:(((x+1:Nat)):Int) >70
     .simp only[c2,Ae,Ad];exact⟨_,hb, .inr rfl⟩
     .simp only[c2,Ah,Aa];exact ih (x+1) _ j hb (by omega) (by omega)
    .simp only[s0d,c,Ah,Aa];exact⟨e,hE, .inl rfl⟩
  obtain⟨m,hm⟩:∃m:Nat,y2=(m:Int):=⟨y2.toNat,by omega⟩;obtain⟨e',hE',hor⟩:=key (71 - m) m st.1 ((([], [], [],0,0):u0j), []) hE (by omega) (by omega);simp only[Ad];rw[hm];rcases hor with q | q
  .rw[q];exact⟨_,_,rfl,k3,hE'.tinyE⟩
  .rw[q];exact⟨_,_,rfl,k3,hE'.tinyE⟩
 | false=>exact⟨_,_,rfl,k3,hs2⟩
structure Mild (w:c13.den):Prop where
 eng:tinyE w.1.1
 dk:c08.wt w.1.2<=10000000
 hl:w.2.1.length<=100
 hh:∀t∈w.2.1,tinyT t
theorem Fit.mild {k:Nat} {H:Hu u0i} {s:u0u} (h:Fit k H s) (hk:k<=100) (r:j1g):Mild (s,H,r):=
 ⟨h.eng.tinyE,by have:=t48 h.log;show c08.wt s.2<=_;omega,by have:=h.few;show H.length<=_;omega,fun t ht=>(h.hist t ht).tiny⟩
theorem tinyE.wt {e:u21} (h:tinyE e):d42.wt e<=549755813888:=by
 have e2:=j6c e;have h1:=h.1.wt;have h2:=p91 h.2.1 h.2.2;omega
theorem j7l (s:u21×u0k) (h:tinyE s.1) (hd:c08.wt s.2<=10000000):r3x s=some (storeOk s):=by
 have hb:u0m=1099511627776:=rfl;have hw:=h.wt;rw[o4o];unfold q7r storeOk;rw[j1b s.2 (by omega),o7y s.1 (by omega),o6g s.2 (by omega)];simp only[zOb];rw[t5k s.1.1 [] h.1.few (by simp)];simp only[zOb];rw[j06 _ _ (p34 _) (t2n h.1 [])];cases o55 s.1<;>cases u2e s.2<;>cases (logR (u0e s.2)).2<;>rfl
theorem j7m (s:u21×u0k) (h:tinyE s.1) (hd:c08.wt s.2<=10000000):r37 s=some (storeOk s):=by
 have hb:u0m=1099511627776:=rfl;have hw:=h.wt;rw[o5c];unfold q8f storeOk;rw[p45 s.2 (by omega),p1f s.1 (by omega),q6l s.2 (by omega)];simp only[zOb];rw[s1b s.1.1 [] h.1.few (by simp)];simp only[zOb];rw[j07 _ _ (p34 _) (t2n h.1 [])];cases o55 s.1<;>cases u2e s.2<;>cases (logR (u0e s.2)).2<;>rfl
theorem d4t (w:c13.den) (h:Mild w):t3r w=some (p9g w.1):=by
 have hd:=h.dk;rw[p8e];unfold r8q p9g;rw[j9l w.1.2 hd,j7l w.1 h.eng hd];simp only[zOb];rw[t5k w.1.1.1 [] h.eng.1.few (by simp)];simp only[zOb];rw[j06 _ _ (j3o _) (t2n h.eng.1 [])];cases storeOk w.1<;>cases (riseR w.1.2).2<;>rfl
theorem d4u (w:c13.den) (h:Mild w):t3v w=some (p9g w.1):=by
 have hd:=h.dk;rw[p8y];unfold r89 p9g;rw[j1f w.1.2 hd,j7m w.1 h.eng hd];simp only[zOb];rw[s1b w.1.1.1 [] h.eng.1.few (by simp)];simp only[zOb];rw[j07 _ _ (j3o _) (t2n h.eng.1 [])];cases storeOk w.1<;>cases (riseR w.1.2).2<;>rfl
theorem d7e (w:c13.den) (h:Mild w):t3w w=some (t8v w)/\t3s w=some (t8v w):=by
 have sm:(w.2.1.map u0v.wt).sum<=w.2.1.length*50000:=s6b fun t ht=>(h.hh t ht).wt
 have hl:=h.hl;have h1:(w.2.1.map u0v.wt).sum<=100000000000:=by omega
 have h2:w.2.1.length<=100000000000:=by omega
 have hv:w.1.1.1.1.length<=10000000:=by have:=h.eng.1.vl;omega
 rw[p80,p8g];unfold r9b r8s t8v;simp only[j79 w h1 h2,j78 w h1 h2,zOb,p3q,r7m,q9b,r3i];rcases j5h w h1 with q | ⟨m,q,hm⟩
 .rw[q];exact⟨rfl,rfl⟩
 .rw[q];have hml:(r6d m p7b).length<=1099511627776:=A9 (Cs _ _) (by omega);have hall:((⟨#[97]⟩:Hs),(⟨#[122,122,122]⟩:Hs))=p7b:=rfl
  simp only[q5i,hall,o0k m p7b (by omega),o0j m p7b (by omega),r7f w.1.1.1.1 p7b _ (show w.1.1.1.1.length<=500000000000 by omega),r7e w.1.1.1.1 p7b _ (show w.1.1.1.1.length<=500000000000 by omega),zOb,
   p44 (r6d m p7b) _ hml,p43 (r6d m p7b) _ hml,and_self]
structure Told (w:c13.den):Prop where
 a1:s3c w=some (j8f w.2.1)
 a2:s2z w=some (j8f w.2.1)
 b1:t3v w=some (p9g w.1)
 b2:t3r w=some (p9g w.1)
 c1:t3w w=some (t8v w)
 c2:t3s w=some (t8v w)
 d1:t09 w=some true
 d2:t03 w=some true
 e1:s4b w=some (j8f w.2.1&&(p9g w.1&&t8v w))
 e2:t05 w=some (j8f w.2.1&&(p9g w.1&&t8v w))
theorem Mild.told {w:c13.den} (h:Mild w):Told w:=by
 have hl:=h.hl;have hE:=h.eng;have p1:∀t∈w.2.1,u0v.wt t<=u0m:=fun t ht=>by have:=(h.hh t ht).wt;unfold u0m;omega
 have p2:w.2.1.length+s3r w.2.1<=1048576:=by
  have:s3r w.2.1<=w.2.1.length*100:=s6b fun t ht=>(h.hh t ht).wl
  omega
 have p3:∀t∈w.2.1,t.2.2.2.2.1.length<=1048576:=fun t ht=>by have:=(h.hh t ht).rl;omega
 have h1:s3c w=some (j8f w.2.1):=by
  rw[o9h];unfold p2i;simp only[p76 p1 p2 p3,zOb]
 have h2:s2z w=some (j8f w.2.1):=by
  rw[o8x];unfold p1w;simp only[p75 p1 p2 p3,zOb]
 have t:=hE.1;have hb:smallB w.1.1.1:=⟨by have:=t.vl;omega,⟨by have:=t.pl;omega,t.few.2.1.2⟩,by have:=t.rl;omega,t.few.2.2.2⟩;have ho:o3y w.1.1.2:=q5y hE.2.1 hE.2.2;obtain⟨r1,r2⟩:=d7e w h;have k1:=d4u w h;have k2:=d4t w h;have d1:=j7g w hb ho;have d2:=j7f w hb ho;refine⟨h1,h2,k1,k2,r1,r2,d1,d2,?_,?_⟩
 .rw[p5u];unfold r4x;simp only[h1,k1,r1,d1,zOb];cases j8f w.2.1<;>cases p9g w.1<;>cases t8v w<;>rfl
 .rw[p5k];unfold r4n;simp only[h2,k2,r2,d2,zOb];cases j8f w.2.1<;>cases p9g w.1<;>cases t8v w<;>rfl
section
set_option maxRecDepth 20000
def j4h:Hs:=y8n ⟨#[0]⟩ 64
theorem d6j:y7c (List.replicate 64 0)=j4h:=by rfl
theorem d7r:s5d ()=some j4h:=by
 have hset:∀i,(List.replicate 64 (0:Int)).set i 0=List.replicate 64 0:=fun i=>by
  apply Gw (by simp);intro j h1 h2;rw[List.getElem_set,List.getElem_replicate];split
  .rfl
  .rfl
 have key:∀(r i:Nat),i+r=64->u30 ((64:Int),0,List.replicate 64 0,(i:Int))=some (.inl (List.replicate 64 0)):=by
  intro r
  induction r with
  | zero=>
   intro i hi;have:i=64:=by omega
   subst this;rw[u88];rfl
  | succ r ih=>
   intro i hi;have hlt:decide ((i:Int)<64)=true:=by simp;omega
   have hg:y4o (i:Int) (List.replicate 64 (0:Int)).length=true:=y7p (by simp;omega);rw[u88];simp only[u8x,hlt,Ad,hg,hset];rw[y7h (by omega)];exact ih (i+1) (by omega)
 have e1:u30 ((64:Int),0,List.replicate 64 0,0)=_:=key 64 0 rfl;rw[q9e];unfold r3k;rw[r3r];unfold s4x;have hc:(decide ((0:Int)<=64)&&decide ((64:Int)<=1099511627776))=true:=rfl;have hr:List.replicate ((64:Int)).toNat (Ty.int .u8).zero=List.replicate 64 (0:Int):=rfl;simp only[hc,Ad,hr,e1,zOb,d6j]
theorem c03:s65 ((⟨#[0]⟩:Hs),(64:Int))=some j4h:=by
 rw[p9f];rfl
def j90:u0k:=(List.replicate 97 j4h, [])
theorem d1z:t7y ()=some j90:=by
 have key:∀(r i:Nat),i+r=97->u7a ((97:Int),([], []),(List.replicate i j4h, []),(i:Int))=some (.inl (([], []),j90)):=by
  intro r
  induction r with
  | zero=>
   intro i hi;have:i=97:=by omega
   subst this;rw[s09];rfl
  | succ r ih=>
   intro i hi;have hlt:decide ((i:Int)<97)=true:=by simp;omega
   have hc:Nat.ble ((List.replicate i j4h).length+([j4h] :Hu Hs).length) z7v=true:=u0q (by simp;omega);rw[s09];simp only[t9u,hlt,Ad,d7r,zOb,hc];rw[y7h (by omega)];have e:List.replicate i j4h++ [j4h] =List.replicate (i+1) j4h:=by rw[List.replicate_succ']
   rw[e];exact ih (i+1) (by omega)
 have e1:u7a ((97:Int),([], []),([], []),0)=_:=key 97 0 rfl;have hs:u8j ()=some 97:=by rw[s32];rfl
 have hi:u0t ((97:Int),(1:Int),(100:Int))=some true:=by rw[q4i];rfl
 rw[p3j];unfold r7k;simp only[hs,zOb];rw[q9c];unfold r3j;simp only[hi,zOb,Ap,Aa,e1]
theorem d1y:r7x ()=some j90:=by
 have key:∀(r i:Nat),i+r=97->t2y ((97:Int),([], []),(List.replicate i j4h, []),(i:Int))=some (.inl (([], []),j90)):=by
  intro r
  induction r with
  | zero=>
   intro i hi;have:i=97:=by omega
   subst this;rw[q08];rfl
  | succ r ih=>
   intro i hi;have hlt:decide ((i:Int)<97)=true:=by simp;omega
   have hc:Nat.ble ((List.replicate i j4h).length+([j4h] :Hu Hs).length) z7v=true:=u0q (by simp;omega);rw[q08];simp only[s6o,hlt,Ad,c03,zOb,hc];rw[y7h (by omega)];have e:List.replicate i j4h++ [j4h] =List.replicate (i+1) j4h:=by rw[List.replicate_succ']
   rw[e];exact ih (i+1) (by omega)
 have e1:t2y ((97:Int),([], []),([], []),0)=_:=key 97 0 rfl;have hi:u1c ((97:Int),(1:Int),(100:Int))=some true:=by rw[p3h];rfl
 rw[o8s];unfold p1r;rw[o4f];unfold q7i;simp only[hi,zOb,Ap,Aa,e1]
end
theorem smallTx.tiny {t:u0i} (h:smallTx t):tinyT t:=by
 obtain⟨a1,a2,a3,a4,a5⟩:=h;exact⟨A9 a1 (by omega),fun r hr=>by have:=a2 r hr;omega,A9 a3 (by omega),fun w hw=>by have:=a4 w hw;omega,A9 a5 (by omega)⟩
theorem d4o {l:Hu Int} (hl:l.length<=1048576):∃w,t56 l=some w/\Mild w:=by
 obtain⟨c,e1,k1⟩:=d3j hl;obtain⟨y,c2,e2,k2,r2⟩:=u1m k1 (n:=10) (by omega);obtain⟨es,e3,n3,h3⟩:=j4p hl;obtain⟨H,s,r,e4,hF⟩:=c5t n3 h3;have hM:=hF.mild (by omega) r;have e5:r0j l=some (s,H,r):=by
  rw[o2m];unfold q4b;simp only[e3,e4,zOb]
 rw[q4g];unfold s5o;rw[o54];unfold q88;simp only[e1,e2,e5,zOb];cases decide (y=0) with
 | true=>
  obtain⟨a,c3,e6,_,p1,p2,_⟩:=j9i k2;simp only[Ad,e6,zOb];exact⟨_,rfl,hM.eng,hM.dk,by show a.length<=100;omega,fun t ht=>(p2 t ht).tiny⟩
 | false=>
 simp only[Aa];cases decide (y=1) with
 | true=>
  obtain⟨d,c3,e6,_,p1⟩:=j7e k2;simp only[Ad,e6,zOb];exact⟨_,rfl,hM.eng,A9 p1 (by omega),hM.hl,hM.hh⟩
 | false=>
 simp only[Aa];cases decide (y=2) with
 | true=>
  obtain⟨d,c3,e6,_,p1⟩:=d4s k2;simp only[Ad,e6,zOb];exact⟨_,rfl,p1,hM.dk,hM.hl,hM.hh⟩
 | false=>
 simp only[Aa];cases decide (y=3) with
 | false=>exact⟨_,rfl,hM⟩ | true=>
  simp only[Ad];by_cases h0:H.length=0
  .have c0:decide ((H.length:Int) >0)=false:=A7 (by omega);simp only[c0,Aa];exact⟨_,rfl,hM⟩
  .obtain⟨a,c3,e6,_,p1,p2,_⟩:=o0m k2;have c0:decide ((H.length:Int) >0)=true:=Bb (by omega);have g0:y4o (0:Int) H.length=true:=y7p (i:=0) (by omega);simp only[c0,g0,Ad,e6,zOb];have hk:0<H.length:=by omega
   have e0:rdL u0v H ((0:Int)).toNat=H[0] :=y8f (t:=u0v) hk;have hH:=hM.hl;refine⟨_,rfl,hM.eng,hM.dk,by show(List.set _ _ _).length<=100;rw[Dq];exact hH,fun t ht=> ?_⟩;rcases E0 ht with q | rfl
   .exact hM.hh t q
   .have:=hM.hh _ (Ag hk);rw[e0];exact⟨this.rl,this.rs,by show a.length<=100;omega,fun w hw=>by have:=p2 w hw;omega,this.nm⟩
theorem c5s:∃w,s22 ()=some w/\t05 w=some true:=by
 obtain⟨d,h1,h2,h3⟩:=r69;have hd:d=j90:=by rw[d1z] at h1;simpa using h1.symm
 subst hd;have hE:EngR (p35, []):=d7u.mp (by decide);have hw:s22 ()=some ((((p35, []),j90),([],([], []))):c13.den):=by
  rw[o1d];unfold q3a;rw[o1a];unfold q28;rw[p8c];unfold r8p;rw[q9a];unfold r3h;simp only[zOb,d1y];rfl
 have hF:Fit 0 [] ((p35, []),j90):=(FitS.mk hE h2).fit;have t:=(hF.mild (by omega) ([], [])).told;refine⟨_,hw,?_⟩;rw[t.e2];have hp:t2f (u0e j90)=some p35:=by rw[h3];rfl
 have hS:Sync ((p35, []),j90) p35:=⟨hE,h2,hp,o64,⟨by decide,rfl,rfl,rfl⟩⟩;have a1:j8f ([] :Hu u0i)=true:=rfl;have a2:p9g ((p35, []),j90)=true:=by
  have:=hS.likeP;unfold p9g;rw[hS.storeOk,hS.riseR,this];rfl
 have a3:t8v (((p35, []),j90),([],([], [])))=true:=by
  show decide (r6d ([] :Hu PrT) p7b=s3w ([] :Hu u17) p7b 0)=true;have:s3w ([] :Hu u17) p7b 0= [] :=by
   have e:p0w (([] :Hu u17).map fun v=>v.1)= [] :=List.eq_nil_iff_forall_not_mem.mpr fun x hx=>by simpa using((p53 []).2 x).mp hx
   unfold s3w;rw[e];rfl
  rw[this];rfl
 rw[a1,a2,a3];rfl
theorem o94 (x:Hu Int) (hx:(Ty.sl (.int .u8)).fine x):q05 x=some true:=by
 rw[p8s];unfold r83;rw[j7w];unfold o6m;simp only[zOb];by_cases hb:(x.length:Int) >1048576
 .simp only[hb,Ae,Ad]
 simp only[hb,Ah,Aa];obtain⟨w,e1,hM⟩:=d4o (l:=x) (by omega);have t:=hM.told;obtain⟨w2,e2,e3⟩:=c5s;simp only[e1,t.a1,t.a2,t.b1,t.b2,t.c1,t.c2,t.d1,t.d2,t.e1,t.e2,e2,e3,zOb,beq_self_eq_true,Ad]
end Go.Proofs.YtkphhjdbdnoekaaGreat.Ab
