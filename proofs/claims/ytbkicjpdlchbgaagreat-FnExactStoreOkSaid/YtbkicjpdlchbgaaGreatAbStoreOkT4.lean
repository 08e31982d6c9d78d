import Derived.Test.YtbkicjpdlchbgaaGreatAbStoreOkT3
import Derived.Test.YtbkicjpdlchbgaaGreatAbK2
import Derived.Test.YtbkicjpdlchbgaaGreatAbF4
import Derived.Test.YtbkicjpdlchbgaaGreatAbS2
namespace Go.Proofs.YtbkicjpdlchbgaaGreat.Ab
open Go
set_option linter.unusedVariables false
set_option linter.unusedSimpArgs false
set_option linter.unnecessarySimpa false
section
section
theorem r6n {a b:u0i} :ahead a b=true↔a.1≠b.1∧ ¬(a.2.1=3∧a.2.2.2.1≤b.2.2.1)∧ ¬(b.2.1=3∧b.2.2.2.1≤a.2.2.1)∧r1m a.2.2.2.2.1 b.2.2.2.2.2.1=true:=by
 unfold ahead r4a q35
 simp only[Bool.and_eq_true,Bool.not_eq_true',Bool.and_eq_false_iff,decide_eq_false_iff_not,not_and,and_assoc]
 constructor
 ·rintro⟨h1,h2,h3,h4⟩
  exact⟨h1,fun e=>h2.resolve_left (fun q=>q e),fun e=>h3.resolve_left (fun q=>q e),h4⟩
 ·rintro⟨h1,h2,h3,h4⟩
  refine⟨h1,?_,?_,h4⟩
  ·by_cases e:a.2.1=3
   ·exact .inr (h2 e)
   ·exact .inl e
  ·by_cases e:b.2.1=3
   ·exact .inr (h3 e)
   ·exact .inl e
structure SameC (x y:u0i):Prop where
 id:x.1=y.1
 st:x.2.1=y.2.1
 snap:x.2.2.1=y.2.2.1
 cs:x.2.2.2.1=y.2.2.2.1
 rs:x.2.2.2.2.1=y.2.2.2.2.1
 ws:x.2.2.2.2.2.1=y.2.2.2.2.2.1
theorem SameC.refl (x:u0i):SameC x x:=⟨rfl,rfl,rfl,rfl,rfl,rfl⟩
theorem SameC.symm {x y:u0i} (h:SameC x y):SameC y x:=⟨h.id.symm,h.st.symm,h.snap.symm,h.cs.symm,h.rs.symm,h.ws.symm⟩
theorem SameC.ahead {x x' y y' :u0i} (h:SameC x x') (k:SameC y y'):Ab.ahead x y=Ab.ahead x' y' :=by
 unfold Ab.ahead r4a q35
 rw[h.id,h.st,h.snap,h.cs,h.rs,k.id,k.st,k.snap,k.cs,k.ws]
theorem p5j (a b:List WrT):p1o a b=p1o b a:=by
 unfold p1o
 apply Bool.eq_iff_iff.mpr
 simp only[List.any_eq_true]
 constructor
 ·rintro⟨x,hx,y,hy,h⟩;exact⟨y,hy,x,hx,by rw[q7p];exact h⟩
 ·rintro⟨x,hx,y,hy,h⟩;exact⟨y,hy,x,hx,by rw[q7p];exact h⟩
structure Ser (H:List u0i) (e:s5h):Prop where
 eng:EngR e
 st:∀x∈H,x.2.1=3
 snap:∀x∈H,x.2.2.1<x.2.2.2.1∧x.2.2.2.1≤e.1.2.2.2.1
 asc:H.Pairwise fun x y=>x.2.2.2.1<y.2.2.2.1
 uqh:uq (H++(e.1.2.2.1++e.2))
 bel:∀x∈H,x.1<e.1.2.2.2.2
 pin:∀x∈e.1.2.1,∃y∈H,SameC x y
 cov:∀y∈H,∀o∈e.2,o.2.2.1<y.2.2.2.1→ ∃x∈e.1.2.1,SameC x y
 outp:∀x∈e.1.2.1,∀y∈H,ahead x y=true→y.2.2.2.1<x.2.2.2.1→x.2.2.2.2.2.2.1=true
 outr:∀p∈e.1.2.2.1,∀y∈H,ahead p y=true→p.2.2.2.2.2.2.1=true
 no3:∀x∈H,∀y∈H,∀z∈H,ahead x y=true→ahead y z=true→z.2.2.2.1<y.2.2.2.1→z.2.2.2.1≤x.2.2.2.1→False
 noA:∀x∈H,∀p∈e.1.2.2.1,∀z∈H,ahead x p=true→ahead p z=true→z.2.2.2.1≤x.2.2.2.1→False
 noB:∀p∈e.1.2.2.1,∀y∈H,∀z∈H,ahead p y=true→ahead y z=true→z.2.2.2.1<y.2.2.2.1→False
 noD:∀p∈e.1.2.2.1,∀q∈e.1.2.2.1,∀z∈H,ahead p q=true→ahead q z=true→False
 noE:∀p∈e.1.2.2.1,∀q∈e.1.2.2.1,∀r∈e.1.2.2.1,ahead p q=true→ahead q r=true→False
 ww:∀x∈H,∀y∈H,x.2.2.2.1<y.2.2.2.1→p1o x.2.2.2.2.2.1 y.2.2.2.2.2.1=true→x.2.2.2.1≤y.2.2.1
 wr:∀p∈e.1.2.2.1,∀y∈H,p1o y.2.2.2.2.2.1 p.2.2.2.2.2.1=true→y.2.2.2.1≤p.2.2.1
 rr:∀p∈e.1.2.2.1,∀q∈e.1.2.2.1,p.1≠q.1→p1o p.2.2.2.2.2.1 q.2.2.2.2.2.1=true→False
theorem p3c (b:u0j):∀(o:List u0i),∀t∈o,t45 b o≤t.2.2.1:=by
 have le:∀(o:List u0i) (m:Int),o.foldl (fun m t=>if t.2.2.1<m then t.2.2.1 else m) m≤m:=by
  intro o
  induction o with
  | nil=>intro m;exact Int.le_refl _
  | cons t o ih=>
   intro m
   rw[List.foldl_cons]
   refine Int.le_trans (ih _) ?_
   split<;>omega
 have key:∀(o:List u0i) (m:Int),∀t∈o,o.foldl (fun m t=>if t.2.2.1<m then t.2.2.1 else m) m≤t.2.2.1:=by
  intro o
  induction o with
  | nil=>intro m t ht;cases ht
  | cons x o ih=>
   intro m t ht
   rw[List.foldl_cons]
   rcases List.mem_cons.mp ht with rfl | ht
   ·refine Int.le_trans (le o _) ?_
    split<;>omega
   ·exact ih _ t ht
 exact fun o t ht=>key o _ t ht
theorem Ser.tidy {H:List u0i} {e:s5h} (h:Ser H e):Ser H (u4b e.1 e.2,e.2):=by
 have sub:∀x∈(u4b e.1 e.2).2.1,x∈e.1.2.1:=fun x hx=>(List.mem_filter.mp hx).1
 refine⟨o06 h.eng,h.st,h.snap,h.asc,h.uqh,h.bel,fun x hx=>h.pin x (sub x hx),?_,fun x hx=>h.outp x (sub x hx),h.outr,h.no3,h.noA,h.noB,h.noD,h.noE,h.ww,h.wr,h.rr⟩
 intro y hy o ho hlt
 obtain⟨x,hx,hs⟩:=h.cov y hy o ho hlt
 refine⟨x,List.mem_filter.mpr ⟨hx,?_⟩,hs⟩
 have:=p3c e.1 e.2 o ho
 have:=hs.cs
 simp only[Bool.not_eq_true',decide_eq_false_iff_not]
 omega
structure Passed (t:u0i) (P R:List u0i):Prop where
 nb:∀x∈P++R,x.1≠t.1→(x.2.1=2∨(x.2.1=3∧x.2.2.2.1 >t.2.2.1))→p1o x.2.2.2.2.2.1 t.2.2.2.2.2.1=true→False
 d1:∀x∈P++R,∀y∈P,ahead x t=true→ahead t y=true→False
 d2:∀x∈P++R,x.2.2.2.2.2.2.1=true→ahead t x=true→False
 d3:∀p∈R,ahead p t=true→ahead t p=true→False
 d4:∀p∈R,∀x∈R,ahead p t=true→ahead x p=true→x.1≠t.1→False
theorem Ser.inPast {H:List u0i} {e:s5h} (h:Ser H e) {t:u0i} (ht:t∈e.2) {y:u0i} (hy:y∈H) (ha:ahead t y=true∨ahead y t=true):∃x∈e.1.2.1,SameC x y:=by
 refine h.cov y hy t ht ?_
 have hs:=h.st y hy
 rcases ha with ha | ha
 ·have:=(r6n.mp ha).2.2.1
  exact Int.not_le.mp fun q=>this ⟨hs,q⟩
 ·have:=(r6n.mp ha).2.1
  exact Int.not_le.mp fun q=>this ⟨hs,q⟩
end
section
abbrev r9g:=s5h×u0k
def o3j:s5j:=(0,u6d,emp,false,u3p)
def o6g (e:s5h):List u0i:=e.1.2.1++e.1.2.2.1
def p22 (e:s5h) (n:ByteArray) (yes:Bool):s5h×s5j×Int:=
 if u0v e.1 n<0 then(e,o3j,1) else if yes=true∧p5f e.1=true then(e,o3j,3)
 else if yes=true then(o41 e (rdL u0o e.1.2.2.1 (u0v e.1 n).toNat),(3,u6d,n,true,u3p),0) else(noE e n,(3,u6d,n,false,u3p),0)
structure Sync (s:r9g) (b:u0j):Prop where
 eng:EngR s.1
 log:u5i s.2=true
 play:t3z (u0g s.2)=some b
 right:BaseR b
 like:Like0 b s.1.1
theorem Sync.own {s:r9g} {b:u0j} (h:Sync s b):u4b b [] =b:=h.like.self h.eng.base
def p5s (s:r9g) (n:ByteArray) (yes:Bool):r9g×Int:=
 if(p22 s.1 n yes).2.2=0 then(match q3y s.2 (p22 s.1 n yes).2.1 with
  | some d=>(((p22 s.1 n yes).1,d),0)
  | none=>(s,3))
 else(s,(p22 s.1 n yes).2.2)
theorem Sync.fin {s:r9g} {b:u0j} (h:Sync s b) (n:ByteArray) (yes:Bool):∃b',Sync (p5s s n yes).1 b' ∧(b' =b∨((p5s s n yes).2=0∧(p22 s.1 n yes).2.2=0∧u9q b (3,u6d,n,yes,u3p)=some b')):=by
 have hE:=h.eng
 unfold p5s
 by_cases c0:(p22 s.1 n yes).2.2=0
 ·rw[if_pos c0]
  unfold p22 at c0
  split at c0
  ·cases c0
  ·rename_i q1
   split at c0
   ·cases c0
   ·rename_i q2
    obtain⟨k,hk,r1,r2⟩:=s59 q1
    obtain⟨tR,t2,ts⟩:=hE.base.ready _ (List.getElem_mem hk)
    have hn:t2a n=true:=by rw[←r2];exact tR.name t2
    cases yes with
    | true=>
     have hf:p5f s.1.1=false:=by simpa using q2
     obtain⟨f1,f2,f3⟩:=p32 hf
     have ec:p22 s.1 n true=(o41 s.1 s.1.1.2.2.1[k],(3,u6d,n,true,u3p),0):=by
      unfold p22;rw[if_neg q1,if_neg q2,if_pos rfl,r1,zTn,y8k (t:=u0o) hk]
     obtain⟨x,p1,p2,p3⟩:=p5o h.like hE.base h.right f3 f2 hn hk r1
     rw[ec]
     simp only
     cases hk2:q3y s.2 (3,u6d,n,true,u3p) with
     | none=>exact⟨b,h, .inl rfl⟩
     | some d=>
      obtain⟨l1,l2⟩:=p35 h.play h.right h.own (.fin n true hn) p1 hk2
      exact⟨x,⟨o42 hE (List.getElem_mem hk) hf,l1,l2,p2,p3.tidy (q7q hE (.inr (List.getElem_mem hk)) hf) _⟩, .inr ⟨by trivial,by trivial,p1⟩⟩
    | false=>
     have ec:p22 s.1 n false=(noE s.1 n,(3,u6d,n,false,u3p),0):=by
      unfold p22;rw[if_neg q1,if_neg q2,if_neg (by decide)]
     obtain⟨x,p1,p2,p3⟩:=p7e h.like hE.base h.right hn hk r1
     rw[ec]
     simp only
     cases hk2:q3y s.2 (3,u6d,n,false,u3p) with
     | none=>exact⟨b,h, .inl rfl⟩
     | some d=>
      obtain⟨l1,l2⟩:=p35 h.play h.right h.own (.fin n false hn) p1 hk2
      exact⟨x,⟨o61 hE n,l1,l2,p2,p3.tidy (q3u hE.base n) _⟩, .inr ⟨by trivial,by trivial,p1⟩⟩
 ·rw[if_neg c0]
  exact⟨b,h, .inl rfl⟩
end
section
theorem r71 (x:u0i):ahead x x=false:=by
 cases q:ahead x x with
 | false=>rfl
 | true=>exact absurd rfl (r6n.mp q).1
structure PassedR (t:u0i) (P R:List u0i):Prop extends Passed t P R where
 e1:∀x∈P++R,∀y∈R,ahead x t=true→ahead t y=true→False
 e2:∀x∈R,∀y∈R,ahead t x=true→ahead x y=true→y.1≠t.1→False
theorem Ser.ready {H:List u0i} {e:s5h} (h:Ser H e) {t:u0i} {n:ByteArray} (ht:t∈e.2) (hk:t2a n=true) (hl:e.1.2.2.1.length<3) (hn:∀x∈e.1.2.2.1,x.2.2.2.2.2.2.2≠n) (hp:PassedR t e.1.2.1 e.1.2.2.1):
 Ser H (u99 e.1 t n,p4h e t.1):=by
 have hE:=h.eng
 obtain⟨tR,t1,ts⟩:=hE.open_ t ht
 have t3:t.2.1≠3:=by omega
 have hgn:=s1h e.1.2.2.2.2 t.1
 have hHs:∀y∈H,y.2.2.1≤e.1.2.2.2.1:=fun y hy=>by have:=h.snap y hy;omega
 have hRs:∀y∈e.1.2.2.1,y.2.2.1≤e.1.2.2.2.1:=fun y hy=>(hE.base.ready y hy).2.2
 have aL:∀y:u0i,ahead (s4n e.1 t n) y=ahead t y:=fun y=>by
  apply Bool.eq_iff_iff.mpr
  rw[r6n,r6n]
  refine and_congr_right fun _=>and_congr ⟨fun _ q=>t3 q.1,fun _ q=> ?_⟩ Iff.rfl
  have q:(2:Int)=3:=q.1
  omega
 have aR:∀y:u0i,ahead y (s4n e.1 t n)=ahead y t:=fun y=>by
  apply Bool.eq_iff_iff.mpr
  rw[r6n,r6n]
  refine and_congr_right fun _=>and_congr Iff.rfl (and_congr ⟨fun _ q=>t3 q.1,fun _ q=> ?_⟩ Iff.rfl)
  have q:(2:Int)=3:=q.1
  omega
 have inP:∀y∈H,ahead y t=true→ ∃x∈e.1.2.1,ahead x t=true:=fun y hy q=>by
  obtain⟨x,hx,hs⟩:=h.inPast ht hy (.inr q)
  exact⟨x,hx,by rw[hs.ahead (SameC.refl t)];exact q⟩
 have outP:∀y∈H,ahead t y=true→ ∃x∈e.1.2.1,SameC x y∧ahead t x=true:=fun y hy q=>by
  obtain⟨x,hx,hs⟩:=h.inPast ht hy (.inl q)
  exact⟨x,hx,hs,by rw[(SameC.refl t).ahead hs];exact q⟩
 have ready' :∀ {p:u0i},p∈(u99 e.1 t n).2.2.1→p∈e.1.2.2.1∨p=s4n e.1 t n:=fun {x} hx=>by
  rcases List.mem_append.mp hx with hx | hx
  ·rcases List.mem_append.mp hx with hx | hx
   ·exact .inl (List.mem_filter.mp hx).1
   ·rw[List.mem_singleton] at hx;exact .inr hx
  ·exact .inl (List.mem_filter.mp hx).1
 obtain⟨u1,u2,u3⟩:=o6i.mp h.uqh
 have hB:BaseR (u99 e.1 t n):=p3a hE.base tR t3 ts hk hl hn (fun x hx=>hE.apart x hx t ht) (by have:=hE.bel t (List.mem_append_right _ ht);have:=hE.base.next.2;omega)
 have hE' :EngR (u99 e.1 t n,p4h e t.1):=p37 hE hB (q1s e t.1) (Int.le_refl _) hgn.1 fun x hx y hy=>by
  have hy' :=(q1s e t.1).subset hy
  rcases List.mem_append.mp hx with hx | hx
  ·exact hE.apart x (List.mem_append_left _ hx) y hy'
  ·rcases ready' hx with hx | rfl
   ·exact hE.apart x (List.mem_append_right _ hx) y hy'
   ·exact(o0y hy).symm
 have apart:∀q∈e.1.2.2.1,q.1≠t.1:=fun q hq=>hE.apart q (List.mem_append_right _ hq) t ht
 refine⟨hE',h.st,h.snap,h.asc,?_,?_,h.pin,?_,h.outp,?_,h.no3,?_,?_,?_,?_,h.ww,?_,?_⟩
 ·-- uq
  have hu:=hE'.uq
  rw[List.append_assoc] at hu
  obtain⟨k1,k2,k3⟩:=o6i.mp hu
  refine o6i.mpr ⟨u1,k2,fun x hx y hy=> ?_⟩
  rcases List.mem_append.mp hy with hy | hy
  ·rcases ready' hy with hy | rfl
   ·exact u3 x hx y (List.mem_append_left _ hy)
   ·exact u3 x hx t (List.mem_append_right _ ht)
  ·exact u3 x hx y (List.mem_append_right _ ((q1s e t.1).subset hy))
 ·intro x hx
  have:=h.bel x hx
  show x.1<u10 e.1.2.2.2.2 t.1
  omega
 ·exact fun y hy o ho=>h.cov y hy o ((q1s e t.1).subset ho)
 ·-- outr
  intro p hp' y hy ha
  rcases ready' hp' with hp' | rfl
  ·exact h.outr p hp' y hy ha
  ·rw[aL] at ha
   obtain⟨z,hz,_,hz2⟩:=outP y hy ha
   show(t.2.2.2.2.2.2.1 || q34 t e.1.2.1)=true
   have:q34 t e.1.2.1=true:=List.any_eq_true.mpr ⟨z,hz,by rw[(hE.base.past z hz).2.1,hz2];rfl⟩
   rw[this,Bool.or_true]
 ·-- noA
  intro x hx p hp' z hz q1 q2 l
  rcases ready' hp' with hp' | rfl
  ·exact h.noA x hx p hp' z hz q1 q2 l
  ·rw[aR] at q1;rw[aL] at q2
   obtain⟨v,hv,hv2⟩:=inP x hx q1
   obtain⟨w,hw,_,hw2⟩:=outP z hz q2
   exact hp.d1 v (List.mem_append_left _ hv) w hw hv2 hw2
 ·-- noB
  intro p hp' y hy z hz q1 q2 l
  rcases ready' hp' with hp' | rfl
  ·exact h.noB p hp' y hy z hz q1 q2 l
  ·rw[aL] at q1
   obtain⟨w,hw,hs,hw2⟩:=outP y hy q1
   refine hp.d2 w (List.mem_append_left _ hw) (h.outp w hw z hz ?_ (by rw[hs.cs];exact l)) hw2
   rw[hs.ahead (SameC.refl z)];exact q2
 ·-- noD
  intro p hp' q hq z hz q1 q2
  rcases ready' hp' with hp' | rfl
  ·rcases ready' hq with hq | rfl
   ·exact h.noD p hp' q hq z hz q1 q2
   ·rw[aR] at q1;rw[aL] at q2
    obtain⟨w,hw,_,hw2⟩:=outP z hz q2
    exact hp.d1 p (List.mem_append_right _ hp') w hw q1 hw2
  ·rcases ready' hq with hq | rfl
   ·rw[aL] at q1
    exact hp.d2 q (List.mem_append_right _ hq) (h.outr q hq z hz q2) q1
   ·rw[r71] at q1;cases q1
 ·-- noE
  intro p hp' q hq r hr q1 q2
  rcases ready' hq with hq | rfl
  ·rcases ready' hp' with hp' | rfl
   ·rcases ready' hr with hr | rfl
    ·exact h.noE p hp' q hq r hr q1 q2
    ·rw[aR] at q2
     exact hp.d4 q hq p hp' q2 q1 (apart p hp')
   ·rw[aL] at q1
    rcases ready' hr with hr | rfl
    ·exact hp.e2 q hq r hr q1 q2 (apart r hr)
    ·rw[aR] at q2
     exact hp.d3 q hq q2 q1
  ·rw[aR] at q1;rw[aL] at q2
   rcases ready' hp' with hp' | rfl
   ·rcases ready' hr with hr | rfl
    ·exact hp.e1 p (List.mem_append_right _ hp') r hr q1 q2
    ·rw[aR,r71] at q2;cases q2
   ·rw[aL,r71] at q1;cases q1
 ·-- wr
  intro p hp' y hy m
  rcases ready' hp' with hp' | rfl
  ·exact h.wr p hp' y hy m
  ·show y.2.2.2.1≤t.2.2.1
   apply Int.not_lt.mp
   intro hlt
   obtain⟨w,hw,hs⟩:=h.cov y hy t ht hlt
   refine hp.nb w (List.mem_append_left _ hw) (hE.apart w (List.mem_append_left _ hw) t ht) (.inr ⟨(hE.base.past w hw).2.1,by rw[hs.cs];exact hlt⟩) ?_
   rw[hs.ws];exact m
 ·-- rr
  intro p hp' q hq hne m
  rcases ready' hp' with hp' | rfl
  ·rcases ready' hq with hq | rfl
   ·exact h.rr p hp' q hq hne m
   ·exact hp.nb p (List.mem_append_right _ hp') (apart p hp') (.inl (hE.base.ready p hp').2.1) m
  ·rcases ready' hq with hq | rfl
   ·refine hp.nb q (List.mem_append_right _ hq) (apart q hq) (.inl (hE.base.ready q hq).2.1) ?_
    rw[p5j];exact m
   ·exact hne rfl
end
section
def K5:List ByteArray:= [⟨#[97]⟩,⟨#[98]⟩,⟨#[99]⟩,⟨#[100]⟩,⟨#[97,98]⟩]
structure DomT (t:u0i):Prop where
 ws:∀w∈t.2.2.2.2.2.1,w.1∈K5
 rs:∀r∈t.2.2.2.2.1,r.1∈K5∧r.2∈K5
structure DomB (b:u0j):Prop where
 vs:∀v∈b.1,v.1∈K5
 ready:∀t∈b.2.2.1,DomT t
structure DomE (e:s5h):Prop where
 base:DomB e.1
 open_:∀t∈e.2,DomT t
theorem DomB.tidy {b:u0j} (h:DomB b) (o:List u0i):DomB (u4b b o):=⟨fun v hv=>h.vs v ((u8a _ _).subset hv),h.ready⟩
theorem DomB.through {b:u0j} {t:u0i} (h:DomB b) (ht:DomT t):DomB (u2g b t):=by
 refine⟨fun v hv=> ?_,fun x hx=> ?_⟩
 ·rcases(t7i _ _ _).mp hv with hv | ⟨w,hw,rfl⟩
  ·exact h.vs v hv
  ·exact ht.ws w hw
 ·obtain⟨q,hq,rfl⟩:=List.mem_map.mp hx
  have:=h.ready q (List.mem_filter.mp hq).1
  exact⟨this.ws,this.rs⟩
theorem DomB.given {b:u0j} (h:DomB b) (n:ByteArray):DomB (t43 b n):=⟨h.vs,fun x hx=>h.ready x (List.mem_filter.mp hx).1⟩
theorem DomE.fin {e:s5h} (h:DomE e) (n:ByteArray) (y:Bool):DomE (p22 e n y).1:=by
 unfold p22
 split
 ·exact h
 ·rename_i q
  split
  ·exact h
  ·split
   ·obtain⟨k,hk,r1,r2⟩:=s59 q
    rw[r1,zTn,y8k (t:=u0o) hk]
    exact⟨(h.base.through (h.base.ready _ (List.getElem_mem hk))).tidy _,h.open_⟩
   ·exact⟨(h.base.given n).tidy _,h.open_⟩
def Num (k:Nat) (e:s5h):Prop:=e.1.2.2.2.1≤(k:Int)∧e.1.2.2.2.2≤(k:Int)+1
theorem Num.mono {k m:Nat} {e:s5h} (h:Num k e) (hk:k≤m):Num m e:=⟨by have:=h.1;omega,by have:=h.2;omega⟩
theorem p5k {e:s5h} (h:EngR e) {t:u0i} (ht:t∈e.2∨t∈e.1.2.2.1):u10 e.1.2.2.2.2 t.1=e.1.2.2.2.2:=by
 refine p1q ?_
 rcases ht with ht | ht
 ·exact h.bel t (List.mem_append_right _ ht)
 ·exact h.bel t (List.mem_append_left _ (List.mem_append_right _ ht))
theorem Num.fin {k:Nat} {e:s5h} (hE:EngR e) (h:Num k e) (n:ByteArray) (y:Bool):Num (k+1) (p22 e n y).1:=by
 unfold p22
 split
 ·exact h.mono (by omega)
 ·rename_i q
  split
  ·exact h.mono (by omega)
  ·split
   ·obtain⟨j,hj,r1,r2⟩:=s59 q
    rw[r1,zTn,y8k (t:=u0o) hj]
    refine⟨by show e.1.2.2.2.1+1≤_;have:=h.1;omega,?_⟩
    show u10 e.1.2.2.2.2 e.1.2.2.1[j].1≤_
    rw[p5k hE (.inr (List.getElem_mem hj))]
    have:=h.2;omega
   ·exact h.mono (by omega)
structure Stt (k:Nat) (s:r9g):Prop where
 sync:∃b,Sync s b∧b.2.2.2.2≤(k:Int)+1
 dom:DomE s.1
 num:Num k s.1
theorem Stt.eng {k:Nat} {s:r9g} (h:Stt k s):EngR s.1:=by obtain⟨b,h1,_⟩:=h.sync;exact h1.eng
theorem p3e {b x:u0j} {r:s5j} (h:u9q b r=some x):∃y,u2p b r=some y∧x=u4b y [] :=by
 unfold u9q at h
 split at h
 ·cases q:u2p b r with
  | none=>rw[q] at h;cases h
  | some y=>
   rw[q] at h
   simp only at h
   split at h
   ·exact⟨y,rfl,(Option.some.inj h).symm⟩
   ·cases h
 ·cases h
theorem o0w {n i m:Int} (h1:n≤m) (h2:i<m):u10 n i≤m:=by unfold u10;split<;>omega
theorem Stt.fin {k:Nat} {s:r9g} (h:Stt k s) (n:ByteArray) (y:Bool):Stt (k+1) (p5s s n y).1:=by
 obtain⟨b,hs,hb⟩:=h.sync
 obtain⟨b',hs',hd⟩:=hs.fin n y
 have hE:=hs.eng
 have h1:=h.num.fin hE n y
 refine⟨⟨b',hs',?_⟩,?_,?_⟩
 ·rcases hd with rfl | ⟨_,j0,hp⟩
  ·omega
  ·obtain⟨z,hz,rfl⟩:=p3e hp
   unfold u2p at hz
   simp only at hz
   rw[if_neg (by decide),if_neg (by decide),if_pos trivial] at hz
   split at hz
   ·cases hz
   ·rename_i q
    obtain⟨j,hj,r1,r2⟩:=s59 q
    split at hz
    ·cases hz
     show u10 b.2.2.2.2 (rdL u0o b.2.2.1 (u0v b n).toNat).1≤_
     rw[r1,zTn,y8k (t:=u0o) hj]
     have:b.2.2.1[j] ∈s.1.1.2.2.1:=by rw[←hs.like.ready];exact List.getElem_mem hj
     have:=hE.bel _ (List.mem_append_left _ (List.mem_append_right _ this))
     have:=h.num.2
     exact o0w (by omega) (by omega)
    ·cases hz
     show b.2.2.2.2≤_
     omega
 ·have h2:=h.dom.fin n y
  unfold p5s
  split
  ·split
   ·exact h2
   ·exact h.dom
  ·exact h.dom
 ·unfold p5s
  split
  ·split
   ·exact h1
   ·exact h.num.mono (by omega)
  ·exact h.num.mono (by omega)
end
section
structure tinyT (t:u0i):Prop where
 rl:t.2.2.2.2.1.length≤100
 rs:∀r∈t.2.2.2.2.1,r.1.size≤100∧r.2.size≤100
 wl:t.2.2.2.2.2.1.length≤100
 ws:∀w∈t.2.2.2.2.2.1,w.1.size≤100∧w.2.1.size≤100
 nm:t.2.2.2.2.2.2.2.size≤100
structure tinyB (b:u0j):Prop where
 vl:b.1.length≤10000
 vs:∀v∈b.1,v.1.size≤100∧v.2.1.size≤100
 pl:b.2.1.length≤1000
 ps:∀t∈b.2.1,tinyT t
 rl:b.2.2.1.length≤1000
 rs:∀t∈b.2.2.1,tinyT t
theorem r1j {α:Type} {f:α→Nat} {k:Nat} :∀ {l:List α},(∀x∈l,f x≤k)→(l.map f).sum≤l.length*k
 | [],_=>by simp
 | x::l,h=>by
  rw[List.map_cons,List.sum_cons,List.length_cons,Nat.succ_mul]
  have h1:=h x (by simp)
  have h2:=r1j (l:=l) (fun y hy=>h y (by simp[hy]))
  omega
theorem tinyT.wt {t:u0i} (h:tinyT t):u0o.wt t≤50000:=by
 have e1:(Ty.sl u1z).wt t.2.2.2.2.1=t.2.2.2.2.1.length+(t.2.2.2.2.1.map u1z.wt).sum:=rfl
 have e2:(Ty.sl u01).wt t.2.2.2.2.2.1=t.2.2.2.2.2.1.length+(t.2.2.2.2.2.1.map u01.wt).sum:=rfl
 have s1:(t.2.2.2.2.1.map u1z.wt).sum≤t.2.2.2.2.1.length*200:=r1j fun r hr=>by
  have:=h.rs r hr
  have e:u1z.wt r=r.1.size+r.2.size:=rfl
  omega
 have s2:(t.2.2.2.2.2.1.map u01.wt).sum≤t.2.2.2.2.2.1.length*200:=r1j fun w hw=>by
  have:=h.ws w hw
  have e:u01.wt w=w.1.size+(w.2.1.size+0):=rfl
  omega
 have:=h.rl;have:=h.wl;have:=h.nm
 rw[p4o,e1,e2]
 omega
theorem tinyT.few {t:u0i} (h:tinyT t):q93 t:=⟨by have:=h.rl;omega,by have:=h.wl;omega⟩
theorem TxnR.tiny {t:u0i} (h:TxnR t):tinyT t:=by
 obtain⟨z1,z2,z3,z4,z5⟩:=h.small
 exact⟨by have:=h.rlen;omega,fun r hr=>by have:=z1 r hr;omega,by omega,fun w hw=>by have:=z2 w hw;omega,by omega⟩
theorem tinyT.like {t u:u0i} (h:tinyT t) (e1:u.2.2.2.2.1=t.2.2.2.2.1) (e2:u.2.2.2.2.2.1=t.2.2.2.2.2.1) (e3:u.2.2.2.2.2.2.2.size≤100):tinyT u:=
 ⟨by rw[e1];exact h.rl,by rw[e1];exact h.rs,by rw[e2];exact h.wl,by rw[e2];exact h.ws,e3⟩
theorem p4m {l:List u0i} (hl:l.length≤1000) (h:∀t∈l,tinyT t):(Ty.sl u0o).wt l≤60000000:=by
 have e:(Ty.sl u0o).wt l=l.length+(l.map u0o.wt).sum:=rfl
 have s:(l.map u0o.wt).sum≤l.length*50000:=r1j fun t ht=>(h t ht).wt
 rw[e];omega
theorem tinyB.wt {b:u0j} (h:tinyB b):q43.wt b≤200000000:=by
 have e:(Ty.sl u0b).wt b.1=b.1.length+(b.1.map u0b.wt).sum:=rfl
 have s:(b.1.map u0b.wt).sum≤b.1.length*200:=r1j fun v hv=>by
  have:=h.vs v hv
  have e:u0b.wt v=v.1.size+(v.2.1.size+(0+0)):=rfl
  omega
 have h1:=p4m h.pl h.ps
 have h2:=p4m h.rl h.rs
 have:=h.vl
 rw[s5o,e];omega
theorem p16 {l:List u0i} (hl:l.length≤1000) (h:∀t∈l,tinyT t):p62 l:=⟨by omega,fun t ht=>(h t ht).few⟩
theorem tinyB.few {b:u0j} (h:tinyB b):p1f b:=⟨by have:=h.vl;omega,p16 h.pl h.ps,p16 h.rl h.rs⟩
theorem BaseR.tiny {b:u0j} (h:BaseR b):tinyB b:=by
 obtain⟨w1,w2,w3⟩:=p76.mp h.vs
 exact⟨by omega,fun v hv=>by have:=s0h (w1 v hv);omega,by have:=h.plen;omega,fun t ht=>(h.past t ht).1.tiny,by have:=h.rlen;omega,fun t ht=>(h.ready t ht).1.tiny⟩
theorem t33 {b:u0j} (h:tinyB b) (o:List u0i):tinyB (u4b b o):=
 ⟨Nat.le_trans (p3q _ _) h.vl,fun v hv=>h.vs v ((u8a _ _).subset hv),Nat.le_trans (u96 _ _) h.pl,fun t ht=>h.ps t (List.mem_filter.mp ht).1,h.rl,h.rs⟩
theorem r1l {b:u0j} {t:u0i} (h:BaseR b) (ht:tinyT t):tinyB (u2g b t):=by
 obtain⟨w1,w2,w3⟩:=p76.mp h.vs
 have hb:=h.tiny
 refine⟨?_,fun v hv=> ?_,?_,fun x hx=> ?_,?_,fun x hx=> ?_⟩
 ·show(t4e b.1 t.2.2.2.2.2.1 (b.2.2.2.1+1)).length≤10000
  rw[q36];have:=ht.wl
  have e:(t.2.2.2.2.2.1:List u01.den).length=t.2.2.2.2.2.1.length:=rfl
  omega
 ·rcases(t7i _ _ _).mp hv with q | ⟨w,hw,rfl⟩
  ·exact hb.vs v q
  ·exact ht.ws w hw
 ·show(b.2.1++ [q2j b t]).length≤1000
  have:=h.plen
  rw[List.length_append,List.length_singleton];omega
 ·rcases List.mem_append.mp hx with q | q
  ·exact hb.ps x q
  ·rw[List.mem_singleton.mp q]
   exact ht.like rfl rfl (Nat.zero_le _)
 ·show((b.2.2.1.filter fun x=> !decide (x.1=t.1)).map (q1o (q2j b t))).length≤1000
  rw[List.length_map]
  exact Nat.le_trans (u96 _ _) hb.rl
 ·obtain⟨y,hy,rfl⟩:=List.mem_map.mp hx
  have:=hb.rs y (List.mem_filter.mp hy).1
  exact this.like rfl rfl this.nm
theorem q7j {b:u0j} {t:u0i} {n:ByteArray} (h:BaseR b) (ht:tinyT t) (hn:n.size≤100):tinyB (u99 b t n):=by
 have hb:=h.tiny
 refine⟨hb.vl,hb.vs,hb.pl,hb.ps,?_,fun x hx=> ?_⟩
 ·show((b.2.2.1.filter fun x=>y3c x.2.2.2.2.2.2.2 n)++ [s4n b t n] ++(b.2.2.1.filter fun x=> !y3c x.2.2.2.2.2.2.2 n)).length≤1000
  have f1:=u96 (fun x:u0i=>y3c x.2.2.2.2.2.2.2 n) b.2.2.1
  have f2:=u96 (fun x:u0i=> !y3c x.2.2.2.2.2.2.2 n) b.2.2.1
  have:=h.rlen
  rw[List.length_append,List.length_append,List.length_singleton];omega
 ·rcases List.mem_append.mp hx with q | q
  ·rcases List.mem_append.mp q with q | q
   ·exact hb.rs x (List.mem_filter.mp q).1
   ·rw[List.mem_singleton.mp q]
    exact ht.like rfl rfl hn
  ·exact hb.rs x (List.mem_filter.mp q).1
theorem q7b {b:u0j} {n:ByteArray} (hb:tinyB b):tinyB (t43 b n):=
 ⟨hb.vl,hb.vs,hb.pl,hb.ps,Nat.le_trans (u96 _ _) hb.rl,fun x hx=>hb.rs x (List.mem_filter.mp hx).1⟩
structure tinyR (r:s5j):Prop where
 t:tinyT r.2.1
 n:r.2.2.1.size≤100
 b:tinyB r.2.2.2.2
theorem tinyR.wt {r:s5j} (h:tinyR r):o4t.wt r≤549755813888:=by
 have:=h.t.wt;have:=h.n;have:=h.b.wt
 rw[r1g];omega
theorem r87:tinyT u6d:=⟨by decide,fun r hr=>(by cases hr),by decide,fun r hr=>(by cases hr),by decide⟩
theorem s5g:tinyB u3p:=⟨by decide,fun r hr=>(by cases hr),by decide,fun r hr=>(by cases hr),by decide,fun r hr=>(by cases hr)⟩
theorem p8w:tinyR noR:=⟨r87,by decide,s5g⟩
theorem RecR.tiny {r:s5j} (h:RecR r):tinyR r:=by
 cases h with
 | thr t h hs=>exact⟨h.tiny,Nat.zero_le 100,s5g⟩
 | rdy t h hs=>exact⟨h.tiny,Nat.zero_le 100,s5g⟩
 | fin n y h=>exact⟨r87,by have:=u5u h;show n.size≤100;omega,s5g⟩
 | bas b h=>exact⟨r87,Nat.zero_le 100,h.tiny⟩
def t8j (b:u0j) (r:s5j):u0j×Bool:=match u9q b r with
 | some x=>(x,true)
 | none=>(b,false)
theorem q9p {n:Int} (h:0≤n∧n≤9999):p8t n:=⟨by omega,by omega⟩
theorem q9o {n:Int} (h:1≤n∧n≤9999):p8t n:=⟨by omega,by omega⟩
theorem r2d {b x:u0j} {r:s5j} (hb:u5m b=true∧u5k r=true) {o:Bool} (hx:u2p b r=if o=true then some x else none):
 (((bif (!o) then some true else some (!u5m (u4b x []))):Option Bool).bind fun j=>bif j then some (b,false) else some (u4b x [],true))=some (t8j b r):=by
 unfold t8j u9q
 rw[if_pos hb,hx]
 cases o
 ·rfl
 ·simp only[if_true,Bool.not_true,cond_false,zOb]
  cases u5m (u4b x [])<;>rfl
theorem p2r (b:u0j) (r:s5j) (hb:tinyB b) (hr:tinyR r):s5t (b,r)=some (t8j b r):=by
 have hq:u0l=1099511627776:=rfl
 rw[q8n];unfold r5o
 simp only
 rw[u7l b (by have:=hb.wt;omega),r5i r hr.wt,t8o b hb.few]
 simp only[zOb]
 cases h1:u5m b
 ·unfold t8j u9q
  rw[if_neg (by simp[h1])];rfl
 ·cases h2:u5k r
  ·unfold t8j u9q
   rw[if_neg (by simp[h2])];rfl
  ·have hB:=q62.mp h1
   have hR:=p95.mp h2
   have hbr:u5m b=true∧u5k r=true:=⟨h1,h2⟩
   simp only[Bool.not_true,cond_false,zOb]
   have thr:∀t:u0i,TxnR t→t2b (b,t)=some (u2g b t)∧u46 (u2g b t, [])=some (u4b (u2g b t) [])∧u2e (u4b (u2g b t) [])=some (u5m (u4b (u2g b t) [])):=fun t ht=>by
    have h3:=r1l hB ht.tiny
    refine⟨?_,t5s _ _ h3.few (by simp),u7l _ (by have:=(t33 h3 []).wt;omega)⟩
    rw[p0i b t hb.few ht.tiny.few,q4k (q9p hB.cs) (q9o ht.id)]
   cases hR with
   | thr t h hs=>
    obtain⟨t1,t2,t3⟩:=thr t h
    simp only[decide_true,cond_true]
    rw[t1]
    simp only[zOb]
    rw[t2]
    simp only[zOb]
    rw[t3]
    simp only[zOb]
    rw[s17 (q9p hB.cs)]
    refine r2d (o:=decide (t.2.2.2.1=b.2.2.2.1+1)) hbr ?_
    unfold u2p
    simp only[if_true,decide_eq_true_eq]
   | rdy t h hs=>
    have hn:=u5u (h.name hs)
    have h3:=q7j (n:=t.2.2.2.2.2.2.2) hB h.tiny (by omega)
    simp only[show decide ((2:Int)=1)=false from rfl,decide_true,cond_true,cond_false]
    rw[r9e b _ (by have:=hB.rlen;omega)]
    simp only[zOb]
    rw[q4y b t _ hb.few h.tiny.few (q9o h.id)]
    simp only[zOb]
    rw[t5s _ _ h3.few (by simp),]
    simp only[zOb]
    rw[u7l _ (by have:=(t33 h3 []).wt;omega)]
    simp only[zOb]
    have e:(bif decide ((b.2.2.1.length:Int)<3) then some (decide (u0v b t.2.2.2.2.2.2.2<0)) else some false:Option Bool)=some (decide (b.2.2.1.length<3∧u0v b t.2.2.2.2.2.2.2<0)):=by
     by_cases q:b.2.2.1.length<3
     ·rw[decide_eq_true (show(b.2.2.1.length:Int)<3 by omega)];simp[q]
     ·rw[decide_eq_false (show ¬(b.2.2.1.length:Int)<3 by omega)];simp[q]
    rw[e]
    simp only[zOb]
    refine r2d (o:=decide (b.2.2.1.length<3∧u0v b t.2.2.2.2.2.2.2<0)) hbr ?_
    unfold u2p
    simp only[show((2:Int)=1)=False by simp,if_false,if_true,decide_eq_true_eq]
   | fin n y h=>
    simp only[show decide ((3:Int)=1)=false from rfl,show decide ((3:Int)=2)=false from rfl,decide_true,cond_true,cond_false]
    rw[r9e b _ (by have:=hB.rlen;omega)]
    simp only[zOb]
    have h4:=q7b (b:=b) (n:=n) hb
    have giv:t6o (b,n)=some (t43 b n):=q96 b n hb.few
    have raw:∀x,(0≤u0v b n→y=true→x=u2g b (rdL u0o b.2.2.1 (u0v b n).toNat))→(y=false→x=t43 b n)→(0≤u0v b n∨True)→u2p b (3,u6d,n,y,u3p)=if decide (u0v b n≥0)=true then some x else none:=fun x hx hx2 _=>by
     unfold u2p
     simp only[show((3:Int)=1)=False by simp,show((3:Int)=2)=False by simp,if_false,if_true]
     by_cases q:u0v b n<0
     ·rw[if_pos q,decide_eq_false (show ¬u0v b n≥0 by omega)];rfl
     ·rw[if_neg q,decide_eq_true (show u0v b n≥0 by omega)]
      cases hy:y
      ·rw[hx2 hy];rfl
      ·rw[hx (by omega) hy];rfl
    by_cases q:0≤u0v b n
    ·rw[decide_eq_true (show u0v b n≥0 from q)]
     cases hy:y
     ·simp only[cond_true,zOb,cond_false]
      rw[giv]
      simp only[zOb]
      rw[t5s _ _ h4.few (by simp)]
      simp only[zOb]
      rw[u7l _ (by have:=(t33 h4 []).wt;omega)]
      simp only[zOb]
      have:=raw (t43 b n) (fun _ k=>by rw[hy] at k;cases k) (fun _=>rfl) (.inr trivial)
      rw[hy] at this hbr
      rw[decide_eq_true (show u0v b n≥0 from q)] at this
      exact r2d (o:=true) hbr this
     ·simp only[cond_true,zOb,cond_false]
      have hk:(u0v b n).toNat<b.2.2.1.length:=by
       unfold u0v at q ⊢
       split
       ·rename_i z;rw[zTn];exact z
       ·rename_i z;rw[if_neg z] at q;omega
      obtain⟨k,hkk⟩:∃k:Nat,u0v b n=k:=⟨(u0v b n).toNat,by omega⟩
      have hg:y4q (u0v b n) b.2.2.1.length=true:=by rw[hkk];exact y7t (by rw[hkk] at hk;simpa using hk)
      rw[hg]
      simp only[cond_true]
      have hT:TxnR (rdL u0o b.2.2.1 (u0v b n).toNat):=by
       rw[y8k hk];exact(hB.ready _ (List.getElem_mem hk)).1
      obtain⟨t1,t2,t3⟩:=thr _ hT
      rw[t1]
      simp only[zOb]
      rw[t2]
      simp only[zOb]
      rw[t3]
      simp only[zOb]
      have:=raw (u2g b (rdL u0o b.2.2.1 (u0v b n).toNat)) (fun _ _=>rfl) (fun k=>by rw[hy] at k;cases k) (.inr trivial)
      rw[hy] at this hbr
      rw[decide_eq_true (show u0v b n≥0 from q)] at this
      exact r2d (o:=true) hbr this
    ·rw[decide_eq_false (show ¬u0v b n≥0 from q)]
     simp only[cond_false,zOb]
     rw[giv]
     simp only[zOb]
     rw[t5s _ _ h4.few (by simp)]
     simp only[zOb]
     have:=raw (t43 b n) (fun k=>absurd k q) (fun _=>rfl) (.inr trivial)
     rw[decide_eq_false (show ¬u0v b n≥0 from q)] at this
     exact r2d (o:=false) hbr this
   | bas c h=>
    simp only[show decide ((4:Int)=1)=false from rfl,show decide ((4:Int)=2)=false from rfl,show decide ((4:Int)=3)=false from rfl,cond_false]
    rw[t8o c h.tiny.few]
    simp only[zOb]
    rw[t5s _ _ h.tiny.few (by simp)]
    simp only[zOb]
    rw[u7l _ (by have:=(t33 h.tiny []).wt;omega)]
    simp only[zOb]
    exact r2d (o:=true) hbr (by unfold u2p;simp)
end
section
theorem q75 (d:u0k) (hd:q8c.wt d≤1073741824):t98 d=some (u0g d):=by
 rw[q3g];unfold s90
 simp only[q7z d (show q8c.wt d≤u0l by unfold u0l;omega),r5h d _ hd,zOb];rfl
end
section
theorem p6q (b:u0j) (r:s5j) (hB:BaseR b) (hR:RecR r):s2u (b,r)=some (match u2p b r with
 | some x=>(x,true)
 | none=>(b,false)):=by
 have hb:=hB.tiny
 have thr:∀t:u0i,TxnR t→t2e (b,t)=some (u2g b t):=fun t ht=>by
  rw[p0j b t hb.few ht.tiny.few,p3l (q9p hB.cs) (q9o ht.id)]
 rw[q6j];unfold r38 u2p
 cases hR with
 | thr t h hs=>
  simp only[decide_true,cond_true,if_true]
  rw[s17 (q9p hB.cs),thr t h]
  by_cases q:t.2.2.2.1=b.2.2.2.1+1
  ·rw[decide_eq_true q,if_pos q];rfl
  ·rw[decide_eq_false q,if_neg q];rfl
 | rdy t h hs=>
  simp only[show decide ((2:Int)=1)=false from rfl,show((2:Int)=1)=False by simp,decide_true,decide_false,cond_true,cond_false,if_true,if_false]
  rw[r9f b _ (by have:=hB.rlen;omega)]
  simp only[zOb]
  rw[q4z b t _ hb.few h.tiny.few (q9o h.id)]
  simp only[zOb]
  by_cases q:b.2.2.1.length<3
  ·rw[decide_eq_false (show ¬(b.2.2.1.length:Int)≥3 by omega)]
   simp only[cond_false,zOb]
   by_cases q2:u0v b t.2.2.2.2.2.2.2<0
   ·rw[decide_eq_false (show ¬u0v b t.2.2.2.2.2.2.2≥0 by omega),if_pos ⟨q,q2⟩];rfl
   ·rw[decide_eq_true (show u0v b t.2.2.2.2.2.2.2≥0 by omega),if_neg (fun z=>q2 z.2)];rfl
  ·rw[decide_eq_true (show(b.2.2.1.length:Int)≥3 by omega),if_neg (fun z=>q z.1)];rfl
 | fin n y h=>
  simp only[show decide ((3:Int)=1)=false from rfl,show decide ((3:Int)=2)=false from rfl,show((3:Int)=1)=False by simp,show((3:Int)=2)=False by simp,decide_true,decide_false,cond_true,cond_false,if_true,if_false]
  rw[r9f b _ (by have:=hB.rlen;omega)]
  simp only[zOb]
  by_cases q:u0v b n<0
  ·rw[decide_eq_true q,if_pos q];rfl
  ·rw[decide_eq_false q,if_neg q]
   simp only[cond_false]
   rw[q97 b n hb.few]
   simp only[zOb]
   have hk:(u0v b n).toNat<b.2.2.1.length:=by
    unfold u0v at q ⊢
    split
    ·rename_i z;rw[zTn];exact z
    ·rename_i z;rw[if_neg z] at q;omega
   obtain⟨k,hkk⟩:∃k:Nat,u0v b n=k:=⟨(u0v b n).toNat,by omega⟩
   have hg:y4q (u0v b n) b.2.2.1.length=true:=by rw[hkk];exact y7t (by rw[hkk] at hk;simpa using hk)
   have hT:TxnR (rdL u0o b.2.2.1 (u0v b n).toNat):=by
    rw[y8k hk];exact(hB.ready _ (List.getElem_mem hk)).1
   rw[hg,thr _ hT]
   cases y
   ·rfl
   ·rfl
 | bas c h=>
  simp only[show decide ((4:Int)=1)=false from rfl,show decide ((4:Int)=2)=false from rfl,show decide ((4:Int)=3)=false from rfl,show((4:Int)=1)=False by simp,show((4:Int)=2)=False by simp,show((4:Int)=3)=False by simp,decide_false,cond_false,if_false]
  rw[t8p c h.tiny.few];rfl
theorem p85 {b:u0j} {r:s5j} {x:u0j} (hB:BaseR b) (hR:RecR r) (h:u2p b r=some x):tinyB x:=by
 unfold u2p at h
 cases hR with
 | thr t ht hs=>
  simp only[if_true] at h
  split at h
  ·rw[←Option.some.inj h];exact r1l hB ht.tiny
  ·cases h
 | rdy t ht hs=>
  simp only[show((2:Int)=1)=False by simp,if_true,if_false] at h
  split at h
  ·rw[←Option.some.inj h];exact q7j hB ht.tiny (by have:=u5u (ht.name hs);omega)
  ·cases h
 | fin n y hn=>
  simp only[show((3:Int)=1)=False by simp,show((3:Int)=2)=False by simp,if_true,if_false] at h
  split at h
  ·cases h
  ·rename_i q
   have hk:(u0v b n).toNat<b.2.2.1.length:=by
    unfold u0v at q ⊢
    split
    ·rename_i z;rw[zTn];exact z
    ·rename_i z;rw[if_neg z] at q;omega
   split at h
   ·rw[←Option.some.inj h]
    refine r1l hB ?_
    rw[y8k hk];exact(hB.ready _ (List.getElem_mem hk)).1.tiny
   ·rw[←Option.some.inj h];exact q7b hB.tiny
 | bas c hc=>
  simp only[show((4:Int)=1)=False by simp,show((4:Int)=2)=False by simp,show((4:Int)=3)=False by simp,if_false] at h
  rw[←Option.some.inj h];exact hc.tiny
theorem p2s (b:u0j) (r:s5j) (hb:tinyB b) (hr:tinyR r):s57 (b,r)=some (t8j b r):=by
 have hq:u0l=1099511627776:=rfl
 rw[q9b];unfold r6e
 simp only
 rw[t5r b (by have:=hb.wt;omega),r5j r hr.wt,t8p b hb.few]
 simp only[zOb]
 cases h1:u5m b
 ·unfold t8j u9q
  rw[if_neg (by simp[h1])];rfl
 ·cases h2:u5k r
  ·unfold t8j u9q
   rw[if_neg (by simp[h2])];rfl
  ·have hB:=q62.mp h1
   have hR:=p95.mp h2
   simp only[Bool.not_true,cond_false,zOb]
   rw[p6q b r hB hR]
   simp only[zOb]
   unfold t8j u9q
   rw[if_pos ⟨h1,h2⟩]
   cases hx:u2p b r with
   | none=>rfl
   | some x=>
    have h3:=p85 hB hR hx
    simp only[Bool.not_true,cond_false]
    rw[q15 _ _ h3.few (by simp)]
    simp only[zOb]
    rw[t5r _ (by have:=(t33 h3 []).wt;omega)]
    simp only[zOb]
    cases u5m (u4b x [])<;>rfl
theorem q9q {b x:u0j} {r:s5j} (h:u9q b r=some x):BaseR x∧RecR r:=by
 unfold u9q at h
 split at h
 ·rename_i q
  split at h
  ·cases h
  ·split at h
   ·rename_i z
    rw[←Option.some.inj h]
    exact⟨q62.mp z,p95.mp q.2⟩
   ·cases h
 ·cases h
theorem q7k (t:ByteArray):tinyR (t2i t).1:=by
 unfold t2i
 cases h:u3r t with
 | none=>exact p8w
 | some r=>exact(r7g h).1.tiny
theorem p36 (b:u0j) (t:ByteArray) (l:List ByteArray):t7k b (t::l)=bif !(t2i t).2 || !(t8j b (t2i t).1).2 then none else t7k (t8j b (t2i t).1).1 l:=by
 unfold t2i t8j
 simp only[t7k]
 cases u3r t with
 | none=>rfl
 | some r=>
  simp only
  cases u9q b r with
  | none=>rfl
  | some x=>rfl
def p57 (l:List ByteArray):u0j×Bool:=match t3z l with
 | some b=>(b,true)
 | none=>(u3p,false)
theorem q99 (d:u0k) (hd:q8c.wt d≤1073741824) (ht:∀t∈u0g d,t.size≤u0l) (hl:(u0g d).length≤1000000):t6r d=some (p57 (u0g d)):=by
 have L:=s5l u4v (u0g d).length (fun(b:u0j) i=>(u3p,b,u0g d,((u0g d).length:Int),i)) (fun i b=>match t7k b ((u0g d).drop i) with
  | some x=> .inl (u3p,x)
  | none=> .inr (u3p,false)) (fun _ b=>BaseR b)
  (fun b hb=>by
   rw[s7x];simp only[t2m,u0c,Nat.lt_irrefl,decide_false,cond_false]
   rw[List.drop_length];rfl)
  (fun i b hi hb=>by
   have hm:=List.getElem_mem hi
   have hd:(u0g d).drop i=(u0g d)[i] ::(u0g d).drop (i+1):=List.drop_eq_getElem_cons hi
   have hw:u4v (u3p,b,u0g d,((u0g d).length:Int),(i:Int))=bif !(t2i (u0g d)[i]).2 || !(t8j b (t2i (u0g d)[i]).1).2 then some (.inr (u3p,false)) else u4v (u3p,(t8j b (t2i (u0g d)[i]).1).1,u0g d,((u0g d).length:Int),((i+1:Nat):Int)):=by
    rw[s7x];simp only[t2m,u0c,hi,decide_true,cond_true,y7t hi,zTn,y8k (t:=Ty.str) hi,y7l (show i<4611686018427387904 by omega)]
    rw[q1z _ (ht _ hm)]
    simp only[zOb]
    rw[p2r b _ hb.tiny (q7k _)]
    simp only[zOb]
    cases (t2i (u0g d)[i]).2<;>cases (t8j b (t2i (u0g d)[i]).1).2<;>rfl
   rw[hw,hd,p36]
   cases hc:(!(t2i (u0g d)[i]).2 || !(t8j b (t2i (u0g d)[i]).1).2)
   ·refine .inr ⟨(t8j b (t2i (u0g d)[i]).1).1,?_,?_,rfl⟩
    ·unfold t8j at hc ⊢
     cases hp:u9q b (t2i (u0g d)[i]).1 with
     | none=>rw[hp] at hc;simp at hc
     | some x=>exact(q9q hp).1
    ·simp only[cond_false]
   ·exact .inl rfl) 0 p90 (Nat.zero_le _) p38
 rw[q5a];unfold r21
 rw[q45];unfold r2w
 rw[q74 d hd]
 simp only[zOb]
 have L' :u4v ((([], [], [],0,0):u0j),(([], [], [],0,1):u0j),u0g d,((u0g d).length:Int),0)=_:=L
 rw[L',List.drop_zero]
 unfold p57 t3z
 cases t7k p90 (u0g d)<;>rfl
theorem p0a (d:u0k) (hd:q8c.wt d≤1073741824) (ht:∀t∈u0g d,t.size≤u0l) (hl:(u0g d).length≤1000000):t62 d=some (p57 (u0g d)):=by
 have L:=s5l u4w (u0g d).length (fun(b:u0j) i=>(u3p,b,u0g d,i)) (fun i b=>match t7k b ((u0g d).drop i) with
  | some x=> .inl (u3p,x)
  | none=> .inr (u3p,false)) (fun _ b=>BaseR b)
  (fun b hb=>by
   rw[s8a];simp only[t2z,u0c,Nat.lt_irrefl,decide_false,cond_false]
   rw[List.drop_length];rfl)
  (fun i b hi hb=>by
   have hm:=List.getElem_mem hi
   have hd:(u0g d).drop i=(u0g d)[i] ::(u0g d).drop (i+1):=List.drop_eq_getElem_cons hi
   have hw:u4w (u3p,b,u0g d,(i:Int))=bif !(t2i (u0g d)[i]).2 || !(t8j b (t2i (u0g d)[i]).1).2 then some (.inr (u3p,false)) else u4w (u3p,(t8j b (t2i (u0g d)[i]).1).1,u0g d,((i+1:Nat):Int)):=by
    rw[s8a];simp only[t2z,u0c,hi,decide_true,cond_true,y7t hi,zTn,y8k (t:=Ty.str) hi,y7l (show i<4611686018427387904 by omega)]
    rw[q10 _ (ht _ hm)]
    simp only[zOb]
    rw[p2s b _ hb.tiny (q7k _)]
    simp only[zOb]
    cases (t2i (u0g d)[i]).2<;>cases (t8j b (t2i (u0g d)[i]).1).2<;>rfl
   rw[hw,hd,p36]
   cases hc:(!(t2i (u0g d)[i]).2 || !(t8j b (t2i (u0g d)[i]).1).2)
   ·refine .inr ⟨(t8j b (t2i (u0g d)[i]).1).1,?_,?_,rfl⟩
    ·unfold t8j at hc ⊢
     cases hp:u9q b (t2i (u0g d)[i]).1 with
     | none=>rw[hp] at hc;simp at hc
     | some x=>exact(q9q hp).1
    ·simp only[cond_false]
   ·exact .inl rfl) 0 p90 (Nat.zero_le _) p38
 rw[q52];unfold r3q
 rw[q5y];unfold r3m
 rw[q75 d hd]
 simp only[zOb]
 have L' :u4w ((([], [], [],0,0):u0j),(([], [], [],0,1):u0j),u0g d,0)=_:=L
 rw[L',List.drop_zero]
 unfold p57 t3z
 cases t7k p90 (u0g d)<;>rfl
end
section
def txP (t:u0i):ByteArray×Bool:=if u49 t=true then(u7a t,true) else(emp,false)
def t5l (l m:List u0i):Bool:=decide (l.map txP=m.map txP)
theorem p4b (a b:ByteArray×Bool):(bif a.2==b.2 then z7o a.1 b.1 else false)=decide (a=b):=by
 obtain⟨a1,a2⟩:=a
 obtain⟨b1,b2⟩:=b
 rw[Bool.eq_iff_iff,decide_eq_true_eq,Prod.mk.injEq]
 cases a2<;>cases b2<;>simp[y7f]
theorem p1n {l m:List u0i} (h:l.length=m.length):((List.range l.length).all fun i=>decide (txP (rdL u0o l i)=txP (rdL u0o m i)))=t5l l m:=by
 unfold t5l
 rw[Bool.eq_iff_iff,List.all_eq_true,decide_eq_true_eq]
 constructor
 ·intro k
  apply List.ext_getElem (by simp[h])
  intro i h1 h2
  rw[List.getElem_map,List.getElem_map]
  rw[List.length_map] at h1 h2
  have:=k i (List.mem_range.mpr h1)
  rw[decide_eq_true_eq,y8k h1,y8k h2] at this
  exact this
 ·intro k i hi
  have h1:=List.mem_range.mp hi
  have h2:i<m.length:=by omega
  rw[decide_eq_true_eq,y8k h1,y8k h2]
  have e:(l.map txP)[i]'(by simpa using h1)=(m.map txP)[i]'(by simpa using h2):=by simp only[k]
  rwa [List.getElem_map,List.getElem_map] at e
theorem q4e {l m:List u0i} (h:l.length≠m.length):t5l l m=false:=by
 unfold t5l
 rw[decide_eq_false_iff_not]
 intro e
 have:=congrArg List.length e
 rw[List.length_map,List.length_map] at this
 exact h this
theorem q6w (l m:List u0i) (hl:l.length≤1000) (h1:∀t∈l,tinyT t) (h2:∀t∈m,tinyT t):u1i (l,m,())=some (t5l l m):=by
 rw[u86];unfold u35
 simp only
 by_cases h:l.length=m.length
 ·have L:=u8e u1b l.length (fun i=>(m,(),l,(l.length:Int),i)) (fun i=>decide (txP (rdL u0o l i)=txP (rdL u0o m i))) (.inl ()) (.inr false)
   (by rw[u3o];simp only[u1a,u0c,Nat.lt_irrefl,decide_false,cond_false])
   (fun i hi=>by
    have hm1:rdL u0o l i∈l:=by rw[y8k hi];exact List.getElem_mem hi
    have hi2:i<m.length:=by omega
    have hm2:rdL u0o m i∈m:=by rw[y8k hi2];exact List.getElem_mem hi2
    have k1:=t7b (rdL u0o l i) (by have:=(h1 _ hm1).wt;omega)
    have k2:=t7b (rdL u0o m i) (by have:=(h2 _ hm2).wt;omega)
    rw[u3o];simp only[u1a,u0c,hi,decide_true,cond_true,y7t hi,y7t hi2,zTn,y7l (show i<4611686018427387904 by omega)]
    rw[q22];unfold s9m
    simp only
    rw[k1,k2]
    simp only[zOb]
    rw[←p4b]
    unfold txP
    generalize (if u49 (rdL u0o l i)=true then(u7a (rdL u0o l i),true) else(emp,false))=a
    generalize (if u49 (rdL u0o m i)=true then(u7a (rdL u0o m i),true) else(emp,false))=b
    cases a.2==b.2
    ·rfl
    ·simp only[cond_true,zOb]
     cases z7o a.1 b.1<;>rfl)
  rw[p1n h] at L
  rw[L,decide_eq_true (show(l.length:Int)=(m.length:Int) by omega)]
  cases t5l l m<;>rfl
 ·rw[decide_eq_false (show ¬(l.length:Int)=(m.length:Int) by omega),q4e h];rfl
theorem q6x (l m:List u0i) (hl:l.length≤1000) (h1:∀t∈l,tinyT t) (h2:∀t∈m,tinyT t):t5k (l,m)=some (t5l l m):=by
 rw[q3r];unfold r0c
 simp only
 by_cases h:l.length=m.length
 ·have L:=u8e t1h l.length (fun i=>(l,m,i)) (fun i=>decide (txP (rdL u0o l i)=txP (rdL u0o m i))) (.inl ()) (.inr false)
   (by rw[s5e];simp only[t01,u0c,Nat.lt_irrefl,decide_false,cond_false])
   (fun i hi=>by
    have hm1:rdL u0o l i∈l:=by rw[y8k hi];exact List.getElem_mem hi
    have hi2:i<m.length:=by omega
    have hm2:rdL u0o m i∈m:=by rw[y8k hi2];exact List.getElem_mem hi2
    have k1:=t7c (rdL u0o l i) (by have:=(h1 _ hm1).wt;omega)
    have k2:=t7c (rdL u0o m i) (by have:=(h2 _ hm2).wt;omega)
    rw[s5e];simp only[t01,u0c,hi,decide_true,cond_true,y7t hi,y7t hi2,zTn,y7l (show i<4611686018427387904 by omega)]
    rw[k1,k2]
    simp only[zOb]
    rw[←p4b]
    unfold txP
    generalize (if u49 (rdL u0o l i)=true then(u7a (rdL u0o l i),true) else(emp,false))=a
    generalize (if u49 (rdL u0o m i)=true then(u7a (rdL u0o m i),true) else(emp,false))=b
    cases a.2==b.2
    ·rfl
    ·simp only[cond_true,zOb,Bool.not_true,cond_false]
     cases z7o a.1 b.1<;>rfl)
  rw[p1n h] at L
  rw[L,decide_eq_true (show(l.length:Int)=(m.length:Int) by omega)]
  cases t5l l m<;>rfl
 ·rw[decide_eq_false (show ¬(l.length:Int)=(m.length:Int) by omega),q4e h];rfl
end
section
theorem p8a (n:Nat) (hn:n≤1099511627776):u5o ((),(n:Int))=some [] :=by
 rw[s0r];unfold t1t
 have e0:IntKind.i64.wrap ((0:Int) - (0:Int))=0:=by rw[y4y (by omega) (by omega)];rfl
 have e1:IntKind.i64.wrap ((n:Int) - 0)=(n:Int):=by rw[y4y (by omega) (by omega)];omega
 have e2:decide ((n:Int)<0)=false:=decide_eq_false (by omega)
 simp only[e0,e1,e2,cond_false]
 by_cases h:n=0
 ·subst h;simp
 ·have e3:decide ((n:Int) >0)=true:=by simp;omega
  have e4:(decide ((1:Int)≤(n:Int))&&decide ((n:Int)≤1099511627776))=true:=by simp;omega
  simp only[e3,e4,cond_true]
  simp
theorem p4x (ls:List (List u14)) (h:ls.flatten.length≤1099511627776) (hn:ls.length≤1099511627776):u48 ls=some ls.flatten:=by
 have fl:∀(i:Nat),i≤ls.length→(ls.take i).flatten.length≤ls.flatten.length:=fun i _=>by
  have:=List.take_append_drop i ls
  have h2:ls.flatten=(ls.take i).flatten++(ls.drop i).flatten:=by rw[←List.flatten_append,this]
  rw[h2,List.length_append];omega
 have st:∀(i:Nat) (hi:i<ls.length),(ls.take (i+1)).flatten=(ls.take i).flatten++ls[i] :=fun i hi=>by
  rw[List.take_add_one,List.getElem?_eq_getElem hi,List.flatten_append];simp
 have L1:=s5l u1y ls.length (fun(n:Nat) i=>(ls,(n:Int),ls,(ls.length:Int),i)) (fun _ _=> .inl (ls,(ls.flatten.length:Int))) (fun i n=>n=(ls.take i).flatten.length)
  (fun n hP=>by
   rw[List.take_length] at hP;subst hP
   rw[u7k];simp only[u2l,u0c,Nat.lt_irrefl,decide_false,cond_false])
  (fun i n hi hP=> .inr ⟨(ls.take (i+1)).flatten.length,rfl,rfl,by
   have h1:=fl (i+1) (by omega)
   have h2:(ls.take (i+1)).flatten.length=n+ls[i].length:=by rw[st i hi,List.length_append,hP]
   have e1:IntKind.i64.wrap ((n:Int)+((ls[i].length:Nat):Int))=((n+ls[i].length:Nat):Int):=by rw[y4y (by omega) (by omega)];omega
   have e2:decide (((n+ls[i].length:Nat):Int)<0)=false:=by simp;omega
   rw[u7k];simp only[u2l,u0c,hi,decide_true,cond_true,y7t hi,zTn,y8k (t:=Ty.sl u0b) hi,y7l (show i<4611686018427387904 by omega),h2]
   rw[e1,e2];rfl⟩) 0 0 (by omega) rfl
 have L2:=s5l u1v ls.length (fun(a:List u14) i=>(a,ls,(ls.length:Int),i)) (fun _ _=> .inl ls.flatten) (fun i a=>a=(ls.take i).flatten)
  (fun a hP=>by
   rw[List.take_length] at hP;subst hP
   rw[u66];simp only[u2c,u0c,Nat.lt_irrefl,decide_false,cond_false])
  (fun i a hi hP=> .inr ⟨(ls.take (i+1)).flatten,rfl,rfl,by
   have h1:=fl (i+1) (by omega)
   have h2:(ls.take (i+1)).flatten.length=a.length+ls[i].length:=by rw[st i hi,List.length_append,hP]
   rw[u66];simp only[u2c,u0c,hi,decide_true,cond_true,y7t hi,zTn,y8k (t:=Ty.sl u0b) hi,y7l (show i<4611686018427387904 by omega)]
   rw[u1w (show a.length+ls[i].length≤1099511627776 by omega),st i hi,hP];rfl⟩) 0 [] (by omega) rfl
 rw[t8h];unfold u9p
 have L1' :u1y (ls,(0:Int),ls,(ls.length:Int),0)=some (.inl (ls,(ls.flatten.length:Int))):=L1
 have L2' :u1v ([],ls,(ls.length:Int),0)=some (.inl ls.flatten):=L2
 simp only[L1',zOb,p8a _ h,L2']
def p6r:q6v:=((⟨#[97]⟩:ByteArray),(⟨#[122,122,122]⟩:ByteArray))
def s1v (a b:List u14) (s:Int):Bool:=decide (r4q a p6r s=r4q b p6r s)
def r7i (a b:List u14) (s:Int):Bool:=s1v a b s&&(a++b).all fun v=>decide (v.2.2.2≤s) || s1v a b v.2.2.2
def p68 (a b:u0j):Bool:=decide (a.2.2.2.1=b.2.2.2.1)&&(t5l a.2.1 b.2.1&&(t5l a.2.2.1 b.2.2.1&&r7i a.1 b.1 a.2.2.2.1))
theorem q4c (a b:List u14) (s:Int) (ha:a.length≤10000) (hb:b.length≤10000):t1k (s,(a,b))=some (s1v a b s):=by
 rw[r79];unfold s27
 rw[q5m];unfold r3d
 simp only[zOb]
 rw[q11 a _ s (by omega),q11 b _ s (by omega)]
 simp only[zOb]
 rw[p41 _ _ (by have:=q7l a ((⟨#[97]⟩:ByteArray),(⟨#[122,122,122]⟩:ByteArray)) s;omega)]
 rfl
theorem q4d (a b:List u14) (s:Int) (ha:a.length≤10000) (hb:b.length≤10000):u4c (a,(p6r,s))=some (r4q a p6r s)∧u4c (b,(p6r,s))=some (r4q b p6r s)∧u65 (r4q a p6r s,r4q b p6r s)=some (s1v a b s):=
 ⟨q12 a _ s (by omega),q12 b _ s (by omega),p42 _ _ (by have:=q7l a p6r s;omega)⟩
theorem q76 (a b:List u14) (s:Int) (ha:a.length≤10000) (hb:b.length≤10000):t9p (a,b,s)=some (r7i a b s):=by
 have hC:=p4x [a,b] (by simp only[List.flatten_cons,List.flatten_nil,List.append_nil,List.length_append];omega) (by simp)
 rw[show[a,b].flatten=a++b by simp] at hC
 have hl:(a++b).length≤20000:=by rw[List.length_append];omega
 generalize hg:a++b=g at hC hl
 have L:=u8e t05 g.length (fun i=>(s,(a,b),g,(g.length:Int),i)) (fun i=>(fun v:u14=>decide (v.2.2.2≤s) || s1v a b v.2.2.2) (rdL u0b g i)) (.inl (s,(a,b))) (.inr false)
  (by rw[s4v];simp only[t0i,u0c,Nat.lt_irrefl,decide_false,cond_false])
  (fun i hi=>by
   rw[s4v];simp only[t0i,u0c,hi,decide_true,cond_true,y7t hi,zTn,y7l (show i<4611686018427387904 by omega),r0l (rdL u0b g i).2.2.2 s]
   rw[q4c a b _ ha hb]
   cases decide ((rdL u0b g i).2.2.2≤s)
   ·cases s1v a b (rdL u0b g i).2.2.2<;>rfl
   ·rfl)
 rw[t41 (t:=u0b) g (fun v:u14=>decide (v.2.2.2≤s) || s1v a b v.2.2.2)] at L
 rw[q2u];unfold s9f
 simp only
 rw[hC]
 simp only[zOb]
 rw[L]
 unfold r7i
 rw[hg]
 cases g.all fun v:u14=>decide (v.2.2.2≤s) || s1v a b v.2.2.2
 ·simp
 ·simp only[cond_true,zOb,Bool.and_true]
  rw[q4c a b _ ha hb];rfl
theorem q77 (a b:List u14) (s:Int) (ha:a.length≤10000) (hb:b.length≤10000):s0b (a,b,s)=some (r7i a b s):=by
 have hl:(a++b).length=a.length+b.length:=List.length_append
 have L:=u8e t1d (a++b).length (fun i=>(a,b,s,p6r,i)) (fun i=>(fun v:u14=>decide (v.2.2.2≤s) || s1v a b v.2.2.2) (rdL u0b (a++b) i)) (.inl ()) (.inr false)
  (by
   rw[s46];simp only[t0t]
   rw[y4y (n:=(a.length:Int)+(b.length:Int)) (by omega) (by omega),decide_eq_false (show ¬((a++b).length:Int)<(a.length:Int)+(b.length:Int) by omega)];rfl)
  (fun i hi=>by
   obtain⟨k1,k2,k3⟩:=q4d a b (rdL u0b (a++b) i).2.2.2 ha hb
   rw[s46];simp only[t0t]
   rw[y4y (n:=(a.length:Int)+(b.length:Int)) (by omega) (by omega),decide_eq_true (show(i:Int)<(a.length:Int)+(b.length:Int) by omega)]
   simp only[cond_true,y7l (show i<4611686018427387904 by omega)]
   by_cases h:i<a.length
   ·have e:rdL u0b (a++b) i=rdL u0b a i:=by
     rw[y8k hi,y8k h];exact List.getElem_append_left h
    rw[e] at k1 k2 k3 ⊢
    rw[decide_eq_true (show(i:Int)<(a.length:Int) by omega)]
    simp only[cond_true,y7t h,zTn,r0l (rdL u0b a i).2.2.2 s]
    rw[k1,k2]
    simp only[zOb]
    rw[k3]
    cases decide ((rdL u0b a i).2.2.2≤s)
    ·cases s1v a b (rdL u0b a i).2.2.2<;>rfl
    ·rfl
   ·have h2:i - a.length<b.length:=by omega
    have e:rdL u0b (a++b) i=rdL u0b b (i - a.length):=by
     rw[y8k hi,y8k h2];exact List.getElem_append_right (by omega)
    have ew:IntKind.i64.wrap ((i:Int) - (a.length:Int))=((i - a.length:Nat):Int):=by rw[y4y (by omega) (by omega)];omega
    rw[e] at k1 k2 k3 ⊢
    rw[decide_eq_false (show ¬(i:Int)<(a.length:Int) by omega),ew]
    simp only[cond_false,cond_true,y7t h2,zTn,r0l (rdL u0b b (i - a.length)).2.2.2 s]
    rw[k1,k2]
    simp only[zOb]
    rw[k3]
    cases decide ((rdL u0b b (i - a.length)).2.2.2≤s)
    ·cases s1v a b (rdL u0b b (i - a.length)).2.2.2<;>rfl
    ·rfl)
 rw[t41 (t:=u0b) (a++b) (fun v:u14=>decide (v.2.2.2≤s) || s1v a b v.2.2.2)] at L
 obtain⟨k1,k2,k3⟩:=q4d a b s ha hb
 rw[q3l];unfold s95
 rw[q9h];unfold r6k
 simp only[zOb]
 rw[show((⟨#[97]⟩:ByteArray),(⟨#[122,122,122]⟩:ByteArray))=p6r from rfl,k1,k2]
 simp only[zOb]
 rw[k3]
 simp only[zOb]
 rw[L]
 unfold r7i
 cases s1v a b s
 ·rfl
 ·cases (a++b).all fun v:u14=>decide (v.2.2.2≤s) || s1v a b v.2.2.2<;>rfl
theorem p6n (a b:u0j) (ha:tinyB a) (hb:tinyB b):t9m (a,b)=some (p68 a b):=by
 rw[q2p];unfold s9a p68
 simp only
 rw[q6w _ _ ha.pl ha.ps hb.ps,q6w _ _ ha.rl ha.rs hb.rs,q76 _ _ _ ha.vl hb.vl]
 simp only[zOb]
 cases decide (a.2.2.2.1=b.2.2.2.1)<;>cases t5l a.2.1 b.2.1<;>cases t5l a.2.2.1 b.2.2.1<;>rfl
theorem p6o (a b:u0j) (ha:tinyB a) (hb:tinyB b):t97 (a,b)=some (p68 a b):=by
 rw[q3f];unfold s9z p68
 simp only
 rw[q6x _ _ ha.pl ha.ps hb.ps,q6x _ _ ha.rl ha.rs hb.rs,q77 _ _ _ ha.vl hb.vl]
 simp only[zOb]
 cases decide (a.2.2.2.1=b.2.2.2.1)<;>cases t5l a.2.1 b.2.1<;>cases t5l a.2.2.1 b.2.2.1<;>rfl
end
section
theorem p1y (t:ByteArray) (a:Int):(u0m t a).1.size≤20000:=by
 unfold u0m
 split
 ·rename_i hc
  have:=t4c hc.1
  simp only[ByteArray.size_extract];omega
 ·exact Nat.zero_le _
theorem r91 (t:ByteArray):∀(m:Nat) (a:Int) (acc:List ByteArray),(∀s∈acc,s.size≤20000)→ ∀s∈(u5c t m a acc).1,s.size≤20000
 | 0,a,acc,h=>h
 | m+1,a,acc,h=>by
  unfold u5c
  split
  ·refine r91 t m _ _ fun s hs=> ?_
   rcases List.mem_append.mp hs with q | q
   ·exact h s q
   ·rw[List.mem_singleton.mp q];exact p1y _ _
  ·intro s hs;cases hs
theorem q6m (d:u0k) (a:Int):∀s∈(u0e d a).1,s.size≤20000:=by
 unfold u0e
 split
 ·exact r91 _ _ _ _ fun s hs=>by cases hs
 ·intro s hs;cases hs
theorem r4l (d:u0k):∀s∈u0g d,s.size≤20000:=q6m d _
theorem q0b (d:u0k):(u0g d).length<256:=p1x d _
theorem p6p (d:u0k) (hd:q8c.wt d≤1073741824):t6r d=some (p57 (u0g d)):=
 q99 d hd (fun t ht=>by have:=r4l d t ht;unfold u0l;omega) (by have:=q0b d;omega)
theorem p43 (d:u0k) (hd:q8c.wt d≤1073741824):t62 d=some (p57 (u0g d)):=
 p0a d hd (fun t ht=>by have:=r4l d t ht;unfold u0l;omega) (by have:=q0b d;omega)
theorem p4e:∀ {l:List ByteArray} {b x:u0j},BaseR b→t7k b l=some x→BaseR x
 | [],b,x,hb,h=>by rw[←Option.some.inj h];exact hb
 | t::l,b,x,hb,h=>by
  simp only[t7k] at h
  split at h
  ·cases h
  ·split at h
   ·cases h
   ·rename_i r _ y hy
    exact p4e (q9q hy).1 h
theorem p1t {l:List ByteArray} {x:u0j} (h:t3z l=some x):BaseR x:=p4e p38 h
theorem p1m (l:List ByteArray):tinyB (p57 l).1:=by
 unfold p57
 cases h:t3z l with
 | none=>exact s5g
 | some b=>exact(p1t h).tiny
def q9y (s:s5h×u0k):Bool:=q9k s.1&&(u5i s.2&&((p57 (u0g s.2)).2&&p68 (p57 (u0g s.2)).1 (u4b s.1.1 [])))
theorem p9y {b:u0j} {o:List u0i} (h:s5m.wt (b,o)≤1048576):p1f b∧p62 o:=by
 have e1:=p6y (b,o)
 have e2:=s5o b
 simp only at e1
 have f:∀l:List u0i,(Ty.sl u0o).wt l≤1048576→p62 l:=fun l hl=>by
  refine⟨by have:=t1x (t:=u0o) l;omega,fun t ht=> ?_⟩
  have h1:=r1n ht
  have h2:=p4o t
  have h3:=t1x (t:=u1z) t.2.2.2.2.1
  have h4:=t1x (t:=u01) t.2.2.2.2.2.1
  exact⟨by omega,by omega⟩
 exact⟨⟨by have:=t1x (t:=u0b) b.1;omega,f _ (by omega),f _ (by omega)⟩,f _ (by omega)⟩
theorem p0e (s:s5h×u0k) (hw:r90.wt s≤1048576):s2d s=some (q9y s):=by
 have hb:u0l=1099511627776:=rfl
 have e:r90.wt s=s5m.wt s.1+q8c.wt s.2:=rfl
 have hf:=p9y (b:=s.1.1) (o:=s.1.2) (by have:s5m.wt (s.1.1,s.1.2)=s5m.wt s.1:=rfl
                                        omega)
 rw[q5e];unfold r25 q9y
 rw[p6p s.2 (by omega),q72 s.1 (by omega),p4z s.2 (by omega)]
 simp only[zOb]
 rw[t5s s.1.1 [] hf.1 (by simp)]
 simp only[zOb]
 cases h1:q9k s.1
 ·rfl
 ·have hE:=o2k.mp h1
  rw[p6n _ _ (p1m _) (t33 hE.base.tiny [])]
  cases u5i s.2<;>cases (p57 (u0g s.2)).2<;>rfl
theorem p0f (s:s5h×u0k) (hw:r90.wt s≤1048576):s2o s=some (q9y s):=by
 have hb:u0l=1099511627776:=rfl
 have e:r90.wt s=s5m.wt s.1+q8c.wt s.2:=rfl
 have hf:=p9y (b:=s.1.1) (o:=s.1.2) (by have:s5m.wt (s.1.1,s.1.2)=s5m.wt s.1:=rfl
                                        omega)
 rw[q57];unfold r3v q9y
 rw[p43 s.2 (by omega),q73 s.1 (by omega),p40 s.2 (by omega)]
 simp only[zOb]
 rw[q15 s.1.1 [] hf.1 (by simp)]
 simp only[zOb]
 cases h1:q9k s.1
 ·rfl
 ·have hE:=o2k.mp h1
  rw[p6o _ _ (p1m _) (t33 hE.base.tiny [])]
  cases u5i s.2<;>cases (p57 (u0g s.2)).2<;>rfl
end
section
theorem r7a (x:r90.den) (hx:r90.fine x):t7l x=some true:=by
 rw[r0i];unfold t7d
 refine o05 (p9e x _ hx (by omega) (by omega)) (fun c1=> ?_)
 have wx:r90.wt x≤1099511627776:=by omega
 simp only[p9i x wx,p0f x (by omega),p0e x (by omega),p8i x wx,zOb,beq_self_eq_true,Bool.not_true,cond_false]
end
end
end Go.Proofs.YtbkicjpdlchbgaaGreat.Ab
