import Derived.Test.YtkphhjdbdnoekaaGreatDoorAbE4
namespace Go.Proofs.YtkphhjdbdnoekaaGreatDoor.Ab
open Go
set_option linter.unusedVariables false
set_option linter.unusedSimpArgs false
set_option linter.unnecessarySimpa false
section
variable {P:Program} {A:Ann} {V:Lvl A} {all:List Oper} {C:Cx} {env env' :List D} {H:z0a} {B:List (Option Nat)} {a:Act} {w w' :World}
theorem y0v (h:St C env H B a w) {u:Used} (hex:u.excl) {out:Sh} {cs:List D} {kvs:List Value} (hcs:CRs (C.N B) (C.Np B) H B w cs kvs) (hperm:(out.perm || !u.lent)=true) (hnr:out.norefs=true)
 {H1:z0a} {B1:List (Option Nat)} {ds:List D} {vs:List Value} {y:out.den} {u1:Used} (g1:HS (C.callee B u w) H1 B1 w') (g2:CRs ((C.callee B u w).N B1) ((C.callee B u w).Np B1) H1 B1 w' ds (vs++kvs))
 (g3:ext false H1 out ds [] =some (y, [],u1)) {rs:List D} {H2:z0a} (hrs:emb out y (kill H u.ids)=(rs,H2)) {r:List (Nat×Blk×Nat)} (hr:z1r H u.ids H2 cs (rs.drop vs.length)=some r):
 ∃B2,St C env (y1r r H2) B2 a w' /\CR (C.N B2) (C.Np B2) (y1r r H2) B2 w' (y5a (rs.take vs.length)) (y2x vs):=by
 have hperm:out.perm=true\/u.lent=false:=by simpa using hperm
 have hex1:=z5h g3 (fun id k=>absurd k (by simp));obtain⟨hid,hpw⟩:=z2f hr;have hkl:(kill H u.ids).length=H.length:=z3f _ _;have hkBl:(killB B u.ids).length=H.length:=by rw[z5v,h.lenB]
 let Nt:Nat->Prop:=fun b=>(Has B b/\ ¬Moved B u b)\/Moved B1 u1 b\/C.Lb b
 let Ntp:Nat->Prop:=fun b=>(Has B b/\ ¬Moved B u b)\/Moved B1 u1 b\/C.Lp b
 have hNt:∀b,Nt b->Ntp b:=fun b k=>k.imp (fun q=>q) (fun k=>k.imp (fun q=>q) (h.lb b))
 have hB1:∀i rb:Nat,B1[i]? =some (some rb)->rb<w'.heap.size/\ ¬C.Lp rb/\ ¬(Has B rb/\ ¬Moved B u rb)/\(Moved B u rb\/w.heap.size<=rb):=fun i rb q=>by
  have:=g1.alloc i rb q;exact⟨this.1,fun z=>this.2.1 (.inl z),fun z=>this.2.1 (.inr z),this.2.2⟩
 have hF:∀id rb,(id,false)∈u1->B1[id]? =some (some rb)-> ¬Ntp rb:=fun id rb hid hb k=>by
  have hal:=hB1 id rb hb;rcases k with k | ⟨id',k1,k2⟩ | k
  .exact hal.2.2.1 k
  .have:=g1.nodup _ _ _ hb k2;subst this;exact hex1 _ k1 hid
  .exact hal.2.1 k
 have hm1:∀b,Moved B1 u1 b->Has B1 b:=fun b k=>k.has
 let X2:z0a:=z3t r (kill H u.ids)
 let Y2:List (Option Nat):=z4f B r (killB B u.ids)
 have hX2:X2.length=H.length:=by show(z3t _ _).length=_;rw[z8w,hkl]
 have hY2:Y2.length=H.length:=by show(z4f _ _ _).length=_;rw[z6z,hkBl]
 obtain⟨us,vs',hv,hnil,Bn,L,_⟩:=z2s (Nt:=Nt) (Ntp:=Ntp) (fun b=>Cx.N_Np g1.lb) hNt g1.lenB g1.blk
  (fun b _ hn k=>hn (by
   rcases k with k | k | k
   .exact .inr (.inr k)
   .exact .inl (hm1 b k)
   .exact .inr (.inl k)))
  (fun hp b _ hn k=>hn (by
   rcases k with k | k | k
   .exact .inr (.inr ⟨hperm.resolve_left (by rw[hp];exact Hf),k⟩)
   .exact .inl (hm1 b k)
   .exact .inr (.inl k))) g3 g2
  (fun id rb hid hb=>⟨fun q=>hF id rb hid hb (hNt rb q),fun _=>hF id rb hid hb⟩) X2 Y2 (hY2.trans hX2.symm) (.inl hnr)
 simp only[CRs] at hnil;subst hnil;rw[Bw] at hv;subst hv;obtain⟨⟨Hn,e1,e2,e3⟩,hcells,M,m1,m2,m3,m4⟩:=L;obtain⟨f1,Hn',f2,f3⟩:=y5u out y (kill H u.ids) X2 hnr (by rw[hkl,hX2]);rw[hrs] at f1 f2;simp only at f1 f2;have hHn:Hn' =Hn:=by rw[e1] at f3;exact(List.append_cancel_left f3).symm
 subst hHn;rw[←f1] at hcells;rw[e1] at hcells e3;have hBm:(Y2++Bn).length=(X2++Hn').length:=by simp[hX2,hY2,e2]
 have hd2:=hcells.drop vs.length;rw[Hg] at hd2;have hwb:=z4e h.lenB hBm (H2:=H2) (fun i hi=>by
  rw[f2,Aq (by omega),Aq (by omega),hX2,hkl]) (fun b hb hn=>g1.fr.same b hb (fun k=>hn (.inl k.has))) hcs hd2 hr
 have hMn:∀i rb:Nat,Bn[i]? =some (some rb)->Moved B1 u1 rb:=fun i rb q=>by
  obtain⟨id,k1,k2⟩:=m3 i rb q;exact⟨id,(m2 _ _ k1).1,k2⟩
 let S:List Nat:=r.map (·.2.2)
 have hfin:y1r r H2=kill (X2++Hn') S:=by
  show kill (z3t r H2) S=_;rw[f2,z8v _ _ _ (fun e he=>by rw[hkl];exact(hid e he).2.1)]
 have hS:∀i,i∈S->H.length<=i:=fun i hi=>by
  obtain⟨e,he,rfl⟩:=Bx.mp hi;exact(hid e he).2.2
 let B2:List (Option Nat):=killB (Y2++Bn) S
 have hB2l:B2.length=(X2++Hn').length:=by show(killB _ _).length=_;rw[z5v,hBm]
 have hH2l:(kill (X2++Hn') S).length=(X2++Hn').length:=z3f _ _
 have old:∀i,i<H.length->(∃e∈r,e.1=i/\(kill (X2++Hn') S)[i]? =some e.2.1/\B2[i]? =B[i]?)\/
  (i∈u.ids/\(kill (X2++Hn') S)[i]? =some .dead/\B2[i]? =some none)\/(i ∉ u.ids/\(kill (X2++Hn') S)[i]? =H[i]? /\B2[i]? =B[i]?):=by
  intro i hi;have hiS: ¬(i∈S/\i<(X2++Hn').length):=fun q=>by have:=hS i q.1;omega
  have hiS' : ¬(i∈S/\i<(Y2++Bn).length):=fun q=>by have:=hS i q.1;omega
  have q1:(kill (X2++Hn') S)[i]? =X2[i]? :=by rw[z0w,Ao hiS,Aj (by omega)]
  have q2:B2[i]? =Y2[i]? :=by show(killB _ _)[i]? =_;rw[z0v,Ao hiS',Aj (by omega)]
  by_cases hex:∃e∈r,e.1=i
  .obtain⟨e,he,rfl⟩:=hex;refine .inl ⟨e,he,rfl,?_,?_⟩
   .rw[q1];exact y0t r _ hpw e he (by rw[hkl];exact hi)
   .rw[q2];exact z8u r _ hpw e he (by rw[hkBl];exact hi) (by rw[hkBl,h.lenB])
  .have hne:∀e∈r,e.1≠i:=fun e he q=>hex ⟨e,he,q⟩
   right;have q3:X2[i]? =(kill H u.ids)[i]? :=z4g r _ i hne;have q4:Y2[i]? =(killB B u.ids)[i]? :=z4v r _ i hne;rw[q1,q2,q3,q4,z0w,z0v];by_cases hi2:i∈u.ids
   .left;rw[Al ⟨hi2,hi⟩,Al ⟨hi2,by rw[h.lenB];exact hi⟩];exact⟨hi2,rfl,rfl⟩
   .right;rw[Ao (fun q=>hi2 q.1),Ao (fun q=>hi2 q.1)];exact⟨hi2,rfl,rfl⟩
 have new:∀i,H.length<=i->(i∈S/\(∀b,(kill (X2++Hn') S)[i]? =some b->b= .dead)/\(∀ob,B2[i]? =some ob->ob=none))\/
  (i ∉ S/\(kill (X2++Hn') S)[i]? =Hn'[i - H.length]? /\B2[i]? =Bn[i - H.length]?):=by
  intro i hi;have q1:(X2++Hn')[i]? =Hn'[i - H.length]? :=by rw[Aq (by omega),hX2]
  have q2:(Y2++Bn)[i]? =Bn[i - H.length]? :=by rw[Aq (by omega),hY2]
  by_cases hs:i∈S
  .refine .inl ⟨hs,fun b e=> ?_,fun ob e=> ?_⟩
   .rw[z0w] at e;split at e
    .cases e;rfl
    .rename_i hne;have:=z1k e;exact absurd ⟨hs,this⟩ hne
   .replace e:(killB (Y2++Bn) S)[i]? =some ob:=e;rw[z0v] at e;split at e
    .cases e;rfl
    .rename_i hne;have:=z1k e;exact absurd ⟨hs,this⟩ hne
  .right;refine⟨hs,?_,?_⟩
   .rw[z0w,Ao (fun q=>hs q.1),q1]
   .show(killB _ _)[i]? =_;rw[z0v,Ao (fun q=>hs q.1),q2]
 have hstay:∀i rb:Nat,B[i]? =some (some rb)->i ∉ u.ids-> ¬Moved B u rb:=fun i rb q1 q2 ⟨id,z1,z2⟩=>by
  have:=h.nodup _ _ _ q1 z2;subst this;exact q2 (y8w.mpr z1)
 have hBmnew:∀i,H.length<=i->(Y2++Bn)[i]? =Bn[i - H.length]? :=fun i hi=>by rw[Aq (by omega),hY2]
 have hrev:∀e∈r,B[e.1]? =Bn[e.2.2 - H.length]? :=fun e he=>by
  obtain⟨_,z1,z2,_⟩:=hwb e he;rw[←z2,hBmnew _ z1]
 have hsub:∀i rb:Nat,B2[i]? =some (some rb)->(Has B rb/\ ¬Moved B u rb)\/Moved B1 u1 rb:=by
  intro i rb q;rcases B8 i H.length with hi | hi
  .rcases old i hi with ⟨e,he,rfl,_,z⟩ | ⟨_,_,z⟩ | ⟨z0,_,z⟩
   .rw[z,hrev e he] at q;exact .inr (hMn _ _ q)
   .rw[z] at q;cases q
   .rw[z] at q;exact .inl ⟨⟨i,q⟩,hstay i rb q z0⟩
  .rcases new i hi with ⟨_,_,z⟩ | ⟨_,_,z⟩
   .exact absurd (z _ q) (by simp)
   .rw[z] at q;exact .inr (hMn _ _ q)
 have hN2:∀b,C.N B2 b->Nt b:=fun b k=>by
  rcases k with ⟨i,k⟩ | k
  .rcases hsub i b k with q | q
   .exact .inl q
   .exact .inr (.inl q)
  .exact .inr (.inr k)
 have hNp2:∀b,C.Np B2 b->Ntp b:=fun b k=>by
  rcases k with ⟨i,k⟩ | k
  .rcases hsub i b k with q | q
   .exact .inl q
   .exact .inr (.inl q)
  .exact .inr (.inr k)
 have s2:Step Nt Ntp (C.N B2) (C.Np B2) (X2++Hn') (Y2++Bn) w' (kill (X2++Hn') S) B2 w' := {
  g:=⟨Au _,fun _ _ _=>rfl,fun b _ q k=>q (hN2 b k)⟩
  gp:=⟨Au _,fun _ _ _=>rfl,fun b _ q k=>q (hNp2 b k)⟩
  len:=by rw[hH2l];exact Au _
  box:=fun id hlt cells e=>by
   rw[z0w] at e;split at e
   .cases e
   .rename_i hne;refine⟨⟨_,e⟩,?_⟩;show(killB _ _)[id]? =_;rw[z0v,Ao (fun q=>hne ⟨q.1,hlt⟩)]
  arr:=fun id hlt p st t l e=>by
   rw[z0w] at e;split at e
   .cases e
   .rename_i hne;refine⟨_,_,_,_,e,Au _,fun _=>⟨rfl,rfl,?_⟩⟩;show(killB _ _)[id]? =_;rw[z0v,Ao (fun q=>hne ⟨q.1,hlt⟩)]
  cells:=fun _ cs k=>⟨cs,k,rfl⟩}
 have s1:Step (C.N B) (C.Np B) (C.N B2) (C.Np B2) H B w (kill (X2++Hn') S) B2 w' := {
  g:=⟨g1.fr.size,fun b hb hn=>g1.fr.same b hb (fun k=>hn (.inl k.has)),fun b hb hn k=>by
   rcases hN2 b k with q | q | q
   .exact hn (.inl q.1)
   .obtain⟨i,q⟩:=q.has;rcases(hB1 i b q).2.2.2 with z | z
    .exact hn (.inl z.has)
    .omega
   .exact hn (.inr q)⟩
  gp:=⟨g1.fr.size,fun b hb hn=>g1.fr.same b hb (fun k=>hn (.inl k.has)),fun b hb hn k=>by
   rcases hNp2 b k with q | q | q
   .exact hn (.inl q.1)
   .obtain⟨i,q⟩:=q.has;rcases(hB1 i b q).2.2.2 with z | z
    .exact hn (.inl z.has)
    .omega
   .exact hn (.inr q)⟩
  len:=by rw[hH2l];simp[hX2]
  box:=fun id hlt cells e=>by
   rcases old id hlt with ⟨x,hx,rfl,z1,z2⟩ | ⟨_,z1,_⟩ | ⟨_,z1,z2⟩
   .rw[z1] at e;obtain⟨_,_,_,z3⟩:=hwb x hx;rcases z3 with ⟨c0,c,y1,_,_⟩ | ⟨_,_,_,_,_,_,_,_,_,y3,_⟩
    .exact⟨⟨_,y1⟩,z2⟩
    .rw[y3] at e;cases e
   .rw[z1] at e;cases e
   .rw[z1] at e;exact⟨⟨_,e⟩,z2⟩
  arr:=fun id hlt p st t l e=>by
   rcases old id hlt with ⟨x,hx,rfl,z1,z2⟩ | ⟨_,z1,_⟩ | ⟨_,z1,z2⟩
   .rw[z1] at e;obtain⟨_,_,_,z3⟩:=hwb x hx;rcases z3 with ⟨c0,c,_,_,y3⟩ | ⟨p0,st0,t0,l0,q,st1,l1,y1,y2,y3,y4⟩
    .rw[y3] at e;cases e
    .rw[y3] at e;injection e with e
     injection e with w1 w2 w3 w4
     subst w1;subst w2;subst w3;cases w4;exact⟨_,_,_,_,y1,Au _,fun _=>⟨rfl,y4.symm,z2⟩⟩
   .rw[z1] at e;cases e
   .rw[z1] at e;exact⟨_,_,_,_,e,Au _,fun _=>⟨rfl,rfl,z2⟩⟩
  cells:=g1.fr.cells}
 have hs:HS C (kill (X2++Hn') S) B2 w' := {
  lenB:=by rw[hB2l,hH2l]
  nodup:=by
   have key:∀i j rb:Nat,i<H.length->H.length<=j->B2[i]? =some (some rb)->B2[j]? =some (some rb)->False:=by
    intro i j rb hi hj q1 q2;rcases new j hj with ⟨_,_,z⟩ | ⟨hjS,_,zj⟩
    .exact absurd (z _ q2) (by simp)
    .rw[zj] at q2;obtain⟨jd,y1,y2⟩:=m3 _ _ q2;rcases old i hi with ⟨e,he,rfl,_,z⟩ | ⟨_,_,z⟩ | ⟨z0,_,z⟩
     .rw[z,hrev e he] at q1;obtain⟨id,y3,y4⟩:=m3 _ _ q1;have:=g1.nodup _ _ _ y2 y4;subst this;have:=m4 _ _ _ y1 y3;have hge:=(hid e he).2.2;have:j=e.2.2:=by omega
      subst this;exact hjS (Bx.mpr ⟨e,he,rfl⟩)
     .rw[z] at q1;cases q1
     .rw[z] at q1;exact(hB1 _ _ y2).2.2.1 ⟨⟨i,q1⟩,hstay i rb q1 z0⟩
   intro i j rb q1 q2;rcases B8 i H.length with hi | hi<;>rcases B8 j H.length with hj | hj
   .have conv:∀k,k<H.length->B2[k]? =some (some rb)->B[k]? =some (some rb):=fun k hk q=>by
     rcases old k hk with ⟨e,he,rfl,_,z⟩ | ⟨_,_,z⟩ | ⟨z0,_,z⟩
     .rw[z] at q;exact q
     .rw[z] at q;cases q
     .rw[z] at q;exact q
    exact h.nodup _ _ _ (conv i hi q1) (conv j hj q2)
   .exact(key i j rb hi hj q1 q2).elim
   .exact(key j i rb hj hi q2 q1).elim
   .rcases new i hi with ⟨_,_,z⟩ | ⟨_,_,z⟩
    .exact absurd (z _ q1) (by simp)
    .rcases new j hj with ⟨_,_,z'⟩ | ⟨_,_,z'⟩
     .exact absurd (z' _ q2) (by simp)
     .rw[z] at q1;rw[z'] at q2;obtain⟨id,y1,y2⟩:=m3 _ _ q1;obtain⟨jd,y3,y4⟩:=m3 _ _ q2;have:=g1.nodup _ _ _ y2 y4;subst this;have:=m4 _ _ _ y1 y3;omega
  alloc:=fun i rb q=>by
   have fromB:∀k,B[k]? =some (some rb)->rb<w'.heap.size/\ ¬C.Lp rb/\(C.W0 rb\/C.w0.heap.size<=rb):=fun k z=>
    ⟨Bp (h.alloc k rb z).1 g1.fr.size,(h.alloc k rb z).2⟩
   rcases hsub i rb q with ⟨⟨k,z⟩,_⟩ | z
   .exact fromB k z
   .obtain⟨k,z⟩:=z.has;obtain⟨y1,y2,_,y3⟩:=hB1 k rb z;rcases y3 with ⟨k',_,y3⟩ | y3
    .exact fromB k' y3
    .exact⟨y1,y2, .inr (A9 h.fr.size y3)⟩
  blk:=fun i b ob q1 q2=>by
   rcases B8 i H.length with hi | hi
   .rcases old i hi with ⟨e,he,rfl,z1,z2⟩ | ⟨_,z1,_⟩ | ⟨z0,z1,z2⟩
    .rw[z1] at q1;obtain⟨_,y1,y2,y3⟩:=hwb e he;rw[z2,←y2] at q2;rw[hBmnew _ y1] at q2;have hH2:H2[e.2.2]? =Hn'[e.2.2 - H.length]? :=by rw[f2,Aq (by omega),hkl]
     rcases y3 with ⟨c0,c,_,y4,y5⟩ | ⟨p0,st0,t0,l0,q,st1,l1,_,y4,y5,_⟩
     .rw[y5] at q1;cases q1;rw[hH2] at y4;exact(e3 _ _ _ y4 q2).step s2 (fun _ _=>rfl)
     .rw[y5] at q1;cases q1;rw[hH2] at y4;have:=(e3 _ _ _ y4 q2).step s2 (fun _ _=>rfl);cases ob<;>exact this
    .rw[z1] at q1;cases q1;trivial
    .rw[z1] at q1;rw[z2] at q2;exact(h.blk i b ob q1 q2).step s1 (fun rb e=>by
      subst e;exact g1.fr.same rb (h.alloc i rb q2).1 (hstay i rb q2 z0))
   .rcases new i hi with ⟨_,z,_⟩ | ⟨_,z1,z2⟩
    .have:=z _ q1;subst this;trivial
    .rw[z1] at q1;rw[z2] at q2;exact(e3 _ _ _ q1 q2).step s2 (fun _ _=>rfl)
  lb:=h.lb
  lp:=h.lp
  fr:=z7y h.toHS g1
  gl:=h.gl
  gp:=h.gp}
 refine⟨B2,?_,?_⟩
 .rw[hfin];exact h.go s1 hs
 .rw[hfin];have:=hcells.take vs.length;rw[List.take_left] at this;exact y5b (this.step s2)
theorem z3b {R:Type} {f:Nat} {ds:List D} {K:D->z0a->Option R} {r0:R} (h:z5e A V R f ds H K=some r0):
 ∃x u y rs H2 r,ext true H (A.sig f).ins ds [] =some (x, [],u)/\(((A.sig f).out.perm || !u.lent)=true/\(A.sig f).out.norefs=true)/\V.call f x=some y/\emb (A.sig f).out y (kill H u.ids)=(rs,H2)/\
  z1r H u.ids H2 (keep (A.sig f).inout ds) (rs.drop (A.sig f).nres)=some r/\K (y5a (rs.take (A.sig f).nres)) (y1r r H2)=some r0:=by
 unfold z5e at h;split at h
 .rename_i x u he;split at h
  .rename_i hp;cases hy:V.call f x with
   | none=>rw[hy] at h;cases h | some y=>
    rw[hy] at h;simp only[zOb] at h;split at h
    .rename_i r hr;exact⟨x,u,y,_,_,r,he,by simpa only[Ai] using hp,hy,rfl,hr,h⟩
    .cases h
  .cases h
 .cases h
theorem z9z (hV:LvlOk P A V) (hgd:C.gd=A.gd) (h:St C env H B a w) {f:Nat} {ds:List D} {args:List Value} (hc:CRs (C.N B) (C.Np B) H B w ds args) {R:Type} {K:D->z0a->Option R} {r0:R} (hk:z5e A V R f ds H K=some r0):
 z4i P (A.fn f)/\ ∃d H2,K d H2=some r0/\Calls P (A.fn f) args.toArray w fun e w' => ∃v,e= .returned v/\ ∃B2,St C env H2 B2 a w' /\CR (C.N B2) (C.Np B2) H2 B2 w' d v:=by
 obtain⟨x,u,y,rs,H2,r,he,hp,hy,hrs,hr,hk⟩:=z3b hk;obtain⟨hb,ha⟩:=hV f x y hy;refine⟨hb,_,_,hk,?_⟩;obtain⟨B0,k1,k2⟩:=y0d h.toHS hc he;refine Calls.mono (ha (C.callee B u w) B0 args hgd k1 k2) ?_;intro e w' hR;cases e with
 | panicked _=>exact hR.elim | outgrown=>exact hR.elim | returned v=>
  obtain⟨H1,B1,ds1,vs,u1,g1,g2,g3,g4,g5⟩:=hR;refine⟨v,rfl,?_⟩;rw[←g4] at hr ⊢;rw[g5];exact y0v h (z5h he (fun id k=>absurd k (by simp))) (hc.keep _) hp.1 hp.2 g1 g2 g3 hrs hr
end
end Go.Proofs.YtkphhjdbdnoekaaGreatDoor.Ab
