import Derived.Test.YtkdpclfhapphhaaGreatAbLivesSerialT2
import Derived.Test.YtkdpclfhapphhaaGreatAbK2
import Derived.Test.YtkdpclfhapphhaaGreatAbF4
import Derived.Test.YtkdpclfhapphhaaGreatAbS2
namespace Go.Proofs.YtkdpclfhapphhaaGreat.Ab
open Go
set_option linter.unusedVariables false
set_option linter.unusedSimpArgs false
set_option linter.unnecessarySimpa false
section
section
theorem q39 {d x:u0l} {k:Int} {s:Hs} (h:u8m d k s=some x) {j:Int} (hj:j≠k):u0k x j=u0k d j:=by
 have:=(t8o h).2
 subst this
 have hne: ¬k=j:=fun z=>hj z.symm
 unfold u0k
 simp only[r9b,hne,Bk]
theorem q0x:∀ {f:Nat} {d x:u0l} {k at_:Nat} {t:Hs},p80 f d k at_ t=some x→at_<64→ ∀j:Nat,¬(k≤j∧j*64<k*64+at_+t.size)→u0k x (j:Int)=u0k d (j:Int)
 | 0,d,x,k,at_,t,h,_,j,_=>by cases h;rfl
 | f+1,d,x,k,at_,t,h,hat,j,hj=>by
  rw[p80] at h
  split at h
  ·cases h;rfl
  ·rename_i hz
   split at h
   ·cases hw:u8m d (k:Int) ((u0k d (k:Int)).1.extract 0 at_++t.extract 0 (min t.size (64 - at_))++(u0k d (k:Int)).1.extract (at_+min t.size (64 - at_)) 64) with
    | none=>rw[hw] at h;cases h
    | some y=>
     rw[hw] at h
     simp only[zOb] at h
     have hne:j≠k:=fun z=>hj ⟨by omega,by omega⟩
     rw[←q39 hw (j:=(j:Int)) (by omega)]
     refine q0x h (by omega) j (fun z=>hj ?_)
     rw[Bd] at z
     omega
   ·cases h
theorem o4l {s:Hu Hs} {p:Int×Hs} {j:Int} (hp:0≤p.1) (hj0:0≤j) (hj:j.toNat<s.length):rdL Ty.str (s4a s p) j.toNat=if p.1=j then p.2 else rdL Ty.str s j.toNat:=by
 have h' :j.toNat<(s.set p.1.toNat p.2).length:=by rw[Dq];exact hj
 have e1:rdL Ty.str (s.set p.1.toNat p.2) j.toNat=(s.set p.1.toNat p.2)[j.toNat] :=y8k (t:=Ty.str) h'
 have e2:rdL Ty.str s j.toNat=s[j.toNat] :=y8k (t:=Ty.str) hj
 show rdL Ty.str (s.set p.1.toNat p.2) j.toNat=_
 rw[e1,e2,List.getElem_set]
 by_cases e:p.1=j
 ·rw[Al (by rw[e]),Al e]
 ·rw[Ao (by omega),Ao e]
theorem p8c {j:Int} (hj0:0≤j) (z:Hs):∀(c:Hu (Int×Hs)) (s:Hu Hs) (t:Ht Hs),(∀p∈c,0≤p.1)→j.toNat<s.length→rdL Ty.str s j.toNat=t.getD z→
 rdL Ty.str (c.foldl s4a s) j.toNat=(c.foldl (fun t p=>if p.1=j then some p.2 else t) t).getD z
 | [],s,t,_,_,h=>h
 | p::c,s,t,hc,hl,h=>by
  rw[Bs,Bs]
  refine p8c hj0 z c _ _ (fun q hq=>hc q (Bm _ hq)) (by rw[r1d];exact hl) ?_
  rw[o4l (hc p (C9 ..)) hj0 hl]
  split
  ·rfl
  ·exact h
theorem t33 {d:u0l} (hk:u1v d=true) (j:Int):u0k (flush d) j=u0k d j:=by
 obtain⟨_,f2,f3⟩:=t9u hk
 obtain⟨k1,k2,k3,k4⟩:=p78.mp hk
 unfold u0k
 rw[f3]
 split
 ·rename_i hj
  have e1:t2k (flush d).2 j=none:=by rw[f2];rfl
  rw[e1]
  have e2:(flush d).1=d.2.foldl s4a d.1:=by unfold flush;rw[Al hk]
  rw[e2]
  have:=p8c hj.1 (rdL Ty.str d.1 j.toNat) d.2 d.1 none (fun p hp=>(k4 p hp).1.1) (by omega) rfl
  show(rdL Ty.str (d.2.foldl s4a d.1) j.toNat,true)=_
  rw[this]
  rfl
 ·rfl
theorem p45 {d d' :u0l} {from_:Int} :∀(m i:Nat) (acc:Hs),(∀q:Nat,i≤q→q<i+m→u0k d' (from_+(q:Int))=u0k d (from_+(q:Int)))→q07 d' from_ m i acc=q07 d from_ m i acc
 | 0,i,acc,h=>rfl
 | m+1,i,acc,h=>by
  unfold q07
  rw[h i (by omega) (by omega)]
  split
  ·exact p45 m (i+1) _ (fun q h1 h2=>h q (by omega) (by omega))
  ·rfl
theorem t2g {d d' :u0l} {o:Int} (h:∀q:Nat,q<48→u0k d' (u0g o+(q:Int))=u0k d (u0g o+(q:Int))):u0f d' o=u0f d o:=by
 have h1:u8t d' (u0g o+1) 47=u8t d (u0g o+1) 47:=by
  unfold u8t
  rw[Al (by omega),Al (by omega)]
  refine p45 _ _ _ (fun q _ hq=> ?_)
  have:=h (q+1) (by simp at hq;omega)
  rw[show u0g o+1+(q:Int)=u0g o+((q+1:Nat):Int) by omega]
  exact this
 have h2:u0z d' o=u0z d o:=by
  unfold u0z u5g
  have:=h 0 (by omega)
  rw[show u0g o+((0:Nat):Int)=u0g o by omega] at this
  rw[this]
 unfold u0f
 rw[h1,h2]
def OnlyArea (a:Int) (d d' :u0l):Prop:= ∀j:Nat,¬(u0g a≤(j:Int)∧(j:Int)<u0g a+48)→u0k d' (j:Int)=u0k d (j:Int)
theorem OnlyArea.other {a o:Int} {d d' :u0l} (h:OnlyArea a d d') (ha:a=0∨a=1) (ho:o=1 - a):u0f d' o=u0f d o:=by
 refine t2g (fun q hq=> ?_)
 have hf:u0g o=1+o*48:=by unfold u0g;rw[Al (j3b.mpr (by omega))]
 have hfa:u0g a=1+a*48:=by unfold u0g;rw[Al (j3b.mpr ha)]
 obtain⟨j,hj⟩:∃j:Nat,u0g o+(q:Int)=(j:Int):=⟨(u0g o+(q:Int)).toNat,by rcases ha with rfl | rfl<;>omega⟩
 rw[hj]
 exact h j (by rcases ha with rfl | rfl<;>omega)
theorem OnlyArea.trans {a:Int} {d d' e:u0l} (h1:OnlyArea a d d') (h2:OnlyArea a d' e):OnlyArea a d e:=fun j hj=>(h2 j hj).trans (h1 j hj)
theorem OnlyArea.flush {a:Int} {d d' :u0l} (h:OnlyArea a d d') (hk:u1v d' =true):OnlyArea a d (flush d'):=fun j hj=>(t33 hk _).trans (h j hj)
theorem r6p {d x:u0l} {s at_:Int} {t:Hs} (h:u7e d s at_ t=some x) {j:Nat} (hj: ¬(s≤(j:Int)∧(j:Int)*64<s*64+at_+(t.size:Int))):u0k x (j:Int)=u0k d (j:Int):=by
 unfold u7e at h
 split at h
 ·rename_i hc
  simp only[Ai,r6u,Ar] at hc
  refine q0x h (Ev _ (by omega)) j (fun z=>hj ?_)
  omega
 ·cases h
theorem o8e {d x:u0l} {a:Int} {t:Hs} (h:t3c d a t=some x):OnlyArea a d x:=by
 have h0:=h
 unfold t3c at h
 split at h
 ·cases h
 ·rename_i hc
  simp only[Hr] at hc
  intro j hj
  refine r6p h (fun z=>hj ?_)
  omega
theorem p76 {d x:u0l} {a n:Int} (h:r0b d a n=some x):OnlyArea a d x:=by
 intro j hj
 refine r6p h (fun z=>hj ?_)
 rw[u4n] at z
 omega
theorem j30 {d y:u0l} {a:Int} {t:Hs} (hlen:d.1.length=97) (h:p5k d a t=some y):OnlyArea a d y:=by
 unfold p5k at h
 cases hb:t3c d a t with
 | none=>rw[hb] at h;cases h
 | some x=>
  rw[hb] at h
  simp only[Dc,Ac] at h
  obtain⟨z,hz,hz2,hz3⟩:=p1z (n:=s2e d a) hlen hb
  rw[hz] at h
  subst h
  exact(((o8e hb).flush (s7j hb).2.1).trans (p76 hz)).flush hz2
structure Mid (o:Int) (x:u0l):Prop where
 ok:u1v x=true
 len:x.1.length=97
 nil:x.2= []
 other:(u0f x o).2.2=true
theorem Mid.put {a o:Int} {x y:u0l} {t:Hs} (h:Mid o x) (ha:a=0∨a=1) (ho:o=1 - a) (hp:p5k x a t=some y):Mid o y:=by
 obtain⟨_,_,_,p1,p2,p3,_⟩:=o7d h.len hp
 exact⟨p1,p3,p2,by rw[(j30 h.len hp).other ha ho];exact h.other⟩
def q3c (a:Int):Hu Hs→u0l→Ht u0l
 | [],x=>some x
 | t::l,x=>(p5k x a t).bind (q3c a l)
theorem p79 {a o:Int} (ha:a=0∨a=1) (ho:o=1 - a):∀ {l:Hu Hs} {x y:u0l},Mid o x→q3c a l x=some y→Mid o y
 | [],x,y,h,hy=>by cases hy;exact h
 | t::l,x,y,h,hy=>by
  unfold q3c at hy
  cases hp:p5k x a t with
  | none=>rw[hp] at hy;cases hy
  | some z=>
   rw[hp] at hy
   exact p79 ha ho (h.put ha ho hp) hy
theorem o3n {a o:Int} (ha:a=0∨a=1) (ho:o=1 - a) (jk:u0l) (list:Hu Hs) (hl:list.length≤1048576) (hs:∀t∈list,t.size≤1048576):∀(r i:Nat) (x:u0l),i+r=list.length→Mid o x→
 ∃q,t1s (list,jk,a,x,true,(i:Int))=some (.inl (jk,q))∧(match q3c a (list.drop i) x with
  | some y=>q=(y,true)
  | none=>q.2=false)
 | 0,i,x,hi,hm=>by
  have:i=list.length:=by omega
  subst this
  rw[s3l]
  simp only[t09,u0b,Am,Ah,Aa,F5,q3c,zOb]
  exact⟨_,rfl,rfl⟩
 | r+1,i,x,hi,hm=>by
  have h:i<list.length:=by omega
  have hw:=u7g hm.ok
  have hts:=hs list[i] (Ag h)
  have hr:rdL Ty.str list i=list[i] :=y8k (t:=Ty.str) h
  rw[s3l,Ce h]
  simp only[t09,u0b,h,Ae,Ad,y7t h,zTn,hr,o3t x a list[i] (by omega) hts hm.len,zOb,q3c]
  rw[y7l (by omega)]
  cases hp:p5k x a list[i] with
  | none=>
   simp only[orD,Option.bind_none]
   rw[s3l]
   simp only[t09,u0b]
   cases decide (i+1<list.length)<;>exact⟨_,rfl,rfl⟩
  | some y=>
   simp only[orD,zOb]
   exact o3n ha ho jk list hl hs r (i+1) y (by omega) (hm.put ha ho hp)
end
section
def u6v (d:u0l):Int:=1 - u0n d
theorem s0r (d:u0l):(u6v d=0∨u6v d=1)∧u0n d=1 - u6v d:=by
 unfold u6v
 have:=t0s d
 omega
def r0g (d:u0l):u0l:=flush (orD d (r0b d (u6v d) 0)).1
def q06 (d:u0l) (l:Hu Hs):Ht u0l:=if u2v d then q3c (u6v d) l (r0g d) else none
def o9a (x:u0l):Ht u0l:=u7e x 0 0 (s0i (IntKind.i64.wrap (u5g x 0+1)))
def r9x (d:u0l) (l:Hu Hs):Ht u0l:=(q06 d l).map fun x=>flush (orD x (o9a x)).1
theorem o2w {d:u0l} (hl:u2v d=true) (a n:Int):∃z,r0b d a n=some z∧u1v z=true∧z.1.length=97:=by
 obtain⟨h1,h2,h3,_⟩:=u5b hl
 have ha:=s2c a
 have ho:=q4s (s:=u0g a) h1 h3 (by omega) (by omega) (u4n n)
 have:=u8l ho
 exact⟨_,ho,this.2.1,by rw[this.2.2];exact h2⟩
theorem o3l {d:u0l} (hl:u2v d=true):Mid (u0n d) (r0g d):=by
 obtain⟨z,hz,hz2,hz3⟩:=o2w hl (u6v d) 0
 obtain⟨a1,a2⟩:=s0r d
 obtain⟨h1,h2,h3,h4,h5⟩:=u5b hl
 obtain⟨f1,f2,f3⟩:=t9u hz2
 have e:r0g d=flush z:=by unfold r0g;rw[hz];rfl
 have hr:(u0f d (u0n d)).2.2=true:=by
  rcases t0s d with h | h<;>rw[h] <;>assumption
 rw[e]
 exact⟨f1,by rw[f3];exact hz3,f2,by rw[((p76 hz).flush hz2).other a1 a2];exact hr⟩
theorem j6t {x:u0l} {o:Int} (h:Mid o x):∃y,o9a x=some y∧u1v y=true:=by
 have ho:=q4s (s:=0) h.ok h.nil (by omega) (by rw[h.len];omega) (u4n (IntKind.i64.wrap (u5g x 0+1)))
 exact⟨_,ho,(u8l ho).2.1⟩
section
variable {d:u0l} {l:Hu Hs} (hd:d1h.wt d≤10000000) (hl:l.length≤1048576) (hs:∀t∈l,t.size≤1048576)
include hd hl hs
omit hd hl hs in
theorem j6w:IntKind.i64.wrap ((1:Int) - u0n d)=u6v d:=by
 unfold u6v
 have:=t0s d
 rw[y4y (by omega) (by omega)]
omit hd hl hs in
theorem j0o {x:u0l} (h:q06 d l=some x):u2v d=true∧Mid (u0n d) x:=by
 unfold q06 at h
 split at h
 ·rename_i hlo
  obtain⟨a1,a2⟩:=s0r d
  exact⟨hlo,p79 a1 a2 (o3l hlo) h⟩
 ·cases h
theorem o3s (hlo:u2v d=true):∃q,s9j (d,l)=some q∧(match q06 d l with
 | some y=>q=(y,true)
 | none=>q.2=false):=by
 obtain⟨z,hz,hz2,hz3⟩:=o2w hlo (u6v d) 0
 have hzw:=u7g hz2
 obtain⟨a1,a2⟩:=s0r d
 have e:flush z=r0g d:=by unfold r0g;rw[hz];rfl
 obtain⟨q,L,hq⟩:=o3n a1 a2 ([], []) l hl hs l.length 0 (r0g d) (by omega) (o3l hlo)
 have L:t1s (l,([], []),u6v d,r0g d,true,0)=_:=L
 rw[Fh] at hq
 refine⟨q,?_,by unfold q06;rw[hlo,Al rfl];exact hq⟩
 rw[p68];unfold q2s
 simp only[s4j d (by unfold u0m;omega),j6w (d:=d),q4o d _ _ (by omega),zOb,hz,orD,t59 z (by omega),e,L]
omit hd hl hs in
theorem o8p (x:u0l) (hx:d1h.wt x≤10000000):s9k x=some (orD x (o9a x)):=by
 rw[p69];unfold q2t
 have h1:∀n,t98 n=some (s0i n):=fun n=>by rw[q6w];rfl
 simp only[r8t x 0 (by unfold u0m;omega),h1,zOb,s5a x 0 0 (s0i (IntKind.i64.wrap (u5g x 0+1))) (by omega) (by rw[u4n];omega)]
 rfl
theorem p5r:s3f (d,l)=some (orD d (r9x d l)):=by
 rw[p1m];unfold r4d r9x
 simp only[q7y d (by omega),u67 d (by unfold u0m;omega),zOb]
 cases hlo:u2v d with
 | false=>
  have:q06 d l=none:=by unfold q06;rw[hlo];rfl
  rw[this]
  rfl
 | true=>
  obtain⟨q,hq,hq2⟩:=o3s hd hl hs hlo
  simp only[Ap,Aa,hq,zOb]
  cases hf:q06 d l with
  | none=>
   rw[hf] at hq2
   simp only at hq2
   simp only[hq2,Bh,Ad]
   rfl
  | some x=>
   rw[hf] at hq2
   simp only at hq2
   subst hq2
   obtain⟨_,hm⟩:=j0o hf
   have hx:=u7g hm.ok
   obtain⟨y,hy,hy2⟩:=j6t hm
   have hyw:=u7g hy2
   simp only[orD,Ap,Aa,o8p x (by omega),hy,zOb,t59 y (by omega),Dc]
def t32 (d:u0l) (l:Hu Hs) (step:Int) (keep:Hu Int) (tear:Int):u0l:=
 match q06 d l with
 | none=>d
 | some x=>
  if step=0 then t0t (orD d (r0b d (u6v d) 0)).1 keep tear
  else if step=1 then x
  else if step=2 then t0t (orD x (o9a x)).1 keep tear
  else flush (orD x (o9a x)).1
end
end
section
def s3w (s:Hs) (i:Nat):UInt8:=s.data.toList.getD i 0
theorem u6e (a b:Hs) (i:Nat):s3w (a++b) i=if i<a.size then s3w a i else s3w b (i - a.size):=by
 unfold s3w
 have hs:a.size=a.data.toList.length:=by simp only[B6];rfl
 rw[Ft,Ha,A5,hs]
 split
 ·rename_i h
  rw[Aj h,A5]
 ·rename_i h
  rw[Aq (Fz h),A5]
theorem u3b (a:Hs) (b e i:Nat):s3w (a.extract b e) i=if i<min e a.size - b then s3w a (b+i) else 0:=by
 unfold s3w
 have hd:(a.extract b e).data.toList=(a.data.toList.drop b).take (min e a.size - b):=by
  have hs:a.size=a.data.toList.length:=by simp only[B6];rfl
  rw[ByteArray.data_extract]
  rw[Array.toList_extract,F7]
  apply Gj
  intro n
  rw[Ca,Ca,Dg]
  split<;>split<;>first | rfl | skip
  ·rename_i h1 h2
   rw[Be (by omega)]
  ·rename_i h1 h2
   rw[Be (by omega)]
 rw[hd,A5,Ca]
 split
 ·rw[Dg,A5]
 ·rfl
theorem q62 {a b:Hs} (hs:a.size=b.size) (h:∀i,i<a.size→s3w a i=s3w b i):a=b:=by
 have ha:a.size=a.data.toList.length:=by simp only[B6];rfl
 have hb:b.size=b.data.toList.length:=by simp only[B6];rfl
 have:a.data.toList=b.data.toList:=by
  apply Gw (by omega)
  intro i h1 h2
  have:=h i (by omega)
  unfold s3w at this
  rw[A5,A5,A4 h1,A4 h2] at this
  exact this
 apply Gf
 apply Fj
 exact this
theorem o1o {d x:u0l} {k:Int} {s:Hs} (h:u8m d k s=some x):u0k x k=(s,true):=by
 obtain⟨h1,h2⟩:=t8o h
 obtain⟨_,_,_,h4⟩:=p78.mp h1
 subst h2
 have:=(h4 (k,s) (by simp)).1
 have hk:0≤k∧k<(d.1.length:Int):=this
 unfold u0k
 simp only[r9b]
 rw[Al hk]
 simp
theorem p81:∀ {f:Nat} {d x:u0l} {k at_:Nat} {t:Hs},p80 f d k at_ t=some x→t.size<f→at_<64→ ∀(j i:Nat),i<64→j<d.1.length→
 s3w (u0k x (j:Int)).1 i=if k*64+at_≤j*64+i∧j*64+i<k*64+at_+t.size then s3w t (j*64+i - (k*64+at_)) else s3w (u0k d (j:Int)).1 i
 | 0,d,x,k,at_,t,h,hf,_,j,i,_,_=>by omega
 | f+1,d,x,k,at_,t,h,hf,hat,j,i,hi,hj=>by
  rw[p80] at h
  split at h
  ·rename_i hz
   cases h
   rw[Ao (by omega)]
  ·rename_i hz
   split at h
   ·rename_i hrd
    cases hw:u8m d (k:Int) ((u0k d (k:Int)).1.extract 0 at_++t.extract 0 (min t.size (64 - at_))++(u0k d (k:Int)).1.extract (at_+min t.size (64 - at_)) 64) with
    | none=>rw[hw] at h;cases h
    | some y=>
     rw[hw] at h
     simp only[zOb] at h
     obtain⟨n,hn⟩:∃n,n=min t.size (64 - at_):=⟨_,rfl⟩
     rw[←hn] at h hw
     have hyl:y.1.length=d.1.length:=by rw[(t8o hw).2]
     have hsz:(t.extract n t.size).size=t.size - n:=by rw[Bd];omega
     have ih:=p81 h (by omega) (by omega) j i hi (by omega)
     rw[ih,hsz]
     by_cases hjk:j=k
     ·subst hjk
      rw[Ao (by omega),o1o hw]
      simp only
      rw[u6e,u6e,u3b,u3b,u3b]
      simp only[Af,Bd,hrd.2]
      by_cases h1:i<at_
      ·have e1:i<min at_ 64 - 0:=by omega
       rw[Al (by omega),Al e1,Al e1,Ao (by omega),Co]
      ·by_cases h2:i<at_+n
       ·rw[Al (by omega),Ao (by omega),Al (by omega),Al (by omega)]
        congr 1
        omega
       ·rw[Ao (by omega),Al (by omega),Ao (by omega)]
        congr 1
        omega
     ·have hfr:u0k y (j:Int)=u0k d (j:Int):=q39 hw (by omega)
      rw[hfr]
      by_cases h1:(k+1)*64+0≤j*64+i∧j*64+i<(k+1)*64+0+(t.size - n)
      ·rw[Al h1,Al (by omega),u3b,Al (by omega)]
       congr 1
       omega
      ·rw[Ao h1,Ao (by omega)]
   ·cases h
end
section
theorem o4m (a:Hs):a.size=a.data.toList.length:=by simp only[B6];rfl
theorem q63 {a:Hs} {i:Nat} (h:i<a.size):a.data.toList[i]? =some (s3w a i):=by
 unfold s3w
 rw[o4m] at h
 rw[A5,A4 h]
 rfl
theorem p5e:∀ {f i n:Nat} {l l' :Hu UInt8} {v k:Nat},r3e f i n l=some (v,k)→(∀q,q<k - i→l'[q]? =l[q]?)→r3e f i n l' =some (v,k)
 | 0,_,_,_,_,_,_,h,_=>by cases h
 | _+1,_,_, [],_,_,_,h,_=>by cases h
 | f+1,i,n,b::l,l',v,k,h,hl=>by
  have hk:=(o1l _ _ _ _ _ _ h).2.2
  have h0:=hl 0 (by omega)
  cases l' with
  | nil=>simp at h0
  | cons b' l' =>
   simp only[Bt,Ac] at h0
   subst h0
   simp only[r3e] at h ⊢
   split at h
   ·rename_i h1
    rw[Al h1]
    exact h
   ·rename_i h1
    rw[Ao h1]
    exact p5e h (fun q hq=>by have:=hl (q+1) (by omega);simpa using this)
theorem o1e {T T' :Hs} {at_:Int} (h:(u0t T at_).2.2=true) (hs:T'.size=T.size) (hb:∀q:Nat,(q:Int)<(u0t T at_).2.1→s3w T' q=s3w T q):u0t T' at_=u0t T at_:=by
 have hok:=t81 h
 unfold u0t at h hb hok ⊢
 split at h
 ·rename_i hc
  rw[Al hc] at hb hok
  rw[Al (by rw[hs];exact hc),Al hc]
  cases hv:r3e 5 0 0 (T.data.toList.drop at_.toNat) with
  | none=>rw[hv] at h;cases h
  | some r=>
   obtain⟨v,k⟩:=r
   rw[hv] at hb hok
   simp only[q7m] at hb hok
   rw[p5e hv (fun q hq=>by
    have hlt:at_.toNat+q<T.size:=by omega
    rw[Dg,Dg,q63 (by omega),q63 hlt,hb (at_.toNat+q) (by omega)])]
 ·cases h
theorem q3v {T:Hs} {at_:Int} (h:(u0o T at_).2.2=true):0≤at_∧at_<(u0o T at_).2.1∧(u0o T at_).2.1≤T.size:=by
 have h2:=r9p h
 unfold u0o at h h2 ⊢
 split at h
 ·rename_i hc
  rw[Al hc] at h2
  rw[Al hc]
  have:=t81 hc.1
  simp only at h2 ⊢
  omega
 ·cases h
theorem p4y {T T' :Hs} {at_:Int} (h:(u0o T at_).2.2=true) (hs:T'.size=T.size) (hb:∀q:Nat,(q:Int)<(u0o T at_).2.1→s3w T' q=s3w T q):u0o T' at_=u0o T at_:=by
 have hn:=q3v h
 unfold u0o at h hb hn ⊢
 split at h
 ·rename_i hc
  rw[Al hc] at hb hn
  simp only at hb hn
  have hok:=t81 hc.1
  have e:u0t T' at_=u0t T at_:=o1e hc.1 hs (fun q hq=>hb q (by omega))
  rw[e,Al (by rw[hs];exact hc),Al hc]
  congr 1
  apply q62
  ·rw[Bd,Bd,hs]
  ·intro i hi
   rw[Bd] at hi
   rw[u3b,u3b,hs]
   split
   ·exact hb _ (by omega)
   ·rfl
 ·cases h
theorem p72 {T:Hs} :∀ {m:Nat} {at_:Int} {acc l:Hu Hs} {E:Int},u62 T m at_ acc=(l,E,true)→at_≤E
 | 0,at_,acc,l,E,h=>by unfold u62 at h;cases h;exact Bv _
 | m+1,at_,acc,l,E,h=>by
  unfold u62 at h
  split at h
  ·rename_i hc
   simp only[Ai] at hc
   have h1:=(q3v hc.1).2.1
   have h2:=p72 h
   omega
  ·cases h
theorem r8m {T T' :Hs} (hs:T'.size=T.size):∀ {m:Nat} {at_:Int} {acc l:Hu Hs} {E:Int},u62 T m at_ acc=(l,E,true)→(∀q:Nat,(q:Int)<E→s3w T' q=s3w T q)→u62 T' m at_ acc=(l,E,true)
 | 0,at_,acc,l,E,h,_=>by unfold u62 at h ⊢;exact h
 | m+1,at_,acc,l,E,h,hb=>by
  unfold u62 at h ⊢
  split at h
  ·rename_i hc
   have hc' :=hc
   simp only[Ai] at hc'
   have h2:=p72 h
   rw[p4y hc'.1 hs (fun q hq=>hb q (by omega)),Al hc]
   exact r8m hs h hb
  ·cases h
theorem p2s {T:Hs} {s:Hs} {nx:Int} :∀ {m:Nat} {at_:Int} {acc l:Hu Hs} {E:Int},u62 T m at_ acc=(l,E,true)→u0o T E=(s,nx,true)→s.size≠0→u62 T (m+1) at_ acc=(l++ [s],nx,true)
 | 0,at_,acc,l,E,h,hr,hne=>by
  unfold u62 at h
  cases h
  unfold u62
  have:z7o s emp=false:=by
   have:=p0i (t:=s)
   rw[j0n] at this
   rw[this]
   simpa using hne
  rw[hr]
  simp only[this,Bh,Dt,Bl]
  rfl
 | m+1,at_,acc,l,E,h,hr,hne=>by
  unfold u62 at h
  split at h
  ·rename_i hc
   unfold u62
   rw[Al hc]
   exact p2s h hr hne
  ·cases h
def u8s (l:Hu Int):Hu UInt8:=l.map fun n=>UInt8.ofNat n.toNat
theorem q83:∀(f i acc n N:Nat) (r:Hu UInt8),0<f→n<128^f→acc+n*128^i=N→N≤1000000000→(s4b N).length=i+(s4b n).length→r3e f i acc (u8s (s4b n)++r)=some (N,i+(s4b n).length)
 | 0,i,acc,n,N,r,hf,_,_,_,_=>by omega
 | f+1,i,acc,n,N,r,_,hn,hN,hb,hl=>by
  by_cases h:n<128
  ·rw[r9y h] at hl ⊢
   have e:(UInt8.ofNat ((n:Int)).toNat).toNat=n:=by
    rw[zTn,Gg]
    omega
   simp only[u8s,C8,Eh,Ef,Cf,r3e,e,h,Bl,Aw] at hl ⊢
   rw[Nat.mod_eq_of_lt h,hN,Al ⟨hb,hl⟩]
  ·rw[q82 h] at hl ⊢
   have e:(UInt8.ofNat (((n % 128+128:Nat):Int)).toNat).toNat=n % 128+128:=by
    rw[zTn,Gg]
    omega
   have hh: ¬n % 128+128<128:=by omega
   simp only[u8s,C8,Ef,r3e,e,hh,Bk,Bc] at hl ⊢
   have e2:(n % 128+128) % 128=n % 128:=by omega
   rw[e2]
   have:=q83 f (i+1) (acc+n % 128*128^i) (n / 128) N r (by rcases f with _ | f<;>simp at hn ⊢;omega) (by rw[Gr] at hn;omega) (by
    rw[←hN,Gr]
    have:n=n % 128+128*(n / 128):=by omega
    conv=>rhs;rw[this]
    rw[Cl]
    have:n / 128*(128^i*128)=128*(n / 128)*128^i:=by rw[Fk (128^i) 128,←Nat.mul_assoc,Fk (n / 128) 128]
    omega) hb (by omega)
   show r3e f (i+1) (acc+n % 128*128^i) (u8s (s4b (n / 128))++r)=_
   rw[this]
   congr 2
   omega
end
section
theorem s6o (l:Hu Int):(y7g l).data.toList=u8s l:=by
 unfold y7g u8s
 simp
theorem q8z {T t:Hs} {E:Nat} (h0:t.size≠0) (h1:t.size≤3008) (hE:E+(u00 t).size≤T.size) (hb:∀q,q<(u00 t).size→s3w T (E+q)=s3w (u00 t) q):
 u0o T (E:Int)=(t,((E+(u00 t).size:Nat):Int),true):=by
 have hsz:(u00 t).size=(s4b t.size).length+t.size:=by unfold u00;rw[Af,u35]
 have hlist:(u00 t).data.toList=u8s (s4b t.size)++t.data.toList:=by
  unfold u00
  rw[Ft,Ha,s6o]
 have hdrop:∃r,T.data.toList.drop E=u8s (s4b t.size)++r:=by
  refine⟨(T.data.toList.drop E).drop (u8s (s4b t.size)).length,?_⟩
  have:(T.data.toList.drop E).take (u8s (s4b t.size)).length=u8s (s4b t.size):=by
   apply Gj
   intro q
   rw[Ca]
   split
   ·rename_i hq
    have hq' :q<(s4b t.size).length:=by simpa[u8s] using hq
    rw[Dg,q63 (by omega),hb q (by omega),←q63 (by omega),hlist,Aj hq]
   ·rename_i hq
    rw[Be (Fz hq)]
  conv=>lhs;rw[←En (u8s (s4b t.size)).length (T.data.toList.drop E)]
  rw[this]
 obtain⟨r,hr⟩:=hdrop
 have hv:=q83 5 0 0 t.size t.size r (by omega) (by omega) (by simp) (by omega) (by omega)
 have hread:u0t T (E:Int)=((t.size:Int),(E:Int)+((s4b t.size).length:Int),true):=by
  unfold u0t
  rw[Al (by omega),zTn,hr,hv]
  simp[q7m]
 unfold u0o
 rw[hread]
 simp only
 rw[Al (by simp only[true_and];omega)]
 have e1:((E:Int)+((s4b t.size).length:Int)).toNat=E+(s4b t.size).length:=by omega
 have e2:((E:Int)+((s4b t.size).length:Int)+(t.size:Int)).toNat=E+(s4b t.size).length+t.size:=by omega
 rw[e1,e2]
 have et:T.extract (E+(s4b t.size).length) (E+(s4b t.size).length+t.size)=t:=by
  apply q62
  ·rw[Bd];omega
  ·intro i hi
   rw[Bd] at hi
   rw[u3b,Al (by omega)]
   have:=hb ((s4b t.size).length+i) (by omega)
   rw[show E+(s4b t.size).length+i=E+((s4b t.size).length+i) by omega,this]
   unfold u00
   rw[u6e,Ao (by rw[u35];omega),u35]
   congr 1
   omega
 rw[et]
 congr 2
 rw[hsz]
 omega
def d1e (d:u0l):Prop:= ∀k:Nat,k<97→(u0k d (k:Int)).2=true∧(u0k d (k:Int)).1.size=64
theorem s5k {d:u0l} (hk:u1v d=true) (hl:d.1.length=97):d1e d:=by
 intro k hlt
 obtain⟨k1,k2,k3,k4⟩:=p78.mp hk
 have hc:(0:Int)≤(k:Int)∧(k:Int)<(d.1.length:Int):=by omega
 unfold u0k
 rw[Al hc]
 refine⟨rfl,?_⟩
 cases hp:t2k d.2 (k:Int) with
 | none=>
  have hlt' :k<d.1.length:=by omega
  have e:rdL Ty.str d.1 k=d.1[k] :=y8k (t:=Ty.str) hlt'
  simp only[Eo,zTn]
  rw[e]
  exact k3 _ (Ag hlt')
 | some s=>
  obtain⟨p,hp1,hp2⟩:=q4p hp
  simp only[Eb]
  rw[←hp2]
  exact(k4 p hp1).2
theorem p44 {d:u0l} {F:Nat} (h:∀q:Nat,q<47→(u0k d ((F+q:Nat):Int)).2=true∧(u0k d ((F+q:Nat):Int)).1.size=64):∀(m i:Nat) (acc:Hs),i+m≤47→
 ∃T,q07 d (F:Int) m i acc=(T,true)∧T.size=acc.size+64*m∧ ∀j,j<T.size→s3w T j=if j<acc.size then s3w acc j else s3w (u0k d ((F+i+(j - acc.size) / 64:Nat):Int)).1 ((j - acc.size) % 64)
 | 0,i,acc,_=>⟨acc,rfl,by omega,fun j hj=>by rw[Al hj]⟩
 | m+1,i,acc,hm=>by
  have hq:=h i (by omega)
  have e:(F:Int)+(i:Int)=((F+i:Nat):Int):=by omega
  obtain⟨T,t1,t2,t3⟩:=p44 h m (i+1) (acc++(u0k d ((F+i:Nat):Int)).1) (by omega)
  refine⟨T,?_,?_,fun j hj=> ?_⟩
  ·unfold q07
   rw[e,Al hq.1]
   exact t1
  ·rw[t2,Af,hq.2];omega
  ·rw[t3 j hj,Af,hq.2,u6e]
   by_cases h1:j<acc.size
   ·rw[Al (by omega),Al h1,Al h1]
   ·rw[Ao h1,Ao h1]
    by_cases h2:j<acc.size+64
    ·rw[Al h2]
     have z1:(j - acc.size) / 64=0:=by omega
     have z2:(j - acc.size) % 64=j - acc.size:=by omega
     rw[z1,z2,Df]
    ·rw[Ao h2]
     have z1:F+(i+1)+(j - (acc.size+64)) / 64=F+i+(j - acc.size) / 64:=by omega
     have z2:(j - (acc.size+64)) % 64=(j - acc.size) % 64:=by omega
     rw[z1,z2]
def s3v (a:Int):Nat:=(u0g a+1).toNat
def r2m (d:u0l) (a:Int):Hs:=(u8t d (u0g a+1) 47).1
theorem u54 {d:u0l} (hf:d1e d) {a:Int} (ha:a=0∨a=1):u8t d (u0g a+1) 47=(r2m d a,true)∧(r2m d a).size=3008∧ ∀j,j<3008→s3w (r2m d a) j=s3w (u0k d ((s3v a+j / 64:Nat):Int)).1 (j % 64):=by
 have hfa:u0g a=1+a*48:=by unfold u0g;rw[Al (j3b.mpr ha)]
 have hF:(u0g a+1:Int)=((s3v a:Nat):Int):=by unfold s3v;rcases ha with rfl | rfl<;>omega
 have hb:s3v a+47≤97:=by unfold s3v;rcases ha with rfl | rfl<;>omega
 obtain⟨T,t1,t2,t3⟩:=p44 (d:=d) (F:=s3v a) (fun q hq=>hf (s3v a+q) (by omega)) 47 0 emp (by omega)
 have he:emp.size=0:=rfl
 have hs:u8t d (u0g a+1) 47=(T,true):=by
  unfold u8t
  rw[Al (by omega),hF]
  exact t1
 have hT:r2m d a=T:=by unfold r2m;rw[hs]
 rw[hT]
 rw[he] at t2 t3
 refine⟨hs,by omega,fun j hj=> ?_⟩
 rw[t3 j (by omega),Ao (by omega),Df,Nat.sub_zero]
theorem t03 {d:u0l} (hf:d1e d) {a:Int} (ha:a=0∨a=1):u0f d a=u62 (r2m d a) (u0z d a).toNat 0 [] :=by
 have h:=(u54 hf ha).1
 have hi:o01 a=true:=j3b.mpr ha
 unfold u0f
 rw[h,hi]
 rfl
end
section
theorem o6t {a b:Hs} (h:a.data.toList=b.data.toList):a=b:=by
 apply Gf
 exact Array.toList_inj.mp h
theorem p2t (a b:Hs):(a++b).data.toList=a.data.toList++b.data.toList:=by rw[Ft,Ha]
theorem u88 (a b c:Hs):a++b++c=a++(b++c):=o6t (by simp only[p2t,Bi])
theorem o5r (a:Hs):emp++a=a:=o6t (by rw[p2t];rfl)
theorem o5j (a:Hs):a++emp=a:=o6t (by rw[p2t];simp[emp])
theorem q4d (a:Hs):a.size=a.data.toList.length:=o4m a
def r9z (n:Int):Hs:=y7g (s4b n.toNat)
def o5m (b:Bool):Hs:=y7g [if b then 1 else 0]
def r6r {E:Type} (f:E→Hs) (l:Hu E):Hs:=l.foldl (fun s x=>s++f x) emp
def o40 (r:s3m):Hs:=u00 r.1++u00 r.2
def wrT (w:WrT):Hs:=u00 w.1++(u00 w.2.1++o5m w.2.2)
def o4s (v:u2b):Hs:=u00 v.1++(u00 v.2.1++(o5m v.2.2.1++r9z v.2.2.2))
def t19 (t:u0c):Hs:=
 r9z t.1++(r9z t.2.1++(r9z t.2.2.1++(r9z t.2.2.2.1++(r9z (t.2.2.2.2.1.length:Int)++(r6r o40 t.2.2.2.2.1++(r9z (t.2.2.2.2.2.1.length:Int)++(r6r wrT t.2.2.2.2.2.1++(o5m t.2.2.2.2.2.2.1++u00 t.2.2.2.2.2.2.2))))))))
def r1e (l:Hu u0c):Hs:=r9z (l.length:Int)++r6r t19 l
def s2d (b:u0j):Hs:=r9z b.2.2.2.1++(r9z b.2.2.2.2++(r9z (b.1.length:Int)++(r6r o4s b.1++(r1e b.2.1++r1e b.2.2.1))))
theorem q6i {E:Type} (f:E→Hs):∀(l:Hu E) (s:Hs),l.foldl (fun s x=>s++f x) s=s++r6r f l
 | [],s=>(o5j s).symm
 | x::l,s=>by
  rw[Bs,q6i f l]
  unfold r6r
  rw[Bs,q6i f l (emp++f x),o5r,u88]
  rfl
theorem s5g {E:Type} (f:E→Hs) (x:E) (l:Hu E):r6r f (x::l)=f x++r6r f l:=by
 unfold r6r
 rw[Bs,q6i,o5r]
 rfl
theorem p9s {E:Type} (f:E→Hs):r6r f [] =emp:=rfl
def t6a (T:Hs) (a:Nat) (s:Hs):Prop:= ∃r,T.data.toList.drop a=s.data.toList++r
theorem j7k {T:Hs} {a:Nat} {s u:Hs} :t6a T a (s++u)↔t6a T a s∧t6a T (a+s.size) u:=by
 unfold t6a
 rw[p2t,q4d s]
 constructor
 ·rintro⟨r,h⟩
  refine⟨⟨u.data.toList++r,by rw[h,Bi]⟩,r,?_⟩
  rw[←Gl,h,Bi,Hg]
 ·rintro⟨⟨r,h⟩,r',h'⟩
  rw[←Gl,h,Hg] at h'
  exact⟨r',by rw[h,h',Bi]⟩
theorem q7f {T:Hs} {a:Nat} {s:Hs} (h:t6a T a s) (hs:s.size≠0):a+s.size≤T.size:=by
 obtain⟨r,h⟩:=h
 have:=Dj List.length h
 rw[F0,Ba,←q4d,←q4d] at this
 omega
theorem o84 {a s b:Hs} :t6a (a++s++b) a.size s:=⟨b.data.toList,by rw[p2t,p2t,q4d,Bi,Hg]⟩
theorem s6p (n:Int):(r9z n).size=(s4b n.toNat).length:=u35 _
theorem q7l (n:Nat):0<(s4b n).length:=by
 by_cases h:n<128
 ·rw[r9y h];simp
 ·rw[q82 h];simp
theorem q3w {T:Hs} {a:Nat} {n:Int} (h0:0≤n) (hn:n≤1000000000) (h:t6a T a (r9z n)):u0t T (a:Int)=(n,((a+(r9z n).size:Nat):Int),true):=by
 have hle:=q7f h (by rw[s6p];have:=q7l n.toNat;omega)
 obtain⟨r,h⟩:=h
 unfold r9z at h
 rw[s6o] at h
 have hv:=q83 5 0 0 n.toNat n.toNat r (by omega) (by omega) (by simp) (by omega) (by omega)
 unfold u0t
 rw[Al (by omega),zTn,h,hv]
 simp only[q7m]
 rw[s6p]
 congr 1
 ·omega
 ·congr 1
  omega
theorem p1s {T:Hs} {a:Nat} {s:Hs} (hs:s.size≤20000) (h:t6a T a (u00 s)):u0o T (a:Int)=(s,((a+(u00 s).size:Nat):Int),true):=by
 have e:u00 s=r9z (s.size:Int)++s:=rfl
 rw[e] at h
 obtain⟨h1,h2⟩:=j7k.mp h
 have hv:=q3w (by omega) (by omega) h1
 have hle1:=q7f h1 (by rw[s6p];have:=q7l (s.size:Int).toNat;omega)
 unfold u0o
 rw[hv]
 have hle:a+(r9z (s.size:Int)).size+s.size≤T.size:=by
  by_cases q:s.size=0
  ·omega
  ·exact q7f h2 q
 rw[Al (by simp only[true_and];omega)]
 have hx:T.extract (((a+(r9z (s.size:Int)).size:Nat):Int)).toNat ((((a+(r9z (s.size:Int)).size:Nat):Int)+(s.size:Int))).toNat=s:=by
  rw[zTn,show(((a+(r9z (s.size:Int)).size:Nat):Int)+(s.size:Int)).toNat=a+(r9z (s.size:Int)).size+s.size by omega]
  rw[q94 _ _ _ hle]
  obtain⟨r,hr⟩:=h2
  rw[hr,Nat.add_sub_cancel_left,q4d,List.take_left]
 simp only[hx]
 rw[e,Af]
 congr 2
 omega
abbrev Cur:=Int×Bool
def u2n (s:Hs) (c:Cur):Int×Cur:=if c.2=true∨(u0t s c.1).2.2=false then(0,c.1,true) else((u0t s c.1).1,(u0t s c.1).2.1,false)
def u2x (s:Hs) (c:Cur):Hs×Cur:=if c.2=true∨(u0o s c.1).2.2=false then(emp,c.1,true) else((u0o s c.1).1,(u0o s c.1).2.1,false)
def u7n (s:Hs) (i:Nat):Nat:=(s.data.toList.getD i 0).toNat
def q7v (s:Hs) (c:Cur):Bool×Cur:=if c.2=true∨ ¬(0≤c.1∧c.1<(s.size:Int))∨1<u7n s c.1.toNat then(false,c.1,true) else(decide (u7n s c.1.toNat=1),c.1+1,false)
def u2z {E:Type} (f:Cur→E×Cur):Nat→Cur→Hu E→Hu E×Cur
 | 0,c,a=>(a,c)
 | n+1,c,a=>if c.2=true then(a,c) else u2z f n (f c).2 (a++ [(f c).1])
def o1b (s:Hs) (c:Cur):s3m×Cur:=(((u2x s c).1,(u2x s (u2x s c).2).1),(u2x s (u2x s c).2).2)
def rWr (s:Hs) (c:Cur):WrT×Cur:=
 (((u2x s c).1,(u2x s (u2x s c).2).1,(q7v s (u2x s (u2x s c).2).2).1),(q7v s (u2x s (u2x s c).2).2).2)
def o1d (s:Hs) (c:Cur):u2b×Cur:=
 let w:=rWr s c
 ((w.1.1,w.1.2.1,w.1.2.2,(u2n s w.2).1),(u2n s w.2).2)
def p11 (m:Nat) (s:Hs) (c:Cur):u0c×Cur:=
 let a:=u2n s c
 let b:=u2n s a.2
 let d:=u2n s b.2
 let e:=u2n s d.2
 let n:=u2n s e.2
 let rs:=u2z (o1b s) (min n.1.toNat m) n.2 []
 let k:=u2n s rs.2
 let ws:=u2z (rWr s) (min k.1.toNat m) k.2 []
 let o:=q7v s ws.2
 let nm:=u2x s o.2
 ((a.1,b.1,d.1,e.1,rs.1,ws.1,o.1,nm.1),nm.2)
theorem t02 {s:Hs} {c:Cur} (h:c.2=true):(u2n s c).2.2=true:=by unfold u2n;rw[Al (.inl h)]
theorem r1c {s:Hs} {c:Cur} (h:c.2=true):(u2x s c).2.2=true:=by unfold u2x;rw[Al (.inl h)]
theorem q69 {s:Hs} {c:Cur} (h:c.2=true):(q7v s c).2.2=true:=by unfold q7v;rw[Al (.inl h)]
theorem t6t {E:Type} {f:Cur→E×Cur} {n:Nat} {c:Cur} {a:Hu E} (h:c.2=true):u2z f n c a=(a,c):=by
 cases n with
 | zero=>rfl
 | succ n=>simp only[u2z];rw[Al h]
theorem o4d {E:Type} {f:Cur→E×Cur} :∀ {n:Nat} {c:Cur} {a:Hu E},(u2z f n c a).2.2=false→(u2z f n c a).1.length=a.length+n
 | 0,c,a,_=>rfl
 | n+1,c,a,h=>by
  simp only[u2z] at h ⊢
  split at h
  ·rename_i q;rw[q] at h;cases h
  ·rename_i q
   rw[Ao q,o4d h]
   simp;omega
theorem u7j {s:Hs} {a:Nat} {n:Int} (h0:0≤n) (hn:n≤1000000000) (h:t6a s a (r9z n)):u2n s ((a:Int),false)=(n,((a+(r9z n).size:Nat):Int),false):=by
 unfold u2n
 rw[q3w h0 hn h,Ao (by simp)]
theorem t80 {s:Hs} {a:Nat} {x:Hs} (hx:x.size≤20000) (h:t6a s a (u00 x)):u2x s ((a:Int),false)=(x,((a+(u00 x).size:Nat):Int),false):=by
 unfold u2x
 rw[p1s hx h,Ao (by simp)]
theorem u3i (b:Bool):(o5m b).size=1:=u35 _
theorem q4w {s:Hs} {a:Nat} {b:Bool} (h:t6a s a (o5m b)):q7v s ((a:Int),false)=(b,((a+1:Nat):Int),false):=by
 have hle:=q7f h (by rw[u3i];omega)
 rw[u3i] at hle
 obtain⟨r,hr⟩:=h
 unfold o5m at hr
 rw[s6o] at hr
 have hb:u7n s a=if b then 1 else 0:=by
  unfold u7n
  have:s.data.toList.getD a 0=(s.data.toList.drop a).getD 0 0:=by
   rw[A5,A5,Dg,Df]
  rw[this,hr]
  cases b<;>rfl
 unfold q7v
 simp only[zTn,hb]
 rw[Ao]
 ·cases b<;>simp
 ·rintro(q | q | q)
  ·cases q
  ·omega
  ·cases b<;>simp at q
theorem s2r {E:Type} {f:Cur→E×Cur} {g:E→Hs} {s:Hs} :∀ {l:Hu E} {a:Nat} {acc:Hu E},(∀x∈l,∀a:Nat,t6a s a (g x)→f ((a:Int),false)=(x,((a+(g x).size:Nat):Int),false))→
 t6a s a (r6r g l)→u2z f l.length ((a:Int),false) acc=(acc++l,((a+(r6r g l).size:Nat):Int),false)
 | [],a,acc,_,_=>by rw[p9s];simp[u2z,emp,ByteArray.size]
 | x::l,a,acc,hf,h=>by
  rw[s5g] at h ⊢
  obtain⟨h1,h2⟩:=j7k.mp h
  have e:=hf x (by simp) a h1
  simp only[Bc,u2z]
  rw[Ao (by simp),e]
  rw[s2r (l:=l) (fun y hy=>hf y (by simp[hy])) h2,Af]
  simp[D9]
theorem o55 {s:Hs} {a:Nat} {r:s3m} (h1:r.1.size≤20000) (h2:r.2.size≤20000) (h:t6a s a (o40 r)):o1b s ((a:Int),false)=(r,((a+(o40 r).size:Nat):Int),false):=by
 obtain⟨k1,k2⟩:=j7k.mp h
 unfold o1b
 rw[t80 h1 k1]
 simp only
 rw[t80 h2 k2]
 unfold o40
 rw[Af,D9]
theorem p8l {s:Hs} {a:Nat} {w:WrT} (h1:w.1.size≤20000) (h2:w.2.1.size≤20000) (h:t6a s a (wrT w)):rWr s ((a:Int),false)=(w,((a+(wrT w).size:Nat):Int),false):=by
 obtain⟨k1,k2⟩:=j7k.mp h
 obtain⟨k2,k3⟩:=j7k.mp k2
 unfold rWr
 rw[t80 h1 k1]
 simp only
 rw[t80 h2 k2]
 simp only
 rw[q4w k3]
 unfold wrT
 rw[Af,Af,u3i,D9,D9]
theorem o57 {s:Hs} {a:Nat} {v:u2b} (h1:v.1.size≤20000) (h2:v.2.1.size≤20000) (h3:0≤v.2.2.2∧v.2.2.2≤1000000000) (h:t6a s a (o4s v)):o1d s ((a:Int),false)=(v,((a+(o4s v).size:Nat):Int),false):=by
 have e:o4s v=wrT (v.1,v.2.1,v.2.2.1)++r9z v.2.2.2:=by unfold o4s wrT;simp only[u88]
 rw[e] at h ⊢
 obtain⟨k1,k2⟩:=j7k.mp h
 unfold o1d
 rw[p8l (w:=(v.1,v.2.1,v.2.2.1)) h1 h2 k1]
 simp only
 rw[u7j h3.1 h3.2 k2,Af,D9]
theorem TxnR.small {t:u0c} (h:TxnR t):(∀r∈t.2.2.2.2.1,r.1.size≤3∧r.2.size≤3)∧(∀w∈t.2.2.2.2.2.1,w.1.size≤3∧w.2.1.size≤12)∧t.2.2.2.2.2.2.2.size≤3∧t.2.2.2.2.2.1.length≤8∧0≤t.2.2.2.1∧t.2.2.2.1≤9999:=by
 obtain⟨w1,w2,w3⟩:=j46.mp h.ws
 refine⟨fun r hr=> ?_,fun w hw=> ?_,?_,w3,?_⟩
 ·have:=h.rs r hr
  unfold u3s at this
  rw[Ai,Ai] at this
  exact⟨(u3f this.1).2,(u3f this.2.1).2⟩
 ·have:=w1 w hw
  unfold u3t at this
  rw[Ai,Ai,Ar] at this
  exact⟨(u3f this.1).2,this.2.1⟩
 ·by_cases e:t.2.1=2
  ·exact(u3f (h.name e)).2
  ·rw[h.noname e];omega
 ·by_cases e:t.2.1=3
  ·have:=h.done e;have:=h.snap;omega
  ·rw[h.nocs e];omega
theorem o56 {s:Hs} {a:Nat} {t:u0c} {m:Nat} (hm:8≤m) (ht:TxnR t) (h:t6a s a (t19 t)):p11 m s ((a:Int),false)=(t,((a+(t19 t).size:Nat):Int),false):=by
 obtain⟨z1,z2,z3,z4,z5⟩:=ht.small
 have hi:=ht.id;have hst:=ht.st;have hsn:=ht.snap;have hrl:=ht.rlen
 unfold t19 at h ⊢
 obtain⟨k1,h⟩:=j7k.mp h
 obtain⟨k2,h⟩:=j7k.mp h
 obtain⟨k3,h⟩:=j7k.mp h
 obtain⟨k4,h⟩:=j7k.mp h
 obtain⟨k5,h⟩:=j7k.mp h
 obtain⟨k6,h⟩:=j7k.mp h
 obtain⟨k7,h⟩:=j7k.mp h
 obtain⟨k8,h⟩:=j7k.mp h
 obtain⟨k9,k10⟩:=j7k.mp h
 unfold p11
 rw[u7j (by omega) (by omega) k1]
 simp only
 rw[u7j (by omega) (by omega) k2]
 simp only
 rw[u7j (by omega) (by omega) k3]
 simp only
 rw[u7j (by omega) (by omega) k4]
 simp only
 rw[u7j (by omega) (by omega) k5]
 simp only
 rw[show min ((t.2.2.2.2.1.length:Int)).toNat m=t.2.2.2.2.1.length by omega,s2r (g:=o40) (fun r hr a hs=>o55 (by have:=(z1 r hr).1;omega) (by have:=(z1 r hr).2;omega) hs) k6]
 simp only
 rw[u7j (by omega) (by omega) k7]
 simp only
 rw[show min ((t.2.2.2.2.2.1.length:Int)).toNat m=t.2.2.2.2.2.1.length by omega,s2r (g:=wrT) (fun w hw a hs=>p8l (by have:=(z2 w hw).1;omega) (by have:=(z2 w hw).2;omega) hs) k8]
 simp only
 rw[q4w k9]
 simp only
 rw[u3i] at k10
 rw[t80 (by omega) k10]
 simp only[Cf,Af,u3i]
 simp only[D9]
end
section
def u6u (m:Nat) (s:Hs) (c:Cur):u0c×Cur:=((p11 m s c).1,(p11 m s c).2.1,(p11 m s c).2.2 || !u7k (p11 m s c).1)
def t18 (m k:Nat) (s:Hs) (c:Cur):Hu u0c×Cur:=u2z (u6u m s) (min (u2n s c).1.toNat k) (u2n s c).2 []
structure Lim where
 t:Nat
 v:Nat
 p:Nat
 r:Nat
def r1b (m:Lim) (s:Hs) (c:Cur):u0j×Cur:=
 let a:=u2n s c
 let b:=u2n s a.2
 let n:=u2n s b.2
 let vs:=u2z (o1d s) (min n.1.toNat m.v) n.2 []
 let ps:=t18 m.t m.p s vs.2
 let rs:=t18 m.t m.r s ps.2
 ((vs.1,ps.1,rs.1,a.1,b.1),rs.2)
theorem j05 {m:Nat} {s:Hs} {c:Cur} (h:c.2=true):(u6u m s c).2.2=true:=by
 have:(p11 m s c).2.2=true:=by
  unfold p11
  have h1:=t02 (s:=s) h
  have h2:=t02 (s:=s) h1
  have h3:=t02 (s:=s) h2
  have h4:=t02 (s:=s) h3
  have h5:=t02 (s:=s) h4
  simp only
  rw[t6t h5]
  have h6:=t02 (s:=s) h5
  simp only
  rw[t6t h6]
  exact r1c (q69 h6)
 unfold u6u
 simp only[this,Dx]
theorem q0v {E:Type} {f:Cur→E×Cur} {n k:Nat} {c:Cur} (hk:k≤n):(u2z f n c []).2.2=true∨k≤(u2z f n c []).1.length:=by
 cases h:(u2z f n c []).2.2 with
 | true=>exact .inl rfl
 | false=>rw[o4d h];exact .inr (by simp;exact hk)
theorem p4o {m m' :Nat} (hm:9≤m) (hm' :9≤m') {s:Hs} {c:Cur} (h:(u6u m s c).2.2=false):u6u m' s c=u6u m s c:=by
 have hb:(p11 m s c).2.2=false∧u7k (p11 m s c).1=true:=by
  unfold u6u at h
  simp only[Es,Bool.not_eq_false'] at h
  exact h
 have hR:=q7i.mp hb.2
 have hw:=(j46.mp hR.ws).2.2
 suffices e:p11 m' s c=p11 m s c by unfold u6u;rw[e]
 have b1:=hb.1
 have hr:=hR.rlen
 unfold p11 at b1 hr hw ⊢
 simp only at b1 hr hw ⊢
 generalize hn:u2n s (u2n s (u2n s (u2n s (u2n s c).2).2).2).2=n at b1 hr hw ⊢
 have k1:n.1.toNat≤8∨(u2z (o1b s) (min n.1.toNat m) n.2 []).2.2=true:=by
  rcases B8 8 n.1.toNat with q | q
  ·rcases q0v (f:=o1b s) (n:=min n.1.toNat m) (k:=9) (c:=n.2) (by omega) with z | z
   ·exact .inr z
   ·omega
  ·exact .inl q
 have k1:n.1.toNat≤8:=k1.resolve_right fun k1=>by
  have h1:=t02 (s:=s) k1
  rw[t6t h1] at b1
  rw[r1c (q69 h1)] at b1
  cases b1
 have e1:min n.1.toNat m=min n.1.toNat m' :=by omega
 rw[e1] at b1 hw ⊢
 generalize hk:u2n s (u2z (o1b s) (min n.1.toNat m') n.2 []).2=k at b1 hw ⊢
 have k2:k.1.toNat≤8∨(u2z (rWr s) (min k.1.toNat m) k.2 []).2.2=true:=by
  rcases B8 8 k.1.toNat with q | q
  ·rcases q0v (f:=rWr s) (n:=min k.1.toNat m) (k:=9) (c:=k.2) (by omega) with z | z
   ·exact .inr z
   ·omega
  ·exact .inl q
 have k2:k.1.toNat≤8:=k2.resolve_right fun k2=>by
  rw[r1c (q69 k2)] at b1
  cases b1
 have e2:min k.1.toNat m=min k.1.toNat m' :=by omega
 rw[e2]
theorem p4t {E:Type} {f g:Cur→E×Cur} (hf:∀c,(f c).2.2=false→g c=f c) (hfb:∀c,c.2=true→(f c).2.2=true):∀ {n:Nat} {c:Cur} {a:Hu E},(u2z f n c a).2.2=false→u2z g n c a=u2z f n c a
 | 0,c,a,_=>rfl
 | n+1,c,a,h=>by
  simp only[u2z] at h ⊢
  split at h
  ·rename_i q;rw[q] at h;cases h
  ·rename_i q
   rw[Ao q,Ao q]
   have:(f c).2.2=false:=by
    cases z:(f c).2.2 with
    | false=>rfl
    | true=>rw[t6t z] at h;rw[z] at h;cases h
   rw[hf c this]
   exact p4t hf hfb h
def t5x (m:Lim) (s:Hs) (c:Cur):u0j×Cur:=((r1b m s c).1,(r1b m s c).2.1,(r1b m s c).2.2 || !u7m (r1b m s c).1)
def Lim.ok (m:Lim):Prop:=9≤m.t∧121≤m.v∧13≤m.p∧4≤m.r
theorem r9l {m k:Nat} {s:Hs} {c:Cur} (h:c.2=true):(t18 m k s c).2.2=true:=by
 unfold t18;rw[t6t (t02 h)];exact t02 h
theorem o4e {m m' k k' N:Nat} (hm:9≤m) (hm' :9≤m') (hk:N<k) (hk' :N<k') {s:Hs} {c:Cur} (h:(t18 m k s c).2.2=false) (hl:(t18 m k s c).1.length≤N):t18 m' k' s c=t18 m k s c:=by
 unfold t18 at h hl ⊢
 have q:(u2n s c).1.toNat≤N:=by
  rcases B8 N (u2n s c).1.toNat with q | q
  ·rcases q0v (f:=u6u m s) (n:=min (u2n s c).1.toNat k) (k:=N+1) (c:=(u2n s c).2) (by omega) with z | z
   ·rw[z] at h;cases h
   ·omega
  ·exact q
 have e:min (u2n s c).1.toNat k=min (u2n s c).1.toNat k' :=by omega
 rw[e] at h ⊢
 exact p4t (fun c hc=>p4o hm hm' hc) (fun c hc=>j05 hc) h
theorem p8f {m m' :Lim} (hm:m.ok) (hm' :m'.ok) {s:Hs} {c:Cur} (h:(t5x m s c).2.2=false):t5x m' s c=t5x m s c:=by
 obtain⟨a1,a2,a3,a4⟩:=hm
 obtain⟨b1,b2,b3,b4⟩:=hm'
 have hb:(r1b m s c).2.2=false∧u7m (r1b m s c).1=true:=by
  unfold t5x at h
  simp only[Es,Bool.not_eq_false'] at h
  exact h
 have hR:=p74.mp hb.2
 have v1:=(j2n.mp hR.vs).2.2
 have v2:=hR.plen
 have v3:=hR.rlen
 have h0:=hb.1
 suffices e:r1b m' s c=r1b m s c by unfold t5x;rw[e]
 unfold r1b at h0 v1 v2 v3 ⊢
 simp only at h0 v1 v2 v3 ⊢
 generalize hn:u2n s (u2n s (u2n s c).2).2=n at h0 v1 v2 v3 ⊢
 have k1:n.1.toNat≤120:=by
  rcases B8 120 n.1.toNat with q | q
  ·rcases q0v (f:=o1d s) (n:=min n.1.toNat m.v) (k:=121) (c:=n.2) (by omega) with z | z
   ·exfalso
    rw[r9l (r9l z)] at h0
    cases h0
   ·omega
  ·exact q
 have e1:min n.1.toNat m.v=min n.1.toNat m'.v:=by omega
 rw[e1] at h0 v2 v3 ⊢
 generalize hv:u2z (o1d s) (min n.1.toNat m'.v) n.2 [] =vs at h0 v2 v3 ⊢
 have hp:(t18 m.t m.p s vs.2).2.2=false:=by
  cases z:(t18 m.t m.p s vs.2).2.2 with
  | false=>rfl
  | true=>rw[r9l z] at h0;cases h0
 rw[o4e (N:=12) a1 b1 (by omega) (by omega) hp v2]
 rw[o4e (N:=3) a1 b1 (by omega) (by omega) h0 v3]
theorem r9d {s:Hs} {a:Nat} {t:u0c} {m:Nat} (hm:8≤m) (ht:TxnR t) (h:t6a s a (t19 t)):u6u m s ((a:Int),false)=(t,((a+(t19 t).size:Nat):Int),false):=by
 unfold u6u
 rw[o56 hm ht h]
 simp only[q7i.mpr ht,Ap,Fp]
theorem p0d {s:Hs} {a:Nat} {l:Hu u0c} {m k:Nat} (hm:8≤m) (hk:l.length≤k) (hl:l.length≤1000000000) (ht:∀t∈l,TxnR t) (h:t6a s a (r1e l)):t18 m k s ((a:Int),false)=(l,((a+(r1e l).size:Nat):Int),false):=by
 unfold r1e at h ⊢
 obtain⟨k1,k2⟩:=j7k.mp h
 unfold t18
 rw[u7j (by omega) (by omega) k1]
 simp only
 rw[show min ((l.length:Int)).toNat k=l.length by omega,s2r (g:=t19) (fun t h a hs=>r9d hm (ht t h) hs) k2]
 rw[Af,Cf,D9]
theorem s6q {v:u2b} (h:r90 v=true):v.1.size≤3∧v.2.1.size≤12∧1≤v.2.2.2∧v.2.2.2≤9999:=by
 unfold r90 at h
 simp only[Ai,Ar,q8v] at h
 exact⟨(u3f h.1).2,h.2.1,h.2.2.2⟩
theorem o4c {s:Hs} {a:Nat} {b:u0j} {m:Lim} (hm:m.ok) (hb:BaseR b) (h:t6a s a (s2d b)):r1b m s ((a:Int),false)=(b,((a+(s2d b).size:Nat):Int),false):=by
 obtain⟨a1,a2,a3,a4⟩:=hm
 obtain⟨v1,v2,v3⟩:=j2n.mp hb.vs
 have hc:=hb.cs;have hx:=hb.next;have hp:=hb.plen;have hr:=hb.rlen
 unfold s2d at h ⊢
 obtain⟨k1,h⟩:=j7k.mp h
 obtain⟨k2,h⟩:=j7k.mp h
 obtain⟨k3,h⟩:=j7k.mp h
 obtain⟨k4,h⟩:=j7k.mp h
 obtain⟨k5,k6⟩:=j7k.mp h
 unfold r1b
 rw[u7j (by omega) (by omega) k1]
 simp only
 rw[u7j (by omega) (by omega) k2]
 simp only
 rw[u7j (by omega) (by omega) k3]
 simp only
 rw[show min ((b.1.length:Int)).toNat m.v=b.1.length by omega,s2r (g:=o4s) (fun v hv a hs=>by
  have:=s6q (v1 v hv)
  exact o57 (by omega) (by omega) (by omega) hs) k4]
 simp only
 rw[p0d (by omega) (by omega) (by omega) (fun t ht=>(hb.past t ht).1) k5]
 simp only
 rw[p0d (by omega) (by omega) (by omega) (fun t ht=>(hb.ready t ht).1) k6]
 simp only[Cf,Af,D9]
theorem o4r {n:Nat} (h:n<16384):(s4b n).length≤2:=by
 by_cases q:n<128
 ·rw[r9y q];simp
 ·rw[q82 q,r9y (by omega)];simp
theorem u14 {n:Int} (h:n<16384):(r9z n).size≤2:=by rw[s6p];exact o4r (by omega)
theorem u04 {s:Hs} (h:s.size<16384):(u00 s).size≤s.size+2:=by
 unfold u00
 rw[Af,u35]
 have:=o4r h
 omega
theorem t9s {E:Type} {f:E→Hs} {k:Nat} :∀ {l:Hu E},(∀x∈l,(f x).size≤k)→(r6r f l).size≤l.length*k
 | [],_=>by rw[p9s];simp[emp,ByteArray.size]
 | x::l,h=>by
  rw[s5g,Af,Bc,C7]
  have h1:=h x (by simp)
  have h2:=t9s (l:=l) (fun y hy=>h y (by simp[hy]))
  omega
theorem s0c {t:u0c} (h:TxnR t):(t19 t).size≤300:=by
 obtain⟨z1,z2,z3,z4,z5⟩:=h.small
 have hi:=h.id;have hst:=h.st;have hsn:=h.snap;have hrl:=h.rlen
 have r1:(r6r o40 t.2.2.2.2.1).size≤t.2.2.2.2.1.length*10:=t9s fun r hr=>by
  have:=z1 r hr
  have q1:=u04 (s:=r.1) (by omega)
  have q2:=u04 (s:=r.2) (by omega)
  unfold o40;rw[Af];omega
 have r2:(r6r wrT t.2.2.2.2.2.1).size≤t.2.2.2.2.2.1.length*20:=t9s fun w hw=>by
  have:=z2 w hw
  have q1:=u04 (s:=w.1) (by omega)
  have q2:=u04 (s:=w.2.1) (by omega)
  unfold wrT;rw[Af,Af,u3i];omega
 have v1:=u14 (n:=t.1) (by omega)
 have v2:=u14 (n:=t.2.1) (by omega)
 have v3:=u14 (n:=t.2.2.1) (by omega)
 have v4:=u14 (n:=t.2.2.2.1) (by omega)
 have v5:=u14 (n:=(t.2.2.2.2.1.length:Int)) (by omega)
 have v6:=u14 (n:=(t.2.2.2.2.2.1.length:Int)) (by omega)
 have v7:=u04 (s:=t.2.2.2.2.2.2.2) (by omega)
 unfold t19
 simp only[Af,u3i]
 omega
theorem s44 {l:Hu u0c} (hl:l.length<16384) (h:∀t∈l,TxnR t):(r1e l).size≤2+l.length*300:=by
 unfold r1e
 rw[Af]
 have v1:=u14 (n:=(l.length:Int)) (by omega)
 have v2:=t9s (f:=t19) (k:=300) (l:=l) (fun t ht=>s0c (h t ht))
 omega
theorem q7n {v:u2b} (h:r90 v=true):(o4s v).size≤22:=by
 have:=s6q h
 have q1:=u04 (s:=v.1) (by omega)
 have q2:=u04 (s:=v.2.1) (by omega)
 have q3:=u14 (n:=v.2.2.2) (by omega)
 unfold o4s
 simp only[Af,u3i]
 omega
theorem q74 {b:u0j} (hb:BaseR b):(s2d b).size≤10+b.1.length*22+b.2.1.length*300+b.2.2.1.length*300:=by
 obtain⟨v1,v2,v3⟩:=j2n.mp hb.vs
 have hc:=hb.cs;have hx:=hb.next;have hp:=hb.plen;have hr:=hb.rlen
 have q1:=u14 (n:=b.2.2.2.1) (by omega)
 have q2:=u14 (n:=b.2.2.2.2) (by omega)
 have q3:=u14 (n:=(b.1.length:Int)) (by omega)
 have q4:=t9s (f:=o4s) (k:=22) (l:=b.1) (fun v hv=>q7n (v1 v hv))
 have q5:=s44 (l:=b.2.1) (by omega) (fun t ht=>(hb.past t ht).1)
 have q6:=s44 (l:=b.2.2.1) (by omega) (fun t ht=>(hb.ready t ht).1)
 unfold s2d
 simp only[Af]
 omega
end
section
def j6x (a b:Int):Int:=IntKind.u32.wrap ((BitVec.ofInt IntKind.u32.bits a^^^BitVec.ofInt IntKind.u32.bits b).toNat:Int)
def j1v (x:Int):Int:=bif decide (Int.tmod x 2=1) then j6x (IntKind.u32.wrap (Int.tdiv x 2)) 3558460437 else IntKind.u32.wrap (Int.tdiv x 2)
def p48:Nat→Int→Int
 | 0,x=>x
 | n+1,x=>p48 n (j1v x)
def p49 (x:Int) (b:UInt8):Int:=p48 8 (j6x x (IntKind.u32.wrap (b.toNat:Int)))
def j6p (t:Hs):Int:=t.data.toList.foldl p49 4294967295
def j6n (x:Int) (k:Nat):Int:=IntKind.u8.wrap (Int.fdiv x (2^k))
def j92 (x:Int):Hs:=y7g [j6n x 24,j6n x 16,j6n x 8,IntKind.u8.wrap x]
def r9u (t:Hs):Hs:=t++j92 (j6p t)
def p43 (t:Hs):Hs×Bool:=if t.size≤20000 then(r9u t,true) else(emp,false)
def t5t (t:Hs):Ht Hs:=if 4≤t.size∧t.size - 4≤20000∧r9u (t.extract 0 (t.size - 4))=t then some (t.extract 0 (t.size - 4)) else none
theorem j0r (x:Int):(j92 x).size=4:=u35 _
theorem p8r (t:Hs):(r9u t).size=t.size+4:=by unfold r9u;rw[Af,j0r]
theorem q7j {t:Hs} (h:t.size≤20000):t5t (r9u t)=some t:=by
 have hs:=p8r t
 have e:(r9u t).extract 0 ((r9u t).size - 4)=t:=by
  rw[hs,Nat.add_sub_cancel]
  exact ByteArray.extract_append_eq_left rfl
 unfold t5t
 rw[e,Al ⟨by omega,by omega,rfl⟩]
abbrev s67:=Int×u0c×Hs×Bool×u0j
def u5j:u0c:=(0,0,0,0, [], [],false,emp)
def u2s:u0j:=([], [], [],0,0)
def noT (t:u0c):Bool:=decide (t.1=0)&&(decide (t.2.1=0)&&(decide (t.2.2.1=0)&&(decide (t.2.2.2.1=0)&&(decide (t.2.2.2.2.1.length=0)&&(decide (t.2.2.2.2.2.1.length=0)&&(!t.2.2.2.2.2.2.1&&decide (t.2.2.2.2.2.2.2.size=0)))))))
def noB (b:u0j):Bool:=decide (b.1.length=0)&&(decide (b.2.1.length=0)&&(decide (b.2.2.1.length=0)&&(decide (b.2.2.2.1=0)&&decide (b.2.2.2.2=0))))
def u6z (r:s67):Bool:=
 if r.1=1 then u7k r.2.1&&(decide (r.2.1.2.1=3)&&(decide (r.2.2.1.size=0)&&(!r.2.2.2.1&&noB r.2.2.2.2)))
 else if r.1=2 then u7k r.2.1&&(decide (r.2.1.2.1=2)&&(decide (r.2.2.1.size=0)&&(!r.2.2.2.1&&noB r.2.2.2.2)))
 else if r.1=3 then noT r.2.1&&(u7b r.2.2.1&&noB r.2.2.2.2)
 else if r.1=4 then noT r.2.1&&(decide (r.2.2.1.size=0)&&(!r.2.2.2.1&&u7m r.2.2.2.2))
 else false
def r9r (r:s67):Hs:=y7g [IntKind.u8.wrap r.1] ++(if r.1=3 then u00 r.2.2.1++o5m r.2.2.2.1 else if r.1=4 then s2d r.2.2.2.2 else t19 r.2.1)
def u1h (r:s67):Hs×Bool:=if u6z r=true then p43 (r9r r) else(emp,false)
theorem j39 {s:Hs} (h:s.size=0):s=emp:=o6t (by
 rw[q4d] at h
 rw[Dk.mp h];rfl)
theorem j04 {t:u0c} :noT t=true↔t=u5j:=by
 unfold noT u5j
 simp only[Ai,Ar,Bj]
 constructor
 ·rintro⟨h1,h2,h3,h4,h5,h6,h7,h8⟩
  obtain⟨t1,t2,t3,t4,t5,t6,t7,t8⟩:=t
  simp only at h1 h2 h3 h4 h5 h6 h7 h8
  rw[h1,h2,h3,h4,Dk.mp h5,Dk.mp h6,h7,j39 h8]
 ·rintro rfl
  exact⟨rfl,rfl,rfl,rfl,rfl,rfl,rfl,rfl⟩
theorem o5z {b:u0j} :noB b=true↔b=u2s:=by
 unfold noB u2s
 simp only[Ai,Ar]
 constructor
 ·rintro⟨h1,h2,h3,h4,h5⟩
  obtain⟨t1,t2,t3,t4,t5⟩:=b
  simp only at h1 h2 h3 h4 h5
  rw[h4,h5,Dk.mp h1,Dk.mp h2,Dk.mp h3]
 ·rintro rfl
  exact⟨rfl,rfl,rfl,rfl,rfl⟩
inductive RecR:s67→Prop where
 | thr (t:u0c) (h:TxnR t) (hs:t.2.1=3):RecR (1,t,emp,false,u2s)
 | rdy (t:u0c) (h:TxnR t) (hs:t.2.1=2):RecR (2,t,emp,false,u2s)
 | fin (n:Hs) (y:Bool) (h:u7b n=true):RecR (3,u5j,n,y,u2s)
 | bas (b:u0j) (h:BaseR b):RecR (4,u5j,emp,false,b)
theorem j44 {r:s67} :u6z r=true↔RecR r:=by
 obtain⟨k,t,n,y,b⟩:=r
 unfold u6z
 simp only
 constructor
 ·intro h
  split at h
  ·rename_i e
   simp only[Ai,Ar,Bj,q7i,o5z] at h
   obtain⟨h1,h2,h3,h4,h5⟩:=h
   rw[e,j39 h3,h4,h5];exact .thr t h1 h2
  ·split at h
   ·rename_i _ e
    simp only[Ai,Ar,Bj,q7i,o5z] at h
    obtain⟨h1,h2,h3,h4,h5⟩:=h
    rw[e,j39 h3,h4,h5];exact .rdy t h1 h2
   ·split at h
    ·rename_i _ _ e
     simp only[Ai,j04,o5z] at h
     obtain⟨h1,h2,h3⟩:=h
     rw[e,h1,h3];exact .fin n y h2
    ·split at h
     ·rename_i _ _ _ e
      simp only[Ai,Ar,Bj,j04,p74] at h
      obtain⟨h1,h2,h3,h4⟩:=h
      rw[e,h1,j39 h2,h3];exact .bas b h4
     ·cases h
 ·intro h
  cases h with
  | thr t h hs=>simp[q7i.mpr h,hs,o5z.mpr rfl,emp,ByteArray.size]
  | rdy t h hs=>simp[q7i.mpr h,hs,o5z.mpr rfl,emp,ByteArray.size]
  | fin n y h=>simp[h,o5z.mpr rfl,j04.mpr rfl]
  | bas b h=>simp[p74.mpr h,j04.mpr rfl,emp,ByteArray.size]
theorem s41 {r:s67} (h:RecR r):2≤(r9r r).size∧(r9r r).size≤10000:=by
 have h1:∀n:Int,(y7g [n]).size=1:=fun n=>u35 _
 cases h with
 | thr t h hs=>
  have:=s0c h
  have q:1≤(t19 t).size:=by
   unfold t19;rw[Af,s6p];have:=q7l t.1.toNat;omega
  show 2≤(y7g _++t19 t).size∧(y7g _++t19 t).size≤10000
  rw[Af,h1];omega
 | rdy t h hs=>
  have:=s0c h
  have q:1≤(t19 t).size:=by
   unfold t19;rw[Af,s6p];have:=q7l t.1.toNat;omega
  show 2≤(y7g _++t19 t).size∧(y7g _++t19 t).size≤10000
  rw[Af,h1];omega
 | fin n y h=>
  have:=u3f h
  have q:=u04 (s:=n) (by omega)
  show 2≤(y7g _++(u00 n++o5m y)).size∧(y7g _++(u00 n++o5m y)).size≤10000
  have:=(r9w n).1
  rw[Af,Af,h1,u3i];omega
 | bas b h=>
  have:=q74 h
  have a1:=(j2n.mp h.vs).2.2
  have a2:=h.plen
  have a3:=h.rlen
  have q:1≤(s2d b).size:=by
   unfold s2d;rw[Af,s6p];have:=q7l b.2.2.2.1.toNat;omega
  show 2≤(y7g _++s2d b).size∧(y7g _++s2d b).size≤10000
  rw[Af,h1];omega
theorem t4a {r:s67} (h:RecR r):u1h r=(r9u (r9r r),true):=by
 unfold u1h p43
 rw[Al (j44.mpr h),Al (by have:=(s41 h).2;omega)]
def d1s:Lim:=⟨9,121,13,4⟩
theorem o5w:d1s.ok:=⟨by decide,by decide,by decide,by decide⟩
def t3j (s:Hs):s67×Bool:=
 if u7n s 0=3 then((3,u5j,(u2x s (1,false)).1,(q7v s (u2x s (1,false)).2).1,u2s),(q7v s (u2x s (1,false)).2).2.2)
 else if u7n s 0=4 then((4,u5j,emp,false,(t5x d1s s (1,false)).1),(t5x d1s s (1,false)).2.2)
 else(((u7n s 0:Int),(u6u 9 s (1,false)).1,emp,false,u2s),(u6u 9 s (1,false)).2.2)
def u4u (t:Hs):Ht s67:=
 match t5t t with
 | none=>none
 | some s=>if s.size=0 then none else if(t3j s).2=true∨u1h (t3j s).1≠(t,true) then none else some (t3j s).1
theorem p9r {k:Nat} (h:k<256) (s:Hs):u7n (y7g [IntKind.u8.wrap (k:Int)] ++s) 0=k:=by
 unfold u7n
 rw[p2t,s6o]
 have:IntKind.u8.wrap (k:Int)=(k:Int):=j4i h
 rw[this]
 show(UInt8.ofNat ((k:Int)).toNat).toNat=k
 rw[zTn]
 simp
 omega
theorem s04 {r:s67} (h:RecR r):t3j (r9r r)=(r,false):=by
 have st:∀(x:Int) (s:Hs),t6a (y7g [x] ++s) 1 s:=fun x s=>by
  have:=o84 (a:=y7g [x]) (s:=s) (b:=emp)
  rw[o5j,u35] at this
  exact this
 cases h with
 | thr t h hs=>
  have e:r9r (1,t,emp,false,u2s)=y7g [IntKind.u8.wrap ((1:Nat):Int)] ++t19 t:=rfl
  rw[e]
  unfold t3j
  rw[p9r (by omega),Ao (by omega),Ao (by omega)]
  have q:=r9d (m:=9) (by omega) h (st (IntKind.u8.wrap ((1:Nat):Int)) (t19 t))
  have q:u6u 9 (y7g [IntKind.u8.wrap ((1:Nat):Int)] ++t19 t) (1,false)=_:=q
  rw[q];rfl
 | rdy t h hs=>
  have e:r9r (2,t,emp,false,u2s)=y7g [IntKind.u8.wrap ((2:Nat):Int)] ++t19 t:=rfl
  rw[e]
  unfold t3j
  rw[p9r (by omega),Ao (by omega),Ao (by omega)]
  have q:=r9d (m:=9) (by omega) h (st (IntKind.u8.wrap ((2:Nat):Int)) (t19 t))
  have q:u6u 9 (y7g [IntKind.u8.wrap ((2:Nat):Int)] ++t19 t) (1,false)=_:=q
  rw[q];rfl
 | fin n y h=>
  have e:r9r (3,u5j,n,y,u2s)=y7g [IntKind.u8.wrap ((3:Nat):Int)] ++(u00 n++o5m y):=rfl
  rw[e]
  unfold t3j
  rw[p9r (by omega),Al rfl]
  obtain⟨k1,k2⟩:=j7k.mp (st (IntKind.u8.wrap ((3:Nat):Int)) (u00 n++o5m y))
  have q1:=t80 (by have:=u3f h;omega) k1
  have q1:u2x (y7g [IntKind.u8.wrap ((3:Nat):Int)] ++(u00 n++o5m y)) (1,false)=_:=q1
  rw[q1]
  simp only
  rw[q4w k2]
 | bas b h=>
  have e:r9r (4,u5j,emp,false,b)=y7g [IntKind.u8.wrap ((4:Nat):Int)] ++s2d b:=rfl
  rw[e]
  unfold t3j
  rw[p9r (by omega),Ao (by omega),Al rfl]
  have q:=o4c o5w h (st (IntKind.u8.wrap ((4:Nat):Int)) (s2d b))
  have q:r1b d1s (y7g [IntKind.u8.wrap ((4:Nat):Int)] ++s2d b) (1,false)=_:=q
  unfold t5x
  rw[q]
  simp only[p74.mpr h,Ap,Fp]
theorem r9n {r:s67} (h:RecR r):u4u (r9u (r9r r))=some r:=by
 have hs:=s41 h
 unfold u4u
 rw[q7j (by omega)]
 simp only
 rw[Ao (by omega),s04 h]
 simp only
 rw[t4a h,Ao (by simp)]
theorem q7c {t:Hs} {r:s67} (h:u4u t=some r):RecR r∧t=r9u (r9r r):=by
 unfold u4u at h
 split at h
 ·cases h
 ·rename_i s hs
  split at h
  ·cases h
  ·split at h
   ·cases h
   ·rename_i hc
    simp only[Hr,ne_eq,Decidable.not_not] at hc
    have e:=Ds h
    rw[e] at hc
    have hr:u6z r=true:=by
     cases q:u6z r with
     | true=>rfl
     | false=>
      have:=hc.2
      unfold u1h at this
      rw[Ao (by simp[q])] at this
      simp at this
    have hR:=j44.mp hr
    refine⟨hR,?_⟩
    have:=hc.2
    rw[t4a hR] at this
    exact(Dv this).1.symm
def u2e (b:u0j) (r:s67):Ht u0j:=
 if r.1=1 then(if r.2.1.2.2.2.1=b.2.2.2.1+1 then some (u0y b r.2.1) else none)
 else if r.1=2 then(if b.2.2.1.length<3∧u0i b r.2.1.2.2.2.2.2.2.2<0 then some (u12 b r.2.1 r.2.1.2.2.2.2.2.2.2) else none)
 else if r.1=3 then(if u0i b r.2.2.1<0 then none else if r.2.2.2.1=true then some (u0y b (rdL u0q b.2.2.1 (u0i b r.2.2.1).toNat)) else some (u7p b r.2.2.1))
 else some r.2.2.2.2
def u7o (b:u0j) (r:s67):Ht u0j:=
 if u7m b=true∧u6z r=true then(match u2e b r with
  | none=>none
  | some x=>if u7m (u2y x [])=true then some (u2y x []) else none)
 else none
def o65:u0j:=([], [], [],0,1)
def s2o:u0j→Hu Hs→Ht u0j
 | b, [] =>some b
 | b,t::l=>match u4u t with
  | none=>none
  | some r=>match u7o b r with
   | none=>none
   | some x=>s2o x l
def t0y (l:Hu Hs):Ht u0j:=s2o o65 l
theorem o8u (b:u0j):∀(l m:Hu Hs),s2o b (l++m)=(s2o b l).bind fun x=>s2o x m:=by
 intro l
 induction l generalizing b with
 | nil=>intro m;rfl
 | cons t l ih=>
  intro m
  simp only[Ef,s2o]
  cases u4u t with
  | none=>rfl
  | some r=>
   simp only
   cases u7o b r with
   | none=>rfl
   | some x=>exact ih x m
end
section
theorem p47 {s:Hu Hs} {p:Int×Hs} {k i:Nat} {b:UInt8} (hk:k<s.length) (hp0:0≤p.1) (h1:s3w (rdL Ty.str s k) i=b) (h2:p.1=(k:Int)→s3w p.2 i=b):s3w (rdL Ty.str (s4a s p) k) i=b:=by
 have:=o4l (s:=s) (p:=p) (j:=(k:Int)) hp0 (by omega) (by simpa using hk)
 rw[zTn] at this
 rw[this]
 split
 ·rename_i e;exact h2 e
 ·exact h1
theorem o8i {x:u0l} (hk:u1v x=true) (keep:Hu Int) (tear:Int) {k i:Nat} (hkl:k<x.1.length) (hi:i<64) {b:UInt8} (h1:s3w (rdL Ty.str x.1 k) i=b) (h2:∀p∈x.2,p.1=(k:Int)→s3w p.2 i=b):
 s3w (rdL Ty.str (t0t x keep tear).1 k) i=b:=by
 obtain⟨k1,k2,k3,k4⟩:=p78.mp hk
 have ht:=(p12 tear).1
 have e:(t0t x keep tear).1=s3u x keep (u03 keep x.2.length) (t4b tear) x.2.length:=by unfold t0t;rw[Al hk];rfl
 rw[e]
 have key:∀n,n≤x.2.length→s3w (rdL Ty.str (s3u x keep (u03 keep x.2.length) (t4b tear) n) k) i=b:=by
  intro n
  induction n with
  | zero=>intro _;exact h1
  | succ n ih=>
   intro hn
   have ih:=ih (by omega)
   obtain⟨i1,i2⟩:=q0l hk keep ht (last:=u03 keep x.2.length) n (by omega)
   have hp:=k4 x.2[n] (Ag (by omega))
   have hpb:=h2 x.2[n] (Ag (by omega))
   rw[r2o]
   generalize hS:s3u x keep (u03 keep x.2.length) (t4b tear) n=S at*
   unfold t1x
   rw[y8k (t:=o4y) (show n<x.2.length by omega)]
   split
   ·split
    ·refine p47 (by omega) hp.1.1 ih (fun z=> ?_)
     have z:(x.2[n]).1=(k:Int):=z
     have hold:rdL Ty.str S (x.2[n]).1.toNat=rdL Ty.str S k:=by rw[z,zTn]
     have h64:(rdL Ty.str S k).size=64:=by
      have e:rdL Ty.str S k=S[k]'(by omega):=y8k (t:=Ty.str) (by omega)
      rw[e]
      exact i2 _ (Ag _)
     simp only[hold]
     rw[u6e,u3b,u3b,Bd,hp.2,h64]
     split
     ·rw[Co]
      exact hpb z
     ·rw[Al (by omega)]
      rw[show t4b tear+(i - (min (t4b tear) 64 - 0))=i by omega]
      exact ih
    ·exact p47 (by omega) hp.1.1 ih hpb
   ·exact ih
 exact key _ (Au _)
theorem o4t:∀ {f:Nat} {d x:u0l} {k at_:Nat} {t:Hs},p80 f d k at_ t=some x→at_<64→ ∀p∈x.2,p∈d.2∨ ∃j:Nat,p.1=(j:Int)∧k≤j∧j*64<k*64+at_+t.size∧ ∀i,i<64→j*64+i<k*64+at_→s3w p.2 i=s3w (u0k d (j:Int)).1 i
 | 0,d,x,k,at_,t,h,_,p,hp=>by cases h;exact .inl hp
 | f+1,d,x,k,at_,t,h,hat,p,hp=>by
  rw[p80] at h
  split at h
  ·cases h;exact .inl hp
  ·rename_i hz
   split at h
   ·rename_i hrd
    cases hw:u8m d (k:Int) ((u0k d (k:Int)).1.extract 0 at_++t.extract 0 (min t.size (64 - at_))++(u0k d (k:Int)).1.extract (at_+min t.size (64 - at_)) 64) with
    | none=>rw[hw] at h;cases h
    | some y=>
     rw[hw] at h
     simp only[zOb] at h
     rcases o4t h (by omega) p hp with q | ⟨j,h1,h2,h3,h4⟩
     ·rw[(t8o hw).2] at q
      simp only[Ay,Ax] at q
      rcases q with q | q
      ·exact .inl q
      ·refine .inr ⟨k,by rw[q],Au _,by omega,fun i hi hlt=> ?_⟩
       rw[q]
       simp only
       rw[u6e,u6e,u3b]
       simp only[Af,Bd,hrd.2]
       rw[Al (by omega),Al (by omega),Al (by omega),Co]
     ·refine .inr ⟨j,h1,by omega,?_,fun i hi hlt=>by omega⟩
      rw[Bd] at h3
      omega
   ·cases h
end
section
def SameLog (d e:u0l):Prop:=u2v e=true∧u0n e=u0n d∧u0f e 0=u0f d 0∧u0f e 1=u0f d 1
theorem u8d {a:Int} (ha:a=0∨a=1):u0g a=1+a*48∧(s3v a:Int)=2+a*48:=by
 have hfa:u0g a=1+a*48:=by unfold u0g;rw[Al (j3b.mpr ha)]
 refine⟨hfa,?_⟩
 unfold s3v
 rcases ha with rfl | rfl<;>omega
theorem q68 {e:u0l} (h1:u1v e=true) (h2:e.1.length=97) (h3:e.2= []) (h4:(u0f e 0).2.2=true) (h5:(u0f e 1).2.2=true):u2v e=true:=by
 unfold u2v
 rw[h1,h4,h5]
 simp[h2,h3]
theorem s8x {d e:u0l} (h:u0k e 0=u0k d 0):u0n e=u0n d:=by
 unfold u0n u5g
 rw[h]
theorem j0x {d e:u0l} (hl:u2v d=true) {a:Int} (ha:a=0∨a=1) (h1:u1v e=true) (h2:e.1.length=97) (h3:e.2= [])
 (h4:∀k:Nat,k<97→ ¬(s3v a≤k∧k<s3v a+47)→u0k e (k:Int)=u0k d (k:Int))
 (h5:∀j:Nat,(j:Int)<(u0f d a).2.1→j<3008→s3w (r2m e a) j=s3w (r2m d a) j):SameLog d e:=by
 obtain⟨d1,d2,d3,d4,d5⟩:=u5b hl
 have fd:=s5k d1 d2
 have fe:=s5k h1 h2
 obtain⟨f1,f2⟩:=u8d ha
 have hact:u0n e=u0n d:=s8x (h4 0 (by omega) (by omega))
 have hcnt:u0z e a=u0z d a:=by
  unfold u0z u5g
  have hk:u0g a=(((u0g a).toNat:Nat):Int):=by rcases ha with rfl | rfl<;>omega
  have:=h4 (u0g a).toNat (by rcases ha with rfl | rfl<;>omega) (by rcases ha with rfl | rfl<;>omega)
  rw[←hk] at this
  rw[this]
 have hra:u0f e a=u0f d a:=by
  have hda:=t03 fd ha
  have hok:(u0f d a).2.2=true:=by rcases ha with rfl | rfl<;>assumption
  rw[t03 fe ha,hcnt]
  obtain⟨l,E,r⟩:∃l E,u0f d a=(l,E,true):=⟨_,_,by rw[←hok]⟩
  rw[r] at h5 ⊢
  rw[r] at hda
  have hsz:(r2m e a).size=(r2m d a).size:=by rw[(u54 fe ha).2.1,(u54 fd ha).2.1]
  have hat:=p2r (r2m d a) (u0z d a).toNat 0 [] (by simp)
  rw[←hda] at hat
  refine r8m hsz hda.symm (fun q hq=>h5 q hq ?_)
  have:=(u54 fd ha).2.1
  simp only at hat
  omega
 have hro:u0f e (1 - a)=u0f d (1 - a):=by
  refine t2g (fun q hq=> ?_)
  have ho:=(u8d (a:=1 - a) (by omega)).1
  obtain⟨j,hj⟩:∃j:Nat,u0g (1 - a)+(q:Int)=(j:Int):=⟨(u0g (1 - a)+(q:Int)).toNat,by rcases ha with rfl | rfl<;>omega⟩
  rw[hj]
  exact h4 j (by rcases ha with rfl | rfl<;>omega) (by rcases ha with rfl | rfl<;>omega)
 have both:u0f e 0=u0f d 0∧u0f e 1=u0f d 1:=by
  rcases ha with rfl | rfl
  ·exact⟨hra,by simpa using hro⟩
  ·exact⟨by simpa using hro,hra⟩
 exact⟨q68 h1 h2 h3 (by rw[both.1];exact d4) (by rw[both.2];exact d5),hact,both.1,both.2⟩
theorem p1x {d x:u0l} {a:Int} {t:Hs} (h:t3c d a t=some x):∃E:Nat,(u0f d a).2.1=(E:Int)∧E+(u00 t).size≤3008∧p80 ((u00 t).size+1) d (s3v a+E / 64) (E % 64) (u00 t)=some x∧t.size≠0∧t.size≤3008∧u0z d a<255:=by
 have hat:=q4x d a
 unfold t3c at h
 split at h
 ·cases h
 ·rename_i hc
  simp only[Hr] at hc
  unfold u7e at h
  split at h
  ·exact⟨(u0f d a).2.1.toNat,by omega,by omega,h,hc.2.1,by omega,by omega⟩
  ·cases h
theorem r3b {d:u0l} (h:d.2= []) {k:Nat} (hk:k<d.1.length):u0k d (k:Int)=(rdL Ty.str d.1 k,true):=by
 unfold u0k
 rw[Al (by omega),h,zTn]
 rfl
theorem o5n {d x:u0l} {a:Int} {t:Hs} (hl:u2v d=true) (ha:a=0∨a=1) (h:t3c d a t=some x) (keep:Hu Int) (tear:Int):SameLog d (t0t x keep tear):=by
 obtain⟨d1,d2,d3,d4,d5⟩:=u5b hl
 obtain⟨_,x1,x2,_⟩:=s7j h
 obtain⟨E,e1,e2,e3,_⟩:=p1x h
 obtain⟨c1,c2,c3⟩:=p9u x1 keep tear
 have hxl:x.1.length=97:=by rw[x2];exact d2
 have hcl:(t0t x keep tear).1.length=97:=by rw[c3];exact hxl
 obtain⟨f1,f2⟩:=u8d ha
 have fd:=s5k d1 d2
 have fe:=s5k c1 hcl
 have puts:=fun p hp=>(o4t e3 (Ev _ (by omega)) p hp).resolve_left (by rw[d3];intro z;cases z)
 have byte:∀k i:Nat,k<97→i<64→(k*64+i<s3v a*64+E∨ ¬(s3v a≤k∧k<s3v a+47))→s3w (u0k (t0t x keep tear) (k:Int)).1 i=s3w (u0k d (k:Int)).1 i:=fun k i hk hi hc=>by
  rw[r3b c2 (by omega),r3b d3 (by omega)]
  simp only
  refine o8i x1 keep tear (by omega) hi (by rw[x2]) (fun p hp hpk=> ?_)
  obtain⟨j,j1,j2,j3,j4⟩:=puts p hp
  have hjk:j=k:=by omega
  subst hjk
  rcases hc with hc | hc
  ·rw[j4 i hi (by omega),r3b d3 (by omega)]
  ·exfalso
   exact hc ⟨by omega,by omega⟩
 refine j0x hl ha c1 hcl c2 (fun k hk hn=> ?_) (fun j hj hj2=> ?_)
 ·have q1:=fe k hk
  have q2:=fd k hk
  apply Prod.ext
  ·exact q62 (by rw[q1.2,q2.2]) (fun i hi=>byte k i hk (by omega) (.inr hn))
  ·rw[q1.1,q2.1]
 ·rw[(u54 fe ha).2.2 j hj2,(u54 fd ha).2.2 j hj2]
  have hj' :j<E:=by omega
  refine byte _ _ ?_ (Ev _ (by omega)) (.inl (by omega))
  rcases ha with rfl | rfl<;>omega
theorem SameLog.tx {d e:u0l} (h:SameLog d e):u0e e=u0e d:=by
 obtain⟨_,h2,h3,h4⟩:=h
 unfold u0e
 rw[h2]
 rcases t0s d with q | q<;>rw[q]
 ·rw[h3]
 ·rw[h4]
end
section
theorem p4b {d x:u0l} {a:Int} {t:Hs} (hl:u2v d=true) (ha:a=0∨a=1) (h:t3c d a t=some x):
 SameLog d (flush x)∧ ∀E:Nat,(u0f d a).2.1=(E:Int)→ ∀q,q<(u00 t).size→s3w (r2m (flush x) a) (E+q)=s3w (u00 t) q:=by
 obtain⟨d1,d2,d3,d4,d5⟩:=u5b hl
 obtain⟨_,x1,x2,_⟩:=s7j h
 obtain⟨E,e1,e2,e3,_⟩:=p1x h
 obtain⟨c1,c2,c3⟩:=t9u x1
 have hxl:x.1.length=97:=by rw[x2];exact d2
 have hcl:(flush x).1.length=97:=by rw[c3];exact hxl
 obtain⟨f1,f2⟩:=u8d ha
 have fd:=s5k d1 d2
 have fe:=s5k c1 hcl
 have hb97:s3v a+47≤97:=by rcases ha with rfl | rfl<;>omega
 have hbytes:=fun j i (hi:i<64) (hj:j<97)=>p81 e3 (by omega) (Ev _ (by omega)) j i hi (by omega)
 refine⟨j0x hl ha c1 hcl c2 (fun k hk hn=> ?_) (fun j hj hj2=> ?_),fun E' hE' q hq=> ?_⟩
 ·rw[t33 x1]
  exact q0x e3 (Ev _ (by omega)) k (fun z=>hn ⟨by omega,by omega⟩)
 ·rw[(u54 fe ha).2.2 j hj2,(u54 fd ha).2.2 j hj2,t33 x1,hbytes _ _ (Ev _ (by omega)) (by omega),Ao (by omega)]
 ·have hEE:E' =E:=by omega
  subst hEE
  rw[(u54 fe ha).2.2 (E' +q) (by omega),t33 x1,hbytes _ _ (Ev _ (by omega)) (by omega),Al (by omega)]
  congr 1
  omega
theorem q75 (t:Hs):p0t t=((s3w t 0).toNat:Int):=rfl
theorem p2w (n:Int) (r:Hs) (h0:0≤n) (h1:n<256):p0t (s0i n++r)=n:=by
 rw[q75,u6e,Al (by rw[u4n];omega)]
 unfold s0i s3w
 rw[s6o]
 have w:IntKind.u8.wrap n=n:=by rw[o6h];omega
 rw[w]
 simp only[u8s,C8,Eh,List.getD_cons_zero]
 rw[Gg]
 omega
theorem j1l {d y:u0l} {a:Int} {t:Hs} (hl:u2v d=true) (ha:a=0∨a=1) (h:p5k d a t=some y):
 u2v y=true∧u0n y=u0n d∧u0f y (1 - a)=u0f d (1 - a)∧u0z y a=u0z d a+1∧u0f y a=((u0f d a).1++ [t],(u0f d a).2.1+((u00 t).size:Int),true):=by
 obtain⟨d1,d2,d3,d4,d5⟩:=u5b hl
 obtain⟨x,hx,x1,y1,y2,y3,hy⟩:=o7d d2 h
 obtain⟨s1,s2⟩:=p4b hl ha hx
 obtain⟨E,e1,e2,e3,e4,e5,e6⟩:=p1x hx
 obtain⟨c1,c2,c3⟩:=t9u x1
 have hxl:(flush x).1.length=97:=(u5b s1.1).2.1
 obtain⟨f1,f2⟩:=u8d ha
 have hcl:=q0k d a
 have hc1:s2e d a=u0z d a+1:=by unfold s2e;exact y4y (by omega) (by omega)
 have hob:=q4s (s:=u0g a) c1 c2 (by omega) (by rw[hxl];rcases ha with rfl | rfl<;>omega) (u4n (s2e d a))
 have hcz:r0b (flush x) a (s2e d a)=some ((flush x).1, [(u0g a,s0i (s2e d a)++(rdL Ty.str (flush x).1 (u0g a).toNat).extract 1 64)]):=hob
 have hz1:=(u8l hob).2.1
 rw[hcz] at hy
 simp only[orD] at hy
 have hrd:∀j:Int,u0k y j=if j=u0g a then(s0i (s2e d a)++(rdL Ty.str (flush x).1 (u0g a).toNat).extract 1 64,true) else u0k (flush x) j:=fun j=>by
  rw[hy,t33 hz1]
  by_cases e:j=u0g a
  ·rw[Al e,e]
   unfold u0k
   rw[Al (by show _∧_<((flush x).1.length:Int);rw[hxl];rcases ha with rfl | rfl<;>omega)]
   simp[t2k]
  ·rw[Ao e]
   have hne: ¬u0g a=j:=fun z=>e z.symm
   unfold u0k
   simp only[t2k,Bs,List.foldl_nil,hne,Bk,c2]
 have fy:=s5k y1 y3
 have fx:=s5k c1 hxl
 have fd:=s5k d1 d2
 have hcnt:u0z y a=u0z d a+1:=by
  unfold u0z at hc1 ⊢
  rw[j3b.mpr ha,Al rfl] at*
  unfold u5g at*
  rw[hrd,Al rfl]
  simp only
  have:u0z d a=p0t (u0k d (u0g a)).1:=by unfold u0z u5g;rw[j3b.mpr ha,Al rfl]
  rw[hc1]
  exact p2w _ _ (by omega) (by omega)
 have hareaT:∀j,j<3008→s3w (r2m y a) j=s3w (r2m (flush x) a) j:=fun j hj=>by
  rw[(u54 fy ha).2.2 j hj,(u54 fx ha).2.2 j hj,hrd,Ao (by rcases ha with rfl | rfl<;>omega)]
 have hother:u0f y (1 - a)=u0f (flush x) (1 - a):=by
  refine t2g (fun q hq=> ?_)
  have ho:=(u8d (a:=1 - a) (by omega)).1
  rw[hrd,Ao (by rcases ha with rfl | rfl<;>omega)]
 have hother2:u0f (flush x) (1 - a)=u0f d (1 - a):=by
  rcases ha with rfl | rfl
  ·exact s1.2.2.2
  ·exact s1.2.2.1
 have hact:u0n y=u0n d:=by
  rw[←s1.2.1]
  exact s8x (by rw[hrd,Ao (by rcases ha with rfl | rfl<;>omega)])
 have hok:(u0f d a).2.2=true:=by rcases ha with rfl | rfl<;>assumption
 have hda:u62 (r2m d a) (u0z d a).toNat 0 [] =((u0f d a).1,(E:Int),true):=by
  rw[←t03 fd ha,←e1,←hok]
 have hfx:u62 (r2m (flush x) a) (u0z (flush x) a).toNat 0 [] =((u0f d a).1,(E:Int),true):=by
  have:u0f (flush x) a=u0f d a:=by
   rcases ha with rfl | rfl
   ·exact s1.2.2.1
   ·exact s1.2.2.2
  rw[←t03 fx ha,this,←e1,←hok]
 have hcx:u0z (flush x) a=u0z d a:=by
  unfold u0z u5g
  have hk:u0g a=(((u0g a).toNat:Nat):Int):=by rcases ha with rfl | rfl<;>omega
  have h2:=q0x e3 (Ev _ (by omega)) (u0g a).toNat (by rcases ha with rfl | rfl<;>omega)
  rw[←hk] at h2
  rw[t33 x1,h2]
 have hsz:(r2m y a).size=(r2m (flush x) a).size:=by rw[(u54 fy ha).2.1,(u54 fx ha).2.1]
 have hra:u0f y a=((u0f d a).1++ [t],(u0f d a).2.1+((u00 t).size:Int),true):=by
  rw[t03 fy ha,hcnt,e1]
  have hm:(u0z d a+1).toNat=(u0z d a).toNat+1:=by omega
  rw[hm]
  have hloc:=r8m hsz hfx (fun q hq=>hareaT q (by omega))
  rw[hcx] at hloc
  have hrs:=q8z (T:=r2m y a) (E:=E) e4 e5 (by rw[(u54 fy ha).2.1];exact e2) (fun q hq=>by rw[hareaT _ (by omega)];exact s2 E e1 q hq)
  have:=p2s hloc hrs e4
  rw[this]
  congr 2
 have hlog:u2v y=true:=by
  rw[hother2] at hother
  refine q68 y1 y3 y2 ?_ ?_
  ·rcases ha with rfl | rfl
   ·rw[hra]
   ·have:u0f y 0=u0f d 0:=by simpa using hother
    rw[this];exact d4
  ·rcases ha with rfl | rfl
   ·have:u0f y 1=u0f d 1:=by simpa using hother
    rw[this];exact d5
   ·rw[hra]
 exact⟨hlog,hact,hother.trans hother2,hcnt,hra⟩
end
section
theorem j1n {d:u0l} (hk:u1v d=true) {k:Nat} (hlt:k<d.1.length):(u0k d (k:Int)).2=true∧(u0k d (k:Int)).1.size=64:=by
 obtain⟨k1,k2,k3,k4⟩:=p78.mp hk
 have hc:(0:Int)≤(k:Int)∧(k:Int)<(d.1.length:Int):=by omega
 unfold u0k
 rw[Al hc]
 refine⟨rfl,?_⟩
 cases hp:t2k d.2 (k:Int) with
 | none=>
  have e:rdL Ty.str d.1 k=d.1[k] :=y8k (t:=Ty.str) hlt
  simp only[Eo,zTn]
  rw[e]
  exact k3 _ (Ag hlt)
 | some s=>
  obtain⟨p,hp1,hp2⟩:=q4p hp
  simp only[Eb]
  rw[←hp2]
  exact(k4 p hp1).2
theorem o4u:∀(f:Nat) {d:u0l} {k at_:Nat} {t:Hs},u1v d=true→at_<64→k*64+at_+t.size≤d.1.length*64→d.2.length+(at_+t.size+63) / 64≤60→ ∃x,p80 f d k at_ t=some x
 | 0,d,k,at_,t,_,_,_,_=>⟨d,rfl⟩
 | f+1,d,k,at_,t,hk,hat,h1,h2=>by
  rw[p80]
  by_cases hz:t.size=0
  ·exact⟨d,by rw[Al hz]⟩
  ·have hr:=j1n hk (k:=k) (by omega)
   rw[Ao hz,Al hr]
   have hsz:((u0k d (k:Int)).1.extract 0 at_++t.extract 0 (min t.size (64 - at_))++(u0k d (k:Int)).1.extract (at_+min t.size (64 - at_)) 64).size=64:=by
    simp only[Af,Bd,hr.2];omega
   have hin:r6u (k:Int) 0 ((d.1.length:Int) - 1)=true:=by simp[r6u];omega
   have hok:u1v (d.1,d.2++ [((k:Int),(u0k d (k:Int)).1.extract 0 at_++t.extract 0 (min t.size (64 - at_))++(u0k d (k:Int)).1.extract (at_+min t.size (64 - at_)) 64)])=true:=by
    rw[q4f,hk,hin,hsz]
    simp;omega
   have hw:u8m d (k:Int) ((u0k d (k:Int)).1.extract 0 at_++t.extract 0 (min t.size (64 - at_))++(u0k d (k:Int)).1.extract (at_+min t.size (64 - at_)) 64)=some (d.1,d.2++ [((k:Int),(u0k d (k:Int)).1.extract 0 at_++t.extract 0 (min t.size (64 - at_))++(u0k d (k:Int)).1.extract (at_+min t.size (64 - at_)) 64)]):=by
    unfold u8m
    rw[Al hok]
   rw[hw]
   simp only[zOb]
   have hs2:(t.extract (min t.size (64 - at_)) t.size).size=t.size - min t.size (64 - at_):=by rw[Bd];omega
   refine o4u f hok (by omega) ?_ ?_
   ·rw[hs2];show _≤d.1.length*64;omega
   ·rw[hs2];simp only[Ba,Aw];omega
theorem o8f {d:u0l} {a:Int} {t:Hs} (hl:u2v d=true) (ha:a=0∨a=1) (h0:t.size≠0) (h1:t.size≤3008) (h2:u0z d a<255) (h3:(u0f d a).2.1+((u00 t).size:Int)≤3008):∃x,t3c d a t=some x:=by
 obtain⟨d1,d2,d3,d4,d5⟩:=u5b hl
 obtain⟨f1,f2⟩:=u8d ha
 have hat:=q4x d a
 have hok:(u0f d a).2.2=true:=by rcases ha with rfl | rfl<;>assumption
 have hsp:=r9w t
 unfold t3c
 rw[Ao (by rw[hok];simp only[Fm,false_or];omega)]
 unfold u7e
 have hc:(r6u (u0f d a).2.1 0 6400&&r6u (u0g a+1) 0 ((d.1.length:Int) - 1)&&u1v d)=true:=by
  rw[d1,d2]
  simp only[r6u,Ai,Ar,and_true]
  rcases ha with rfl | rfl<;>omega
 rw[Al hc]
 refine o4u _ d1 (Ev _ (by omega)) ?_ ?_
 ·rw[d2]
  rcases ha with rfl | rfl<;>omega
 ·rw[d3]
  simp only[Cc]
  omega
theorem j32 {d:u0l} {a:Int} {t:Hs} (hl:u2v d=true) (ha:a=0∨a=1) (h0:t.size≠0) (h1:t.size≤3008) (h2:u0z d a<255) (h3:(u0f d a).2.1+((u00 t).size:Int)≤3008):∃y,p5k d a t=some y:=by
 obtain⟨x,hx⟩:=o8f hl ha h0 h1 h2 h3
 unfold p5k
 rw[hx]
 exact⟨_,rfl⟩
def o83 (l:Hu Hs):Nat:=(l.map fun t=>(u00 t).size).sum
theorem o3m {a:Int} (ha:a=0∨a=1):∀ {l:Hu Hs} {x:u0l},u2v x=true→u0z x a+(l.length:Int)≤255→(u0f x a).2.1+(o83 l:Int)≤3008→(∀t∈l,t.size≠0∧t.size≤3008)→
 ∃y,q3c a l x=some y∧u2v y=true∧u0n y=u0n x∧u0f y (1 - a)=u0f x (1 - a)∧(u0f y a).1=(u0f x a).1++l
 | [],x,hl,_,_,_=>⟨x,rfl,hl,rfl,rfl,by simp⟩
 | t::l,x,hl,hc,hr,ht=>by
  have h0:=ht t (C9 ..)
  have hs:o83 (t::l)=(u00 t).size+o83 l:=by simp[o83]
  simp only[Bc] at hc
  obtain⟨y,hy⟩:=j32 hl ha h0.1 h0.2 (by omega) (by omega)
  obtain⟨p1,p2,p3,p4,p5⟩:=j1l hl ha hy
  obtain⟨z,z1,z2,z3,z4,z5⟩:=o3m ha (l:=l) p1 (by omega) (by rw[p5];simp only;omega) (fun t h=>ht t (Bm _ h))
  refine⟨z,?_,z2,z3.trans p2,z4.trans p3,?_⟩
  ·unfold q3c;rw[hy];exact z1
  ·rw[z5,p5];simp
theorem o8g {d:u0l} (hl:u2v d=true) {a n:Int} (ha:a=0∨a=1):∃z r,r0b d a n=some z∧u1v z=true∧z.1=d.1∧z.2= [(u0g a,s0i n++r)] ∧ ∀j:Int,u0k (flush z) j=if j=u0g a then(s0i n++r,true) else u0k d j:=by
 obtain⟨d1,d2,d3,d4,d5⟩:=u5b hl
 obtain⟨f1,f2⟩:=u8d ha
 have hob:=q4s (s:=u0g a) d1 d3 (by omega) (by rw[d2];rcases ha with rfl | rfl<;>omega) (u4n n)
 have hz1:=(u8l hob).2.1
 refine⟨_,_,hob,hz1,rfl,rfl,fun j=> ?_⟩
 rw[t33 hz1]
 by_cases e:j=u0g a
 ·rw[Al e,e]
  unfold u0k
  rw[Al (by show _∧_<(d.1.length:Int);rw[d2];rcases ha with rfl | rfl<;>omega)]
  simp[t2k]
 ·rw[Ao e]
  have hne: ¬u0g a=j:=fun z=>e z.symm
  unfold u0k
  simp only[t2k,Bs,List.foldl_nil,hne,Bk,d3]
theorem p37 {d:u0l} (hl:u2v d=true):u2v (r0g d)=true∧u0n (r0g d)=u0n d∧u0f (r0g d) (u0n d)=u0f d (u0n d)∧u0f (r0g d) (u6v d)=([],0,true)∧u0z (r0g d) (u6v d)=0:=by
 obtain⟨a1,a2⟩:=s0r d
 obtain⟨z,r,hz,hz1,hz2,hz3,hrd⟩:=o8g hl (n:=0) a1
 obtain⟨d1,d2,d3,d4,d5⟩:=u5b hl
 have e:r0g d=flush z:=by unfold r0g;rw[hz];rfl
 obtain⟨c1,c2,c3⟩:=t9u hz1
 have hlen:(flush z).1.length=97:=by rw[c3,hz2];exact d2
 obtain⟨f1,f2⟩:=u8d a1
 rw[e]
 have hcnt:u0z (flush z) (u6v d)=0:=by
  unfold u0z u5g
  rw[j3b.mpr a1,Al rfl,hrd,Al rfl]
  exact p2w 0 r (by omega) (by omega)
 have ho:u0f (flush z) (u6v d)=([],0,true):=by
  rw[t03 (s5k c1 hlen) a1,hcnt]
  rfl
 have hother:u0f (flush z) (1 - u6v d)=u0f d (1 - u6v d):=by
  refine t2g (fun q hq=> ?_)
  have ho:=(u8d (a:=1 - u6v d) (by omega)).1
  rw[hrd,Ao (by omega)]
 rw[←a2] at hother
 have hact:u0n (flush z)=u0n d:=s8x (by rw[hrd,Ao (by omega)])
 have hok:(u0f d (u0n d)).2.2=true:=by rcases t0s d with q | q<;>rw[q] <;>assumption
 refine⟨q68 c1 hlen c2 ?_ ?_,hact,hother,ho,hcnt⟩
 ·rcases a1 with q | q
  ·rw[q] at ho;rw[ho]
  ·have q2:u0n d=0:=by omega
   rw[q2] at hother hok
   rw[hother];exact hok
 ·rcases a1 with q | q
  ·have q2:u0n d=1:=by omega
   rw[q2] at hother hok
   rw[hother];exact hok
  ·rw[q] at ho;rw[ho]
end
section
theorem o2x {z:u0l} {s:Int} {b:Hs} (hk:u1v z=true) (hz:z.2= [(s,b++(rdL Ty.str z.1 s.toNat).extract 1 64)]) (hb:b.size=1) (keep:Hu Int) (tear:Int):
 (q7u keep 0=false→t0t z keep tear=(z.1, []))∧(q7u keep 0=true→1≤t4b tear→t0t z keep tear=flush z)∧(t0t z keep tear=(z.1, [])∨t0t z keep tear=flush z):=by
 obtain⟨k1,k2,k3,k4⟩:=p78.mp hk
 have hs:=(k4 (s,b++(rdL Ty.str z.1 s.toNat).extract 1 64) (by rw[hz];simp)).1
 have hlt:s.toNat<z.1.length:=by
  have h1:0≤s:=hs.1
  have h2:s<(z.1.length:Int):=hs.2
  omega
 have ht:=(p12 tear).1
 have eo:rdL Ty.str z.1 s.toNat=z.1[s.toNat] :=y8k (t:=Ty.str) hlt
 have hold:(rdL Ty.str z.1 s.toNat).size=64:=by rw[eo];exact k3 _ (Ag hlt)
 have hlen:z.2.length=1:=by rw[hz];rfl
 have h0:rdL o4y z.2 0=(s,b++(rdL Ty.str z.1 s.toNat).extract 1 64):=by rw[hz];rfl
 have hc:t0t z keep tear=(t1x z keep (u03 keep 1) (t4b tear) z.1 0, []):=by
  unfold t0t
  rw[Al hk,hlen]
  rfl
 have hfl:flush z=(s4a z.1 (s,b++(rdL Ty.str z.1 s.toNat).extract 1 64), []):=by
  unfold flush
  rw[Al hk,hz]
  rfl
 have hno:q7u keep 0=false→t0t z keep tear=(z.1, []):=fun h=>by
  rw[hc]
  unfold t1x
  rw[h,Ao (by simp)]
 have hyes:q7u keep 0=true→t0t z keep tear=(s4a z.1 (s,(b++(rdL Ty.str z.1 s.toNat).extract 1 64).extract 0 (t4b tear)++(rdL Ty.str z.1 s.toNat).extract (t4b tear) 64), []):=fun h=>by
  have hlast:u03 keep 1=0:=by
   show(if q7u keep 0 then((0:Nat):Int) else u03 keep 0)=0
   rw[Al h];rfl
  rw[hc]
  unfold t1x
  rw[h,Al rfl,hlast,Al (by rfl),h0]
  simp only[hold]
 have hfull:q7u keep 0=true→1≤t4b tear→t0t z keep tear=flush z:=fun h h1=>by
  rw[hyes h,hfl]
  congr 2
  congr 1
  apply q62
  ·simp only[Af,Bd,hold,hb];omega
  ·intro i hi
   simp only[Af,Bd,hold,hb] at hi
   rw[u6e,u3b,u3b]
   simp only[Af,Bd,hold,hb]
   by_cases h2:i<t4b tear
   ·rw[Al (by omega),Al (by omega),Co]
   ·rw[Ao (by omega),Al (by omega),u6e,Ao (by omega),u3b,hb,hold,Al (by omega)]
    congr 1
    omega
 refine⟨hno,hfull,?_⟩
 cases h:q7u keep 0 with
 | false=>exact .inl (hno h)
 | true=>
  by_cases h1:1≤t4b tear
  ·exact .inr (hfull h h1)
  ·left
   have ht0:t4b tear=0:=by omega
   rw[hyes h,ht0]
   congr 1
   have e1:(b++(rdL Ty.str z.1 s.toNat).extract 1 64).extract 0 0++(rdL Ty.str z.1 s.toNat).extract 0 64=rdL Ty.str z.1 s.toNat:=by
    apply q62
    ·simp only[Af,Bd,hold,hb];omega
    ·intro i hi
     simp only[Af,Bd,hold,hb] at hi
     rw[u6e,Ao (by rw[Bd];omega),u3b,hold,Al (by rw[Bd];omega)]
     congr 1
     rw[Bd]
     omega
   rw[e1]
   unfold s4a
   show z.1.set s.toNat (rdL Ty.str z.1 s.toNat)=z.1
   rw[eo]
   exact List.set_getElem_self hlt
theorem p2x {d:u0l} (hl:u2v d=true) {a n:Int} (ha:a=0∨a=1) (keep:Hu Int) (tear:Int):∃z,r0b d a n=some z∧
 (q7u keep 0=false→t0t z keep tear=d)∧(q7u keep 0=true→1≤t4b tear→t0t z keep tear=flush z)∧(t0t z keep tear=d∨t0t z keep tear=flush z):=by
 obtain⟨d1,d2,d3,d4,d5⟩:=u5b hl
 obtain⟨f1,f2⟩:=u8d ha
 have hob:=q4s (s:=u0g a) d1 d3 (by omega) (by rw[d2];rcases ha with rfl | rfl<;>omega) (u4n n)
 have hz1:=(u8l hob).2.1
 have hd:(d.1,([] :Hu (Int×Hs)))=d:=by rw[←d3]
 obtain⟨c1,c2,c3⟩:=o2x hz1 rfl (u4n n) keep tear
 rw[hd] at c1 c3
 exact⟨_,hob,c1,c2,c3⟩
theorem p77 {x:u0l} (hl:u2v x=true) (keep:Hu Int) (tear:Int):∃z,o9a x=some z∧u1v z=true∧(∀j:Int,u0k (flush z) j=if j=0 then(s0i (IntKind.i64.wrap (u5g x 0+1))++(rdL Ty.str x.1 0).extract 1 64,true) else u0k x j)∧(flush z).1.length=97∧
 (q7u keep 0=false→t0t z keep tear=x)∧(q7u keep 0=true→1≤t4b tear→t0t z keep tear=flush z)∧(t0t z keep tear=x∨t0t z keep tear=flush z):=by
 obtain⟨d1,d2,d3,d4,d5⟩:=u5b hl
 have hob:=q4s (s:=0) d1 d3 (by omega) (by rw[d2];omega) (u4n (IntKind.i64.wrap (u5g x 0+1)))
 have hz1:=(u8l hob).2.1
 have hd:(x.1,([] :Hu (Int×Hs)))=x:=by rw[←d3]
 obtain⟨c1,c2,c3⟩:=o2x hz1 rfl (u4n (IntKind.i64.wrap (u5g x 0+1))) keep tear
 rw[hd] at c1 c3
 refine⟨_,hob,hz1,fun j=> ?_,by rw[(t9u hz1).2.2];exact d2,c1,c2,c3⟩
 rw[t33 hz1]
 by_cases e:j=0
 ·rw[Al e,e]
  unfold u0k
  rw[Al (by show _∧_<(x.1.length:Int);rw[d2];omega)]
  simp[t2k]
 ·rw[Ao e]
  have hne: ¬(0:Int)=j:=fun z=>e z.symm
  unfold u0k
  simp only[t2k,Bs,List.foldl_nil,hne,Bk,d3]
theorem j4d {x z:u0l} (hl:u2v x=true) (hz1:u1v z=true) (hlen:(flush z).1.length=97) (hrd:∀j:Int,u0k (flush z) j=if j=0 then(s0i (IntKind.i64.wrap (u5g x 0+1))++(rdL Ty.str x.1 0).extract 1 64,true) else u0k x j):
 u2v (flush z)=true∧u0n (flush z)=1 - u0n x∧u0f (flush z) 0=u0f x 0∧u0f (flush z) 1=u0f x 1:=by
 obtain⟨d1,d2,d3,d4,d5⟩:=u5b hl
 obtain⟨c1,c2,c3⟩:=t9u hz1
 have r0:u0f (flush z) 0=u0f x 0:=t2g (fun q hq=>by
  have:=(u8d (a:=0) (.inl rfl)).1
  rw[hrd,Ao (by omega)])
 have r1:u0f (flush z) 1=u0f x 1:=t2g (fun q hq=>by
  have:=(u8d (a:=1) (.inr rfl)).1
  rw[hrd,Ao (by omega)])
 have hb:=p9q (u0k x 0).1
 refine⟨q68 c1 hlen c2 (by rw[r0];exact d4) (by rw[r1];exact d5),?_,r0,r1⟩
 unfold u0n u5g
 rw[hrd,Al rfl]
 have w:IntKind.i64.wrap (u5g x 0+1)=u5g x 0+1:=by unfold u5g;exact y4y (by omega) (by omega)
 have e:p0t (s0i (IntKind.i64.wrap (u5g x 0+1))++(rdL Ty.str x.1 0).extract 1 64)=(u5g x 0+1) % 256:=by
  rw[w,q75,u6e,Al (by rw[u4n];omega)]
  unfold s0i s3w
  rw[s6o,o6h]
  simp only[u8s,C8,Eh,List.getD_cons_zero]
  rw[Gg]
  omega
 show Int.tmod (p0t _) 2=_
 rw[e]
 have hf:u5g x 0=p0t (u0k x 0).1:=rfl
 rw[hf]
 generalize p0t (u0k x 0).1=n at*
 obtain⟨m,rfl⟩:∃m:Nat,n=(m:Int):=⟨n.toNat,by omega⟩
 have t1:Int.tmod (m:Int) 2=((m % 2:Nat):Int):=o85 m 2
 have t2:Int.tmod (((m:Int)+1) % 256) 2=((((m+1) % 256) % 2:Nat):Int):=by
  have:((m:Int)+1) % 256=(((m+1) % 256:Nat):Int):=by omega
  rw[this]
  exact o85 ((m+1) % 256) 2
 rw[t1,t2]
 omega
end
section
theorem o8c {d y:u0l} {t:Hs} (h:append_ d t=some y):u2v d=true∧u2v y=true∧u0e y=u0e d++ [t] :=by
 unfold append_ at h
 split at h
 ·rename_i hl
  obtain⟨p1,p2,p3,p4,p5⟩:=j1l hl (t0s d) h
  refine⟨hl,p1,?_⟩
  unfold u0e
  rw[p2,p5]
 ·cases h
theorem p5w {d y:u0l} {t:Hs} (h:append_ d t=some y) (step:Int) (keep:Hu Int) (tear:Int):
 (step=0→SameLog d (u6t d t step keep tear))∧(step≠0→step≠1→u6t d t step keep tear=y)∧
 (step=1→(q7u keep 0=false→SameLog d (u6t d t step keep tear))∧(q7u keep 0=true→1≤t4b tear→u6t d t step keep tear=y)∧(SameLog d (u6t d t step keep tear)∨u6t d t step keep tear=y)):=by
 have ha:=t0s d
 obtain⟨hl,x,z,hb,k1,k2,hz,k3,k4⟩:=r8l h
 have hput:p5k d (u0n d) t=some y:=by unfold append_ at h;rw[hl,Al rfl] at h;exact h
 have hy:y=flush z:=by
  unfold p5k at hput
  rw[hb] at hput
  simp only[Dc,Ac] at hput
  rw[hz] at hput
  simp only[orD] at hput
  exact hput.symm
 have hs:=(p4b hl ha hb).1
 obtain⟨z',hz',c1,c2,c3⟩:=p2x hs.1 (n:=s2e d (u0n d)) ha keep tear
 rw[hz] at hz'
 cases hz'
 have e0:∀st,u6t d t st keep tear=(if st=0 then t0t x keep tear else if st=1 then t0t z keep tear else y):=fun st=>by
  unfold u6t
  rw[h]
  simp only[hb,orD,hz]
 refine⟨fun s0=> ?_,fun n0 n1=> ?_,fun s1=> ?_⟩
 ·rw[e0,Al s0];exact o5n hl ha hb keep tear
 ·rw[e0,Ao n0,Ao n1]
 ·have e:u6t d t step keep tear=t0t z keep tear:=by rw[e0,Ao (by omega),Al s1]
  rw[e,hy]
  exact⟨fun q=>by rw[c1 q];exact hs,fun q r=>c2 q r,c3.imp (fun q=>by rw[q];exact hs) id⟩
theorem p5v {d:u0l} {t:Hs} (h:append_ d t=none) (step:Int) (keep:Hu Int) (tear:Int):u6t d t step keep tear=d:=by
 unfold u6t;rw[h]
theorem j25 {d:u0l} {l:Hu Hs} (hl:u2v d=true) (hn:l.length≤255) (hr:o83 l≤3008) (ht:∀t∈l,t.size≠0∧t.size≤3008):
 ∃x,q06 d l=some x∧u2v x=true∧u0n x=u0n d∧u0e x=u0e d∧(u0f x (u6v d)).1=l:=by
 obtain⟨a1,a2⟩:=s0r d
 obtain⟨f1,f2,f3,f4,f5⟩:=p37 hl
 obtain⟨y,y1,y2,y3,y4,y5⟩:=o3m a1 (l:=l) f1 (by rw[f5];omega) (by rw[f4];simp only;omega) ht
 rw[←a2] at y4
 refine⟨y,by unfold q06;rw[hl,Al rfl];exact y1,y2,y3.trans f2,?_,by rw[y5,f4];simp⟩
 unfold u0e
 rw[y3.trans f2,y4,f3]
theorem o8k {d x:u0l} {l:Hu Hs} (hx:q06 d l=some x) (h1:u2v x=true) (h2:u0n x=u0n d) (h3:u0e x=u0e d) (h4:(u0f x (u6v d)).1=l) (hl:u2v d=true):
 ∃y,r9x d l=some y∧u2v y=true∧u0e y=l∧ ∀(step:Int) (keep:Hu Int) (tear:Int),
  (step=0→u2v (t32 d l step keep tear)=true∧u0e (t32 d l step keep tear)=u0e d)∧(step=1→t32 d l step keep tear=x)∧
  (step≠0→step≠1→step≠2→t32 d l step keep tear=y)∧
  (step=2→(q7u keep 0=false→t32 d l step keep tear=x)∧(q7u keep 0=true→1≤t4b tear→t32 d l step keep tear=y)∧(t32 d l step keep tear=x∨t32 d l step keep tear=y)):=by
 obtain⟨a1,a2⟩:=s0r d
 obtain⟨z,hz,hz1,hrd,hlen,_⟩:=p77 h1 [] 0
 obtain⟨t1,t2,t3,t4⟩:=j4d h1 hz1 hlen hrd
 have hsw:r9x d l=some (flush z):=by unfold r9x;rw[hx];simp only[Dc,hz,orD]
 have htx:u0e (flush z)=l:=by
  have ho:u0n (flush z)=u6v d:=by rw[t2,h2];rfl
  unfold u0e
  rw[ho,←h4]
  rcases a1 with q | q<;>rw[q]
  ·rw[t3]
  ·rw[t4]
 refine⟨flush z,hsw,t1,htx,fun step keep tear=> ?_⟩
 obtain⟨c,hc,c1,c2,c3⟩:=p2x hl (n:=0) a1 keep tear
 obtain⟨z',hz',_,_,_,g1,g2,g3⟩:=p77 h1 keep tear
 rw[hz] at hz'
 cases hz'
 have e0:∀st,t32 d l st keep tear=(if st=0 then t0t c keep tear else if st=1 then x else if st=2 then t0t z keep tear else flush z):=fun st=>by
  unfold t32
  rw[hx]
  simp only[hc,orD,hz]
 have hf0:flush c=r0g d:=by unfold r0g;rw[hc];rfl
 obtain⟨f1,f2,f3,f4,f5⟩:=p37 hl
 have htx0:u0e (r0g d)=u0e d:=by unfold u0e;rw[f2,f3]
 refine⟨fun s0=> ?_,fun s1=> ?_,fun n0 n1 n2=> ?_,fun s2=> ?_⟩
 ·rw[e0,Al s0]
  rcases c3 with q | q
  ·rw[q];exact⟨hl,rfl⟩
  ·rw[q,hf0];exact⟨f1,htx0⟩
 ·rw[e0,Ao (by omega),Al s1]
 ·rw[e0,Ao n0,Ao n1,Ao n2]
 ·have e:t32 d l step keep tear=t0t z keep tear:=by rw[e0,Ao (by omega),Ao (by omega),Al s2]
  rw[e]
  exact⟨g1,g2,g3⟩
end
section
structure Like0 (b e:u0j):Prop where
 vs:b.1=u2o e.1 e.2.2.2.1
 past:b.2.1= []
 ready:b.2.2.1=e.2.2.1
 cs:b.2.2.2.1=e.2.2.2.1
theorem o32 (b:u0j):∀(o:Hu u0c),t9w b o≤b.2.2.2.1:=by
 intro o
 have key:∀(o:Hu u0c) (m:Int),o.foldl (fun m t=>if t.2.2.1<m then t.2.2.1 else m) m≤m:=by
  intro o
  induction o with
  | nil=>intro m;exact Bv _
  | cons t o ih=>
   intro m
   rw[Bs]
   refine Int.le_trans (ih _) ?_
   split<;>omega
 exact key o _
theorem o8r (b:u0j):t9w b [] =b.2.2.2.1:=rfl
theorem Like0.tidy {b e:u0j} (h:Like0 b e) (he:BaseR e) (o:Hu u0c):Like0 b (u2y e o):=
 ⟨by rw[h.vs];exact(q7h (j2n.mp he.vs).2.1 (o32 e o)).symm,h.past,h.ready,h.cs⟩
theorem s43 {x:u0j} (hp:∀t∈x.2.1,t.2.2.2.1≤x.2.2.2.1):u2y x [] =(u2o x.1 x.2.2.2.1, [],x.2.2):=by
 unfold u2y
 rw[o8r]
 congr 2
 rw[List.filter_eq_nil_iff]
 intro t ht
 simp[hp t ht]
theorem Like0.self {b e:u0j} (h:Like0 b e) (he:BaseR e):u2y b [] =b:=by
 rw[s43 (by rw[h.past];intro t ht;cases ht)]
 obtain⟨b1,b2,b3⟩:=b
 have h1:=h.vs
 have h2:=h.past
 have h4:=h.cs
 simp only at h1 h2 h4
 rw[h4,h1,h2,q7h (j2n.mp he.vs).2.1 (Bv _)]
theorem o8l {d d' x:u0c} (h1:d.1=d'.1) (h2:d.2.1=d'.2.1) (h3:d.2.2.1=d'.2.2.1) (h4:d.2.2.2.1=d'.2.2.2.1) (h5:d.2.2.2.2.2.1=d'.2.2.2.2.2.1):q3e d x=q3e d' x:=by
 have:ahead x d=ahead x d' :=by unfold ahead q25 p4q;rw[h1,h2,h3,h4,h5]
 unfold q3e;rw[this]
theorem Like0.vlen {b e:u0j} (h:Like0 b e):b.1.length≤e.1.length:=by rw[h.vs];exact(t4c _ _).length_le
theorem p0j {b e:u0j} {t u:u0c} (h:Like0 b e) (he:BaseR e) (hb:BaseR b) (hc:e.2.2.2.1<9999) (hv:e.1.length≤100) (hu:TxnR u) (h9:u.1<9999) (hs:u.2.2.1≤e.2.2.2.1)
 (h1:u.1=t.1) (h3:u.2.2.1=t.2.2.1) (h5:u.2.2.2.2.2.1=t.2.2.2.2.2.1):
 u7m (u2y (u0y b u) [])=true∧Like0 (u2y (u0y b u) []) (u0y e t):=by
 have hR:BaseR (u0y b u):=o4p hb hu (by rw[h.cs];exact hs) (by rw[h.cs];exact hc) (by rw[h.past];simp) (by have:=h.vlen;omega) (by rw[h.past];intro x hx;cases hx) h9
 refine⟨p74.mpr (s0b hR _),?_⟩
 rw[s43 (fun x hx=>(hR.past x hx).2.2)]
 obtain⟨v1,v2,v3⟩:=j2n.mp he.vs
 refine⟨?_,rfl,?_,?_⟩
 ·show u2o (t5k b.1 u.2.2.2.2.2.1 (b.2.2.2.1+1)) (b.2.2.2.1+1)=u2o (t5k e.1 t.2.2.2.2.2.1 (e.2.2.2.1+1)) (e.2.2.2.1+1)
  rw[h.cs,h.vs,h5]
  exact j4c v2 (h5 ▸ q7p hu.ws) fun x hx=>by have:=he.vcs x hx;unfold vCs;omega
 ·show(b.2.2.1.filter fun x=> !decide (x.1=u.1)).map (q3e (u9o b u))=(e.2.2.1.filter fun x=> !decide (x.1=t.1)).map (q3e (u9o e t))
  rw[h.ready,h1]
  refine Ff fun x _=>o8l h1 rfl h3 ?_ h5
  show b.2.2.2.1+1=e.2.2.2.1+1
  rw[h.cs]
 ·show b.2.2.2.1+1=e.2.2.2.1+1
  rw[h.cs]
theorem j6l {b:u0j} {n:Hs} :u0i b n<0↔ ∀x∈b.2.2.1,x.2.2.2.2.2.2.2≠n:=by
 unfold u0i
 constructor
 ·intro h x hx e
  obtain⟨i,hi,rfl⟩:=B7 hx
  obtain⟨k,hk,hr⟩:=p8o b hi e
  unfold u0i at hr
  rw[hr] at h;omega
 ·intro h
  split
  ·rename_i q
   have:=u8o q
   exact absurd (y7f.mp this) (h _ (Ag q))
  ·omega
theorem s03 {b:u0j} {n:Hs} (h: ¬u0i b n<0):∃(k:Nat) (hk:k<b.2.2.1.length),u0i b n=(k:Int)∧b.2.2.1[k].2.2.2.2.2.2.2=n:=by
 unfold u0i at h ⊢
 split at h
 ·rename_i q
  rw[Al q]
  exact⟨_,q,rfl,y7f.mp (u8o q)⟩
 ·omega
theorem s8b {b e:u0j} (h:b.2.2.1=e.2.2.1) (n:Hs):u0i b n=u0i e n:=by unfold u0i;rw[h]
theorem p7o {b e:u0j} {t:u0c} (h:Like0 b e) (he:BaseR e) (hb:BaseR b) (hc:e.2.2.2.1<9999) (hv:e.1.length≤100) (ht:TxnR t) (h9:t.1<9999) (hs:t.2.2.1≤e.2.2.2.1):
 ∃x,u7o b (1,u9o e t,emp,false,u2s)=some x∧BaseR x∧Like0 x (u0y e t):=by
 have hD:=o5o (b:=e) ht hs hc
 obtain⟨k1,k2⟩:=p0j (t:=t) (u:=u9o e t) h he hb hc hv hD h9 hs rfl rfl rfl
 refine⟨_,?_,p74.mp k1,k2⟩
 unfold u7o
 rw[Al ⟨p74.mpr hb,j44.mpr (.thr _ hD rfl)⟩]
 have e1:u2e b (1,u9o e t,emp,false,u2s)=some (u0y b (u9o e t)):=by
  unfold u2e
  rw[Al rfl,Al (by show e.2.2.2.1+1=b.2.2.2.1+1;rw[h.cs])]
 rw[e1]
 simp only
 rw[Al k1]
theorem o8w {b e:u0j} {n:Hs} {k:Nat} (h:Like0 b e) (he:BaseR e) (hb:BaseR b) (hc:e.2.2.2.1<9999) (hv:e.1.length≤100) (hn:u7b n=true) (hk:k<e.2.2.1.length) (hr:u0i e n=(k:Int)):
 ∃x,u7o b (3,u5j,n,true,u2s)=some x∧BaseR x∧Like0 x (u0y e e.2.2.1[k]):=by
 obtain⟨q1,q2,q3⟩:=he.ready _ (Ag hk)
 have h9:e.2.2.1[k].1<9999:=by
  have:=s5f.mp he.below _ (Az e.2.1 (Ag hk))
  have:=he.next.2;omega
 obtain⟨k1,k2⟩:=p0j (t:=e.2.2.1[k]) (u:=e.2.2.1[k]) h he hb hc hv q1 h9 q3 rfl rfl rfl
 refine⟨_,?_,p74.mp k1,k2⟩
 unfold u7o
 rw[Al ⟨p74.mpr hb,j44.mpr (.fin _ _ hn)⟩]
 have e1:u2e b (3,u5j,n,true,u2s)=some (u0y b e.2.2.1[k]):=by
  unfold u2e
  simp only
  rw[Ao (by decide),Ao (by decide),Al trivial,s8b h.ready,hr,Ao (by omega),Al trivial,zTn]
  congr 2
  rw[h.ready]
  exact y8k (t:=u0q) hk
 rw[e1]
 simp only
 rw[Al k1]
theorem j1f {b e:u0j} {n:Hs} {k:Nat} (h:Like0 b e) (he:BaseR e) (hb:BaseR b) (hn:u7b n=true) (hk:k<e.2.2.1.length) (hr:u0i e n=(k:Int)):
 ∃x,u7o b (3,u5j,n,false,u2s)=some x∧BaseR x∧Like0 x (u7p e n):=by
 have hR:=r8q hb n
 refine⟨u2y (u7p b n) [],?_,s0b hR _,?_⟩
 ·unfold u7o
  rw[Al ⟨p74.mpr hb,j44.mpr (.fin _ _ hn)⟩]
  have e1:u2e b (3,u5j,n,false,u2s)=some (u7p b n):=by
   unfold u2e
   simp only
   rw[Ao (by decide),Ao (by decide),Al trivial,s8b h.ready,hr,Ao (by omega),Ao (by decide)]
  rw[e1]
  simp only
  rw[Al (p74.mpr (s0b hR _))]
 ·rw[s43 (fun x hx=>(hR.past x hx).2.2)]
  refine⟨?_,rfl,?_,h.cs⟩
  ·show u2o b.1 b.2.2.2.1=u2o e.1 e.2.2.2.1
   rw[h.cs,h.vs]
   exact q7h (j2n.mp he.vs).2.1 (Bv _)
  ·show b.2.2.1.filter _=e.2.2.1.filter _
   rw[h.ready]
theorem o4b {b e:u0j} {t:u0c} {n:Hs} (h:Like0 b e) (he:BaseR e) (hb:BaseR b) (ht:TxnR t) (h3:t.2.1≠3) (hn:u7b n=true) (hs:t.2.2.1≤e.2.2.2.1) (hl:e.2.2.1.length<3)
 (hx:∀x∈e.2.2.1,x.2.2.2.2.2.2.2≠n) (hid:∀x∈e.2.2.1,x.1≠t.1) (h9:t.1<9999):
 ∃x,u7o b (2,u4r e t n,emp,false,u2s)=some x∧BaseR x∧Like0 x (u12 e t n):=by
 have hD:=o1g (b:=e) ht h3 hn
 have hrr:u4r b (u4r e t n) n=u4r e t n:=by
  have:r2s (u4r e t n) b.2.1=false:=by rw[h.past];rfl
  unfold u4r at this ⊢
  rw[this,Fp]
 have hR:BaseR (u12 b (u4r e t n) n):=r2r hb hD (by show(2:Int)≠3;omega) (by rw[h.cs];exact hs) hn (by rw[h.ready];exact hl) (by rw[h.ready];exact hx) (by
  rw[h.past,h.ready];exact hid) h9
 refine⟨u2y (u12 b (u4r e t n) n) [],?_,s0b hR _,?_⟩
 ·unfold u7o
  rw[Al ⟨p74.mpr hb,j44.mpr (.rdy _ hD rfl)⟩]
  have e1:u2e b (2,u4r e t n,emp,false,u2s)=some (u12 b (u4r e t n) n):=by
   unfold u2e
   simp only
   have hcond:b.2.2.1.length<3∧u0i b (u4r e t n).2.2.2.2.2.2.2<0:=⟨by rw[h.ready];exact hl,by rw[s8b h.ready];exact j6l.mpr hx⟩
   rw[Ao (by decide),Al trivial,Al hcond]
   rfl
  rw[e1]
  simp only
  rw[Al (p74.mpr (s0b hR _))]
 ·rw[s43 (fun x hx=>(hR.past x hx).2.2)]
  refine⟨?_,rfl,?_,h.cs⟩
  ·show u2o b.1 b.2.2.2.1=u2o e.1 e.2.2.2.1
   rw[h.cs,h.vs]
   exact q7h (j2n.mp he.vs).2.1 (Bv _)
  ·show(b.2.2.1.filter _)++ [u4r b (u4r e t n) n] ++(b.2.2.1.filter _)=(e.2.2.1.filter _)++ [u4r e t n] ++(e.2.2.1.filter _)
   rw[h.ready,hrr]
theorem o3z:BaseR o65:=by
 refine⟨rfl,fun v h=>(by cases h),⟨Bv _,by decide⟩,⟨by decide,by decide⟩,by decide,fun t h=>(by cases h),List.Pairwise.nil,by decide,fun t h=>(by cases h),List.Pairwise.nil,fun x h=>(by cases h),List.Pairwise.nil⟩
theorem o54 {b:u0j} (hb:BaseR b) (hs:u2y b [] =b):u7o o65 (4,u5j,emp,false,b)=some b:=by
 unfold u7o
 rw[Al ⟨p74.mpr o3z,j44.mpr (.bas b hb)⟩]
 have e1:u2e o65 (4,u5j,emp,false,b)=some b:=by
  unfold u2e
  simp only
  rw[Ao (by decide),Ao (by decide),Ao (by decide)]
 rw[e1]
 simp only
 rw[hs,Al (p74.mpr hb)]
theorem p8w {d y:u0l} {t:Hs} (h:r9x d [t] =some y):u2v d=true∧u2v y=true∧u0e y= [t] :=by
 obtain⟨x,hx⟩:∃x,q06 d [t] =some x:=by
  cases q:q06 d [t] with
  | none=>unfold r9x at h;rw[q] at h;cases h
  | some x=>exact⟨x,rfl⟩
 have hl:u2v d=true:=by
  unfold q06 at hx
  split at hx
  ·assumption
  ·cases hx
 obtain⟨a1,a2⟩:=s0r d
 obtain⟨f1,f2,f3,f4,f5⟩:=p37 hl
 have hp:∃z,p5k (r0g d) (u6v d) t=some z:=by
  unfold q06 at hx
  rw[Al hl] at hx
  cases q:p5k (r0g d) (u6v d) t with
  | none=>simp only[q3c,q] at hx;cases hx
  | some z=>exact⟨z,rfl⟩
 obtain⟨z,hz⟩:=hp
 obtain⟨w,hw,_⟩:=o7d (u5b f1).2.1 hz
 obtain⟨E,hE,g1,g2,g3,g4,g5⟩:=p1x hw
 obtain⟨x',x1,x2,x3,x4,x5⟩:=j25 (l:= [t]) hl (by simp) (by simp[o83];omega) (fun u hu=>by simp at hu;subst hu;exact⟨g3,g4⟩)
 rw[hx] at x1
 cases x1
 obtain⟨y',y1,y2,y3,_⟩:=o8k hx x2 x3 x4 x5 hl
 rw[h] at y1
 cases y1
 exact⟨hl,y2,y3⟩
def o9i (d:u0l):Ht u0l:=match t0y (u0e d) with
 | none=>none
 | some b=>if(u1h (4,u5j,emp,false,b)).2=true then r9x d [(u1h (4,u5j,emp,false,b)).1] else none
def t8j (d:u0l) (r:s67):Ht u0l:=
 if(u1h r).2=true then(match append_ d (u1h r).1 with
  | some y=>some y
  | none=>match o9i d with
   | none=>none
   | some z=>append_ z (u1h r).1)
 else none
theorem o6s {d y:u0l} {b:u0j} (hp:t0y (u0e d)=some b) (hb:BaseR b) (hs:u2y b [] =b) (h:o9i d=some y):u2v d=true∧u2v y=true∧t0y (u0e y)=some b:=by
 unfold o9i at h
 rw[hp] at h
 simp only at h
 rw[t4a (.bas b hb),Al rfl] at h
 obtain⟨h1,h2,h3⟩:=p8w h
 refine⟨h1,h2,?_⟩
 rw[h3]
 unfold t0y
 simp only[s2o]
 rw[r9n (.bas b hb)]
 simp only
 rw[o54 hb hs]
theorem p10 {d y:u0l} {b x:u0j} {r:s67} (hp:t0y (u0e d)=some b) (hb:BaseR b) (hs:u2y b [] =b) (hr:RecR r) (hx:u7o b r=some x) (h:t8j d r=some y):u2v y=true∧t0y (u0e y)=some x:=by
 have step:∀ {d y:u0l},t0y (u0e d)=some b→append_ d (r9u (r9r r))=some y→u2v y=true∧t0y (u0e y)=some x:=by
  intro d y hp h
  obtain⟨h1,h2,h3⟩:=o8c h
  refine⟨h2,?_⟩
  rw[h3]
  unfold t0y at hp ⊢
  rw[o8u,hp]
  simp only[zOb,s2o]
  rw[r9n hr]
  simp only
  rw[hx]
 unfold t8j at h
 rw[t4a hr,Al rfl] at h
 simp only at h
 cases q:append_ d (r9u (r9r r)) with
 | some z=>
  rw[q] at h
  cases h
  exact step hp q
 | none=>
  rw[q] at h
  simp only at h
  cases a:o9i d with
  | none=>rw[a] at h;cases h
  | some z=>
   rw[a] at h
   obtain⟨_,_,z3⟩:=o6s hp hb hs a
   exact step z3 h
end
section
abbrev u01:=u3e×u0l
def o1r:s67:=(0,u5j,emp,false,u2s)
def u41 (o:Hu u0c) (id:Int):Int:=if u0s (fun x:u0c=>decide (x.1=id)) o<o.length then((u0s (fun x:u0c=>decide (x.1=id)) o:Nat):Int) else -1
def u1m (e:u3e) (id:Int):u0c:=rdL u0q e.2 (u41 e.2 id).toNat
def s5v (e:u3e):Hu u0c:=e.1.2.1++e.1.2.2.1
def r2q (e:u3e) (id:Int):Int:=
 if u41 e.2 id<0 then 1 else if q4e (u1m e id) (s5v e)=true then 4 else if q27 (u1m e id) (s5v e)=true then 5 else if s4p e.1=true then 3 else 0
def u9n (e:u3e) (id:Int):u3e×s67×Int:=
 if r2q e id=1 then(e,o1r,1) else if r2q e id=0 then(s5h e (u1m e id),(1,u9o e.1 (u1m e id),emp,false,u2s),0) else(leaveE e id,o1r,r2q e id)
def s72 (e:u3e) (id:Int):Int:=
 if r2q e id≠0 then r2q e id else if t8k (u1m e id) (s5v e)=true then 5 else if 3≤e.1.2.2.1.length then 3 else 0
def s82 (e:u3e) (id:Int) (n:Hs):u3e×s67×Int:=
 if u41 e.2 id<0 then(e,o1r,1) else if u7b n=false then(e,o1r,2) else if 0≤u0i e.1 n then(e,o1r,6)
 else if s72 e id=0 then(j1g e (u1m e id) n,(2,u4r e.1 (u1m e id) n,emp,false,u2s),0) else(leaveE e id,o1r,s72 e id)
def p39 (e:u3e) (n:Hs) (yes:Bool):u3e×s67×Int:=
 if u0i e.1 n<0 then(e,o1r,1) else if yes=true∧s4p e.1=true then(e,o1r,3)
 else if yes=true then(j4m e (rdL u0q e.1.2.2.1 (u0i e.1 n).toNat),(3,u5j,n,true,u2s),0) else(noE e n,(3,u5j,n,false,u2s),0)
def p4m (e:u3e) (id:Int):u3e×Int:=if u41 e.2 id<0 then(e,1) else(leaveE e id,0)
def s3t (e:u3e):u3e×Int×Int:=if e.2.length<4∧e.1.2.2.2.2<9999 then(j4w e,e.1.2.2.2.2,0) else(e,0,3)
def j94 (l:Hu s3m) (r:s3m):Bool:=l.any fun x=>z7o x.1 r.1&&z7o x.2 r.2
def d4l (t:u0c) (r:s3m):u0c:=(t.1,t.2.1,t.2.2.1,t.2.2.2.1,t.2.2.2.2.1++ [r],t.2.2.2.2.2)
def s3h (t:u0c) (r:s3m):u0c×Bool:=if j94 t.2.2.2.2.1 r=true then(t,true) else if t.2.2.2.2.1.length<8 then(d4l t r,true) else(t,false)
def d1v (t:u0c) (l:Hu WrT):u0c:=(t.1,t.2.1,t.2.2.1,t.2.2.2.1,t.2.2.2.2.1,l,t.2.2.2.2.2.2)
def s62 (t:u0c) (w:WrT):u0c×Bool:=if(o1s t.2.2.2.2.2.1 w).length≤8 then(d1v t (o1s t.2.2.2.2.2.1 w),true) else(t,false)
def s66 (e:u3e) (id:Int) (r:s3m) (right:Bool):u3e×Int:=
 if u41 e.2 id<0 then(e,1) else if right=false then(e,2) else if(s3h (u1m e id) r).2=true then(p46 e (u41 e.2 id).toNat (s3h (u1m e id) r).1,0) else(e,3)
def j2m (e:u3e) (id:Int) (w:WrT):u3e×Int:=
 if u41 e.2 id<0 then(e,1) else if u3t w=false then(e,2) else if(s62 (u1m e id) w).2=true then(p46 e (u41 e.2 id).toNat (s62 (u1m e id) w).1,0) else(e,3)
theorem u2q {e:u3e} {id:Int} (h: ¬u41 e.2 id<0):∃(k:Nat) (hk:k<e.2.length),u41 e.2 id=(k:Int)∧u1m e id=e.2[k] ∧e.2[k].1=id:=by
 unfold u1m
 unfold u41 at h ⊢
 split at h
 ·rename_i q
  rw[Al q]
  refine⟨_,q,rfl,?_,?_⟩
  ·rw[zTn];exact y8k (t:=u0q) q
  ·simpa using u8o q
 ·omega
theorem r8s {e:u3e} {id:Int} (h:r2q e id=0): ¬u41 e.2 id<0∧q4e (u1m e id) (s5v e)=false∧q27 (u1m e id) (s5v e)=false∧s4p e.1=false:=by
 unfold r2q at h
 split at h
 ·omega
 ·rename_i h1
  split at h
  ·omega
  ·rename_i h2
   split at h
   ·omega
   ·rename_i h3
    split at h
    ·omega
    ·rename_i h4
     exact⟨h1,by simpa using h2,by simpa using h3,by simpa using h4⟩
theorem j79 {t:u0c} {r:s3m} (h:TxnR t) (hr:u3s r=true) (hl:t.2.2.2.2.1.length<8):TxnR (d4l t r):=
 ⟨h.id,h.st,h.snap,by show(t.2.2.2.2.1++ [r]).length≤8;simp only[Ba,Aw];omega,h.ws,fun x hx=>by
   rcases Ay.mp hx with hx | hx
   ·exact h.rs x hx
   ·rw[Ax] at hx;subst hx;exact hr,h.done,h.nocs,h.name,h.noname,h.out⟩
theorem j6j {t:u0c} {r:s3m} (h:TxnR t) (hr:u3s r=true):TxnR (s3h t r).1∧(s3h t r).1.1=t.1∧(s3h t r).1.2.1=t.2.1∧(s3h t r).1.2.2.1=t.2.2.1∧(s3h t r).1.2.2.2.2.2.1=t.2.2.2.2.2.1:=by
 unfold s3h
 split
 ·exact⟨h,rfl,rfl,rfl,rfl⟩
 ·split
  ·rename_i q;exact⟨j79 h hr q,rfl,rfl,rfl,rfl⟩
  ·exact⟨h,rfl,rfl,rfl,rfl⟩
theorem j1k {l:Hu WrT} {w:WrT} (h:u6b l=true) (hw:u3t w=true) (hl:(o1s l w).length≤8):u6b (o1s l w)=true:=by
 obtain⟨h1,h2,h3⟩:=j46.mp h
 refine j46.mpr ⟨fun x hx=> ?_,?_,hl⟩
 ·rcases o7c hx with hx | rfl
  ·exact h1 x hx
  ·exact hw
 ·unfold o1s
  rw[Bi,Cg]
  refine⟨Dz _ h2,?_,?_⟩
  ·rw[Fs,Ch]
   refine⟨fun y hy=> ?_,Dz _ h2⟩
   have:=(A6.mp hy).2
   rw[q96] at this
   exact this
  ·intro x hx y hy
   have h4:=(A6.mp hx).2
   rcases Ay.mp hy with hy | hy
   ·rw[Ax] at hy;subst hy;exact h4
   ·have h5:=(A6.mp hy).2
    rw[q96] at h5
    exact r9t h4 h5
theorem j8x {t:u0c} {l:Hu WrT} (h:TxnR t) (hl:u6b l=true):TxnR (d1v t l):=
 ⟨h.id,h.st,h.snap,h.rlen,hl,h.rs,h.done,h.nocs,h.name,h.noname,h.out⟩
theorem j4j {t:u0c} {w:WrT} (h:TxnR t) (hw:u3t w=true):TxnR (s62 t w).1∧(s62 t w).1.1=t.1∧(s62 t w).1.2.1=t.2.1∧(s62 t w).1.2.2.1=t.2.2.1∧(s62 t w).1.2.2.2.2.1=t.2.2.2.2.1:=by
 unfold s62
 split
 ·rename_i q;exact⟨j8x h (j1k h.ws hw q),rfl,rfl,rfl,rfl⟩
 ·exact⟨h,rfl,rfl,rfl,rfl⟩
theorem j8k {e:u3e} (h:EngR e) {id:Int} {r:s3m} {right:Bool} (hr:right=true→u3s r=true):EngR (s66 e id r right).1:=by
 unfold s66
 split
 ·exact h
 ·rename_i q
  split
  ·exact h
  ·rename_i hb
   split
   ·obtain⟨k,hk,e1,e2,e3⟩:=u2q q
    obtain⟨o1,o2,o3⟩:=h.open_ _ (Ag hk)
    rw[e1,zTn,e2]
    obtain⟨r1,r2,r3,r4,r5⟩:=j6j o1 (hr (by simpa using hb))
    exact o4k h hk r1 r2 (r3.trans o2) r4
   ·exact h
theorem d1t {e:u3e} (h:EngR e) {id:Int} {w:WrT} :EngR (j2m e id w).1:=by
 unfold j2m
 split
 ·exact h
 ·rename_i q
  split
  ·exact h
  ·rename_i hb
   split
   ·obtain⟨k,hk,e1,e2,e3⟩:=u2q q
    obtain⟨o1,o2,o3⟩:=h.open_ _ (Ag hk)
    rw[e1,zTn,e2]
    obtain⟨r1,r2,r3,r4,r5⟩:=j4j (w:=w) o1 (by simpa using hb)
    exact o4k h hk r1 r2 (r3.trans o2) r4
   ·exact h
theorem j22 {e:u3e} (h:EngR e):EngR (s3t e).1:=by
 unfold s3t
 split
 ·rename_i q;exact j52 h q.1 q.2
 ·exact h
structure Sync (s:u01) (b:u0j):Prop where
 eng:EngR s.1
 log:u2v s.2=true
 play:t0y (u0e s.2)=some b
 right:BaseR b
 like:Like0 b s.1.1
theorem Like0.of {b e e' :u0j} (h:Like0 b e) (h1:e'.1=e.1) (h2:e'.2.2.1=e.2.2.1) (h3:e'.2.2.2.1=e.2.2.2.1):Like0 b e' :=
 ⟨by rw[h1,h3];exact h.vs,h.past,by rw[h2];exact h.ready,by rw[h3];exact h.cs⟩
theorem Sync.opens {s:u01} {b:u0j} {e:u3e} (h:Sync s b) (he:EngR e) (h1:e.1.1=s.1.1.1) (h2:e.1.2.2.1=s.1.1.2.2.1) (h3:e.1.2.2.2.1=s.1.1.2.2.2.1):Sync (e,s.2) b:=
 ⟨he,h.log,h.play,h.right,h.like.of h1 h2 h3⟩
theorem Sync.leave {s:u01} {b:u0j} (h:Sync s b) (id:Int):Sync (leaveE s.1 id,s.2) b:=
 ⟨j6a h.eng id,h.log,h.play,h.right,h.like.tidy h.eng.base _⟩
theorem Sync.own {s:u01} {b:u0j} (h:Sync s b):u2y b [] =b:=h.like.self h.eng.base
def u8k (s:u01) (id:Int):u01×Int:=
 if(u9n s.1 id).2.2=0 then(match t8j s.2 (u9n s.1 id).2.1 with
  | some d=>(((u9n s.1 id).1,d),0)
  | none=>((leaveE s.1 id,s.2),3))
 else(((u9n s.1 id).1,s.2),(u9n s.1 id).2.2)
def r5p (s:u01) (id:Int) (n:Hs):u01×Int:=
 if(s82 s.1 id n).2.2=0 then(match t8j s.2 (s82 s.1 id n).2.1 with
  | some d=>(((s82 s.1 id n).1,d),0)
  | none=>((leaveE s.1 id,s.2),3))
 else(((s82 s.1 id n).1,s.2),(s82 s.1 id n).2.2)
def r6w (s:u01) (n:Hs) (yes:Bool):u01×Int:=
 if(p39 s.1 n yes).2.2=0 then(match t8j s.2 (p39 s.1 n yes).2.1 with
  | some d=>(((p39 s.1 n yes).1,d),0)
  | none=>(s,3))
 else(s,(p39 s.1 n yes).2.2)
def j4y (s:u01):u01×Bool:=match o9i s.2 with
 | some d=>((s.1,d),true)
 | none=>(s,false)
def j8v (d:u0l):Ht u01:=if u2v d=true then(match t0y (u0e d) with
 | some b=>some ((b, []),d)
 | none=>none) else none
theorem Sync.commit {s:u01} {b:u0j} (h:Sync s b) (id:Int):∃b',Sync (u8k s id).1 b' ∧(b' =b∨((u8k s id).2=0∧r2q s.1 id=0∧u7o b (1,u9o s.1.1 (u1m s.1 id),emp,false,u2s)=some b')):=by
 have hE:=h.eng
 unfold u8k
 by_cases c0:(u9n s.1 id).2.2=0
 ·rw[Al c0]
  have j0:r2q s.1 id=0:=by
   unfold u9n at c0
   split at c0
   ·cases c0
   ·split at c0
    ·assumption
    ·exact c0
  have ec:u9n s.1 id=(s5h s.1 (u1m s.1 id),(1,u9o s.1.1 (u1m s.1 id),emp,false,u2s),0):=by
   unfold u9n;rw[Ao (by omega),Al j0]
  obtain⟨h1,h2,h3,h4⟩:=r8s j0
  obtain⟨k,hk,e1,e2,e3⟩:=u2q h1
  have ht:u1m s.1 id∈s.1.2:=by rw[e2];exact Ag hk
  obtain⟨f1,f2,f3⟩:=q61 h4
  obtain⟨tR,t1,ts⟩:=hE.open_ _ ht
  have h9:(u1m s.1 id).1<9999:=by have:=hE.bel _ (Az _ ht);have:=hE.base.next.2;omega
  obtain⟨x,p1,p2,p3⟩:=p7o (t:=u1m s.1 id) h.like hE.base h.right f3 f2 tR h9 ts
  rw[ec]
  simp only
  cases hk2:t8j s.2 (1,u9o s.1.1 (u1m s.1 id),emp,false,u2s) with
  | none=>exact⟨b,h.leave id, .inl rfl⟩
  | some d=>
   obtain⟨l1,l2⟩:=p10 h.play h.right h.own (.thr _ (o5o tR ts f3) rfl) p1 hk2
   have hR:=o6x hE ht h4
   exact⟨x,⟨hR,l1,l2,p2,p3.tidy (t82 hE (.inl ht) h4) _⟩, .inr ⟨rfl,j0,p1⟩⟩
 ·rw[Ao c0]
  refine⟨b,?_, .inl rfl⟩
  unfold u9n
  split
  ·exact h
  ·split
   ·rename_i q1 q2
    exfalso;apply c0
    unfold u9n;rw[Ao q1,Al q2]
   ·exact h.leave id
theorem j1h {e:u3e} {id:Int} (h:s72 e id=0):r2q e id=0∧t8k (u1m e id) (s5v e)=false∧e.1.2.2.1.length<3:=by
 unfold s72 at h
 split at h
 ·rename_i q;exact absurd h q
 ·rename_i q
  split at h
  ·omega
  ·rename_i q2
   split at h
   ·omega
   ·exact⟨by omega,by simpa using q2,by omega⟩
theorem j6g {e:u3e} {id:Int} {n:Hs} (h:(s82 e id n).2.2=0): ¬u41 e.2 id<0∧u7b n=true∧u0i e.1 n<0∧s72 e id=0∧s82 e id n=(j1g e (u1m e id) n,(2,u4r e.1 (u1m e id) n,emp,false,u2s),0):=by
 unfold s82 at h ⊢
 split at h
 ·cases h
 ·rename_i q1
  split at h
  ·cases h
  ·rename_i q2
   split at h
   ·cases h
   ·rename_i q3
    split at h
    ·rename_i q4
     exact⟨q1,by simpa using q2,by omega,q4,by rw[Ao q1,Ao q2,Ao q3,Al q4]⟩
    ·rename_i q4
     exact absurd h q4
theorem Sync.prep {s:u01} {b:u0j} (h:Sync s b) (id:Int) (n:Hs):∃b',Sync (r5p s id n).1 b' ∧(b' =b∨((r5p s id n).2=0∧(s82 s.1 id n).2.2=0∧u7o b (2,u4r s.1.1 (u1m s.1 id) n,emp,false,u2s)=some b')):=by
 have hE:=h.eng
 unfold r5p
 by_cases c0:(s82 s.1 id n).2.2=0
 ·rw[Al c0]
  obtain⟨h1,hn,hr,hc,ec⟩:=j6g c0
  obtain⟨j0,rd,rl⟩:=j1h hc
  obtain⟨k,hk,e1,e2,e3⟩:=u2q h1
  have ht:u1m s.1 id∈s.1.2:=by rw[e2];exact Ag hk
  obtain⟨tR,t1,ts⟩:=hE.open_ _ ht
  have h9:(u1m s.1 id).1<9999:=by have:=hE.bel _ (Az _ ht);have:=hE.base.next.2;omega
  have hnn:=j6l.mp hr
  obtain⟨x,p1,p2,p3⟩:=o4b (t:=u1m s.1 id) (n:=n) h.like hE.base h.right tR (by omega) hn ts rl hnn (fun x hx=>hE.apart x (Az _ hx) _ ht) h9
  rw[ec]
  simp only
  cases hk2:t8j s.2 (2,u4r s.1.1 (u1m s.1 id) n,emp,false,u2s) with
  | none=>exact⟨b,h.leave id, .inl rfl⟩
  | some d=>
   obtain⟨l1,l2⟩:=p10 h.play h.right h.own (.rdy _ (o1g tR (by omega) hn) rfl) p1 hk2
   have hB:BaseR (u12 s.1.1 (u1m s.1 id) n):=r2r hE.base tR (by omega) ts hn rl hnn (fun x hx=>hE.apart x hx _ ht) h9
   exact⟨x,⟨j8u hE ht hn rl hnn,l1,l2,p2,p3.tidy hB _⟩, .inr ⟨by trivial,by trivial,p1⟩⟩
 ·rw[Ao c0]
  refine⟨b,?_, .inl rfl⟩
  unfold s82
  split
  ·exact h
  ·split
   ·exact h
   ·split
    ·exact h
    ·split
     ·rename_i q1 q2 q3 q4
      exfalso;apply c0
      unfold s82;rw[Ao q1,Ao q2,Ao q3,Al q4]
     ·exact h.leave id
theorem Sync.fin {s:u01} {b:u0j} (h:Sync s b) (n:Hs) (yes:Bool):∃b',Sync (r6w s n yes).1 b' ∧(b' =b∨((r6w s n yes).2=0∧(p39 s.1 n yes).2.2=0∧u7o b (3,u5j,n,yes,u2s)=some b')):=by
 have hE:=h.eng
 unfold r6w
 by_cases c0:(p39 s.1 n yes).2.2=0
 ·rw[Al c0]
  unfold p39 at c0
  split at c0
  ·cases c0
  ·rename_i q1
   split at c0
   ·cases c0
   ·rename_i q2
    obtain⟨k,hk,r1,r2⟩:=s03 q1
    obtain⟨tR,t2,ts⟩:=hE.base.ready _ (Ag hk)
    have hn:u7b n=true:=by rw[←r2];exact tR.name t2
    cases yes with
    | true=>
     have hf:s4p s.1.1=false:=by simpa using q2
     obtain⟨f1,f2,f3⟩:=q61 hf
     have ec:p39 s.1 n true=(j4m s.1 s.1.1.2.2.1[k],(3,u5j,n,true,u2s),0):=by
      unfold p39;rw[Ao q1,Ao q2,Al rfl,r1,zTn,y8k (t:=u0q) hk]
     obtain⟨x,p1,p2,p3⟩:=o8w h.like hE.base h.right f3 f2 hn hk r1
     rw[ec]
     simp only
     cases hk2:t8j s.2 (3,u5j,n,true,u2s) with
     | none=>exact⟨b,h, .inl rfl⟩
     | some d=>
      obtain⟨l1,l2⟩:=p10 h.play h.right h.own (.fin n true hn) p1 hk2
      exact⟨x,⟨d1x hE (Ag hk) hf,l1,l2,p2,p3.tidy (t82 hE (.inr (Ag hk)) hf) _⟩, .inr ⟨by trivial,by trivial,p1⟩⟩
    | false=>
     have ec:p39 s.1 n false=(noE s.1 n,(3,u5j,n,false,u2s),0):=by
      unfold p39;rw[Ao q1,Ao q2,Ao (by decide)]
     obtain⟨x,p1,p2,p3⟩:=j1f h.like hE.base h.right hn hk r1
     rw[ec]
     simp only
     cases hk2:t8j s.2 (3,u5j,n,false,u2s) with
     | none=>exact⟨b,h, .inl rfl⟩
     | some d=>
      obtain⟨l1,l2⟩:=p10 h.play h.right h.own (.fin n false hn) p1 hk2
      exact⟨x,⟨d5a hE n,l1,l2,p2,p3.tidy (r8q hE.base n) _⟩, .inr ⟨by trivial,by trivial,p1⟩⟩
 ·rw[Ao c0]
  exact⟨b,h, .inl rfl⟩
theorem Sync.fix {s:u01} {b:u0j} (h:Sync s b):Sync (j4y s).1 b:=by
 unfold j4y
 cases ha:o9i s.2 with
 | none=>exact h
 | some d=>
  obtain⟨_,l1,l2⟩:=o6s h.play h.right h.own ha
  exact⟨h.eng,l1,l2,h.right,h.like⟩
theorem o8z {s:u01} {b:u0j} (h:Sync s b):j8v s.2=some ((b, []),s.2)∧Sync ((b, []),s.2) b:=by
 constructor
 ·unfold j8v;rw[Al h.log,h.play]
 ·have hb:=h.right
  have hE:EngR (b, []):=⟨hb,Cn _,fun t ht=>(by cases ht),List.Pairwise.nil,by simpa using hb.below,by simpa using hb.nodup⟩
  refine⟨hE,h.log,h.play,hb,?_,h.like.past,rfl,rfl⟩
  have hs:=h.own
  rw[s43 (fun t ht=>(hb.past t ht).2.2)] at hs
  exact(Dj Prod.fst hs).symm
end
section
def K5:Hu Hs:= [⟨#[97]⟩,⟨#[98]⟩,⟨#[99]⟩,⟨#[100]⟩,⟨#[97,98]⟩]
structure DomT (t:u0c):Prop where
 ws:∀w∈t.2.2.2.2.2.1,w.1∈K5
 rs:∀r∈t.2.2.2.2.1,r.1∈K5∧r.2∈K5
structure DomB (b:u0j):Prop where
 vs:∀v∈b.1,v.1∈K5
 ready:∀t∈b.2.2.1,DomT t
structure DomE (e:u3e):Prop where
 base:DomB e.1
 open_:∀t∈e.2,DomT t
def Num (k:Nat) (e:u3e):Prop:=e.1.2.2.2.1≤(k:Int)∧e.1.2.2.2.2≤(k:Int)+1
structure Stt (k:Nat) (s:u01):Prop where
 sync:∃b,Sync s b∧b.2.2.2.2≤(k:Int)+1
 dom:DomE s.1
 num:Num k s.1
theorem q4u {b x:u0j} {r:s67} (h:u7o b r=some x):∃y,u2e b r=some y∧x=u2y y [] :=by
 unfold u7o at h
 split at h
 ·cases q:u2e b r with
  | none=>rw[q] at h;cases h
  | some y=>
   rw[q] at h
   simp only at h
   split at h
   ·exact⟨y,rfl,(Ds h).symm⟩
   ·cases h
 ·cases h
end
section
def q3y (H:Hu u0c) (e' :u3e) (t1w:Int) (t:u0c):Hu u0c:=
 if e'.1.2.2.2.1=IntKind.i64.wrap (t1w+1) then H++ [r6v e'.1.2.2.2.1 t] else H
theorem s05 {H:Hu u0c} {e' :u3e} {c:Int} (t:u0c) (hc:o8q c) (h:e'.1.2.2.2.1=c):q3y H e' c t=H:=by
 unfold q3y
 rw[s0e hc,Ao (by omega)]
theorem p13 {H:Hu u0c} {e' :u3e} {c:Int} (t:u0c) (hc:o8q c) (h:e'.1.2.2.2.1=c+1):q3y H e' c t=H++ [r6v (c+1) t] :=by
 unfold q3y
 rw[s0e hc,Al h,h]
theorem Ser.rest {H:Hu u0c} {e:u3e} (h:Ser H e) (id:Int):Ser H (e.1,s39 e id):=
 h.opens (r9c h.eng h.eng.base (u8j e id) (Bv _) (Bv _) fun x hx y hy=>h.eng.apart x hx y ((u8j e id).subset hy))
  rfl rfl rfl (Bv _) fun o ho=> .inl ⟨o,(u8j e id).subset ho,rfl,rfl⟩
theorem Ser.leaveE {H:Hu u0c} {e:u3e} (h:Ser H e) (id:Int):Ser H (Ab.leaveE e id):=(h.rest id).tidy
theorem Ser.leave {H:Hu u0c} {e:u3e} (h:Ser H e) (id:Int):Ser H (p4m e id).1:=by
 unfold p4m
 split
 ·exact h
 ·exact h.leaveE id
theorem Ser.mid {H:Hu u0c} {e:u3e} (h:Ser H e):o8q e.1.2.2.2.1:=by
 have:=h.eng.base.cs
 exact⟨by omega,by omega⟩
theorem Ser.begin {H:Hu u0c} {e:u3e} (h:Ser H e) (hR:EngR (s3t e).1):Ser H (s3t e).1:=by
 unfold s3t at hR ⊢
 split
 ·rename_i c
  rw[Al c] at hR
  refine h.opens hR rfl rfl rfl (by show e.1.2.2.2.2≤e.1.2.2.2.2+1;omega) fun o ho=> ?_
  rcases Ay.mp ho with ho | ho
  ·exact .inl ⟨o,ho,rfl,rfl⟩
  ·rw[Ax.mp ho];exact .inr ⟨Bv _,rfl⟩
 ·exact h
theorem Ser.setO {H:Hu u0c} {e:u3e} (h:Ser H e) {j:Nat} (hj:j<e.2.length) {t:u0c} (hR:EngR (p46 e j t)) (h1:t.1=e.2[j].1) (h2:t.2.2.1=e.2[j].2.2.1):Ser H (p46 e j t):=
 h.opens hR rfl rfl rfl (Bv _) fun o ho=>by
  rcases o7j ho with ho | rfl
  ·exact .inl ⟨o,ho,rfl,rfl⟩
  ·exact .inl ⟨e.2[j],Ag hj,h1.symm,h2.symm⟩
theorem Ser.commitS {H:Hu u0c} {s:u01} (h:Ser H s.1) (id:Int) (t0:u0c):
 Ser (q3y H (u8k s id).1.1 s.1.1.2.2.2.1 (if u41 s.1.2 id<0 then t0 else u1m s.1 id)) (u8k s id).1.1:=by
 have hm:=h.mid
 unfold u8k u9n
 by_cases j1:r2q s.1 id=1
 ·rw[Al j1,Ao (show ¬((1:Int)=0) by decide)]
  show Ser (q3y H s.1 s.1.1.2.2.2.1 _) s.1
  rw[s05 _ hm rfl];exact h
 ·rw[Ao j1]
  by_cases j0:r2q s.1 id=0
  ·rw[Al j0,Al rfl]
   obtain⟨n,b1,b2,b3⟩:=r8s j0
   rw[Ao n]
   obtain⟨j,hj,e1,e2,e3⟩:=u2q n
   have ht:u1m s.1 id∈s.1.2:=by rw[e2];exact Ag hj
   split
   ·have hp:=o36 (fun x hx=>(h.eng.base.past x hx).2.1) (fun x hx=>(h.eng.base.ready x hx).2.1) b1 b2
    have hc:=(h.commit ht b3 hp).tidy
    show Ser (q3y H (s5h s.1 (u1m s.1 id)) s.1.1.2.2.2.1 _) (s5h s.1 (u1m s.1 id))
    rw[p13 (e' :=s5h s.1 (u1m s.1 id)) _ hm rfl]
    exact hc
   ·show Ser (q3y H (Ab.leaveE s.1 id) s.1.1.2.2.2.1 _) (Ab.leaveE s.1 id)
    rw[s05 (e' :=Ab.leaveE s.1 id) _ hm rfl];exact h.leaveE id
  ·rw[Ao j0,Ao j0]
   show Ser (q3y H (Ab.leaveE s.1 id) s.1.1.2.2.2.1 _) (Ab.leaveE s.1 id)
   rw[s05 (e' :=Ab.leaveE s.1 id) _ hm rfl];exact h.leaveE id
theorem Ser.prepS {H:Hu u0c} {s:u01} (h:Ser H s.1) (id:Int) (n:Hs):Ser H (r5p s id n).1.1:=by
 unfold r5p s82
 by_cases c1:u41 s.1.2 id<0
 ·rw[Al c1,Ao (show ¬((1:Int)=0) by decide)];exact h
 rw[Ao c1]
 cases hk:u7b n with
 | false=>rw[Al rfl,Ao (show ¬((2:Int)=0) by decide)];exact h
 | true=>
  rw[Ao (show ¬(true=false) by decide)]
  by_cases c2:0≤u0i s.1.1 n
  ·rw[Al c2,Ao (show ¬((6:Int)=0) by decide)];exact h
  rw[Ao c2]
  by_cases c3:s72 s.1 id=0
  ·rw[Al c3,Al rfl]
   obtain⟨j0,d0,l0⟩:=j1h c3
   obtain⟨_,b1,b2,b3⟩:=r8s j0
   obtain⟨j,hj,e1,e2,e3⟩:=u2q c1
   have ht:u1m s.1 id∈s.1.2:=by rw[e2];exact Ag hj
   split
   ·have hp:=p8h (fun x hx=>(h.eng.base.past x hx).2.1) (fun x hx=>(h.eng.base.ready x hx).2.1) b1 d0
    exact(h.ready ht hk l0 (j6l.mp (by omega)) hp).tidy
   ·exact h.leaveE id
  ·rw[Ao c3,Ao c3];exact h.leaveE id
theorem Ser.finS {H:Hu u0c} {s:u01} (h:Ser H s.1) (n:Hs) (y:Bool) (t0:u0c):
 Ser (q3y H (r6w s n y).1.1 s.1.1.2.2.2.1 (if u0i s.1.1 n<0 then t0 else rdL u0q s.1.1.2.2.1 (u0i s.1.1 n).toNat)) (r6w s n y).1.1:=by
 have hm:=h.mid
 have same:∀t,Ser (q3y H s.1 s.1.1.2.2.2.1 t) s.1:=fun t=>by rw[s05 (e' :=s.1) _ hm rfl];exact h
 unfold r6w p39
 by_cases c1:u0i s.1.1 n<0
 ·rw[Al c1,Ao (show ¬((1:Int)=0) by decide)];exact same _
 rw[Ao c1]
 by_cases c2:y=true∧s4p s.1.1=true
 ·rw[Al c2,Ao (show ¬((3:Int)=0) by decide)];exact same _
 rw[Ao c2]
 obtain⟨j,hj,e1,e2⟩:=s03 c1
 have e3:rdL u0q s.1.1.2.2.1 (u0i s.1.1 n).toNat=s.1.1.2.2.1[j] :=by rw[e1];exact y8k hj
 by_cases c3:y=true
 ·rw[Al c3,Al rfl]
  have hf:s4p s.1.1=false:=by
   cases q:s4p s.1.1 with
   | false=>rfl
   | true=>exact absurd ⟨c3,q⟩ c2
  split
  ·have hy:=(h.yes (t:=rdL u0q s.1.1.2.2.1 (u0i s.1.1 n).toNat) (by rw[e3];exact Ag hj) hf).tidy
   show Ser (q3y H (j4m s.1 (rdL u0q s.1.1.2.2.1 (u0i s.1.1 n).toNat)) s.1.1.2.2.2.1 _) (j4m s.1 (rdL u0q s.1.1.2.2.1 (u0i s.1.1 n).toNat))
   rw[Ao c1,p13 (e' :=j4m s.1 (rdL u0q s.1.1.2.2.1 (u0i s.1.1 n).toNat)) _ hm rfl]
   exact hy
  ·exact same _
 ·rw[Ao c3,Al rfl]
  split
  ·show Ser (q3y H (Ab.noE s.1 n) s.1.1.2.2.2.1 _) (Ab.noE s.1 n)
   rw[s05 (e' :=Ab.noE s.1 n) _ hm rfl];exact(h.no n).tidy
  ·exact same _
theorem o7g {t:u0c} {r:s3m} :(s3h t r).1.1=t.1∧(s3h t r).1.2.2.1=t.2.2.1:=by
 unfold s3h
 split
 ·exact⟨rfl,rfl⟩
 ·split<;>exact⟨rfl,rfl⟩
theorem Ser.look {H:Hu u0c} {e:u3e} (h:Ser H e) {id:Int} {r:s3m} {right:Bool} (hR:EngR (s66 e id r right).1):Ser H (s66 e id r right).1:=by
 unfold s66 at hR ⊢
 by_cases c1:u41 e.2 id<0
 ·rw[Al c1];exact h
 rw[Ao c1] at hR ⊢
 by_cases c2:right=false
 ·rw[Al c2];exact h
 rw[Ao c2] at hR ⊢
 by_cases c3:(s3h (u1m e id) r).2=true
 ·rw[Al c3] at hR ⊢
  obtain⟨j,hj,e1,e2,e3⟩:=u2q c1
  have e4:(u41 e.2 id).toNat=j:=by omega
  simp only[e4] at hR ⊢
  exact h.setO hj hR (by rw[o7g.1,e2]) (by rw[o7g.2,e2])
 ·rw[Ao c3];exact h
theorem Ser.put {H:Hu u0c} {e:u3e} (h:Ser H e) {id:Int} {w:WrT} (hR:EngR (j2m e id w).1):Ser H (j2m e id w).1:=by
 unfold j2m at hR ⊢
 by_cases c1:u41 e.2 id<0
 ·rw[Al c1];exact h
 rw[Ao c1] at hR ⊢
 by_cases c2:u3t w=false
 ·rw[Al c2];exact h
 rw[Ao c2] at hR ⊢
 by_cases c3:(s62 (u1m e id) w).2=true
 ·rw[Al c3] at hR ⊢
  obtain⟨j,hj,e1,e2,e3⟩:=u2q c1
  have e4:(u41 e.2 id).toNat=j:=by omega
  simp only[e4] at hR ⊢
  have hw:(s62 (u1m e id) w).1.1=(u1m e id).1∧(s62 (u1m e id) w).1.2.2.1=(u1m e id).2.2.1:=by
   unfold s62;split<;>exact⟨rfl,rfl⟩
  exact h.setO hj hR (by rw[hw.1,e2]) (by rw[hw.2,e2])
 ·rw[Ao c3];exact h
end
section
def HB (H:Hu u0c) (s:u01):Prop:= ∃b,Sync s b∧ ∀x∈H,x.1<b.2.2.2.2
theorem o5y (n i:Int):n≤u2a n i∧i<u2a n i:=by
 unfold u2a;split<;>omega
theorem j1x {H:Hu u0c} {e' :u3e} {c:Int} {t x:u0c} (h:x∈q3y H e' c t):x∈H∨x.1=t.1:=by
 unfold q3y at h
 split at h
 ·rcases Ay.mp h with h | h
  ·exact .inl h
  ·rw[Ax.mp h];exact .inr rfl
 ·exact .inl h
theorem HB.commit {H:Hu u0c} {s:u01} (h:HB H s) (hS:Ser H s.1) (id:Int) (t0:u0c):
 HB (q3y H (u8k s id).1.1 s.1.1.2.2.2.1 (if u41 s.1.2 id<0 then t0 else u1m s.1 id)) (u8k s id).1:=by
 obtain⟨b,hs,hb⟩:=h
 obtain⟨b',hs',hd⟩:=hs.commit id
 refine⟨b',hs',?_⟩
 rcases hd with rfl | ⟨c0,j0,hp⟩
 ·rw[s05 _ hS.mid (by rw[←hs'.like.cs,hs.like.cs])];exact hb
 ·obtain⟨y,hy,rfl⟩:=q4u hp
  unfold u2e at hy
  rw[Al rfl] at hy
  split at hy
  ·cases hy
   intro x hx
   rw[Ao (r8s j0).1] at hx
   have hn:=o5y b.2.2.2.2 (u1m s.1 id).1
   show x.1<u2a b.2.2.2.2 (u1m s.1 id).1
   rcases j1x hx with hx | hx
   ·have:=hb x hx;omega
   ·omega
  ·cases hy
theorem HB.prep {H:Hu u0c} {s:u01} (h:HB H s) (id:Int) (n:Hs):HB H (r5p s id n).1:=by
 obtain⟨b,hs,hb⟩:=h
 obtain⟨b',hs',hd⟩:=hs.prep id n
 refine⟨b',hs',?_⟩
 rcases hd with rfl | ⟨c0,j0,hp⟩
 ·exact hb
 ·obtain⟨y,hy,rfl⟩:=q4u hp
  unfold u2e at hy
  rw[Ao (show ¬((2:Int)=1) by decide),Al rfl] at hy
  split at hy
  ·cases hy
   intro x hx
   have hn:=o5y b.2.2.2.2 (u4r s.1.1 (u1m s.1 id) n).1
   show x.1<u2a b.2.2.2.2 (u4r s.1.1 (u1m s.1 id) n).1
   have:=hb x hx
   omega
  ·cases hy
theorem HB.fin {H:Hu u0c} {s:u01} (h:HB H s) (hS:Ser H s.1) (n:Hs) (yes:Bool) (t0:u0c):
 HB (q3y H (r6w s n yes).1.1 s.1.1.2.2.2.1 (if u0i s.1.1 n<0 then t0 else rdL u0q s.1.1.2.2.1 (u0i s.1.1 n).toNat)) (r6w s n yes).1:=by
 obtain⟨b,hs,hb⟩:=h
 obtain⟨b',hs',hd⟩:=hs.fin n yes
 refine⟨b',hs',?_⟩
 have e0:u0i b n=u0i s.1.1 n:=s8b hs.like.ready n
 rcases hd with rfl | ⟨c0,j0,hp⟩
 ·rw[s05 _ hS.mid (by rw[←hs'.like.cs,hs.like.cs])];exact hb
 ·have hcs:=hs'.like.cs
  obtain⟨y,hy,rfl⟩:=q4u hp
  unfold u2e at hy
  rw[Ao (show ¬((3:Int)=1) by decide),Ao (show ¬((3:Int)=2) by decide),Al rfl] at hy
  have hy:(if u0i b n<0 then none else if yes=true then some (u0y b (rdL u0q b.2.2.1 (u0i b n).toNat)) else some (u7p b n))=some y:=hy
  split at hy
  ·cases hy
  ·rename_i c1
   split at hy
   ·cases hy
    intro x hx
    rw[e0,hs.like.ready] at*
    rw[Ao c1] at hx
    have hn:=o5y b.2.2.2.2 (rdL u0q s.1.1.2.2.1 (u0i s.1.1 n).toNat).1
    show x.1<u2a b.2.2.2.2 (rdL u0q s.1.1.2.2.1 (u0i s.1.1 n).toNat).1
    rcases j1x hx with hx | hx
    ·have:=hb x hx;omega
    ·omega
   ·cases hy
    have hc:(u7p b n).2.2.2.1=(r6w s n yes).1.1.1.2.2.2.1:=hcs
    rw[s05 _ hS.mid (by rw[←hc];exact hs.like.cs)]
    exact hb
theorem HB.rise {H:Hu u0c} {s:u01} {b:u0j} (hS:Ser H s.1) (hs:Sync s b) (hb:∀x∈H,x.1<b.2.2.2.2):Ser H (b, []):=
 hS.fall hs.right hs.like.past hs.like.ready hs.like.cs hb
end
section
theorem j0k (v:Nat):(bif decide ((v:Int)<97) then some true else some (decide ((v:Int) >122)))=some (!(decide (97≤v)&&decide (v≤122))):=by
 have e1:decide ((v:Int)<97)= !decide (97≤v):=by by_cases h:97≤v<;>simp[h] <;>omega
 have e2:decide ((v:Int) >122)= !decide (v≤122):=by by_cases h:v≤122<;>simp[h] <;>omega
 rw[e1,e2]
 cases decide (97≤v)<;>cases decide (v≤122)<;>rfl
theorem q0y (a b c:Int):u1q (a,b,c)=some (inB a b c):=s2z a b c
theorem r0h (a b c:Int):u0r (a,b,c)=some (inB a b c):=s1q a b c
theorem t3r {X R:Type} (W:X→Ht R) (n:Nat) (mk:Int→X) (ok:Nat→Bool) (yes no:R) (hend:W (mk (n:Int))=some yes)
 (hstep:∀(i:Nat),i<n→W (mk (i:Int))=bif ok i then W (mk ((i+1:Nat):Int)) else some no):W (mk 0)=some (bif (List.range n).all ok then yes else no):=by
 have key:∀d i:Nat,i+d=n→W (mk (i:Int))=some (bif (List.range d).all (fun j=>ok (i+j)) then yes else no):=by
  intro d
  induction d with
  | zero=>intro i hi;have:i=n:=by omega
          subst this;simpa using hend
  | succ d ih=>
   intro i hi
   rw[hstep i (by omega),ih (i+1) (by omega),List.range_succ_eq_map,Gc,List.all_map,Df]
   have e:((fun j=>ok (i+j)) ∘Nat.succ)=fun j=>ok (i+1+j):=by funext j;simp only[Function.comp];congr 1;omega
   rw[e]
   cases ok i<;>rfl
 have:=key n 0 (by omega)
 simpa using this
theorem s2b {t:Ty} (l:Hu t.den) (f:t.den→Bool):((List.range l.length).all fun i=>f (rdL t l i))=l.all f:=by
 rw[Cd,Bg,Bg]
 constructor
 ·intro h x hx
  obtain⟨i,hi,rfl⟩:=B7 hx
  have:=h i (Bq.mpr hi)
  rwa [y8k hi] at this
 ·intro h i hi
  rw[y8k (Bq.mp hi)]
  exact h _ (Ag _)
theorem j0d {α:Type} (l:Hu α) (f g:α→Bool):(l.all fun i=>f i&&g i)=(l.all f&&l.all g):=by
 induction l with
 | nil=>rfl
 | cons x l ih=>simp only[Gc,ih];cases f x<;>cases g x<;>simp
theorem s8y {t:Ty} (l:Hu t.den) (f:t.den→Bool) (lt:t.den→t.den→Bool):
 ((List.range l.length).all fun i=>f (rdL t l i)&&(decide (i=0) || lt (rdL t l (i - 1)) (rdL t l i)))=(l.all f&&p5t t lt l):=by
 rw[j0d (List.range l.length) (fun i=>f (rdL t l i)) (fun i=>decide (i=0) || lt (rdL t l (i - 1)) (rdL t l i)),s2b]
 rfl
theorem s1s (i:Nat):decide ((i:Int) >0)= !decide (i=0):=by by_cases h:i=0<;>simp[h] <;>omega
theorem t6w {i:Nat} (h:i<4611686018427387904) (h0:i≠0):IntKind.i64.wrap ((i:Int) - (1:Int))=((i - 1:Nat):Int):=by
 rw[y4y (by omega) (by omega)];omega
theorem o02 (s:Hs) {i:Nat} (h:i<s.size):s.data.toList.getD i 0=s.data.toList[i]'h:=by
 rw[A5,A4 h];rfl
theorem s4y (s:Hs) (hs:s.size≤u0m):u98 s=some (u7b s):=by
 have hb:u0m=1099511627776:=rfl
 have L:=t3r s1i s.size (fun i=>(s,i)) (fun i=>(fun b:UInt8=>decide (97≤b.toNat)&&decide (b.toNat≤122)) (s.data.toList.getD i 0)) (.inl s) (.inr false)
  (by rw[q3z];simp only[s08,u0b,Am,Ah,Aa])
  (fun i hi=>by
   rw[q3z];simp only[s08,u0b,hi,Ae,Ad,y7t hi,zTn,y7l (show i<4611686018427387904 by omega)]
   rw[j0k];simp only[zOb]
   cases (decide (97≤(s.data.toList.getD i 0).toNat)&&decide ((s.data.toList.getD i 0).toNat≤122))<;>rfl)
 have hA:((List.range s.size).all fun i=>(fun b:UInt8=>decide (97≤b.toNat)&&decide (b.toNat≤122)) (s.data.toList.getD i 0))=s.data.toList.all (fun b=>decide (97≤b.toNat)&&decide (b.toNat≤122)):=by
  rw[Cd,Bg,Bg]
  constructor
  ·intro h x hx
   obtain⟨i,hi,rfl⟩:=B7 hx
   have:=h i (Bq.mpr hi)
   rwa [o02 s hi] at this
  ·intro h i hi
   rw[o02 s (Bq.mp hi)]
   exact h _ (Ag _)
 rw[hA] at L
 rw[o20];unfold q9i
 simp only[L,zOb]
 unfold u7b
 cases s.data.toList.all (fun b=>decide (97≤b.toNat)&&decide (b.toNat≤122))
 ·rfl
 ·simp only[Ad,q0y,zOb,Bz]
  unfold inB
  congr 1
  have e1:decide ((1:Int)≤(s.size:Int))=decide (1≤s.size):=by simp;omega
  have e2:decide ((s.size:Int)≤3)=decide (s.size≤3):=by simp;omega
  rw[e1,e2]
theorem t8p (s:Hs) (hs:s.size≤u0m):u64 s=some (u7b s):=by
 have hb:u0m=1099511627776:=rfl
 have L:=t3r s1l s.size (fun i=>(s,i)) (fun i=>(fun b:UInt8=>decide (97≤b.toNat)&&decide (b.toNat≤122)) (s.data.toList.getD i 0)) (.inl s) (.inr false)
  (by rw[q33];simp only[s1c,u0b,Am,Ah,Aa])
  (fun i hi=>by
   rw[q33];simp only[s1c,u0b,hi,Ae,Ad,y7t hi,zTn,y7l (show i<4611686018427387904 by omega)]
   rw[j0k];simp only[zOb]
   cases (decide (97≤(s.data.toList.getD i 0).toNat)&&decide ((s.data.toList.getD i 0).toNat≤122))<;>rfl)
 have hA:((List.range s.size).all fun i=>(fun b:UInt8=>decide (97≤b.toNat)&&decide (b.toNat≤122)) (s.data.toList.getD i 0))=s.data.toList.all (fun b=>decide (97≤b.toNat)&&decide (b.toNat≤122)):=by
  rw[Cd,Bg,Bg]
  constructor
  ·intro h x hx
   obtain⟨i,hi,rfl⟩:=B7 hx
   have:=h i (Bq.mpr hi)
   rwa [o02 s hi] at this
  ·intro h i hi
   rw[o02 s (Bq.mp hi)]
   exact h _ (Ag _)
 rw[hA] at L
 rw[o3b];unfold q9r
 simp only[L,zOb]
 unfold u7b
 cases s.data.toList.all (fun b=>decide (97≤b.toNat)&&decide (b.toNat≤122))
 ·rfl
 ·simp only[Ad,r0h,zOb,Bz]
  unfold inB
  congr 1
  have e1:decide ((1:Int)≤(s.size:Int))=decide (1≤s.size):=by simp;omega
  have e2:decide ((s.size:Int)≤3)=decide (s.size≤3):=by simp;omega
  rw[e1,e2]
theorem o2h (r:s3m) (h1:r.1.size≤u0m) (h2:r.2.size≤u0m):s84 r=some (u3s r):=by
 rw[p54];unfold q1n u3s
 simp only[s4y _ h1,s4y _ h2,zOb]
 cases u7b r.1<;>cases u7b r.2<;>rfl
theorem r62 (r:s3m) (h1:r.1.size≤u0m) (h2:r.2.size≤u0m):t6o r=some (u3s r):=by
 rw[p6r];unfold q2a u3s
 simp only[t8p _ h1,t8p _ h2,zOb]
 cases u7b r.1<;>cases u7b r.2<;>rfl
theorem t5j (s:Hs):z7o s (⟨#[]⟩:Hs)=decide (s.size=0):=by
 rw[Cd,y7f,Ar]
 constructor
 ·intro h;subst h;rfl
 ·intro h;exact Gf (Fi h)
theorem d4o (s:Hs):decide ((s.size:Int)≤12)=decide (s.size≤12):=by simp;omega
theorem o2p (w:WrT) (h1:w.1.size≤u0m):s88 w=some (u3t w):=by
 rw[p6e];unfold q1x u3t
 simp only[s4y _ h1,zOb,t5j,d4o]
 cases u7b w.1<;>cases decide (w.2.1.size≤12)<;>cases w.2.2<;>rfl
theorem r7a (w:WrT) (h1:w.1.size≤u0m):t6p w=some (u3t w):=by
 rw[p60];unfold q2j u3t
 simp only[t8p _ h1,zOb,t5j,d4o]
 cases u7b w.1<;>cases decide (w.2.1.size≤12)<;>cases w.2.2<;>rfl
theorem p82 {l:Hu WrT} {w:WrT} (h:w∈l):w.1.size≤(Ty.sl u2i).wt l∧w.2.1.size≤(Ty.sl u2i).wt l:=by
 have h1:(Ty.sl u2i).wt l=l.length+(l.map u2i.wt).sum:=rfl
 have h2:=p83 (f:=u2i.wt) h
 have h3:u2i.wt w=w.1.size+(w.2.1.size+0):=rfl
 omega
theorem p8m {l:Hu s3m} {w:s3m} (h:w∈l):w.1.size≤(Ty.sl t3b).wt l∧w.2.size≤(Ty.sl t3b).wt l:=by
 have h1:(Ty.sl t3b).wt l=l.length+(l.map t3b.wt).sum:=rfl
 have h2:=p83 (f:=t3b.wt) h
 have h3:t3b.wt w=w.1.size+w.2.size:=rfl
 omega
theorem s0k {t:Ty} (l:Hu t.den):l.length≤(Ty.sl t).wt l:=by
 have h1:(Ty.sl t).wt l=l.length+(l.map t.wt).sum:=rfl
 omega
theorem le8 (n:Nat):decide ((n:Int)≤8)=decide (n≤8):=by simp;omega
theorem gt8 (n:Nat):decide ((n:Int) >8)= !decide (n≤8):=by by_cases h:n≤8<;>simp[h] <;>omega
theorem p9m (l:Hu WrT) (hl:(Ty.sl u2i).wt l≤u0m):s56 l=some (u6b l):=by
 have hb:u0m=1099511627776:=rfl
 have hn:=s0k (t:=u2i) l
 have L:=t3r t5b l.length (fun i=>(l,l,(l.length:Int),i)) (fun i=>u3t (rdL u2i l i)&&(decide (i=0) || (fun a b:WrT=>y3c a.1 b.1) (rdL u2i l (i - 1)) (rdL u2i l i))) (.inl l) (.inr false)
  (by rw[r1n];simp only[t4n,u0b,Am,Ah,Aa])
  (fun i hi=>by
   have hm:rdL u2i l i∈l:=by rw[y8k hi];exact Ag hi
   rw[r1n];simp only[t4n,u0b,hi,Ae,Ad,y7t hi,zTn,y7l (show i<4611686018427387904 by omega),o2p _ (A9 (p82 hm).1 hl),zOb,s1s]
   by_cases h0:i=0
   ·subst h0;simp only[Ae,Ap,Aa,Dx,Cz]
    cases u3t (rdL u2i l 0)<;>rfl
   ·simp only[h0,Ah,Bh,Ad,Ci,t6w (show i<4611686018427387904 by omega) h0,y7t (show i - 1<l.length by omega),zTn]
    cases u3t (rdL u2i l i)
    ·rfl
    ·simp only[Ap,Aa,zOb,Bz]
     cases y3c (rdL u2i l (i - 1)).1 (rdL u2i l i).1<;>rfl)
 rw[s8y (t:=u2i) l u3t (fun a b=>y3c a.1 b.1)] at L
 rw[p3c];unfold r7n
 simp only[L,zOb]
 unfold u6b
 cases l.all u3t
 ·rfl
 ·cases p5t u2i (fun a b=>y3c a.1 b.1) l
  ·rfl
  ·simp only[Bz,Ad]
   rw[le8]
theorem q5a (l:Hu WrT) (hl:(Ty.sl u2i).wt l≤u0m):t96 l=some (u6b l):=by
 have hb:u0m=1099511627776:=rfl
 have hn:=s0k (t:=u2i) l
 have L:=t3r t5i l.length (fun i=>(l,i)) (fun i=>u3t (rdL u2i l i)&&(decide (i=0) || (fun a b:WrT=>y3c a.1 b.1) (rdL u2i l (i - 1)) (rdL u2i l i))) (.inl l) (.inr false)
  (by rw[r2b];simp only[t42,u0b,Am,Ah,Aa])
  (fun i hi=>by
   have hm:rdL u2i l i∈l:=by rw[y8k hi];exact Ag hi
   rw[r2b];simp only[t42,u0b,hi,Ae,Ad,y7t hi,zTn,y7l (show i<4611686018427387904 by omega),r7a _ (A9 (p82 hm).1 hl),zOb,s1s]
   by_cases h0:i=0
   ·subst h0;simp only[Ae,Ap,Aa,Dx,Cz]
    cases u3t (rdL u2i l 0)<;>rfl
   ·simp only[h0,Ah,Bh,Ad,Ci,t6w (show i<4611686018427387904 by omega) h0,y7t (show i - 1<l.length by omega),zTn]
    cases u3t (rdL u2i l i)
    ·rfl
    ·simp only[Ap,Aa,zOb,Bz]
     cases y3c (rdL u2i l (i - 1)).1 (rdL u2i l i).1<;>rfl)
 rw[s8y (t:=u2i) l u3t (fun a b=>y3c a.1 b.1)] at L
 rw[p3z];unfold r8c
 simp only[L,zOb]
 unfold u6b
 cases l.all u3t
 ·rfl
 ·cases p5t u2i (fun a b=>y3c a.1 b.1) l
  ·rfl
  ·simp only[Bz,Ad]
   rw[le8]
theorem j1z (t:u0c):u0q.wt t=0+(0+(0+(0+((Ty.sl t3b).wt t.2.2.2.2.1+((Ty.sl u2i).wt t.2.2.2.2.2.1+(0+t.2.2.2.2.2.2.2.size)))))):=rfl
theorem s40 (t:u0c) (ht:u0q.wt t≤u0m):u8f t=some (u7k t):=by
 have hb:u0m=1099511627776:=rfl
 have hw:=j1z t
 have hn:=s0k (t:=t3b) t.2.2.2.2.1
 have L:=t3r s1k t.2.2.2.2.1.length (fun i=>(t,t.2.2.2.2.1,(t.2.2.2.2.1.length:Int),i)) (fun i=>u3s (rdL t3b t.2.2.2.2.1 i)) (.inl t) (.inr false)
  (by rw[q32];simp only[s1b,u0b,Am,Ah,Aa])
  (fun i hi=>by
   have hm:rdL t3b t.2.2.2.2.1 i∈t.2.2.2.2.1:=by rw[y8k hi];exact Ag hi
   have hz:=p8m hm
   rw[q32];simp only[s1b,u0b,hi,Ae,Ad,y7t hi,zTn,y7l (show i<4611686018427387904 by omega),o2h (rdL t3b t.2.2.2.2.1 i) (A9 hz.1 (by omega)) (A9 hz.2 (by omega)),zOb]
   cases u3s (rdL t3b t.2.2.2.2.1 i)<;>rfl)
 rw[s2b (t:=t3b) t.2.2.2.2.1 u3s] at L
 rw[o26];unfold q9n
 have k1:=p9m t.2.2.2.2.2.1 (by omega)
 have k2:=s4y t.2.2.2.2.2.2.2 (by omega)
 simp only[L,zOb]
 unfold u7k
 cases t.2.2.2.2.1.all u3s
 ·simp only[Aa,Fx,Fy]
 ·simp only[Ad,q0y,k1,k2,zOb,t5j,gt8,Bz]
  cases h3:inB t.2.2.1 0 9999
  ·cases inB t.1 1 9999<;>cases inB t.2.1 1 3<;>simp
  ·have h3' :=q8v.mp h3
   rw[y4y (n:=t.2.2.1+1) (by omega) (by omega)]
   cases inB t.1 1 9999<;>cases inB t.2.1 1 3<;>cases decide (t.2.2.2.2.1.length≤8)<;>cases u6b t.2.2.2.2.2.1<;>simp
   generalize inB t.2.2.2.1 (t.2.2.1+1) 9999=b1
   generalize u7b t.2.2.2.2.2.2.2=b2
   by_cases e3:t.2.1=3
   ·cases t.2.2.2.2.2.2.1<;>cases b1<;>simp[e3]
   ·by_cases e2:t.2.1=2
    ·cases t.2.2.2.2.2.2.1<;>cases b2<;>by_cases e5:t.2.2.2.1=0<;>simp[e2,e5]
    ·by_cases e1:t.2.1=1<;>cases t.2.2.2.2.2.2.1<;>by_cases e5:t.2.2.2.1=0<;>simp[e1,e2,e3,e5]
theorem t8s (t:u0c) (ht:u0q.wt t≤u0m):u66 t=some (u7k t):=by
 have hb:u0m=1099511627776:=rfl
 have hw:=j1z t
 have hn:=s0k (t:=t3b) t.2.2.2.2.1
 have L:=t3r s1o t.2.2.2.2.1.length (fun i=>(t,i)) (fun i=>u3s (rdL t3b t.2.2.2.2.1 i)) (.inl t) (.inr false)
  (by rw[q37];simp only[s1g,u0b,Am,Ah,Aa])
  (fun i hi=>by
   have hm:rdL t3b t.2.2.2.2.1 i∈t.2.2.2.2.1:=by rw[y8k hi];exact Ag hi
   have hz:=p8m hm
   rw[q37];simp only[s1g,u0b,hi,Ae,Ad,y7t hi,zTn,y7l (show i<4611686018427387904 by omega),r62 (rdL t3b t.2.2.2.2.1 i) (A9 hz.1 (by omega)) (A9 hz.2 (by omega)),zOb]
   cases u3s (rdL t3b t.2.2.2.2.1 i)<;>rfl)
 rw[s2b (t:=t3b) t.2.2.2.2.1 u3s] at L
 rw[o3g];unfold q9w
 have k1:=q5a t.2.2.2.2.2.1 (by omega)
 have k2:=t8p t.2.2.2.2.2.2.2 (by omega)
 simp only[L,r0h,k1,k2,zOb,t5j,gt8]
 unfold u7k
 cases t.2.2.2.2.1.all u3s
 ·cases inB t.1 1 9999<;>cases inB t.2.1 1 3<;>cases inB t.2.2.1 0 9999<;>cases decide (t.2.2.2.2.1.length≤8)<;>cases u6b t.2.2.2.2.2.1<;>simp
 ·simp only[Ad,Bz,r0h,k2,zOb,t5j]
  cases h3:inB t.2.2.1 0 9999
  ·cases inB t.1 1 9999<;>cases inB t.2.1 1 3<;>simp
  ·have h3' :=q8v.mp h3
   rw[y4y (n:=t.2.2.1+1) (by omega) (by omega)]
   cases inB t.1 1 9999<;>cases inB t.2.1 1 3<;>cases decide (t.2.2.2.2.1.length≤8)<;>cases u6b t.2.2.2.2.2.1<;>try rfl
   generalize decide (t.2.2.2.2.2.2.2.size=0)=b4
   generalize inB t.2.2.2.1 (t.2.2.1+1) 9999=b1
   generalize u7b t.2.2.2.2.2.2.2=b2
   by_cases e3:t.2.1=3
   ·cases t.2.2.2.2.2.2.1<;>cases b1<;>cases b4<;>simp[e3]
   ·by_cases e2:t.2.1=2
    ·cases t.2.2.2.2.2.2.1<;>cases b2<;>by_cases e5:t.2.2.2.1=0<;>simp[e2,e5]
    ·by_cases e1:t.2.1=1<;>cases t.2.2.2.2.2.2.1<;>cases b4<;>by_cases e5:t.2.2.2.1=0<;>simp[e1,e2,e3,e5]
end
section
def d49 (w:u2i.den):Prop:=w.1.size≤4∧w.2.1.size≤13
def d48 (n:Nat) (t:u0q.den):Prop:=t.2.2.2.2.1.length≤n∧(∀r∈t.2.2.2.2.1,r.1.size≤2∧r.2.size≤2)∧t.2.2.2.2.2.1.length≤n∧(∀r∈t.2.2.2.2.2.1,d49 r)∧t.2.2.2.2.2.2.2.size≤16
end
section
theorem o7r {l:Hu u2b} {w:u2b} (h:w∈l):w.1.size≤(Ty.sl u0d).wt l∧w.2.1.size≤(Ty.sl u0d).wt l:=by
 have h1:(Ty.sl u0d).wt l=l.length+(l.map u0d.wt).sum:=rfl
 have h2:=p83 (f:=u0d.wt) h
 have h3:u0d.wt w=w.1.size+(w.2.1.size+(0+0)):=rfl
 omega
theorem j93 (n:Nat):decide ((n:Int) >12)= !decide (n≤12):=by by_cases h:n≤12<;>simp[h] <;>omega
theorem j8h (n:Nat):decide ((n:Int)≤120)=decide (n≤120):=by simp;omega
theorem q95 (a b:Int):decide (a≥b)= !decide (a<b):=by
 by_cases h:a<b
 ·have: ¬a≥b:=by omega
  simp[h,this]
 ·have:a≥b:=by omega
  simp[h,this]
theorem q64 (a b:Int):decide (a >b)= !decide (a≤b):=by
 by_cases h:a≤b
 ·have: ¬a >b:=by omega
  simp[h,this]
 ·have:a >b:=by omega
  simp[h,this]
theorem j53 (a b:u2b):∃r,u5t (a,b)=some r∧decide (r≥0)= !s8d a b:=by
 rw[s2g];unfold t30 s8d
 simp only[p7s,zOb]
 rcases q4z a.1 b.1 with h | h | h
 ·exact⟨-1,by simp[h],by simp[h]⟩
 ·simp only[h,u7r,y6l,Br,Bk,Bl,Ae,Ap,Aa,o9p,zOb,Ci,Bz]
  refine⟨_,rfl,?_⟩
  by_cases h3:a.2.2.2<b.2.2.2
  ·simp[h3]
  ·by_cases h4:a.2.2.2 >b.2.2.2<;>simp[h3,h4]
 ·have e1:=r3c h
  have e2:z7o a.1 b.1=false:=o6a.mpr (fun e=>by rw[e,u7r] at h;cases h)
  exact⟨1,by simp[e1,e2],by simp[e1,e2]⟩
theorem p2k (l:Hu u2b) (hl:(Ty.sl u0d).wt l≤u0m):s0w l=some (u5i l):=by
 have hb:u0m=1099511627776:=rfl
 have hn:=s0k (t:=u0d) l
 have L:=t3r t0n l.length (fun i=>(l,l,(l.length:Int),i)) (fun i=>r90 (rdL u0d l i)&&(decide (i=0) || s8d (rdL u0d l (i - 1)) (rdL u0d l i))) (.inl l) (.inr false)
  (by rw[s6u];simp only[t0e,u0b,Am,Ah,Aa])
  (fun i hi=>by
   have hm:rdL u0d l i∈l:=by rw[y8k hi];exact Ag hi
   rw[s6u];simp only[t0e,u0b,hi,Ae,Ad,y7t hi,zTn,y7l (show i<4611686018427387904 by omega),s4y _ (A9 (o7r hm).1 hl),q0y,zOb,s1s,t5j,j93]
   unfold r90
   generalize u7b (rdL u0d l i).1=b1
   generalize decide ((rdL u0d l i).2.1.size≤12)=b2
   generalize decide ((rdL u0d l i).2.1.size=0)=b3
   generalize (rdL u0d l i).2.2.1=b4
   generalize inB (rdL u0d l i).2.2.2 1 9999=b5
   by_cases h0:i=0
   ·subst h0;simp only[Ae,Ap,Aa,Dx,Cz]
    cases b1<;>cases b2<;>cases b3<;>cases b4<;>cases b5<;>rfl
   ·obtain⟨r,hr,hr2⟩:=j53 (rdL u0d l (i - 1)) (rdL u0d l i)
    simp only[h0,Ah,Bh,Ad,Ci,t6w (show i<4611686018427387904 by omega) h0,y7t (show i - 1<l.length by omega),zTn,hr,hr2,zOb]
    cases s8d (rdL u0d l (i - 1)) (rdL u0d l i)<;>cases b1<;>cases b2<;>cases b3<;>cases b4<;>cases b5<;>rfl)
 rw[s8y (t:=u0d) l r90 s8d] at L
 rw[q8f];unfold s9w
 simp only[L,zOb]
 unfold u5i
 cases l.all r90
 ·rfl
 ·cases p5t u0d s8d l
  ·rfl
  ·simp only[Bz,Ad]
   rw[j8h]
theorem p2l (l:Hu u2b) (hl:(Ty.sl u0d).wt l≤u0m):s01 l=some (u5i l):=by
 have hb:u0m=1099511627776:=rfl
 have hn:=s0k (t:=u0d) l
 have L:=t3r t0q l.length (fun i=>(l,i)) (fun i=>r90 (rdL u0d l i)&&(decide (i=0) || s8d (rdL u0d l (i - 1)) (rdL u0d l i))) (.inl l) (.inr false)
  (by rw[s6z];simp only[t0j,u0b,Am,Ah,Aa])
  (fun i hi=>by
   have hm:rdL u0d l i∈l:=by rw[y8k hi];exact Ag hi
   rw[s6z];simp only[t0j,u0b,hi,Ae,Ad,y7t hi,zTn,y7l (show i<4611686018427387904 by omega),t8p _ (A9 (o7r hm).1 hl),r0h,zOb,s1s,t5j,j93]
   unfold r90 s8d
   generalize u7b (rdL u0d l i).1=b1
   generalize decide ((rdL u0d l i).2.1.size≤12)=b2
   generalize decide ((rdL u0d l i).2.1.size=0)=b3
   generalize (rdL u0d l i).2.2.1=b4
   generalize inB (rdL u0d l i).2.2.2 1 9999=b5
   by_cases h0:i=0
   ·subst h0;simp only[Ae,Ap,Aa,Dx,Cz]
    cases b1<;>cases b2<;>cases b3<;>cases b4<;>cases b5<;>rfl
   ·simp only[h0,Ah,Bh,Ad,Ci,t6w (show i<4611686018427387904 by omega) h0,y7t (show i - 1<l.length by omega),zTn,zOb]
    rcases q4z (rdL u0d l (i - 1)).1 (rdL u0d l i).1 with h | h | h
    ·have e2:z7o (rdL u0d l (i - 1)).1 (rdL u0d l i).1=false:=o6a.mpr (fun e=>by rw[e,u7r] at h;cases h)
     rw[h,e2]
     cases b1<;>cases b2<;>cases b3<;>cases b4<;>cases b5<;>rfl
    ·rw[h,u7r,y6l]
     rw[q95]
     cases decide ((rdL u0d l (i - 1)).2.2.2<(rdL u0d l i).2.2.2)<;>cases b1<;>cases b2<;>cases b3<;>cases b4<;>cases b5<;>rfl
    ·have e1:=r3c h
     have e2:z7o (rdL u0d l (i - 1)).1 (rdL u0d l i).1=false:=o6a.mpr (fun e=>by rw[e,u7r] at h;cases h)
     rw[e1,e2]
     cases b1<;>cases b2<;>cases b3<;>cases b4<;>cases b5<;>rfl)
 rw[s8y (t:=u0d) l r90 s8d] at L
 rw[q8o];unfold s95
 simp only[L,zOb]
 unfold u5i
 cases l.all r90
 ·rfl
 ·cases p5t u0d s8d l
  ·rfl
  ·simp only[Bz,Ad]
   rw[j8h]
theorem j2s (n:Nat) (hn:n≤1099511627776):t2l ((),(n:Int))=some [] :=by
 rw[r6s];unfold s0g
 have e0:IntKind.i64.wrap ((0:Int) - (0:Int))=0:=by rw[y4y (by omega) (by omega)];rfl
 have e1:IntKind.i64.wrap ((n:Int) - 0)=(n:Int):=by rw[y4y (by omega) (by omega)];omega
 have e2:decide ((n:Int)<0)=false:=A7 (by omega)
 simp only[e0,e1,e2,Aa]
 by_cases h:n=0
 ·subst h;simp
 ·have e3:decide ((n:Int) >0)=true:=by simp;omega
  have e4:(decide ((1:Int)≤(n:Int))&&decide ((n:Int)≤1099511627776))=true:=by simp;omega
  simp only[e3,e4,Ad]
  simp
theorem p7t (ls:Hu (Hu u0c)) (h:ls.flatten.length≤1099511627776) (hn:ls.length≤1099511627776):u3z ls=some ls.flatten:=by
 have fl:∀(i:Nat),i≤ls.length→(ls.take i).flatten.length≤ls.flatten.length:=fun i _=>by
  have:=En i ls
  have h2:ls.flatten=(ls.take i).flatten++(ls.drop i).flatten:=by rw[←Ga,this]
  rw[h2,Ba];omega
 have st:∀(i:Nat) (hi:i<ls.length),(ls.take (i+1)).flatten=(ls.take i).flatten++ls[i] :=fun i hi=>by
  rw[Gm,A4 hi,Ga];simp
 have L1:=s9o u24 ls.length (fun(n:Nat) i=>(ls,(n:Int),ls,(ls.length:Int),i)) (fun _ _=> .inl (ls,(ls.flatten.length:Int))) (fun i n=>n=(ls.take i).flatten.length)
  (fun n hP=>by
   rw[Cq] at hP;subst hP
   rw[t5z];simp only[u45,u0b,Am,Ah,Aa])
  (fun i n hi hP=> .inr ⟨(ls.take (i+1)).flatten.length,rfl,rfl,by
   have h1:=fl (i+1) (by omega)
   have h2:(ls.take (i+1)).flatten.length=n+ls[i].length:=by rw[st i hi,Ba,hP]
   have e1:IntKind.i64.wrap ((n:Int)+((ls[i].length:Nat):Int))=((n+ls[i].length:Nat):Int):=by rw[y4y (by omega) (by omega)];omega
   have e2:decide (((n+ls[i].length:Nat):Int)<0)=false:=by simp;omega
   rw[t5z];simp only[u45,u0b,hi,Ae,Ad,y7t hi,zTn,y8k (t:=Ty.sl u0q) hi,y7l (show i<4611686018427387904 by omega),h2]
   rw[e1,e2];rfl⟩) 0 0 (by omega) rfl
 have L2:=s9o u2u ls.length (fun(a:Hu u0c) i=>(a,ls,(ls.length:Int),i)) (fun _ _=> .inl ls.flatten) (fun i a=>a=(ls.take i).flatten)
  (fun a hP=>by
   rw[Cq] at hP;subst hP
   rw[t4d];simp only[u4h,u0b,Am,Ah,Aa])
  (fun i a hi hP=> .inr ⟨(ls.take (i+1)).flatten,rfl,rfl,by
   have h1:=fl (i+1) (by omega)
   have h2:(ls.take (i+1)).flatten.length=a.length+ls[i].length:=by rw[st i hi,Ba,hP]
   rw[t4d];simp only[u4h,u0b,hi,Ae,Ad,y7t hi,zTn,y8k (t:=Ty.sl u0q) hi,y7l (show i<4611686018427387904 by omega)]
   rw[u0x (show a.length+ls[i].length≤1099511627776 by omega),st i hi,hP];rfl⟩) 0 [] (by omega) rfl
 rw[r0d];unfold t8u
 have L1' :u24 (ls,(0:Int),ls,(ls.length:Int),0)=some (.inl (ls,(ls.flatten.length:Int))):=L1
 have L2' :u2u ([],ls,(ls.length:Int),0)=some (.inl ls.flatten):=L2
 simp only[L1',zOb,j2s _ h,L2']
end
end
end Go.Proofs.YtkdpclfhapphhaaGreat.Ab
