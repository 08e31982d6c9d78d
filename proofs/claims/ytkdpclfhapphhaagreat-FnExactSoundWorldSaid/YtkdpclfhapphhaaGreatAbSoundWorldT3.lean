import Derived.Test.YtkdpclfhapphhaaGreatAbSoundWorldT2
import Derived.Test.YtkdpclfhapphhaaGreatAbK2
import Derived.Test.YtkdpclfhapphhaaGreatAbF4
import Derived.Test.YtkdpclfhapphhaaGreatAbS2
namespace Go.Proofs.YtkdpclfhapphhaaGreat.Ab
open Go
set_option linter.unusedVariables false
set_option linter.unusedSimpArgs false
set_option linter.unnecessarySimpa false
section
section
def o8r (a b:Int):Int:=IntKind.u32.wrap ((BitVec.ofInt IntKind.u32.bits a^^^BitVec.ofInt IntKind.u32.bits b).toNat:Int)
def o4q (x:Int):Int:=bif decide (Int.tmod x 2=1) then o8r (IntKind.u32.wrap (Int.tdiv x 2)) 3558460437 else IntKind.u32.wrap (Int.tdiv x 2)
def q97:Nat→Int→Int
 | 0,x=>x
 | n+1,x=>q97 n (o4q x)
def q98 (x:Int) (b:UInt8):Int:=q97 8 (o8r x (IntKind.u32.wrap (b.toNat:Int)))
def o8a (t:Hs):Int:=t.data.toList.foldl q98 4294967295
def o78 (x:Int) (k:Nat):Int:=IntKind.u8.wrap (Int.fdiv x (2^k))
def j1e (x:Int):Hs:=y7g [o78 x 24,o78 x 16,o78 x 8,IntKind.u8.wrap x]
def q26 (t:Hs):Hs:=t++j1e (o8a t)
def q93 (t:Hs):Hs×Bool:=if t.size≤20000 then(q26 t,true) else(emp,false)
def t25 (t:Hs):Ht Hs:=if 4≤t.size∧t.size - 4≤20000∧q26 (t.extract 0 (t.size - 4))=t then some (t.extract 0 (t.size - 4)) else none
theorem o3w (x:Int):(j1e x).size=4:=u73 _
theorem o2l (t:Hs):(q26 t).size=t.size+4:=by unfold q26;rw[Af,o3w]
theorem q3a {t:Hs} (h:t.size≤20000):t25 (q26 t)=some t:=by
 have hs:=o2l t
 have e:(q26 t).extract 0 ((q26 t).size - 4)=t:=by
  rw[hs,Nat.add_sub_cancel]
  exact ByteArray.extract_append_eq_left rfl
 unfold t25
 rw[e,Al ⟨by omega,by omega,rfl⟩]
abbrev r3o:=Int×u0g×Hs×Bool×u0h
def t37:u0g:=(0,0,0,0, [], [],false,emp)
def u5f:u0h:=([], [], [],0,0)
def noT (t:u0g):Bool:=decide (t.1=0)&&(decide (t.2.1=0)&&(decide (t.2.2.1=0)&&(decide (t.2.2.2.1=0)&&(decide (t.2.2.2.2.1.length=0)&&(decide (t.2.2.2.2.2.1.length=0)&&(!t.2.2.2.2.2.2.1&&decide (t.2.2.2.2.2.2.2.size=0)))))))
def noB (b:u0h):Bool:=decide (b.1.length=0)&&(decide (b.2.1.length=0)&&(decide (b.2.2.1.length=0)&&(decide (b.2.2.2.1=0)&&decide (b.2.2.2.2=0))))
def u55 (r:r3o):Bool:=
 if r.1=1 then u5r r.2.1&&(decide (r.2.1.2.1=3)&&(decide (r.2.2.1.size=0)&&(!r.2.2.2.1&&noB r.2.2.2.2)))
 else if r.1=2 then u5r r.2.1&&(decide (r.2.1.2.1=2)&&(decide (r.2.2.1.size=0)&&(!r.2.2.2.1&&noB r.2.2.2.2)))
 else if r.1=3 then noT r.2.1&&(t9s r.2.2.1&&noB r.2.2.2.2)
 else if r.1=4 then noT r.2.1&&(decide (r.2.2.1.size=0)&&(!r.2.2.2.1&&u6r r.2.2.2.2))
 else false
def q23 (r:r3o):Hs:=y7g [IntKind.u8.wrap r.1] ++(if r.1=3 then u20 r.2.2.1++p9o r.2.2.2.1 else if r.1=4 then t9o r.2.2.2.2 else u78 r.2.1)
def u14 (r:r3o):Hs×Bool:=if u55 r=true then q93 (q23 r) else(emp,false)
theorem o6c {s:Hs} (h:s.size=0):s=emp:=o0j (by
 rw[q0c] at h
 rw[Dk.mp h];rfl)
theorem o39 {t:u0g} :noT t=true↔t=t37:=by
 unfold noT t37
 simp only[Ai,Ar,Bj]
 constructor
 ·rintro⟨h1,h2,h3,h4,h5,h6,h7,h8⟩
  obtain⟨t1,t2,t3,t4,t5,t6,t7,t8⟩:=t
  simp only at h1 h2 h3 h4 h5 h6 h7 h8
  rw[h1,h2,h3,h4,Dk.mp h5,Dk.mp h6,h7,o6c h8]
 ·rintro rfl
  exact⟨rfl,rfl,rfl,rfl,rfl,rfl,rfl,rfl⟩
theorem p9z {b:u0h} :noB b=true↔b=u5f:=by
 unfold noB u5f
 simp only[Ai,Ar]
 constructor
 ·rintro⟨h1,h2,h3,h4,h5⟩
  obtain⟨t1,t2,t3,t4,t5⟩:=b
  simp only at h1 h2 h3 h4 h5
  rw[h4,h5,Dk.mp h1,Dk.mp h2,Dk.mp h3]
 ·rintro rfl
  exact⟨rfl,rfl,rfl,rfl,rfl⟩
inductive RecR:r3o→Prop where
 | thr (t:u0g) (h:TxnR t) (hs:t.2.1=3):RecR (1,t,emp,false,u5f)
 | rdy (t:u0g) (h:TxnR t) (hs:t.2.1=2):RecR (2,t,emp,false,u5f)
 | fin (n:Hs) (y:Bool) (h:t9s n=true):RecR (3,t37,n,y,u5f)
 | bas (b:u0h) (h:BaseR b):RecR (4,t37,emp,false,b)
theorem o68 {r:r3o} :u55 r=true↔RecR r:=by
 obtain⟨k,t,n,y,b⟩:=r
 unfold u55
 simp only
 constructor
 ·intro h
  split at h
  ·rename_i e
   simp only[Ai,Ar,Bj,q29,p9z] at h
   obtain⟨h1,h2,h3,h4,h5⟩:=h
   rw[e,o6c h3,h4,h5];exact .thr t h1 h2
  ·split at h
   ·rename_i _ e
    simp only[Ai,Ar,Bj,q29,p9z] at h
    obtain⟨h1,h2,h3,h4,h5⟩:=h
    rw[e,o6c h3,h4,h5];exact .rdy t h1 h2
   ·split at h
    ·rename_i _ _ e
     simp only[Ai,o39,p9z] at h
     obtain⟨h1,h2,h3⟩:=h
     rw[e,h1,h3];exact .fin n y h2
    ·split at h
     ·rename_i _ _ _ e
      simp only[Ai,Ar,Bj,o39,p25] at h
      obtain⟨h1,h2,h3,h4⟩:=h
      rw[e,h1,o6c h2,h3];exact .bas b h4
     ·cases h
 ·intro h
  cases h with
  | thr t h hs=>simp[q29.mpr h,hs,p9z.mpr rfl,emp,ByteArray.size]
  | rdy t h hs=>simp[q29.mpr h,hs,p9z.mpr rfl,emp,ByteArray.size]
  | fin n y h=>simp[h,p9z.mpr rfl,o39.mpr rfl]
  | bas b h=>simp[p25.mpr h,o39.mpr rfl,emp,ByteArray.size]
theorem s8o {r:r3o} (h:RecR r):2≤(q23 r).size∧(q23 r).size≤10000:=by
 have h1:∀n:Int,(y7g [n]).size=1:=fun n=>u73 _
 cases h with
 | thr t h hs=>
  have:=t7o h
  have q:1≤(u78 t).size:=by
   unfold u78;rw[Af,s3p];have:=q3d t.1.toNat;omega
  show 2≤(y7g _++u78 t).size∧(y7g _++u78 t).size≤10000
  rw[Af,h1];omega
 | rdy t h hs=>
  have:=t7o h
  have q:1≤(u78 t).size:=by
   unfold u78;rw[Af,s3p];have:=q3d t.1.toNat;omega
  show 2≤(y7g _++u78 t).size∧(y7g _++u78 t).size≤10000
  rw[Af,h1];omega
 | fin n y h=>
  have:=u6d h
  have q:=u0p (s:=n) (by omega)
  show 2≤(y7g _++(u20 n++p9o y)).size∧(y7g _++(u20 n++p9o y)).size≤10000
  have:=(p8n n).1
  rw[Af,Af,h1,u2p];omega
 | bas b h=>
  have:=q3v h
  have a1:=(o49.mp h.vs).2.2
  have a2:=h.plen
  have a3:=h.rlen
  have q:1≤(t9o b).size:=by
   unfold t9o;rw[Af,s3p];have:=q3d b.2.2.2.1.toNat;omega
  show 2≤(y7g _++t9o b).size∧(y7g _++t9o b).size≤10000
  rw[Af,h1];omega
theorem s5b {r:r3o} (h:RecR r):u14 r=(q26 (q23 r),true):=by
 unfold u14 q93
 rw[Al (o68.mpr h),Al (by have:=(s8o h).2;omega)]
def j2q:Lim:=⟨9,121,13,4⟩
theorem p9y:j2q.ok:=⟨by decide,by decide,by decide,by decide⟩
def t01 (s:Hs):r3o×Bool:=
 if u57 s 0=3 then((3,t37,(u18 s (1,false)).1,(q3o s (u18 s (1,false)).2).1,u5f),(q3o s (u18 s (1,false)).2).2.2)
 else if u57 s 0=4 then((4,t37,emp,false,(t29 j2q s (1,false)).1),(t29 j2q s (1,false)).2.2)
 else(((u57 s 0:Int),(u5o 9 s (1,false)).1,emp,false,u5f),(u5o 9 s (1,false)).2.2)
def u4k (t:Hs):Ht r3o:=
 match t25 t with
 | none=>none
 | some s=>if s.size=0 then none else if(t01 s).2=true∨u14 (t01 s).1≠(t,true) then none else some (t01 s).1
theorem p4l {k:Nat} (h:k<256) (s:Hs):u57 (y7g [IntKind.u8.wrap (k:Int)] ++s) 0=k:=by
 unfold u57
 rw[q77,q96]
 have:IntKind.u8.wrap (k:Int)=(k:Int):=o6n h
 rw[this]
 show(UInt8.ofNat ((k:Int)).toNat).toNat=k
 rw[zTn]
 simp
 omega
theorem t8i {r:r3o} (h:RecR r):t01 (q23 r)=(r,false):=by
 have st:∀(x:Int) (s:Hs),t3j (y7g [x] ++s) 1 s:=fun x s=>by
  have:=o2m (a:=y7g [x]) (s:=s) (b:=emp)
  rw[p9n,u73] at this
  exact this
 cases h with
 | thr t h hs=>
  have e:q23 (1,t,emp,false,u5f)=y7g [IntKind.u8.wrap ((1:Nat):Int)] ++u78 t:=rfl
  rw[e]
  unfold t01
  rw[p4l (by omega),Ao (by omega),Ao (by omega)]
  have q:=r6f (m:=9) (by omega) h (st (IntKind.u8.wrap ((1:Nat):Int)) (u78 t))
  have q:u5o 9 (y7g [IntKind.u8.wrap ((1:Nat):Int)] ++u78 t) (1,false)=_:=q
  rw[q];rfl
 | rdy t h hs=>
  have e:q23 (2,t,emp,false,u5f)=y7g [IntKind.u8.wrap ((2:Nat):Int)] ++u78 t:=rfl
  rw[e]
  unfold t01
  rw[p4l (by omega),Ao (by omega),Ao (by omega)]
  have q:=r6f (m:=9) (by omega) h (st (IntKind.u8.wrap ((2:Nat):Int)) (u78 t))
  have q:u5o 9 (y7g [IntKind.u8.wrap ((2:Nat):Int)] ++u78 t) (1,false)=_:=q
  rw[q];rfl
 | fin n y h=>
  have e:q23 (3,t37,n,y,u5f)=y7g [IntKind.u8.wrap ((3:Nat):Int)] ++(u20 n++p9o y):=rfl
  rw[e]
  unfold t01
  rw[p4l (by omega),Al rfl]
  obtain⟨k1,k2⟩:=o89.mp (st (IntKind.u8.wrap ((3:Nat):Int)) (u20 n++p9o y))
  have q1:=t6b (by have:=u6d h;omega) k1
  have q1:u18 (y7g [IntKind.u8.wrap ((3:Nat):Int)] ++(u20 n++p9o y)) (1,false)=_:=q1
  rw[q1]
  simp only
  rw[q0n k2]
 | bas b h=>
  have e:q23 (4,t37,emp,false,b)=y7g [IntKind.u8.wrap ((4:Nat):Int)] ++t9o b:=rfl
  rw[e]
  unfold t01
  rw[p4l (by omega),Ao (by omega),Al rfl]
  have q:=p8d p9y h (st (IntKind.u8.wrap ((4:Nat):Int)) (t9o b))
  have q:s8l j2q (y7g [IntKind.u8.wrap ((4:Nat):Int)] ++t9o b) (1,false)=_:=q
  unfold t29
  rw[q]
  simp only[p25.mpr h,Ap,Fp]
theorem p8h {r:r3o} (h:RecR r):u4k (q26 (q23 r))=some r:=by
 have hs:=s8o h
 unfold u4k
 rw[q3a (by omega)]
 simp only
 rw[Ao (by omega),t8i h]
 simp only
 rw[s5b h,Ao (by simp)]
theorem q22 {t:Hs} {r:r3o} (h:u4k t=some r):RecR r∧t=q26 (q23 r):=by
 unfold u4k at h
 split at h
 ·cases h
 ·rename_i s hs
  split at h
  ·cases h
  ·split at h
   ·cases h
   ·rename_i hc
    simp only[Hr,ne_eq,Decidable.not_not] at hc
    have e:=Ds h
    rw[e] at hc
    have hr:u55 r=true:=by
     cases q:u55 r with
     | true=>rfl
     | false=>
      have:=hc.2
      unfold u14 at this
      rw[Ao (by simp[q])] at this
      simp at this
    have hR:=o68.mp hr
    refine⟨hR,?_⟩
    have:=hc.2
    rw[s5b hR] at this
    exact(Dv this).1.symm
def u93 (b:u0h) (r:r3o):Ht u0h:=
 if r.1=1 then(if r.2.1.2.2.2.1=b.2.2.2.1+1 then some (u7i b r.2.1) else none)
 else if r.1=2 then(if b.2.2.1.length<3∧u1g b r.2.1.2.2.2.2.2.2.2<0 then some (s8g b r.2.1 r.2.1.2.2.2.2.2.2.2) else none)
 else if r.1=3 then(if u1g b r.2.2.1<0 then none else if r.2.2.2.1=true then some (u7i b (rdL u0i b.2.2.1 (u1g b r.2.2.1).toNat)) else some (s9u b r.2.2.1))
 else some r.2.2.2.2
def s8j (b:u0h) (r:r3o):Ht u0h:=
 if u6r b=true∧u55 r=true then(match u93 b r with
  | none=>none
  | some x=>if u6r (t7y x [])=true then some (t7y x []) else none)
 else none
def o88:u0h:=([], [], [],0,1)
def r6i:u0h→Hu Hs→Ht u0h
 | b, [] =>some b
 | b,t::l=>match u4k t with
  | none=>none
  | some r=>match s8j b r with
   | none=>none
   | some x=>r6i x l
def q0l (l:Hu Hs):Ht u0h:=r6i o88 l
end
section
theorem j1g (n:Nat):decide ((n:Int)=0)=decide (n=0):=by simp
theorem o54 (t:u0g):s22 t=some (noT t):=by
 rw[q8s];unfold r4v noT
 simp only[j1g,t2v]
 cases decide (t.1=0)<;>cases decide (t.2.1=0)<;>cases decide (t.2.2.1=0)<;>cases decide (t.2.2.2.1=0)<;>cases decide (t.2.2.2.2.1.length=0)<;>cases decide (t.2.2.2.2.2.1.length=0)<;>cases t.2.2.2.2.2.2.1<;>rfl
theorem o55 (t:u0g):t7j t=some (noT t):=by
 rw[q9i];unfold r5m noT
 simp only[j1g,t2v]
 cases decide (t.1=0)<;>cases decide (t.2.1=0)<;>cases decide (t.2.2.1=0)<;>cases decide (t.2.2.2.1=0)<;>cases decide (t.2.2.2.2.1.length=0)<;>cases decide (t.2.2.2.2.2.1.length=0)<;>cases t.2.2.2.2.2.2.1<;>rfl
theorem o51 (b:u0h):s0g b=some (noB b):=by
 rw[q6y];unfold r03 noB
 simp only[j1g]
 cases decide (b.1.length=0)<;>cases decide (b.2.1.length=0)<;>cases decide (b.2.2.1.length=0)<;>cases decide (b.2.2.2.1=0)<;>rfl
theorem o52 (b:u0h):s0l b=some (noB b):=by
 rw[q7f];unfold r1j noB
 simp only[j1g]
 cases decide (b.1.length=0)<;>cases decide (b.2.1.length=0)<;>cases decide (b.2.2.1.length=0)<;>cases decide (b.2.2.2.1=0)<;>cases decide (b.2.2.2.2=0)<;>rfl
theorem r6p (r:r3o):j2k.wt r=0+(u0i.wt r.2.1+(r.2.2.1.size+(0+p0w.wt r.2.2.2.2))):=rfl
theorem q0z (r:r3o) (hw:j2k.wt r≤549755813888):t68 r=some (u55 r):=by
 have hb:u0e=1099511627776:=rfl
 have hr:=r6p r
 have k1:=s1x r.2.1 (by omega)
 have k2:=u8k r.2.2.2.2 (by omega)
 have k3:=s1v r.2.2.1 (by omega)
 rw[q8k];unfold r4o
 rw[o54,o51]
 simp only[k1,k2,k3,q0k,q56,zOb,t2v]
 unfold u55
 generalize u5r r.2.1=c1
 generalize u6r r.2.2.2.2=c2
 generalize t9s r.2.2.1=c3
 generalize noT r.2.1=c4
 generalize noB r.2.2.2.2=c5
 generalize decide (r.2.2.1.size=0)=c6
 generalize decide (r.2.1.2.1=3)=c7
 generalize decide (r.2.1.2.1=2)=c8
 generalize r.2.2.2.1=c9
 by_cases h1:r.1=1
 ·simp only[h1,Ae,Ad,Bl]
  cases c1<;>cases c5<;>cases c6<;>cases c7<;>cases c9<;>rfl
 ·by_cases h2:r.1=2
  ·simp only[h2,Ae,Ad,Bl]
   cases c1<;>cases c5<;>cases c6<;>cases c8<;>cases c9<;>rfl
  ·by_cases h3:r.1=3
   ·simp only[h3,Ae,Ad,Bl]
    cases c3<;>cases c4<;>cases c5<;>cases c9<;>rfl
   ·by_cases h4:r.1=4
    ·simp only[h4,Ae,Ad,Bl]
     cases c2<;>cases c4<;>cases c6<;>cases c9<;>rfl
    ·simp only[h1,h2,h3,h4,Ah,Aa,Bk]
theorem q00 (r:r3o) (hw:j2k.wt r≤549755813888):t7f r=some (u55 r):=by
 have hb:u0e=1099511627776:=rfl
 have hr:=r6p r
 have k1:=s1y r.2.1 (by omega)
 have k2:=t7z r.2.2.2.2 (by omega)
 have k3:=s1w r.2.2.1 (by omega)
 rw[q9c];unfold r5f
 simp only[k1,k2,k3,s7j,o55,o52,zOb,t2v]
 unfold u55
 generalize u5r r.2.1=c1
 generalize u6r r.2.2.2.2=c2
 generalize t9s r.2.2.1=c3
 generalize noT r.2.1=c4
 generalize noB r.2.2.2.2=c5
 generalize decide (r.2.2.1.size=0)=c6
 generalize r.2.2.2.1=c9
 by_cases h1:r.1=1
 ·simp only[h1,show inB 1 1 4=true from rfl,Ae,Ad,Bl]
  generalize decide (r.2.1.2.1=3)=c7
  generalize decide (r.2.1.2.1=2)=c8
  cases c1<;>cases c5<;>cases c6<;>cases c7<;>cases c8<;>cases c9<;>rfl
 ·by_cases h2:r.1=2
  ·simp only[h2,show inB 2 1 4=true from rfl,Ae,Ad,Bl]
   generalize decide (r.2.1.2.1=3)=c7
   generalize decide (r.2.1.2.1=2)=c8
   cases c1<;>cases c5<;>cases c6<;>cases c7<;>cases c8<;>cases c9<;>rfl
  ·by_cases h3:r.1=3
   ·simp only[h3,show inB 3 1 4=true from rfl,Ae,Ad,Bl]
    cases c3<;>cases c4<;>cases c5<;>cases c9<;>rfl
   ·by_cases h4:r.1=4
    ·simp only[h4,show inB 4 1 4=true from rfl,Ae,Ad,Bl]
     cases c2<;>cases c4<;>cases c6<;>cases c9<;>rfl
    ·have:inB r.1 1 4=false:=by
      cases h:inB r.1 1 4
      ·rfl
      ·have:=q9n.mp h;omega
     simp only[h1,h2,h3,h4,this,Ah,Aa,Bk,Bh,Ad]
end
section
theorem r9g {α:Type} {P:Prop} [Decidable P] {a b:α} (h:P):(bif decide P then a else b)=a:=by rw[Bb h];rfl
theorem q3n {α:Type} {n:Nat} {a b:α} (h:n≤1099511627776):(bif Nat.ble n z7w then a else b)=a:=by rw[u0m h];rfl
theorem u5e {n:Int} (h0:0≤n) (h1:n≤1000000000):u1r n=some (r6w n):=by
 obtain⟨m,rfl⟩:∃m:Nat,n=m:=⟨n.toNat,by omega⟩
 rw[p71 m (by omega)];rfl
theorem o0c {n:Int} (h0:0≤n) (h1:n≤1000000000):t0a n=some (r6w n,true):=by
 rw[r4d,Al ⟨h0,h1⟩];rfl
theorem t5y {s:Hs} (h:s.size≤10000):u2u s=some (u20 s):=by
 rw[q9h];unfold r5l
 rw[u5e (by omega) (by omega)]
 simp only[zOb]
 have:=u1m (n:=(s.size:Int)) (by omega)
 rw[r9g (by omega)];rfl
theorem o1v {s:Hs} (h:s.size≤10000):t5l s=some (u20 s,true):=by
 rw[p6y s (by omega),Ao (by omega)]
theorem q7l (b:Bool):t24 b=some (p9o b):=by
 rw[p5v];unfold q2b
 cases b<;>rfl
theorem q21 {r:p20} (h:r.1.size≤100∧r.2.size≤100):(p8z r).size≤204:=by
 have q1:=u0p (s:=r.1) (by omega)
 have q2:=u0p (s:=r.2) (by omega)
 unfold p8z;rw[Af];omega
theorem t81 {E:Type} (f:E→Hs) (l:Hu E) (s:Hs):l.foldl (fun s x=>s++f x) s=s++r3q f l:=q2f f l s
theorem t9m (t:u0g) (ht:u0i.wt t≤549755813888):t0c t=some (if u5r t=true then(u78 t,true) else(emp,false)):=by
 have hb:u0e=1099511627776:=rfl
 rw[p2a];unfold r83
 rw[s1y t (by omega)]
 simp only[zOb]
 cases hc:u5r t
 ·rfl
 ·have h:=q29.mp hc
  obtain⟨z1,z2,z3,z4,z5⟩:=h.small
  have hi:=h.id;have hst:=h.st;have hsn:=h.snap;have hrl:=h.rlen
  have v1:=u1m (n:=t.1) (by omega)
  have v2:=u1m (n:=t.2.1) (by omega)
  have v3:=u1m (n:=t.2.2.1) (by omega)
  have v4:=u1m (n:=t.2.2.2.1) (by omega)
  have v5:=u1m (n:=(t.2.2.2.2.1.length:Int)) (by omega)
  have v6:=u1m (n:=(t.2.2.2.2.2.1.length:Int)) (by omega)
  have v7:=u0p (s:=t.2.2.2.2.2.2.2) (by omega)
  have L1:∀A:Hs,A.size≤1000→u9t (t,A,0)=some (.inl (t,A++r3q p8z t.2.2.2.2.1)):=fun A hA=>by
   have:=u61 u9t t.2.2.2.2.1 (fun(A:Hs) i=>(t,A,i)) (fun A r=>A++p8z r) (fun A=> .inl (t,A)) (fun i A=>A.size≤1000+i*204)
    (fun A _=>by rw[r3j];simp only[t4y,u0b,Am,Ah,Aa])
    (fun i hi A hP=>by
     have hr:=z1 _ (Ag hi)
     have hs:=q21 (r:=t.2.2.2.2.1[i]) (by omega)
     have hs' :=hs
     unfold p8z at hs'
     rw[Af] at hs'
     refine⟨by rw[Af,C7];omega,?_⟩
     rw[r3j];simp only[t4y,u0b,hi,Ae,Ad,y7t hi,zTn,y8k (t:=u1u) hi,y7l (show i<4611686018427387904 by omega)]
     rw[t5y (by omega),t5y (by omega)]
     simp only[zOb]
     rw[r9g (by omega),r9g (by rw[Af];omega),u7g];rfl) A (by omega)
   rw[t81] at this
   exact this
  have L2:∀A:Hs,A.size≤10000→u7u (t,A,0)=some (.inl (t,A++r3q wrT t.2.2.2.2.2.1)):=fun A hA=>by
   have:=u61 u7u t.2.2.2.2.2.1 (fun(A:Hs) i=>(t,A,i)) (fun A r=>A++wrT r) (fun A=> .inl (t,A)) (fun i A=>A.size≤10000+i*304)
    (fun A _=>by rw[s9c];simp only[t2a,u0b,Am,Ah,Aa])
    (fun i hi A hP=>by
     have hr:=z2 _ (Ag hi)
     have q1:=u0p (s:=(t.2.2.2.2.2.1[i]).1) (by omega)
     have q2:=u0p (s:=(t.2.2.2.2.2.1[i]).2.1) (by omega)
     have q3:=u2p (t.2.2.2.2.2.1[i]).2.2
     refine⟨by unfold wrT;simp only[Af,C7];omega,?_⟩
     rw[s9c];simp only[t2a,u0b,hi,Ae,Ad,y7t hi,zTn,y8k (t:=u0o) hi,y7l (show i<4611686018427387904 by omega)]
     rw[t5y (by omega),t5y (by omega),q7l]
     simp only[zOb]
     rw[r9g (by omega),r9g (by rw[Af];omega),r9g (by simp only[Af];omega),u7g,u7g];rfl) A (by omega)
   rw[t81] at this
   exact this
  have n1:(r3q p8z t.2.2.2.2.1).size≤t.2.2.2.2.1.length*204:=t64 fun r hr=>q21 (by have:=z1 r hr;omega)
  have n2:(r3q wrT t.2.2.2.2.2.1).size≤t.2.2.2.2.2.1.length*304:=t64 fun w hw=>by
   have:=z2 w hw
   have q1:=u0p (s:=w.1) (by omega)
   have q2:=u0p (s:=w.2.1) (by omega)
   unfold wrT;rw[Af,Af,u2p];omega
  simp only[Ap,Aa,Bl]
  rw[u5e (n:=t.1) (by omega) (by omega),u5e (n:=t.2.1) (by omega) (by omega),u5e (n:=t.2.2.1) (by omega) (by omega),u5e (n:=t.2.2.2.1) (by omega) (by omega),u5e (n:=(t.2.2.2.2.1.length:Int)) (by omega) (by omega)]
  simp only[zOb]
  rw[r9g (by omega),r9g (by simp only[Af];omega),r9g (by simp only[Af];omega),r9g (by simp only[Af];omega),L1 _ (by simp only[Af];omega)]
  simp only[zOb]
  rw[u5e (n:=(t.2.2.2.2.2.1.length:Int)) (by omega) (by omega)]
  simp only[zOb]
  rw[r9g (by simp only[Af];omega),L2 _ (by simp only[Af];omega)]
  simp only[zOb]
  rw[q7l,t5y (by omega)]
  simp only[zOb]
  rw[r9g (by simp only[Af,u2p];omega),r9g (by simp only[Af,u2p];omega)]
  unfold u78
  simp only[u7g]
theorem o4z {l:Hu u0g} {t:u0g} (h:t∈l) (hl:(Ty.sl u0i).wt l≤549755813888):u0i.wt t≤549755813888:=A9 (r6u h) hl
theorem p65 (l:Hu u0g) (hl:(Ty.sl u0i).wt l≤549755813888) (hn:l.length≤10000) (h:∀t∈l,TxnR t):t9j l=some (s8q l):=by
 have v1:=u1m (n:=(l.length:Int)) (by omega)
 have L:u9v (l,r6w (l.length:Int),0)=some (.inl (r6w (l.length:Int)++r3q u78 l)):=by
  have:=u61 u9v l (fun(A:Hs) i=>(l,A,i)) (fun A r=>A++u78 r) (fun A=> .inl A) (fun i A=>A.size≤2+i*300)
   (fun A _=>by rw[r3n];simp only[t42,u0b,Am,Ah,Aa])
   (fun i hi A hP=>by
    have hm:=Ag hi
    have hr:=t7o (h _ hm)
    refine⟨by rw[Af,C7];omega,?_⟩
    rw[r3n];simp only[t42,u0b,hi,Ae,Ad,y7t hi,zTn,y8k (t:=u0i) hi,y7l (show i<4611686018427387904 by omega)]
    rw[t9m _ (o4z hm hl),Al (q29.mpr (h _ hm))]
    simp only[zOb]
    rw[r9g (by omega)]) (r6w (l.length:Int)) (by omega)
  rw[t81] at this
  exact this
 rw[p2j];unfold r9d
 rw[u5e (by omega) (by omega)]
 simp only[zOb]
 rw[L];rfl
theorem p35 (b:u0h) (hw:p0w.wt b≤549755813888):s3f b=some (if u6r b=true then(t9o b,true) else(emp,false)):=by
 have hbw:=s9r b
 rw[q85];unfold r48
 rw[t7z b hw]
 simp only[zOb]
 cases hc:u6r b
 ·rfl
 ·have h:=p25.mp hc
  obtain⟨w1,w2,w3⟩:=o49.mp h.vs
  have hcs:=h.cs;have hx:=h.next;have hp:=h.plen;have hr:=h.rlen
  have q1:=u1m (n:=b.2.2.2.1) (by omega)
  have q2:=u1m (n:=b.2.2.2.2) (by omega)
  have q3:=u1m (n:=(b.1.length:Int)) (by omega)
  have q4:=t64 (f:=p8t) (k:=22) (l:=b.1) (fun v hv=>q3e (w1 v hv))
  have q5:=s1z (l:=b.2.1) (by omega) (fun t ht=>(h.past t ht).1)
  have q6:=s1z (l:=b.2.2.1) (by omega) (fun t ht=>(h.ready t ht).1)
  have L:∀A:Hs,A.size≤1000→u7q (b,A,0)=some (.inl (b,A++r3q p8t b.1)):=fun A hA=>by
   have:=u61 u7q b.1 (fun(A:Hs) i=>(b,A,i)) (fun A r=>A++p8t r) (fun A=> .inl (b,A)) (fun i A=>A.size≤1000+i*22)
    (fun A _=>by rw[s82];simp only[t1z,u0b,Am,Ah,Aa])
    (fun i hi A hP=>by
     have hm:=w1 _ (Ag hi)
     have hr:=q3e hm
     have hv:=s3q hm
     have s1:=u0p (s:=(b.1[i]).1) (by omega)
     have s2:=u0p (s:=(b.1[i]).2.1) (by omega)
     have s3:=u2p (b.1[i]).2.2.1
     have s4:=u1m (n:=(b.1[i]).2.2.2) (by omega)
     refine⟨by rw[Af,C7];omega,?_⟩
     rw[s82];simp only[t1z,u0b,hi,Ae,Ad,y7t hi,zTn,y8k (t:=u0c) hi,y7l (show i<4611686018427387904 by omega)]
     rw[t5y (by omega),t5y (by omega),q7l,u5e (by omega) (by omega)]
     simp only[zOb]
     rw[r9g (by omega),r9g (by simp only[Af];omega),r9g (by simp only[Af];omega),r9g (by simp only[Af];omega)]
     unfold p8t
     simp only[u7g]) A (by omega)
   rw[t81] at this
   exact this
  simp only[Ap,Aa,Bl]
  rw[u5e (n:=b.2.2.2.1) (by omega) (by omega),u5e (n:=b.2.2.2.2) (by omega) (by omega),u5e (n:=(b.1.length:Int)) (by omega) (by omega)]
  simp only[zOb]
  rw[r9g (by omega),r9g (by simp only[Af];omega),L _ (by simp only[Af];omega)]
  simp only[zOb]
  rw[p65 b.2.1 (by omega) (by omega) (fun t ht=>(h.past t ht).1),p65 b.2.2.1 (by omega) (by omega) (fun t ht=>(h.ready t ht).1)]
  simp only[zOb]
  rw[r9g (by simp only[Af];omega),r9g (by simp only[Af];omega)]
  unfold t9o
  simp only[u7g]
end
section
theorem s2r (A:Hs) (ns:Hu Int) (hn:∀n∈ns,0≤n∧n<16384) (hl:ns.length≤10) (hA:A.size≤1000000):u4x (z7t A,ns)=some (z7t (A++r3q r6w ns)):=by
 have:=u61 t2m ns (fun(A:Hs) i=>(z7t A,ns,(ns.length:Int),i)) (fun A n=>A++r6w n) (fun A=> .inl (z7t A)) (fun i A=>A.size≤1000000+i*2)
  (fun A _=>by rw[s81];simp only[t1y,u0b,Am,Ah,Aa])
  (fun i hi A hP=>by
   have hm:=hn _ (Ag hi)
   have hv:=u1m (n:=ns[i]) hm.2
   refine⟨by rw[Af,C7];omega,?_⟩
   rw[s81];simp only[t1y,u0b,hi,Ae,Ad,y7t hi,zTn,y8k (t:=Ty.int .i64) hi,y7l (show i<4611686018427387904 by omega)]
   rw[o0c hm.1 (by omega)]
   simp only[zOb]
   rw[q3n (by rw[u6c,u6c];omega),t56]) A (by omega)
 rw[t81] at this
 rw[q8t];unfold r4w
 simp only
 rw[this];rfl
theorem t90 (A:Hs) (ns:Hu Hs) (hn:∀n∈ns,n.size≤100) (hl:ns.length≤10) (hA:A.size≤1000000):u5d (z7t A,ns)=some (z7t (A++r3q u20 ns)):=by
 have:=u61 t0u ns (fun(A:Hs) i=>(z7t A,ns,(ns.length:Int),i)) (fun A n=>A++u20 n) (fun A=> .inl (z7t A)) (fun i A=>A.size≤1000000+i*102)
  (fun A _=>by rw[s5k];simp only[t0m,u0b,Am,Ah,Aa])
  (fun i hi A hP=>by
   have hm:=hn _ (Ag hi)
   have hv:=u0p (s:=ns[i]) (by omega)
   refine⟨by rw[Af,C7];omega,?_⟩
   rw[s5k];simp only[t0m,u0b,hi,Ae,Ad,y7t hi,zTn,y8k (t:=Ty.str) hi,y7l (show i<4611686018427387904 by omega)]
   rw[o1v (by omega)]
   simp only[zOb]
   rw[q3n (by rw[u6c,u6c];omega),t56]) A (by omega)
 rw[t81] at this
 rw[q62];unfold r07
 simp only
 rw[this];rfl
theorem s4v (A:Hs) (b:Bool) (hA:A.size≤1000000):u6g (z7t A,b)=some (z7t (A++p9o b)):=by
 rw[q61];unfold r06
 have e:z7t (p9o b)= [if b then 1 else 0] :=by cases b<;>rfl
 rw[t56,e]
 cases b
 ·simp only[Aa]
  rw[q3n (by rw[u6c];simp;omega)];rfl
 ·simp only[Ad]
  rw[q3n (by rw[u6c];simp;omega)];rfl
theorem q59 (ns:Hu Int) (hn:∀n∈ns,0≤n∧n<16384) (hl:ns.length≤10):u4x (([] :Hu Int),ns)=some (z7t (r3q r6w ns)):=by
 have:=s2r emp ns hn hl (by simp[emp,ByteArray.size])
 rw[p9q] at this
 exact this
theorem s9s {E:Type} (f:E→Hs) (a:E):r3q f [a] =f a:=by rw[s2b,p4m,p9n]
theorem q7o {E:Type} (f:E→Hs) (a b:E):r3q f [a,b] =f a++f b:=by rw[s2b,s9s]
theorem p26 {E:Type} (f:E→Hs) (a b c:E):r3q f [a,b,c] =f a++(f b++f c):=by rw[s2b,q7o]
theorem o3o {E:Type} (f:E→Hs) (a b c d e:E):r3q f [a,b,c,d,e] =f a++(f b++(f c++(f d++f e))):=by rw[s2b,s2b,p26]
theorem t9l (t:u0g) (ht:u0i.wt t≤549755813888):u99 t=some (if u5r t=true then(u78 t,true) else(emp,false)):=by
 have hb:u0e=1099511627776:=rfl
 rw[p1e];unfold r8a
 rw[s1x t (by omega)]
 simp only[zOb]
 cases hc:u5r t
 ·rfl
 ·have h:=q29.mp hc
  obtain⟨z1,z2,z3,z4,z5⟩:=h.small
  have hi:=h.id;have hst:=h.st;have hsn:=h.snap;have hrl:=h.rlen
  have v1:=u1m (n:=t.1) (by omega)
  have v2:=u1m (n:=t.2.1) (by omega)
  have v3:=u1m (n:=t.2.2.1) (by omega)
  have v4:=u1m (n:=t.2.2.2.1) (by omega)
  have v5:=u1m (n:=(t.2.2.2.2.1.length:Int)) (by omega)
  have v6:=u1m (n:=(t.2.2.2.2.2.1.length:Int)) (by omega)
  have v7:=u0p (s:=t.2.2.2.2.2.2.2) (by omega)
  have L1:∀A:Hs,A.size≤1000→u9k (t,z7t A,t.2.2.2.2.1,(t.2.2.2.2.1.length:Int),0)=some (.inl (t,z7t (A++r3q p8z t.2.2.2.2.1))):=fun A hA=>by
   have:=u61 u9k t.2.2.2.2.1 (fun(A:Hs) i=>(t,z7t A,t.2.2.2.2.1,(t.2.2.2.2.1.length:Int),i)) (fun A r=>A++p8z r) (fun A=> .inl (t,z7t A)) (fun i A=>A.size≤1000+i*204)
    (fun A _=>by rw[r23];simp only[t4j,u0b,Am,Ah,Aa])
    (fun i hi A hP=>by
     have hr:=z1 _ (Ag hi)
     have hs:=q21 (r:=t.2.2.2.2.1[i]) (by omega)
     refine⟨by rw[Af,C7];omega,?_⟩
     rw[r23];simp only[t4j,u0b,hi,Ae,Ad,y7t hi,zTn,y8k (t:=u1u) hi,y7l (show i<4611686018427387904 by omega)]
     rw[t90 A [(t.2.2.2.2.1[i]).1,(t.2.2.2.2.1[i]).2] (by intro n hn;simp only[A8,Du,Em] at hn;rcases hn with rfl | rfl<;>omega) (by simp) (by omega)]
     simp only[zOb]
     rw[q7o];rfl) A (by omega)
   rw[t81] at this
   exact this
  have L2:∀A:Hs,A.size≤10000→u7l (t,z7t A,t.2.2.2.2.2.1,(t.2.2.2.2.2.1.length:Int),0)=some (.inl (t,z7t (A++r3q wrT t.2.2.2.2.2.1))):=fun A hA=>by
   have:=u61 u7l t.2.2.2.2.2.1 (fun(A:Hs) i=>(t,z7t A,t.2.2.2.2.2.1,(t.2.2.2.2.2.1.length:Int),i)) (fun A r=>A++wrT r) (fun A=> .inl (t,z7t A)) (fun i A=>A.size≤10000+i*304)
    (fun A _=>by rw[s8y];simp only[t1v,u0b,Am,Ah,Aa])
    (fun i hi A hP=>by
     have hr:=z2 _ (Ag hi)
     have q1:=u0p (s:=(t.2.2.2.2.2.1[i]).1) (by omega)
     have q2:=u0p (s:=(t.2.2.2.2.2.1[i]).2.1) (by omega)
     have q3:=u2p (t.2.2.2.2.2.1[i]).2.2
     refine⟨by unfold wrT;simp only[Af,C7];omega,?_⟩
     rw[s8y];simp only[t1v,u0b,hi,Ae,Ad,y7t hi,zTn,y8k (t:=u0o) hi,y7l (show i<4611686018427387904 by omega)]
     rw[t90 A [(t.2.2.2.2.2.1[i]).1,(t.2.2.2.2.2.1[i]).2.1] (by intro n hn;simp only[A8,Du,Em] at hn;rcases hn with rfl | rfl<;>omega) (by simp) (by omega)]
     simp only[zOb]
     rw[q7o,s4v _ _ (by simp only[Af];omega)]
     simp only[zOb]
     unfold wrT
     simp only[u7g]) A (by omega)
   rw[t81] at this
   exact this
  have n1:(r3q p8z t.2.2.2.2.1).size≤t.2.2.2.2.1.length*204:=t64 fun r hr=>q21 (by have:=z1 r hr;omega)
  have n2:(r3q wrT t.2.2.2.2.2.1).size≤t.2.2.2.2.2.1.length*304:=t64 fun w hw=>by
   have:=z2 w hw
   have q1:=u0p (s:=w.1) (by omega)
   have q2:=u0p (s:=w.2.1) (by omega)
   unfold wrT;rw[Af,Af,u2p];omega
  simp only[Ap,Aa,Bl]
  rw[q59 [t.1,t.2.1,t.2.2.1,t.2.2.2.1,(t.2.2.2.2.1.length:Int)] (by intro n hn;simp only[A8,Du,Em] at hn;rcases hn with rfl | rfl | rfl | rfl | rfl<;>omega) (by simp)]
  simp only[zOb]
  rw[o3o,L1 _ (by simp only[Af];omega)]
  simp only[zOb]
  rw[s2r _ [(t.2.2.2.2.2.1.length:Int)] (by intro n hn;simp only[A8,Du,Em] at hn;subst hn;omega) (by simp) (by simp only[Af];omega)]
  simp only[zOb]
  rw[s9s,L2 _ (by simp only[Af];omega)]
  simp only[zOb]
  rw[s4v _ _ (by simp only[Af];omega)]
  simp only[zOb]
  rw[t90 _ [t.2.2.2.2.2.2.2] (by intro n hn;simp only[A8,Du,Em] at hn;subst hn;omega) (by simp) (by simp only[Af,u2p];omega)]
  simp only[zOb]
  rw[s9s,t5w]
  unfold u78
  simp only[u7g]
theorem p34 (b:u0h) (hw:p0w.wt b≤549755813888):s2t b=some (if u6r b=true then(t9o b,true) else(emp,false)):=by
 have hb:u0e=1099511627776:=rfl
 have hbw:=s9r b
 rw[q8d];unfold r4h
 rw[u8k b (by omega)]
 simp only[zOb]
 cases hc:u6r b
 ·rfl
 ·have h:=p25.mp hc
  obtain⟨w1,w2,w3⟩:=o49.mp h.vs
  have hcs:=h.cs;have hx:=h.next;have hp:=h.plen;have hr:=h.rlen
  have q1:=u1m (n:=b.2.2.2.1) (by omega)
  have q2:=u1m (n:=b.2.2.2.2) (by omega)
  have q3:=u1m (n:=(b.1.length:Int)) (by omega)
  have q4:=t64 (f:=p8t) (k:=22) (l:=b.1) (fun v hv=>q3e (w1 v hv))
  have q5:=s1z (l:=b.2.1) (by omega) (fun t ht=>(h.past t ht).1)
  have q6:=s1z (l:=b.2.2.1) (by omega) (fun t ht=>(h.ready t ht).1)
  have L:∀A:Hs,A.size≤1000→u7k (b,z7t A,b.1,(b.1.length:Int),0)=some (.inl (b,z7t (A++r3q p8t b.1))):=fun A hA=>by
   have:=u61 u7k b.1 (fun(A:Hs) i=>(b,z7t A,b.1,(b.1.length:Int),i)) (fun A r=>A++p8t r) (fun A=> .inl (b,z7t A)) (fun i A=>A.size≤1000+i*22)
    (fun A _=>by rw[s8r];simp only[t1o,u0b,Am,Ah,Aa])
    (fun i hi A hP=>by
     have hm:=w1 _ (Ag hi)
     have hr:=q3e hm
     have hv:=s3q hm
     have s1:=u0p (s:=(b.1[i]).1) (by omega)
     have s2:=u0p (s:=(b.1[i]).2.1) (by omega)
     have s3:=u2p (b.1[i]).2.2.1
     refine⟨by rw[Af,C7];omega,?_⟩
     rw[s8r];simp only[t1o,u0b,hi,Ae,Ad,y7t hi,zTn,y8k (t:=u0c) hi,y7l (show i<4611686018427387904 by omega)]
     rw[t90 A [(b.1[i]).1,(b.1[i]).2.1] (by intro n hn;simp only[A8,Du,Em] at hn;rcases hn with rfl | rfl<;>omega) (by simp) (by omega)]
     simp only[zOb]
     rw[q7o,s4v _ _ (by simp only[Af];omega)]
     simp only[zOb]
     rw[s2r _ [(b.1[i]).2.2.2] (by intro n hn;simp only[A8,Du,Em] at hn;subst hn;omega) (by simp) (by simp only[Af];omega)]
     simp only[zOb]
     rw[s9s]
     unfold p8t
     simp only[u7g]) A (by omega)
   rw[t81] at this
   exact this
  have IN:∀(A:Hs) (g:Hu (Hu u0g)) (n k:Int) (l:Hu u0g),A.size≤100000→l.length≤100→(Ty.sl u0i).wt l≤549755813888→(∀t∈l,TxnR t)→
   u6m (z7t A,g,n,k,l,(l.length:Int),0)=some (.inl (z7t (A++r3q u78 l),g,n,k)):=fun A g n k l hA hl hlw hok=>by
   have:=u61 u6m l (fun(A:Hs) i=>(z7t A,g,n,k,l,(l.length:Int),i)) (fun A r=>A++u78 r) (fun A=> .inl (z7t A,g,n,k)) (fun i A=>A.size≤100000+i*300)
    (fun A _=>by rw[s5f];simp only[t0h,u0b,Am,Ah,Aa])
    (fun i hi A hP=>by
     have hm:=Ag hi
     have hr:=t7o (hok _ hm)
     refine⟨by rw[Af,C7];omega,?_⟩
     rw[s5f];simp only[t0h,u0b,hi,Ae,Ad,y7t hi,zTn,y8k (t:=u0i) hi,y7l (show i<4611686018427387904 by omega)]
     rw[t9l _ (o4z hm hlw),Al (q29.mpr (hok _ hm))]
     simp only[zOb]
     rw[q3n (by rw[u6c,u6c];omega),t56]) A (by omega)
   rw[t81] at this
   exact this
  have O:∀A:Hs,A.size≤10000→t0s (z7t A, [b.2.1,b.2.2.1],2,0)=some (.inl (z7t (A++s8q b.2.1++s8q b.2.2.1))):=fun A hA=>by
   have v1:=u1m (n:=(b.2.1.length:Int)) (by omega)
   have v2:=u1m (n:=(b.2.2.1.length:Int)) (by omega)
   have e0:y4q 0 [b.2.1,b.2.2.1].length=true:=rfl
   have e1:y4q 1 [b.2.1,b.2.2.1].length=true:=rfl
   have r0:rdL (Ty.sl u0i) [b.2.1,b.2.2.1] (0:Int).toNat=b.2.1:=rfl
   have r1:rdL (Ty.sl u0i) [b.2.1,b.2.2.1] (1:Int).toNat=b.2.2.1:=rfl
   have w0:IntKind.i64.wrap ((0:Int)+1)=1:=rfl
   have w1:IntKind.i64.wrap ((1:Int)+1)=2:=rfl
   rw[t7q];simp only[u6h]
   rw[r9g (by omega),e0,r0,s2r A [(b.2.1.length:Int)] (by intro n hn;simp only[A8,Du,Em] at hn;subst hn;omega) (by simp) (by omega)]
   simp only[Ad,zOb]
   rw[s9s,IN _ _ _ _ b.2.1 (by simp only[Af];omega) (by omega) (by omega) (fun t ht=>(h.past t ht).1)]
   simp only[zOb]
   rw[w0,t7q];simp only[u6h]
   have n1:(A++r6w (b.2.1.length:Int)++r3q u78 b.2.1).size≤20000:=by
    have:A++r6w (b.2.1.length:Int)++r3q u78 b.2.1=A++s8q b.2.1:=by unfold s8q;rw[u7g]
    rw[this,Af];omega
   rw[r9g (by omega),e1,r1,s2r _ [(b.2.2.1.length:Int)] (by intro n hn;simp only[A8,Du,Em] at hn;subst hn;omega) (by simp) (by omega)]
   simp only[Ad,zOb]
   rw[s9s,IN _ _ _ _ b.2.2.1 (by rw[Af];omega) (by omega) (by omega) (fun t ht=>(h.ready t ht).1)]
   simp only[zOb]
   rw[w1,t7q];simp only[u6h]
   unfold s8q
   simp[u7g]
  simp only[Ap,Aa,Bl]
  rw[q59 [b.2.2.2.1,b.2.2.2.2,(b.1.length:Int)] (by intro n hn;simp only[A8,Du,Em] at hn;rcases hn with rfl | rfl | rfl<;>omega) (by simp)]
  simp only[zOb]
  rw[p26,L _ (by simp only[Af];omega)]
  simp only[zOb]
  have e2:(([b.2.1,b.2.2.1] :Hu (Hu u0g)).length:Int)=2:=rfl
  rw[e2,O _ (by simp only[Af];omega)]
  simp only[zOb]
  rw[t5w]
  unfold t9o
  simp only[u7g]
end
section
theorem o04 {W:Int×Hs×Int×Int→Ht ((Int×Hs×Int)⊕Unit)}
 (hW:∀x,W x=(bif decide (x.2.2.2<(8:Int)) then(bif decide (Int.tmod x.1 (2:Int)=(1:Int)) then W (IntKind.u32.wrap ((BitVec.ofInt IntKind.u32.bits (IntKind.u32.wrap (Int.tdiv x.1 (2:Int)))^^^BitVec.ofInt IntKind.u32.bits (3558460437:Int)).toNat:Int),x.2.1,x.2.2.1,IntKind.i64.wrap (x.2.2.2+(1:Int)))
  else W (IntKind.u32.wrap (Int.tdiv x.1 (2:Int)),x.2.1,x.2.2.1,IntKind.i64.wrap (x.2.2.2+(1:Int)))) else some (.inl (x.1,x.2.1,x.2.2.1)))) (t:Hs) (k:Int):
 ∀(n:Nat) (x:Int) (i:Nat),i+n=8→W (x,t,k,(i:Int))=some (.inl (q97 n x,t,k)):=by
 intro n
 induction n with
 | zero=>
  intro x i hi
  have:i=8:=by omega
  subst this
  rw[hW];rfl
 | succ n ih=>
  intro x i hi
  rw[hW]
  simp only
  rw[r9g (by omega),y7l (by omega),ih _ (i+1) (by omega),ih _ (i+1) (by omega)]
  rw[show q97 (n+1) x=q97 n (o4q x) from rfl]
  unfold o4q o8r
  cases decide (Int.tmod x 2=1)<;>rfl
theorem o05 (f:Int→UInt8→Int) (t:Hs) {W:Int×Hs×Int→Ht (Int⊕Unit)} (ht:t.size≤1099511627776)
 (hend:∀x,W (x,t,(t.size:Int))=some (.inl x))
 (hstep:∀(i:Nat),i<t.size→ ∀x,W (x,t,(i:Int))=W (f x (t.data.toList.getD i 0),t,((i+1:Nat):Int))) (x:Int):W (x,t,0)=some (.inl (t.data.toList.foldl f x)):=by
 have e:t.size=t.data.toList.length:=q0c t
 exact u61 W t.data.toList (fun x i=>(x,t,i)) f (fun x=> .inl x) (fun _ _=>True) (fun x _=>by rw[←e];exact hend x)
  (fun i hi x _=>⟨trivial,by
   rw[hstep i (by rw[e];exact hi) x]
   congr 2
   rw[A5,A4 hi];rfl⟩) x trivial
theorem p61 (x:Int) (t:Hs) (ht:t.size≤1099511627776):s5y (x,t)=some (t.data.toList.foldl q98 x):=by
 have L:=o05 q98 t (W:=t45) ht
  (fun x=>by rw[r2y];simp only[t4e,u0b,Am,Ah,Aa])
  (fun i hi x=>by
   rw[r2y];simp only[t4e,u0b,hi,Ae,Ad,y7t hi,zTn]
   have:=o04 (W:=t47) (fun x=>q7i x) t (i:Int) 8 (o8r x (IntKind.u32.wrap ((t.data.toList.getD i 0).toNat:Int))) 0 rfl
   unfold o8r at this
   rw[show((0:Nat):Int)=0 from rfl] at this
   rw[this]
   simp only[zOb,y7l (show i<4611686018427387904 by omega)]
   rfl) x
 rw[p1a];unfold r76
 simp only[L,zOb]
theorem q5b (x:Int) (t:Hs) (ht:t.size≤1099511627776):s59 (x,t)=some (t.data.toList.foldl q98 x):=by
 have L:=o05 q98 t (W:=t5c) ht
  (fun x=>by rw[r3f];simp only[t4u,u0b,Am,Ah,Aa])
  (fun i hi x=>by
   rw[r3f];simp only[t4u,u0b,hi,Ae,Ad,y7t hi,zTn]
   have:=o04 (W:=t5d) (fun x=>q7k x) t (i:Int) 8 (o8r x (IntKind.u32.wrap ((t.data.toList.getD i 0).toNat:Int))) 0 rfl
   unfold o8r at this
   rw[show((0:Nat):Int)=0 from rfl] at this
   rw[this]
   simp only[zOb,y7l (show i<4611686018427387904 by omega)]
   rfl) x
 rw[p16];unfold r8z
 simp only[L,zOb]
theorem s16 (t:Hs) (ht:t.size≤1099511627776):t2z t=some (q93 t):=by
 rw[p4u];unfold q09 q93
 have e1:decide ((t.size:Int) >20000)= !decide (t.size≤20000):=by by_cases h:t.size≤20000<;>simp[h] <;>omega
 rw[e1,p7g];unfold q5j
 rw[p61 _ _ ht]
 simp only[zOb]
 by_cases h:t.size≤20000
 ·rw[Bb h,Al h]
  simp only[Ap,Aa]
  rw[r9g (by rw[u73];simp;omega)]
  rfl
 ·rw[A7 h,Ao h];rfl
theorem s9k (t:Hs) (ht:t.size≤1099511627776):t7g t=some (q93 t):=by
 rw[p5p];unfold q15 q93
 have e1:decide ((t.size:Int) >20000)= !decide (t.size≤20000):=by by_cases h:t.size≤20000<;>simp[h] <;>omega
 rw[e1,q53];unfold r5h
 rw[q5b _ _ ht]
 simp only[zOb]
 rw[r9i];unfold r85
 simp only[zOb]
 by_cases h:t.size≤20000
 ·rw[Bb h,Al h]
  simp only[Ap,Aa]
  rw[r9g (by rw[u73];simp;omega)]
  rfl
 ·rw[A7 h,Ao h];rfl
theorem u86 (k:Int):(y7g [k]).size=1:=u73 _
theorem r7b {k:Int} (h0:0≤k) (h1:k≤255): [IntKind.u8.wrap k] =z7t (y7g [IntKind.u8.wrap k]):=by
 obtain⟨n,rfl⟩:∃n:Nat,k=n:=⟨k.toNat,by omega⟩
 rw[o8p,show((n:Int) % 256)=n by omega]
 unfold z7t y7g
 simp
 omega
theorem s12 (r:r3o) (hw:j2k.wt r≤549755813888):u72 r=some (u14 r):=by
 have hr:=r6p r
 rw[q4h];unfold s67 u14
 rw[q00 r hw]
 simp only[zOb]
 cases hc:u55 r
 ·rfl
 ·have h:=o68.mp hc
  have hz:=s8o h
  simp only[Ap,Aa,Bl]
  cases h with
  | thr t h hs=>
   have:=t7o h
   have ht:=t9m t (by have:u0i.wt t≤j2k.wt (1,t,emp,false,u5f):=by rw[hr];simp only;omega
                      omega)
   rw[Al (q29.mpr h)] at ht
   simp only[Int.reduceEq,Ae,Ah,Ad,Aa]
   rw[ht]
   simp only[zOb]
   rw[r9g (by rw[u86];omega),s9k _ (by rw[Af,u86];omega)]
   rfl
  | rdy t h hs=>
   have:=t7o h
   have ht:=t9m t (by have:u0i.wt t≤j2k.wt (2,t,emp,false,u5f):=by rw[hr];simp only;omega
                      omega)
   rw[Al (q29.mpr h)] at ht
   simp only[Int.reduceEq,Ae,Ah,Ad,Aa]
   rw[ht]
   simp only[zOb]
   rw[r9g (by rw[u86];omega),s9k _ (by rw[Af,u86];omega)]
   rfl
  | fin n y h=>
   have:=u6d h
   have q:=u0p (s:=n) (by omega)
   simp only[Int.reduceEq,Ae,Ah,Ad,Aa]
   rw[t5y (by omega)]
   simp only[zOb]
   rw[r9g (by rw[u86];omega),q7l]
   simp only[zOb]
   rw[r9g (by simp only[Af,u86,u2p];omega),s9k _ (by simp only[Af,u86,u2p];omega),u7g]
   rfl
  | bas b h=>
   have:=q3v h
   have a1:=(o49.mp h.vs).2.2
   have a2:=h.plen
   have a3:=h.rlen
   have ht:=p35 b (by have:p0w.wt b≤j2k.wt (4,t37,emp,false,b):=by rw[hr];simp only;omega
                      omega)
   rw[Al (p25.mpr h)] at ht
   simp only[Int.reduceEq,Ae,Ah,Ad,Aa]
   rw[ht]
   simp only[zOb]
   rw[r9g (by rw[u86];omega),s9k _ (by rw[Af,u86];omega)]
   rfl
theorem s11 (r:r3o) (hw:j2k.wt r≤549755813888):u7z r=some (u14 r):=by
 have hr:=r6p r
 rw[q33];unfold s6t u14
 rw[q0z r hw]
 simp only[zOb]
 cases hc:u55 r
 ·rfl
 ·have h:=o68.mp hc
  have hz:=s8o h
  simp only[Ap,Aa,Bl]
  cases h with
  | thr t h hs=>
   have:=t7o h
   have ht:=t9l t (by have:u0i.wt t≤j2k.wt (1,t,emp,false,u5f):=by rw[hr];simp only;omega
                      omega)
   rw[Al (q29.mpr h)] at ht
   simp only[Int.reduceEq,Ae,Ah,Ad,Aa]
   rw[ht]
   simp only[zOb]
   rw[q3n (by rw[u6c];simp;omega),r7b (k:=1) (by omega) (by omega),←t56,t5w,s16 _ (by rw[Af,u86];omega)]
   rfl
  | rdy t h hs=>
   have:=t7o h
   have ht:=t9l t (by have:u0i.wt t≤j2k.wt (2,t,emp,false,u5f):=by rw[hr];simp only;omega
                      omega)
   rw[Al (q29.mpr h)] at ht
   simp only[Int.reduceEq,Ae,Ah,Ad,Aa]
   rw[ht]
   simp only[zOb]
   rw[q3n (by rw[u6c];simp;omega),r7b (k:=2) (by omega) (by omega),←t56,t5w,s16 _ (by rw[Af,u86];omega)]
   rfl
  | fin n y h=>
   have:=u6d h
   have q:=u0p (s:=n) (by omega)
   simp only[Int.reduceEq,Ae,Ah,Ad,Aa]
   rw[r7b (k:=3) (by omega) (by omega),t90 _ [n] (by intro m hm;simp only[A8,Du,Em] at hm;subst hm;omega) (by simp) (by rw[u86];omega)]
   simp only[zOb]
   rw[s9s,s4v _ _ (by rw[Af,u86];omega)]
   simp only[zOb]
   rw[t5w,s16 _ (by simp only[Af,u86,u2p];omega),u7g]
   rfl
  | bas b h=>
   have:=q3v h
   have a1:=(o49.mp h.vs).2.2
   have a2:=h.plen
   have a3:=h.rlen
   have ht:=p34 b (by have:p0w.wt b≤j2k.wt (4,t37,emp,false,b):=by rw[hr];simp only;omega
                      omega)
   rw[Al (p25.mpr h)] at ht
   simp only[Int.reduceEq,Ae,Ah,Ad,Aa]
   rw[ht]
   simp only[zOb]
   rw[q3n (by rw[u6c];simp;omega),r7b (k:=4) (by omega) (by omega),←t56,t5w,s16 _ (by rw[Af,u86];omega)]
   rfl
end
section
def inT (s:Hs) (c:Cur):Prop:=0≤c.1∧c.1≤(s.size:Int)
def bad (c:Cur) (k:Int):Int:=if c.2=true then k else 0
theorem u1q {s:Hs} {c:Cur} (h:inT s c):inT s (u11 s c).2∧0≤(u11 s c).1∧(u11 s c).1≤1000000000∧c.1+1≤(u11 s c).2.1+bad (u11 s c).2 1:=by
 unfold u11
 split
 ·refine⟨h,by simp,by simp,?_⟩
  simp only[bad,Bl];omega
 ·rename_i q
  simp only[Hr,Ey,Bool.not_eq_false] at q
  have:=s8n q.2
  refine⟨⟨?_,?_⟩,?_,?_,?_⟩
  ·simp only;omega
  ·simp only;omega
  ·simp only;omega
  ·simp only;omega
  ·simp only[bad,Br,Bk];omega
theorem p2p {t:Hs} {a:Int} (h:(u0v t a).2.2=true):a+1+((u0v t a).1.size:Int)≤(u0v t a).2.1∧0≤a:=by
 unfold u0v at h ⊢
 split at h
 ·rename_i hc
  rw[Al hc]
  have:=s8n hc.1
  simp only[Bd]
  omega
 ·cases h
theorem u6y {s:Hs} {c:Cur} (h:inT s c):inT s (u18 s c).2∧c.1+1+((u18 s c).1.size:Int)≤(u18 s c).2.1+bad (u18 s c).2 1:=by
 unfold u18
 split
 ·refine⟨h,?_⟩
  simp only[bad,Bl,emp,ByteArray.size];simp
 ·rename_i q
  simp only[Hr,Ey,Bool.not_eq_false] at q
  have h1:=p8j q.2
  have h2:=p2p q.2
  refine⟨⟨?_,?_⟩,?_⟩
  ·simp only;omega
  ·simp only;omega
  ·simp only[bad,Br,Bk];omega
theorem o02 {s:Hs} {c:Cur} (h:inT s c):inT s (q3o s c).2∧c.1+1≤(q3o s c).2.1+bad (q3o s c).2 1:=by
 unfold q3o
 split
 ·refine⟨h,?_⟩
  simp only[bad,Bl];omega
 ·rename_i q
  simp only[Hr,Decidable.not_not] at q
  unfold inT
  simp only[bad,Br,Bk];omega
theorem u7w (c:Cur) {k:Int} (hk:0≤k):0≤bad c k∧bad c k≤k:=by unfold bad;split<;>omega
theorem q2e {c c' :Cur} (h:c.2=true→c'.2=true) {k:Int} (hk:0≤k):bad c k≤bad c' k:=by
 unfold bad
 by_cases q:c.2=true
 ·rw[Al q,Al (h q)];omega
 ·rw[Ao q];split<;>omega
def o7o {E:Type} (w:E→Nat) (k:Int) (s:Hs) (f:Cur→E×Cur):Prop:= ∀c,inT s c→inT s (f c).2∧c.1+1+(w (f c).1:Int)≤(f c).2.1+bad (f c).2 k
theorem t34 {E:Type} {w:E→Nat} {k:Int} {s:Hs} {f:Cur→E×Cur} (hk:0≤k) (hf:o7o w k s f):∀(n:Nat) (c:Cur) (a:Hu E),inT s c→
 inT s (u19 f n c a).2∧c.1+((u19 f n c a).1.length+((u19 f n c a).1.map w).sum:Nat)≤(u19 f n c a).2.1+(a.length+(a.map w).sum:Nat)+bad (u19 f n c a).2 k
 | 0,c,a,h=>⟨h,by have:=u7w (u19 f 0 c a).2 hk;simp only[u19] at*;omega⟩
 | n+1,c,a,h=>by
  simp only[u19]
  split
  ·exact⟨h,by have:=u7w c hk;simp only;omega⟩
  ·obtain⟨h1,h2⟩:=hf c h
   obtain⟨h3,h4⟩:=t34 hk hf n (f c).2 (a++ [(f c).1]) h1
   refine⟨h3,?_⟩
   have e1:(a++ [(f c).1]).length=a.length+1:=by simp
   have e2:((a++ [(f c).1]).map w).sum=(a.map w).sum+w (f c).1:=by simp
   rw[e1,e2] at h4
   have hm:bad (f c).2 k≤bad (u19 f n (f c).2 (a++ [(f c).1])).2 k∧(bad (f c).2 k≠0→u19 f n (f c).2 (a++ [(f c).1])=(a++ [(f c).1],(f c).2)):=by
    by_cases q:(f c).2.2=true
    ·rw[t33 q];exact⟨Bv _,fun _=>rfl⟩
    ·have:bad (f c).2 k=0:=by unfold bad;rw[Ao q]
     rw[this];exact⟨(u7w _ hk).1,fun h=>absurd rfl h⟩
   by_cases z:bad (f c).2 k=0
   ·omega
   ·have e:=hm.2 z
    rw[e]
    simp only[e1,e2]
    omega
theorem r6l (s:Hs):o7o u1u.wt 2 s (p58 s):=fun c h=>by
 obtain⟨h1,h2⟩:=u6y h
 obtain⟨h3,h4⟩:=u6y h1
 have b1:=q2e (c:=(u18 s c).2) (c' :=(u18 s (u18 s c).2).2) s8m (k:=1) (by omega)
 have b2:bad (u18 s (u18 s c).2).2 2=2*bad (u18 s (u18 s c).2).2 1:=by unfold bad;split<;>omega
 refine⟨h3,?_⟩
 have e:u1u.wt (p58 s c).1=(u18 s c).1.size+(u18 s (u18 s c).2).1.size:=rfl
 have e2:(p58 s c).2=(u18 s (u18 s c).2).2:=rfl
 rw[e,e2];omega
theorem q20 (s:Hs):o7o u0o.wt 3 s (rWr s):=fun c h=>by
 obtain⟨h1,h2⟩:=u6y h
 obtain⟨h3,h4⟩:=u6y h1
 obtain⟨h5,h6⟩:=o02 h3
 have b1:=q2e (c:=(u18 s c).2) (c' :=(u18 s (u18 s c).2).2) s8m (k:=1) (by omega)
 have b2:=q2e (c:=(u18 s (u18 s c).2).2) (c' :=(q3o s (u18 s (u18 s c).2).2).2) q2z (k:=1) (by omega)
 have b3:bad (q3o s (u18 s (u18 s c).2).2).2 3=3*bad (q3o s (u18 s (u18 s c).2).2).2 1:=by unfold bad;split<;>omega
 refine⟨h5,?_⟩
 have e:u0o.wt (rWr s c).1=(u18 s c).1.size+((u18 s (u18 s c).2).1.size+0):=rfl
 have e2:(rWr s c).2=(q3o s (u18 s (u18 s c).2).2).2:=rfl
 rw[e,e2];omega
theorem r6n (s:Hs):o7o u0c.wt 4 s (p6a s):=fun c h=>by
 obtain⟨h1,h2⟩:=q20 s c h
 obtain⟨h3,h4,h5,h6⟩:=u1q h1
 have b1:=q2e (c:=(rWr s c).2) (c' :=(u11 s (rWr s c).2).2) u89 (k:=3) (by omega)
 have b3:bad (u11 s (rWr s c).2).2 4=bad (u11 s (rWr s c).2).2 1+bad (u11 s (rWr s c).2).2 3:=by unfold bad;split<;>omega
 refine⟨h3,?_⟩
 have e:u0c.wt (p6a s c).1=u0o.wt (rWr s c).1:=rfl
 have e2:(p6a s c).2=(u11 s (rWr s c).2).2:=rfl
 rw[e,e2];omega
theorem q9x (m:Nat) (s:Hs):o7o u0i.wt 20 s (q7q m s):=fun c h=>by
 unfold q7q
 simp only
 obtain⟨a1,a2,a3,a4⟩:=u1q h
 generalize hA:u11 s c=A at a1 a2 a3 a4 ⊢
 obtain⟨b1,b2,b3,b4⟩:=u1q a1
 have mB:A.2.2=true→(u11 s A.2).2.2=true:=u89
 generalize hB:u11 s A.2=B at b1 b2 b3 b4 mB ⊢
 obtain⟨d1,d2,d3,d4⟩:=u1q b1
 have mD:B.2.2=true→(u11 s B.2).2.2=true:=u89
 generalize hD:u11 s B.2=D at d1 d2 d3 d4 mD ⊢
 obtain⟨e1,e2,e3,e4⟩:=u1q d1
 have mE:D.2.2=true→(u11 s D.2).2.2=true:=u89
 generalize hE:u11 s D.2=E at e1 e2 e3 e4 mE ⊢
 obtain⟨f1,f2,f3,f4⟩:=u1q e1
 have mF:E.2.2=true→(u11 s E.2).2.2=true:=u89
 generalize hF:u11 s E.2=F at f1 f2 f3 f4 mF ⊢
 obtain⟨g1,g2⟩:=t34 (by omega) (r6l s) (min F.1.toNat m) F.2 [] f1
 have mG:F.2.2=true→(u19 (p58 s) (min F.1.toNat m) F.2 []).2.2=true:=fun q=>by rw[t33 q];exact q
 generalize hG:u19 (p58 s) (min F.1.toNat m) F.2 [] =G at g1 g2 mG ⊢
 obtain⟨k1,k2,k3,k4⟩:=u1q g1
 have mK:G.2.2=true→(u11 s G.2).2.2=true:=u89
 generalize hK:u11 s G.2=K at k1 k2 k3 k4 mK ⊢
 obtain⟨l1,l2⟩:=t34 (by omega) (q20 s) (min K.1.toNat m) K.2 [] k1
 have mL:K.2.2=true→(u19 (rWr s) (min K.1.toNat m) K.2 []).2.2=true:=fun q=>by rw[t33 q];exact q
 generalize hL:u19 (rWr s) (min K.1.toNat m) K.2 [] =L at l1 l2 mL ⊢
 obtain⟨o1,o2⟩:=o02 l1
 have mO:L.2.2=true→(q3o s L.2).2.2=true:=q2z
 generalize hO:q3o s L.2=O at o1 o2 mO ⊢
 obtain⟨p1,p2⟩:=u6y o1
 have mP:O.2.2=true→(u18 s O.2).2.2=true:=s8m
 generalize hP:u18 s O.2=P at p1 p2 mP ⊢
 refine⟨p1,?_⟩
 have e:u0i.wt (A.1,B.1,D.1,E.1,G.1,L.1,O.1,P.1)=0+(0+(0+(0+((Ty.sl u1u).wt G.1+((Ty.sl u0o).wt L.1+(0+P.1.size)))))):=rfl
 have eG:(Ty.sl u1u).wt G.1=G.1.length+(G.1.map u1u.wt).sum:=rfl
 have eL:(Ty.sl u0o).wt L.1=L.1.length+(L.1.map u0o.wt).sum:=rfl
 simp only[Cc,Eh,Gq] at g2 l2
 rw[e,eG,eL]
 by_cases q:P.2.2=true
 ·have:bad P.2 20=20:=by unfold bad;rw[Al q]
  rw[this]
  have t1:=(u7w A.2 (k:=1) (by omega)).2
  have t2:=(u7w B.2 (k:=1) (by omega)).2
  have t3:=(u7w D.2 (k:=1) (by omega)).2
  have t4:=(u7w E.2 (k:=1) (by omega)).2
  have t5:=(u7w F.2 (k:=1) (by omega)).2
  have t6:=(u7w G.2 (k:=2) (by omega)).2
  have t7:=(u7w K.2 (k:=1) (by omega)).2
  have t8:=(u7w L.2 (k:=3) (by omega)).2
  have t9:=(u7w O.2 (k:=1) (by omega)).2
  have t10:=(u7w P.2 (k:=1) (by omega)).2
  omega
 ·have zP:P.2.2=false:=by simpa using q
  have z:∀ {x y:Cur},(x.2=true→y.2=true)→y.2=false→x.2=false:=fun {x y} i j=>by
   cases w:x.2
   ·rfl
   ·rw[i w] at j;cases j
  have zO:=z mP zP
  have zL:=z mO zO
  have zK:=z mL zL
  have zG:=z mK zK
  have zF:=z mG zG
  have zE:=z mF zF
  have zD:=z mE zE
  have zB:=z mD zD
  have zA:=z mB zB
  simp only[bad,zP,zO,zL,zK,zG,zF,zE,zD,zB,zA,Br,Bk] at*
  omega
theorem s8h (m:Nat) (s:Hs):o7o u0i.wt 20 s (u5o m s):=fun c h=>by
 obtain⟨h1,h2⟩:=q9x m s c h
 refine⟨h1,?_⟩
 have:bad (q7q m s c).2 20≤bad (u5o m s c).2 20:=q2e (fun q=>by unfold u5o;simp only[q,Dx]) (by omega)
 have e1:(u5o m s c).1=(q7q m s c).1:=rfl
 have e2:(u5o m s c).2.1=(q7q m s c).2.1:=rfl
 rw[e1,e2];omega
end
section
theorem t5h {s:Hs} (c:Cur) (hs:s.size≤u0e):u01 (s,c)=some ((u11 s c).1,s,(u11 s c).2):=by
 rw[q39];unfold s6z u11
 simp only[q48 s c.1 hs,zOb]
 cases h1:c.2
 ·cases h2:(u0r s c.1).2.2<;>simp
 ·simp
theorem t92 {s:Hs} (c:Cur) (hs:s.size≤u0e):u1w (s,c)=some ((u18 s c).1,s,(u18 s c).2):=by
 rw[q2p];unfold s4a u18
 simp only[r7t s c.1 hs,zOb]
 cases h1:c.2
 ·cases h2:(u0v s c.1).2.2
  ·simp[emp]
  ·simp
 ·simp[emp]
theorem gt1 (n:Nat):decide ((n:Int) >1)=decide (1<n):=by simp;omega
theorem eq1 (n:Nat):decide ((n:Int)=1)=decide (n=1):=by simp;omega
theorem q2w {s:Hs} (c:Cur) (hs:s.size≤u0e):u48 (s,c)=some ((q3o s c).1,s,(q3o s c).2):=by
 have hb:u0e=1099511627776:=rfl
 rw[q2o];unfold s39 q3o
 simp only[t98]
 rw[y4y (n:=(s.size:Int) - 1) (by omega) (by omega)]
 cases h1:c.2
 ·by_cases h2:0≤c.1∧c.1<(s.size:Int)
  ·obtain⟨k,hk⟩:∃k:Nat,c.1=k:=⟨c.1.toNat,by omega⟩
   have e1:p6l c.1 0 ((s.size:Int) - 1)=true:=by rw[s5u];exact Bb (by omega)
   have e2:IntKind.i64.wrap (IntKind.i64.wrap (c.1+1) - 1)=c.1:=by rw[y4y (n:=c.1+1) (by omega) (by omega),y4y (by omega) (by omega)];omega
   have e3:IntKind.i64.wrap (c.1+1)=c.1+1:=y4y (by omega) (by omega)
   rw[hk] at e1 e2 e3 ⊢
   have e4:IntKind.i64.wrap (k:Int)=k:=y4y (by omega) (by omega)
   have e5:IntKind.i64.wrap ((k:Int)+1 - 1)=k:=by rw[y4y (by omega) (by omega)];omega
   simp only[e1,e2,e3,e5,Aa,zOb,Ap,y7t (show k<s.size by omega),Ad,zTn,gt1,eq1]
   rw[show(s.data.toList.getD k 0).toNat=u57 s k from rfl]
   by_cases h3:1<u57 s k
   ·simp[h3]
   ·have h3' :u57 s k≤1:=by omega
    have h4:((k:Int)<(s.size:Int)):=by omega
    simp[h3,h3',show k<s.size by omega,e4,y7t (show k<s.size by omega)]
  ·have e1:p6l c.1 0 ((s.size:Int) - 1)=false:=by rw[s5u];exact A7 (by omega)
   simp only[e1,Aa,zOb,Bh,Ad]
   rw[Al (.inr (.inl h2))]
 ·simp
theorem t9r {E X R U:Type} {s:Hs} (W:X→Ht (R⊕U)) (mk:Cur→Hu E→Int→X) (res:Cur→Hu E→R) (f:Cur→E×Cur) (N:Nat)
 (hf:∀c,inT s c→inT s (f c).2)
 (hend:∀c a (i:Nat),(N≤i∨c.2=true)→W (mk c a (i:Int))=some (.inl (res c a)))
 (hstep:∀c a (i:Nat),i<N→c.2=false→inT s c→a.length≤i→W (mk c a (i:Int))=W (mk (f c).2 (a++ [(f c).1]) ((i+1:Nat):Int))):
 ∀(k i:Nat) c a,i+k=N→inT s c→a.length≤i→W (mk c a (i:Int))=some (.inl (res (u19 f k c a).2 (u19 f k c a).1)):=by
 intro k
 induction k with
 | zero=>intro i c a hi hc ha;exact hend c a i (.inl (by omega))
 | succ k ih=>
  intro i c a hi hc ha
  simp only[u19]
  split
  ·rename_i q;exact hend c a i (.inr q)
  ·rename_i q
   rw[hstep c a i (by omega) (by simpa using q) hc ha,ih (i+1) _ _ (by omega) (hf c hc) (by simp;omega)]
theorem q2g {n:Int} {i:Nat} {c:Cur} (h:n.toNat≤i∨c.2=true):((bif decide ((i:Int)<n) then some (!c.2) else some false:Ht Bool))=some false:=by
 rcases h with h | h
 ·rw[A7 (by omega)];rfl
 ·rw[h];cases decide ((i:Int)<n)<;>rfl
theorem r5o {n:Int} {i:Nat} {c:Cur} (h:i<n.toNat) (hc:c.2=false):((bif decide ((i:Int)<n) then some (!c.2) else some false:Ht Bool))=some true:=by
 rw[Bb (by omega),hc];rfl
theorem r5p {E:Type} {w:E→Nat} {k:Int} {s:Hs} {f:Cur→E×Cur} (h:o7o w k s f):∀c,inT s c→inT s (f c).2:=fun c hc=>(h c hc).1
theorem o4l {s:Hs} (hs:s.size≤u0e) (t:u0g) (ht:t.2.2.2.2.1= []) {c:Cur} (hc:inT s c):
 u2r ((s,c),t,())=some ((s,(u19 (p58 s) (min (u11 s c).1.toNat 1000000000) (u11 s c).2 []).2),
  (t.1,t.2.1,t.2.2.1,t.2.2.2.1,(u19 (p58 s) (min (u11 s c).1.toNat 1000000000) (u11 s c).2 []).1,t.2.2.2.2.2),()):=by
 obtain⟨h1,h2,h3,h4⟩:=u1q hc
 rw[t3o];unfold u5s
 simp only
 rw[t5h c hs]
 simp only[zOb]
 generalize u11 s c=y at h1 h2 h3 h4 ⊢
 have L:=t9r (s:=s) u0x (fun(c:Cur) (a:Hu p20) i=>((s,c),(((t.1,t.2.1,t.2.2.1,t.2.2.2.1,a,t.2.2.2.2.2):u0g),()),y.1,i))
  (fun(c:Cur) (a:Hu p20)=>((s,c),((t.1,t.2.1,t.2.2.1,t.2.2.2.1,a,t.2.2.2.2.2):u0g),())) (p58 s) y.1.toNat (r5p (r6l s))
  (fun c a i h=>by rw[u49];simp only[u1o];rw[q2g h];rfl)
  (fun c a i h hc2 hin ha=>by
   rw[u49];simp only[u1o];rw[r5o h hc2]
   simp only[zOb,Ad]
   rw[q0e];unfold s18
   simp only
   rw[t92 c hs]
   simp only[zOb]
   rw[t92 _ hs]
   simp only[zOb]
   rw[q3n (by simp;omega),y7l (by omega)]
   rfl) y.1.toNat 0 y.2 [] (by omega) h1 (by simp)
 rw[show min y.1.toNat 1000000000=y.1.toNat by omega]
 obtain⟨t1,t2,t3,t4,t5,t6⟩:=t
 simp only at ht
 subst ht
 have L' :u0x ((s,y.2),(((t1,t2,t3,t4, [],t6):u0g),()),y.1,0)=some (.inl ((s,(u19 (p58 s) y.1.toNat y.2 []).2),((t1,t2,t3,t4,(u19 (p58 s) y.1.toNat y.2 []).1,t6):u0g),())):=L
 rw[L'];rfl
theorem o6p {s:Hs} (hs:s.size≤u0e) (t:u0g) (ht:t.2.2.2.2.2.1= []) {c:Cur} (hc:inT s c):
 u2s ((s,c),(),t)=some ((s,(u19 (rWr s) (min (u11 s c).1.toNat 1000000000) (u11 s c).2 []).2),(),
  (t.1,t.2.1,t.2.2.1,t.2.2.2.1,t.2.2.2.2.1,(u19 (rWr s) (min (u11 s c).1.toNat 1000000000) (u11 s c).2 []).1,t.2.2.2.2.2.2)):=by
 obtain⟨h1,h2,h3,h4⟩:=u1q hc
 rw[t3p];unfold u5t
 simp only
 rw[t5h c hs]
 simp only[zOb]
 generalize u11 s c=y at h1 h2 h3 h4 ⊢
 have L:=t9r (s:=s) u0y (fun(c:Cur) (a:Hu WrT) i=>((s,c),((),((t.1,t.2.1,t.2.2.1,t.2.2.2.1,t.2.2.2.2.1,a,t.2.2.2.2.2.2):u0g)),y.1,i))
  (fun(c:Cur) (a:Hu WrT)=>((s,c),(),((t.1,t.2.1,t.2.2.1,t.2.2.2.1,t.2.2.2.2.1,a,t.2.2.2.2.2.2):u0g))) (rWr s) y.1.toNat (r5p (q20 s))
  (fun c a i h=>by rw[u5a];simp only[u1p];rw[q2g h];rfl)
  (fun c a i h hc2 hin ha=>by
   rw[u5a];simp only[u1p];rw[r5o h hc2]
   simp only[zOb,Ad]
   rw[q0f];unfold s19
   simp only
   rw[t92 c hs]
   simp only[zOb]
   rw[t92 _ hs]
   simp only[zOb]
   rw[q2w _ hs]
   simp only[zOb]
   rw[q3n (by simp;omega),y7l (by omega)]
   rfl) y.1.toNat 0 y.2 [] (by omega) h1 (by simp)
 rw[show min y.1.toNat 1000000000=y.1.toNat by omega]
 obtain⟨t1,t2,t3,t4,t5,t6,t7⟩:=t
 simp only at ht
 subst ht
 have L' :u0y ((s,y.2),((),((t1,t2,t3,t4,t5, [],t7):u0g)),y.1,0)=some (.inl ((s,(u19 (rWr s) y.1.toNat y.2 []).2),(),((t1,t2,t3,t4,t5,(u19 (rWr s) y.1.toNat y.2 []).1,t7):u0g))):=L
 rw[L'];rfl
theorem p6f {s:Hs} (hs:s.size≤1048576) {c:Cur} (hc:inT s c):u71 (s,c)=some ((u5o 1000000000 s c).1,s,(u5o 1000000000 s c).2):=by
 have hb:u0e=1099511627776:=rfl
 have hs' :s.size≤u0e:=by omega
 have hw:=q9x 1000000000 s c hc
 have hin:=hc
 unfold inT at hin
 have hwt:u0i.wt (q7q 1000000000 s c).1≤u0e:=by
  have h1:=hw.1
  unfold inT at h1
  have:=(u7w (q7q 1000000000 s c).2 (k:=20) (by omega)).2
  have:=hw.2
  omega
 have hk:=s1x _ hwt
 rw[q4a];unfold s60
 unfold u5o
 unfold q7q at hk ⊢
 simp only at hk ⊢
 rw[t5h c hs']
 simp only[zOb]
 have i1:=(u1q hc).1
 rw[t5h _ hs']
 simp only[zOb]
 have i2:=(u1q i1).1
 rw[t5h _ hs']
 simp only[zOb]
 have i3:=(u1q i2).1
 rw[t5h _ hs']
 simp only[zOb]
 have i4:=(u1q i3).1
 rw[o4l hs' _ rfl i4]
 simp only[zOb]
 have i5:=(t34 (by omega) (r6l s) (min (u11 s (u11 s (u11 s (u11 s (u11 s c).2).2).2).2).1.toNat 1000000000) (u11 s (u11 s (u11 s (u11 s (u11 s c).2).2).2).2).2 [] (u1q i4).1).1
 rw[o6p hs' _ rfl i5]
 simp only[zOb]
 rw[q2w _ hs']
 simp only[zOb]
 rw[t92 _ hs']
 simp only[zOb]
 rw[hk]
 simp only[zOb]
 generalize u18 s _=z
 cases h:z.2.2
 ·simp
 ·simp
end
section
def o73:Lim:=⟨1000000000,1000000000,1000000000,1000000000⟩
theorem o74:o73.ok:=⟨by decide,by decide,by decide,by decide⟩
theorem p59 {m k:Nat} {s:Hs} {c:Cur} (h:inT s c):inT s (u96 m k s c).2∧c.1+((Ty.sl u0i).wt (u96 m k s c).1:Nat)≤(u96 m k s c).2.1+20+1:=by
 obtain⟨h1,h2,h3,h4⟩:=u1q h
 obtain⟨g1,g2⟩:=t34 (by omega) (s8h m s) (min (u11 s c).1.toNat k) (u11 s c).2 [] h1
 refine⟨g1,?_⟩
 have e:(Ty.sl u0i).wt (u96 m k s c).1=(u96 m k s c).1.length+((u96 m k s c).1.map u0i.wt).sum:=rfl
 rw[e]
 have t1:=(u7w (u11 s c).2 (k:=1) (by omega)).2
 have t2:=(u7w (u19 (u5o m s) (min (u11 s c).1.toNat k) (u11 s c).2 []).2 (k:=20) (by omega)).2
 unfold u96
 simp only[Cc,Eh,Gq] at g2
 omega
theorem p57 (m:Lim) {s:Hs} {c:Cur} (h:inT s c):inT s (s8l m s c).2∧(p0w.wt (s8l m s c).1:Int)≤(s.size:Int)+100:=by
 unfold s8l
 simp only
 obtain⟨a1,a2,a3,a4⟩:=u1q h
 obtain⟨b1,b2,b3,b4⟩:=u1q a1
 obtain⟨d1,d2,d3,d4⟩:=u1q b1
 obtain⟨g1,g2⟩:=t34 (by omega) (r6n s) (min (u11 s (u11 s (u11 s c).2).2).1.toNat m.v) (u11 s (u11 s (u11 s c).2).2).2 [] d1
 obtain⟨p1,p2⟩:=p59 (m:=m.t) (k:=m.p) g1
 obtain⟨q1,q2⟩:=p59 (m:=m.t) (k:=m.r) p1
 refine⟨q1,?_⟩
 have t1:=(u7w (u19 (p6a s) (min (u11 s (u11 s (u11 s c).2).2).1.toNat m.v) (u11 s (u11 s (u11 s c).2).2).2 []).2 (k:=4) (by omega)).2
 have u1:=(u7w (u11 s c).2 (k:=1) (by omega)).2
 have u2:=(u7w (u11 s (u11 s c).2).2 (k:=1) (by omega)).2
 have u3:=(u7w (u11 s (u11 s (u11 s c).2).2).2 (k:=1) (by omega)).2
 generalize u19 (p6a s) (min (u11 s (u11 s (u11 s c).2).2).1.toNat m.v) (u11 s (u11 s (u11 s c).2).2).2 [] =vs at*
 simp only[Cc,Eh,Gq] at g2
 have e:=s9r (vs.1,(u96 m.t m.p s vs.2).1,(u96 m.t m.r s (u96 m.t m.p s vs.2).2).1,(u11 s c).1,(u11 s (u11 s c).2).1)
 simp only at e
 have eV:(Ty.sl u0c).wt vs.1=vs.1.length+(vs.1.map u0c.wt).sum:=rfl
 unfold inT at q1 h
 rw[e,eV]
 omega
theorem o41 {s:Hs} (hs:s.size≤u0e) (b:u0h) (ht:b.1= []) {c:Cur} (hc:inT s c):
 u2g ((s,c),(),b)=some ((s,(u19 (p6a s) (min (u11 s c).1.toNat 1000000000) (u11 s c).2 []).2),(),
  ((u19 (p6a s) (min (u11 s c).1.toNat 1000000000) (u11 s c).2 []).1,b.2)):=by
 obtain⟨h1,h2,h3,h4⟩:=u1q hc
 rw[t3d];unfold u5l
 simp only
 rw[t5h c hs]
 simp only[zOb]
 generalize u11 s c=y at h1 h2 h3 h4 ⊢
 have L:=t9r (s:=s) u0s (fun(c:Cur) (a:Hu u3a) i=>((s,c),((),((a,b.2):u0h)),y.1,i))
  (fun(c:Cur) (a:Hu u3a)=>((s,c),(),((a,b.2):u0h))) (p6a s) y.1.toNat (r5p (r6n s))
  (fun c a i h=>by rw[u4z];simp only[u1j];rw[q2g h];rfl)
  (fun c a i h hc2 hin ha=>by
   rw[u4z];simp only[u1j];rw[r5o h hc2]
   simp only[zOb,Ad]
   rw[r7n];unfold s0o
   simp only
   rw[t92 c hs]
   simp only[zOb]
   rw[t92 _ hs]
   simp only[zOb]
   rw[q2w _ hs]
   simp only[zOb]
   rw[t5h _ hs]
   simp only[zOb]
   rw[q3n (by simp;omega),y7l (by omega)]
   rfl) y.1.toNat 0 y.2 [] (by omega) h1 (by simp)
 rw[show min y.1.toNat 1000000000=y.1.toNat by omega]
 obtain⟨b1,b2⟩:=b
 simp only at ht
 subst ht
 have L' :u0s ((s,y.2),((),(([],b2):u0h)),y.1,0)=some (.inl ((s,(u19 (p6a s) y.1.toNat y.2 []).2),(),(((u19 (p6a s) y.1.toNat y.2 []).1,b2):u0h))):=L
 rw[L'];rfl
theorem o4d {s:Hs} (hs:s.size≤1048576) (b:u0h) (ht:b.2.1= []) {c:Cur} (hc:inT s c):
 u2h ((s,c),b,())=some ((s,(u96 1000000000 1000000000 s c).2),(b.1,(u96 1000000000 1000000000 s c).1,b.2.2),()):=by
 have hb:u0e=1099511627776:=rfl
 obtain⟨h1,h2,h3,h4⟩:=u1q hc
 rw[t3e];unfold u5m u96
 simp only
 rw[t5h c (by omega)]
 simp only[zOb]
 generalize u11 s c=y at h1 h2 h3 h4 ⊢
 have L:=t9r (s:=s) u0t (fun(c:Cur) (a:Hu u0g) i=>((s,c),(((b.1,a,b.2.2):u0h),()),y.1,i))
  (fun(c:Cur) (a:Hu u0g)=>((s,c),((b.1,a,b.2.2):u0h),())) (u5o 1000000000 s) y.1.toNat (r5p (s8h _ s))
  (fun c a i h=>by rw[u40];simp only[u1k];rw[q2g h];rfl)
  (fun c a i h hc2 hin ha=>by
   rw[u40];simp only[u1k];rw[r5o h hc2]
   simp only[zOb,Ad]
   rw[r7o];unfold s0p
   simp only
   rw[p6f hs hin]
   simp only[zOb]
   rw[q3n (by simp;omega),y7l (by omega)];rfl) y.1.toNat 0 y.2 [] (by omega) h1 (by simp)
 rw[show min y.1.toNat 1000000000=y.1.toNat by omega]
 obtain⟨b1,b2,b3⟩:=b
 simp only at ht
 subst ht
 have L' :u0t ((s,y.2),(((b1, [],b3):u0h),()),y.1,0)=some (.inl ((s,(u19 (u5o 1000000000 s) y.1.toNat y.2 []).2),((b1,(u19 (u5o 1000000000 s) y.1.toNat y.2 []).1,b3):u0h),())):=L
 rw[L'];rfl
theorem o2k {s:Hs} (hs:s.size≤1048576) (b:u0h) (ht:b.2.2.1= []) {c:Cur} (hc:inT s c):
 u2i ((s,c),b,())=some ((s,(u96 1000000000 1000000000 s c).2),(b.1,b.2.1,(u96 1000000000 1000000000 s c).1,b.2.2.2),()):=by
 have hb:u0e=1099511627776:=rfl
 obtain⟨h1,h2,h3,h4⟩:=u1q hc
 rw[t3f];unfold u5n u96
 simp only
 rw[t5h c (by omega)]
 simp only[zOb]
 generalize u11 s c=y at h1 h2 h3 h4 ⊢
 have L:=t9r (s:=s) u0u (fun(c:Cur) (a:Hu u0g) i=>((s,c),(((b.1,b.2.1,a,b.2.2.2):u0h),()),y.1,i))
  (fun(c:Cur) (a:Hu u0g)=>((s,c),((b.1,b.2.1,a,b.2.2.2):u0h),())) (u5o 1000000000 s) y.1.toNat (r5p (s8h _ s))
  (fun c a i h=>by rw[u41];simp only[u1l];rw[q2g h];rfl)
  (fun c a i h hc2 hin ha=>by
   rw[u41];simp only[u1l];rw[r5o h hc2]
   simp only[zOb,Ad]
   rw[r7p];unfold s0q
   simp only
   rw[p6f hs hin]
   simp only[zOb]
   rw[q3n (by simp;omega),y7l (by omega)];rfl) y.1.toNat 0 y.2 [] (by omega) h1 (by simp)
 rw[show min y.1.toNat 1000000000=y.1.toNat by omega]
 obtain⟨b1,b2,b3,b4⟩:=b
 simp only at ht
 subst ht
 have L' :u0u ((s,y.2),(((b1,b2, [],b4):u0h),()),y.1,0)=some (.inl ((s,(u19 (u5o 1000000000 s) y.1.toNat y.2 []).2),((b1,b2,(u19 (u5o 1000000000 s) y.1.toNat y.2 []).1,b4):u0h),())):=L
 rw[L'];rfl
theorem o3k {s:Hs} (hs:s.size≤1048576) {c:Cur} (hc:inT s c):t7d (s,c)=some ((t29 o73 s c).1,s,(t29 o73 s c).2):=by
 have hb:u0e=1099511627776:=rfl
 have hs' :s.size≤u0e:=by omega
 have hw:=p57 o73 (s:=s) hc
 have hk:=u8k (s8l o73 s c).1 (by have:=hw.2;omega)
 rw[q2n];unfold s38
 unfold t29
 unfold s8l at hk ⊢
 simp only at hk ⊢
 rw[t5h c hs']
 simp only[zOb]
 have i1:=(u1q hc).1
 rw[t5h _ hs']
 simp only[zOb]
 have i2:=(u1q i1).1
 rw[o41 hs' _ rfl i2]
 simp only[zOb]
 have i3:=(t34 (by omega) (r6n s) (min (u11 s (u11 s (u11 s c).2).2).1.toNat 1000000000) (u11 s (u11 s (u11 s c).2).2).2 [] (u1q i2).1).1
 rw[o4d hs _ rfl i3]
 simp only[zOb]
 have i4:=(p59 (m:=1000000000) (k:=1000000000) i3).1
 rw[o2k hs _ rfl i4]
 simp only[zOb]
 rw[show o73.v=1000000000 from rfl,show o73.t=1000000000 from rfl,show o73.p=1000000000 from rfl,show o73.r=1000000000 from rfl] at hk ⊢
 rw[hk]
 simp only[zOb]
 generalize u96 1000000000 1000000000 s (u96 1000000000 1000000000 s _).2=z
 cases h:z.2.2
 ·simp
 ·simp
end
section
theorem t65 {s:Hs} (c:Cur) (hs:s.size≤u0e):u2d (s,c)=some ((u11 s c).1,s,(u11 s c).2):=by
 rw[p5w];unfold q2c u11
 simp only[q49 s c.1 hs,zOb]
 cases h1:c.2
 ·cases h2:(u0r s c.1).2.2<;>simp
 ·simp
theorem t93 {s:Hs} (c:Cur) (hs:s.size≤u0e):u1n (s,c)=some ((u18 s c).1,s,(u18 s c).2):=by
 rw[q0g];unfold s2a u18
 simp only[r7u s c.1 hs,zOb]
 cases h1:c.2
 ·cases h2:(u0v s c.1).2.2
  ·simp[emp]
  ·simp
 ·simp[emp]
theorem q2x {s:Hs} {c:Cur} (hc:inT s c) (hs:s.size≤u0e):u5z (s,c)=some ((q3o s c).1,s,(q3o s c).2):=by
 have hb:u0e=1099511627776:=rfl
 unfold inT at hc
 obtain⟨k,hk⟩:∃k:Nat,c.1=k:=⟨c.1.toNat,by omega⟩
 rw[q4m];unfold s7b q3o
 simp only[hk]
 cases h1:c.2
 ·by_cases h2:k<s.size
  ·have e1:decide ((k:Int)≥(s.size:Int))=false:=A7 (by omega)
   have e3:IntKind.i64.wrap ((k:Int)+1)=(k:Int)+1:=y4y (by omega) (by omega)
   have e5:IntKind.i64.wrap ((k:Int)+1 - 1)=k:=by rw[y4y (by omega) (by omega)];omega
   rw[e1,e3,e5]
   simp only[Aa,zOb,y7t h2,Ad,zTn,gt1,eq1]
   rw[show(s.data.toList.getD k 0).toNat=u57 s k from rfl]
   by_cases h3:1<u57 s k
   ·simp[h3]
   ·have h3' :u57 s k≤1:=by omega
    simp[h3,h3',h2]
  ·have e1:decide ((k:Int)≥(s.size:Int))=true:=Bb (by omega)
   rw[e1]
   simp only[Aa,zOb,Ad]
   rw[Al (.inr (.inl (by omega)))]
 ·simp
theorem q8a {n k:Int} {i:Nat} {c:Cur} (h:min n.toNat k.toNat≤i∨c.2=true):((bif decide ((i:Int)<n) then(bif decide ((i:Int)<k) then some (!c.2) else some false) else some false:Ht Bool))=some false:=by
 rcases h with h | h
 ·by_cases q:(i:Int)<n
  ·rw[Bb q,A7 (show ¬(i:Int)<k by omega)];rfl
  ·rw[A7 q];rfl
 ·rw[h];cases decide ((i:Int)<n)<;>cases decide ((i:Int)<k)<;>rfl
theorem q3w {n k:Int} {i:Nat} {c:Cur} (h:i<min n.toNat k.toNat) (hc:c.2=false):((bif decide ((i:Int)<n) then(bif decide ((i:Int)<k) then some (!c.2) else some false) else some false:Ht Bool))=some true:=by
 rw[Bb (show(i:Int)<n by omega),Bb (show(i:Int)<k by omega),hc];rfl
theorem o4m {s:Hs} (hs:s.size≤u0e) (z t:u0g) (n:Int) {c:Cur} (hc:inT s c) (ht:t.2.2.2.2.1= []):
 u9p (z,(s,c),t,n,0)=some (.inl (z,(s,(u19 (p58 s) (min n.toNat 10) c []).2),(t.1,t.2.1,t.2.2.1,t.2.2.2.1,(u19 (p58 s) (min n.toNat 10) c []).1,t.2.2.2.2.2))):=by
 have L:=t9r (s:=s) u9p (fun(c:Cur) (a:Hu p20) i=>(z,(s,c),((t.1,t.2.1,t.2.2.1,t.2.2.2.1,a,t.2.2.2.2.2):u0g),n,i))
  (fun(c:Cur) (a:Hu p20)=>(z,(s,c),((t.1,t.2.1,t.2.2.1,t.2.2.2.1,a,t.2.2.2.2.2):u0g))) (p58 s) (min n.toNat 10) (r5p (r6l s))
  (fun c a i h=>by rw[r3c];simp only[t4s];rw[q8a (k:=10) h];rfl)
  (fun c a i h hc2 hin ha=>by
   rw[r3c];simp only[t4s];rw[q3w (k:=10) h hc2]
   simp only[zOb,Ad]
   rw[t93 c hs]
   simp only[zOb]
   rw[t93 _ hs]
   simp only[zOb]
   rw[q3n (by simp;omega),y7l (by omega)]
   rfl) (min n.toNat 10) 0 c [] (by omega) hc (by simp)
 obtain⟨t1,t2,t3,t4,t5,t6⟩:=t
 simp only at ht
 subst ht
 exact L
theorem o6q {s:Hs} (hs:s.size≤u0e) (z t:u0g) (n:Int) {c:Cur} (hc:inT s c) (ht:t.2.2.2.2.2.1= []):
 u7s (z,(s,c),t,n,0)=some (.inl (z,(s,(u19 (rWr s) (min n.toNat 10) c []).2),(t.1,t.2.1,t.2.2.1,t.2.2.2.1,t.2.2.2.2.1,(u19 (rWr s) (min n.toNat 10) c []).1,t.2.2.2.2.2.2))):=by
 have L:=t9r (s:=s) u7s (fun(c:Cur) (a:Hu WrT) i=>(z,(s,c),((t.1,t.2.1,t.2.2.1,t.2.2.2.1,t.2.2.2.2.1,a,t.2.2.2.2.2.2):u0g),n,i))
  (fun(c:Cur) (a:Hu WrT)=>(z,(s,c),((t.1,t.2.1,t.2.2.1,t.2.2.2.1,t.2.2.2.2.1,a,t.2.2.2.2.2.2):u0g))) (rWr s) (min n.toNat 10) (r5p (q20 s))
  (fun c a i h=>by rw[s87];simp only[t15];rw[q8a (k:=10) h];rfl)
  (fun c a i h hc2 hin ha=>by
   rw[s87];simp only[t15];rw[q3w (k:=10) h hc2]
   simp only[zOb,Ad]
   rw[t93 c hs]
   simp only[zOb]
   rw[t93 _ hs]
   simp only[zOb]
   rw[q2x (u6y (u6y hin).1).1 hs]
   simp only[zOb]
   rw[q3n (by simp;omega),y7l (by omega)]
   rfl) (min n.toNat 10) 0 c [] (by omega) hc (by simp)
 obtain⟨t1,t2,t3,t4,t5,t6,t7⟩:=t
 simp only at ht
 subst ht
 exact L
theorem o08 {s:Hs} (hs:s.size≤1048576) {a:Int} (hc:inT s (a,false)):
 t9f (s,a)=some (if(u5o 10 s (a,false)).2.2=true then(t37,0,false) else((u5o 10 s (a,false)).1,(u5o 10 s (a,false)).2.1,true)):=by
 have hb:u0e=1099511627776:=rfl
 have hs' :s.size≤u0e:=by omega
 have hw:=q9x 10 s (a,false) hc
 have hin:=hc
 unfold inT at hin
 simp only at hin
 have hwt:u0i.wt (q7q 10 s (a,false)).1≤u0e:=by
  have h1:=hw.1
  unfold inT at h1
  have:=(u7w (q7q 10 s (a,false)).2 (k:=20) (by omega)).2
  have:=hw.2
  simp only at this
  omega
 have hk:=s1y _ hwt
 rw[p12];unfold r8v
 unfold u5o
 unfold q7q at hk ⊢
 simp only at hk ⊢
 rw[t65 _ hs']
 simp only[zOb]
 have i1:=(u1q hc).1
 rw[t65 _ hs']
 simp only[zOb]
 have i2:=(u1q i1).1
 rw[t65 _ hs']
 simp only[zOb]
 have i3:=(u1q i2).1
 rw[t65 _ hs']
 simp only[zOb]
 have i4:=(u1q i3).1
 rw[t65 _ hs']
 simp only[zOb]
 have i5:=(u1q i4).1
 rw[o4m hs' _ _ _ i5 rfl]
 simp only[zOb]
 have i6:=(t34 (by omega) (r6l s) (min (u11 s (u11 s (u11 s (u11 s (u11 s (a,false)).2).2).2).2).1.toNat 10) (u11 s (u11 s (u11 s (u11 s (u11 s (a,false)).2).2).2).2).2 [] i5).1
 rw[t65 _ hs']
 simp only[zOb]
 have i7:=(u1q i6).1
 rw[o6q hs' _ _ _ i7 rfl]
 simp only[zOb]
 rw[q2x (t34 (by omega) (q20 s) _ _ [] i7).1 hs']
 simp only[zOb]
 rw[t93 _ hs']
 simp only[zOb]
 rw[hk]
 simp only[zOb]
 generalize u18 s _=z
 generalize u5r _=o
 cases h:z.2.2<;>cases o<;>simp[t37,emp]
theorem p8r {s:Hs} (hs:s.size≤1048576) (m:Nat) (hm:m≤1000) {c:Cur} (hc:inT s c):
 ∃(l:Hu u0g) (c' :Cur),t00 ((s,c),(m:Int))=some (l,s,c')∧inT s c' ∧c'.2=(u96 10 (m+1) s c).2.2∧c.1+((Ty.sl u0i).wt l:Nat)≤c'.1+22∧(c'.2=false→(l,c')=u96 10 (m+1) s c):=by
 have hb:u0e=1099511627776:=rfl
 obtain⟨h1,h2,h3,h4⟩:=u1q hc
 rw[q2u];unfold s4e u96
 simp only
 rw[t65 c (by omega)]
 simp only[zOb]
 generalize u11 s c=y at h1 h2 h3 h4 ⊢
 have key:∀(k i:Nat) (d:Cur) (a:Hu u0g),i+k=min y.1.toNat (m+1)→inT s d→a.length≤i→y.2.1+((a.length+(a.map u0i.wt).sum:Nat):Int)≤d.1+bad d 20→
  ∃(r:((Hs×Cur)×Hu u0g)⊕((Hs×Cur)×Hu u0g)) (l:Hu u0g) (c' :Cur),u5k ((s,d),(m:Int),a,y.1,(i:Int))=some r∧(r= .inl ((s,c'),l)∨r= .inr ((s,c'),l))∧inT s c' ∧c'.2=(u19 (u5o 10 s) k d a).2.2∧
   y.2.1+((l.length+(l.map u0i.wt).sum:Nat):Int)≤c'.1+bad c' 20∧(c'.2=false→(l,c')=u19 (u5o 10 s) k d a):=by
  intro k
  induction k with
  | zero=>
   intro i d a hi hd ha hw
   refine⟨_,a,d,?_, .inl rfl,hd,rfl,hw,fun _=>rfl⟩
   rw[u7j];simp only[u3z]
   have:(bif decide ((i:Int)<y.1) then(bif decide ((i:Int)≤(m:Int)) then some (!d.2) else some false) else some false:Ht Bool)=some false:=by
    by_cases q:(i:Int)<y.1
    ·rw[Bb q,A7 (show ¬(i:Int)≤m by omega)];rfl
    ·rw[A7 q];rfl
   rw[this];rfl
  | succ k ih=>
   intro i d a hi hd ha hw
   by_cases q:d.2=true
   ·refine⟨_,a,d,?_, .inl rfl,hd,by rw[t33 q],hw,fun z=>by rw[q] at z;cases z⟩
    rw[u7j];simp only[u3z]
    have:(bif decide ((i:Int)<y.1) then(bif decide ((i:Int)≤(m:Int)) then some (!d.2) else some false) else some false:Ht Bool)=some false:=by
     rw[q];cases decide ((i:Int)<y.1)<;>cases decide ((i:Int)≤(m:Int))<;>rfl
    rw[this];rfl
   ·have q' :d.2=false:=by simpa using q
    have ed:d=(d.1,false):=by rw[←q']
    have hx:=o08 hs (a:=d.1) (by rw[←ed];exact hd)
    rw[←ed] at hx
    have he:=s8h 10 s d hd
    have hbd:bad d 20=0:=by unfold bad;rw[Ao q]
    have c1:(bif decide ((i:Int)<y.1) then(bif decide ((i:Int)≤(m:Int)) then some (!d.2) else some false) else some false:Ht Bool)=some true:=by
     rw[Bb (show(i:Int)<y.1 by omega),Bb (show(i:Int)≤m by omega),q'];rfl
    simp only[u19]
    rw[Ao q]
    cases z:(u5o 10 s d).2.2
    ·rw[Ao (by rw[z];simp)] at hx
     have hbz:bad (u5o 10 s d).2 20=0:=by unfold bad;rw[Ao (by rw[z];simp)]
     obtain⟨r,l,c',e1,e2,e3,e4,e5,e6⟩:=ih (i+1) (u5o 10 s d).2 (a++ [(u5o 10 s d).1]) (by omega) he.1 (by simp;omega) (by
      have:=he.2
      rw[hbd] at hw
      rw[hbz] at this ⊢
      simp only[Ba,Aw,Dh,C8,Eh,Fn,Ge,Gq]
      omega)
     refine⟨r,l,c',?_,e2,e3,e4,e5,e6⟩
     rw[←e1,u7j];simp only[u3z]
     rw[c1]
     simp only[zOb,Ad]
     rw[hx]
     simp only[zOb,Ap,Aa]
     rw[q3n (by simp;omega),y7l (by omega),q']
     have:(u5o 10 s d).2=((u5o 10 s d).2.1,false):=by rw[←z]
     rw[this]
    ·rw[Al z] at hx
     refine⟨_,a,(d.1,true),?_, .inr rfl,hd,by rw[t33 z,z],?_,fun w=>by cases w⟩
     ·rw[u7j];simp only[u3z]
      rw[c1]
      simp only[zOb,Ad]
      rw[hx]
      rfl
     ·rw[hbd] at hw
      have:bad ((d.1,true):Cur) 20=20:=rfl
      rw[this];simp only;omega
 have hb0:0≤bad y.2 20:=(u7w _ (by omega)).1
 obtain⟨r,l,c',e1,e2,e3,e4,e5,e6⟩:=key (min y.1.toNat (m+1)) 0 y.2 [] (by omega) h1 (by simp) (by simp only[Cc,Eh,Gq];omega)
 have e1' :u5k ((s,y.2),(m:Int), [],y.1,0)=some r:=e1
 refine⟨l,c',?_,e3,e4,?_,e6⟩
 ·rw[e1']
  rcases e2 with e2 | e2<;>rw[e2] <;>rfl
 ·have e:(Ty.sl u0i).wt l=l.length+(l.map u0i.wt).sum:=rfl
  rw[e]
  have t1:=(u7w y.2 (k:=1) (by omega)).2
  have t2:=(u7w c' (k:=20) (by omega)).2
  omega
def o5v:Lim:=⟨10,130,13,4⟩
theorem o75:o5v.ok:=⟨by decide,by decide,by decide,by decide⟩
theorem o42 {s:Hs} (hs:s.size≤u0e) (z b:u0h) (n:Int) {c:Cur} (hc:inT s c) (ht:b.1= []):
 u7r (z,(s,c),b,n,0)=some (.inl (z,(s,(u19 (p6a s) (min n.toNat 130) c []).2),((u19 (p6a s) (min n.toNat 130) c []).1,b.2))):=by
 have L:=t9r (s:=s) u7r (fun(c:Cur) (a:Hu u3a) i=>(z,(s,c),((a,b.2):u0h),n,i))
  (fun(c:Cur) (a:Hu u3a)=>(z,(s,c),((a,b.2):u0h))) (p6a s) (min n.toNat 130) (r5p (r6n s))
  (fun c a i h=>by rw[s86];simp only[t14];rw[q8a (k:=130) h];rfl)
  (fun c a i h hc2 hin ha=>by
   rw[s86];simp only[t14];rw[q3w (k:=130) h hc2]
   simp only[zOb,Ad]
   rw[t93 c hs]
   simp only[zOb]
   rw[t93 _ hs]
   simp only[zOb]
   rw[q2x (u6y (u6y hin).1).1 hs]
   simp only[zOb]
   rw[t65 _ hs]
   simp only[zOb]
   rw[q3n (by simp;omega),y7l (by omega)]
   rfl) (min n.toNat 130) 0 c [] (by omega) hc (by simp)
 obtain⟨b1,b2⟩:=b
 simp only at ht
 subst ht
 exact L
theorem o3l {s:Hs} (hs:s.size≤1048576) {a:Int} (hc:inT s (a,false)):
 s3j (s,a)=some (if(t29 o5v s (a,false)).2.2=true then(u5f,0,false) else((t29 o5v s (a,false)).1,(t29 o5v s (a,false)).2.1,true)):=by
 have hb:u0e=1099511627776:=rfl
 have hs' :s.size≤u0e:=by omega
 have hw:=p57 o5v (s:=s) hc
 have hk:=t7z (s8l o5v s (a,false)).1 (by have:=hw.2;omega)
 rw[q9b];unfold r5e
 unfold t29
 unfold s8l at hk ⊢
 simp only at hk ⊢
 rw[t65 _ hs']
 simp only[zOb]
 have i1:=(u1q hc).1
 rw[t65 _ hs']
 simp only[zOb]
 have i2:=(u1q i1).1
 rw[t65 _ hs']
 simp only[zOb]
 have i3:=(u1q i2).1
 rw[o42 hs' _ _ _ i3 rfl]
 simp only[zOb]
 have i4f:=t34 (by omega) (r6n s) (min (u11 s (u11 s (u11 s (a,false)).2).2).1.toNat 130) (u11 s (u11 s (u11 s (a,false)).2).2).2 [] i3
 rw[show o5v.v=130 from rfl,show o5v.t=10 from rfl,show o5v.p=12+1 from rfl,show o5v.r=3+1 from rfl] at hk ⊢
 generalize hvs:u19 (p6a s) (min (u11 s (u11 s (u11 s (a,false)).2).2).1.toNat 130) (u11 s (u11 s (u11 s (a,false)).2).2).2 [] =vs at hk i4f ⊢
 obtain⟨i4,i4w⟩:=i4f
 obtain⟨l1,d1,e1,e2,e3,e4,e5⟩:=p8r hs 12 (by omega) i4
 obtain⟨l2,d2,f1,f2,f3,f4,f5⟩:=p8r hs 3 (by omega) e2
 rw[show((12:Nat):Int)=12 from rfl] at e1
 rw[show((3:Nat):Int)=3 from rfl] at f1
 rw[e1]
 simp only[zOb]
 rw[f1]
 simp only[zOb]
 cases z:d2.2
 ·have z1:d1.2=false:=by
   cases w:d1.2
   ·rfl
   ·have:(u96 10 (3+1) s d1).2.2=true:=r6m w
    rw[←f3,z] at this;cases this
  have g1:=e5 z1
  have g2:=f5 z
  rw[←g1]
  rw[←g1] at hk
  simp only at hk ⊢
  rw[←g2]
  rw[←g2] at hk
  simp only at hk ⊢
  rw[hk]
  simp only[zOb,z,Aa,Ci]
  generalize u6r _=o
  cases o<;>simp[u5f]
 ·have zz:(u96 10 (3+1) s (u96 10 (12+1) s vs.2).2).2.2=true:=by
   cases w:d1.2
   ·have g1:=e5 w
    rw[←g1]
    show(u96 10 (3+1) s d1).2.2=true
    rw[←f3];exact z
   ·exact r6m (by rw[←e3];exact w)
  rw[zz]
  simp[u5f]
theorem p4c (t:Hs) (ht:t.size≤u0e):s2z t=some (match t25 t with
 | some s=>(s,true)
 | none=>(emp,false)):=by
 have hb:u0e=1099511627776:=rfl
 rw[q8n];unfold r4q t25
 by_cases h4:t.size<4
 ·rw[Bb (by omega),Ao (by omega)];rfl
 ·rw[A7 (by omega),y4y (n:=(t.size:Int) - 4) (by omega) (by omega)]
  have c1:(decide ((0:Int)≤0)&&decide ((0:Int)≤(t.size:Int) - 4)&&decide ((t.size:Int) - 4≤(t.size:Int)))=true:=by simp;omega
  have e1:((t.size:Int) - 4).toNat=t.size - 4:=by omega
  rw[c1,e1,show((0:Int)).toNat=0 from rfl]
  have hz:(t.extract 0 (t.size - 4)).size=t.size - 4:=by simp
  simp only[Aa,Ad]
  rw[s16 _ (by rw[hz];omega)]
  simp only[zOb]
  unfold q93
  rw[hz]
  by_cases h5:t.size - 4≤20000
  ·rw[Al h5]
   simp only[Ap,Aa,zOb]
   by_cases h6:q26 (t.extract 0 (t.size - 4))=t
   ·rw[Al ⟨by omega,h5,h6⟩,y7f.mpr h6];rfl
   ·rw[Ao (fun q=>h6 q.2.2),p96.mpr h6];rfl
  ·rw[Ao h5,Ao (fun q=>h5 q.2.1)];rfl
theorem p8l {t:Hs} (h:4≤t.size):q26 (t.extract 0 (t.size - 4))=t↔t.extract (t.size - 4) t.size=j1e (o8a (t.extract 0 (t.size - 4))):=by
 have e:t.extract 0 (t.size - 4)++t.extract (t.size - 4) t.size=t:=by
  rw[ByteArray.extract_append_extract,Nat.zero_min,Nat.max_eq_right (by omega)]
  exact Fu
 unfold q26
 constructor
 ·intro q
  have:=e.trans q.symm
  exact ByteArray.append_right_inj (t.extract 0 (t.size - 4)) |>.mp this
 ·intro q;rw[←q,e]
theorem o1w (t:Hs) (ht:t.size≤1099511627776):s49 t=some (o8a t):=by
 rw[q53];unfold r5h
 rw[q5b _ _ ht];rfl
theorem o23 (x:Int):t9h x=some (j1e x):=by
 rw[r9i];rfl
theorem p4d (t:Hs) (ht:t.size≤u0e):s3l t=some (match t25 t with
 | some s=>(s,true)
 | none=>(emp,false)):=by
 have hb:u0e=1099511627776:=rfl
 rw[q9e];unfold r5i t25
 rw[y4y (n:=(t.size:Int) - 4) (by omega) (by omega)]
 by_cases h4:t.size<4
 ·rw[Bb (show(t.size:Int) - 4<0 by omega),Ao (by omega)];rfl
 ·rw[A7 (show ¬(t.size:Int) - 4<0 by omega)]
  have c1:(decide ((0:Int)≤0)&&decide ((0:Int)≤(t.size:Int) - 4)&&decide ((t.size:Int) - 4≤(t.size:Int)))=true:=by simp;omega
  have c2:(decide ((0:Int)≤(t.size:Int) - 4)&&decide ((t.size:Int) - 4≤(t.size:Int))&&decide ((t.size:Int)≤(t.size:Int)))=true:=by simp;omega
  have e1:((t.size:Int) - 4).toNat=t.size - 4:=by omega
  rw[c1,c2,e1,show((0:Int)).toNat=0 from rfl,zTn]
  have hz:(t.extract 0 (t.size - 4)).size=t.size - 4:=by simp
  simp only[Aa,Ad]
  by_cases h5:t.size - 4≤20000
  ·rw[A7 (show ¬(t.size:Int) - 4 >20000 by omega),o1w _ (by rw[hz];omega)]
   simp only[zOb,Aa]
   rw[o23]
   simp only[zOb]
   by_cases h6:q26 (t.extract 0 (t.size - 4))=t
   ·rw[Al ⟨by omega,h5,h6⟩,(p8l (by omega)).mp h6,y6l];rfl
   ·rw[Ao (fun q=>h6 q.2.2),p96.mpr (mt (p8l (t:=t) (by omega)).mpr h6)];rfl
  ·rw[Bb (show(t.size:Int) - 4 >20000 by omega),Ao (fun q=>h5 q.2.1)];rfl
end
section
def noR:r3o:=(0,t37,emp,false,u5f)
def t35 (t:Hs):r3o×Bool:=match u4k t with
 | some r=>(r,true)
 | none=>(noR,false)
theorem o59 {t:Hs} {r:r3o} (h:u14 r=(t,true)):u4k t=some r:=by
 have hr:u55 r=true:=by
  cases q:u55 r with
  | true=>rfl
  | false=>
   unfold u14 at h
   rw[Ao (by simp[q])] at h
   simp at h
 have hR:=o68.mp hr
 rw[s5b hR] at h
 rw[←(Dv h).1]
 exact p8h hR
theorem o58 {t s:Hs} {r:r3o} (hu:t25 t=some s) (h:u4k t=some r):RecR r∧s=q23 r∧u14 r=(t,true):=by
 obtain⟨h1,h2⟩:=q22 h
 have hs:=s8o h1
 have:=q3a (t:=q23 r) (by omega)
 rw[←h2,hu] at this
 exact⟨h1,Ds this,by rw[s5b h1,←h2]⟩
theorem r7c {t s:Hs} {r' :r3o} {b:Bool} (hu:t25 t=some s) (hr:∀r,RecR r→s=q23 r→r' =r∧b=false):
 (((bif b then some true else(bif (!(u14 r').2) then some true else some (!z7o (u14 r').1 t))):Ht Bool).bind fun j=>bif j then some (noR,false) else some (r',true))=some (t35 t):=by
 unfold t35
 cases h:u4k t with
 | some r=>
  obtain⟨h1,h2,h3⟩:=o58 hu h
  obtain⟨e1,e2⟩:=hr r h1 h2
  subst e1
  rw[e2,h3]
  simp only[Aa,Ap,y6l,zOb]
 | none=>
  cases b
  ·cases h2:(u14 r').2
   ·rfl
   ·have:z7o (u14 r').1 t=false:=by
     rw[p96]
     intro e
     have:=o59 (t:=t) (r:=r') (by rw[←e,←h2])
     rw[h] at this;cases this
    rw[this];rfl
  ·rfl
theorem o0k (s:Hs):((s.data.toList.getD 0 0).toNat:Int)=(u57 s 0:Int):=rfl
theorem p7a (s:Hs) (i:Nat):u57 s i<256:=by unfold u57;exact Fw _
theorem q3b {t s:Hs} (h:t25 t=some s):s.size≤20000:=by
 unfold t25 at h
 split at h
 ·rename_i q
  have:=Ds h
  rw[←this];simp;omega
 ·cases h
theorem j46 (k:Nat):decide ((k:Int)=3)=decide (k=3):=by simp;omega
theorem j47 (k:Nat):decide ((k:Int)=4)=decide (k=4):=by simp;omega
theorem q3k:u0i.wt t37=0:=rfl
theorem q3j:p0w.wt u5f=0:=rfl
theorem o0u (m:Nat) {s:Hs} (hs:s.size≤20000) (h1:1≤s.size):u0i.wt (u5o m s (1,false)).1≤30000:=by
 have h:=s8h m s (1,false) ⟨by simp,by simp;omega⟩
 have h2:=h.1
 unfold inT at h2
 have:=(u7w (u5o m s (1,false)).2 (k:=20) (by omega)).2
 have:=h.2
 simp only at this
 omega
theorem p77 (m:Lim) {s:Hs} (hs:s.size≤20000) (h1:1≤s.size):p0w.wt (t29 m s (1,false)).1≤30000:=by
 have h:=p57 m (s:=s) (c:=(1,false)) ⟨by simp,by simp;omega⟩
 have e:(t29 m s (1,false)).1=(s8l m s (1,false)).1:=rfl
 rw[e];have:=h.2;omega
theorem q7u (t:Hs) (ht:t.size≤u0e):t74 t=some (t35 t):=by
 have hb:u0e=1099511627776:=rfl
 rw[q31];unfold s6r
 rw[p4c t ht]
 simp only[zOb]
 cases hu:t25 t with
 | none=>
  unfold t35 u4k
  rw[hu];rfl
 | some s=>
  have hs:=q3b hu
  simp only[t2v]
  by_cases h0:s.size=0
  ·unfold t35 u4k
   rw[hu]
   simp only
   rw[Al h0,Bb h0];rfl
  ·have hin:inT s (1,false):=⟨by simp,by simp;omega⟩
   rw[A7 h0]
   simp only[Ap,Aa,zOb]
   rw[show y4q (0:Int) s.size=true from y7t (i:=0) (by omega)]
   simp only[Ad,show((0:Int)).toNat=0 from rfl,o0k]
   rw[y4y (n:=(u57 s 0:Int)) (by omega) (by have:=p7a s 0;omega),j46,j47]
   by_cases h3:u57 s 0=3
   ·rw[Bb h3,t92 _ (by omega)]
    simp only[Ad,zOb]
    rw[q2w _ (by omega)]
    simp only[zOb]
    have hf:=(u6y hin).2
    have hg:=(u6y hin).1
    unfold inT at hg
    have:=(u7w (u18 s (1,false)).2 (k:=1) (by omega)).2
    simp only at hf
    have hk:=s11 ((u57 s 0:Int),t37,(u18 s (1,false)).1,(q3o s (u18 s (1,false)).2).1,u5f) (by rw[r6p];simp only[q3k,q3j];omega)
    rw[show((0:Int),(0:Int),(0:Int),(0:Int),([] :Hu p20),([] :Hu WrT),false,(⟨#[]⟩:Hs))=t37 from rfl]
    rw[show(([] :Hu u3a),([] :Hu u0g),([] :Hu u0g),(0:Int),(0:Int))=u5f from rfl]
    rw[hk]
    simp only[zOb]
    refine r7c hu (b:=(q3o s (u18 s (1,false)).2).2.2) fun r h1 h2=> ?_
    have:=t8i h1
    rw[←h2] at this
    unfold t01 at this
    rw[Al h3] at this
    rw[h3]
    exact⟨(Dv this).1,(Dv this).2⟩
   ·rw[A7 h3]
    by_cases h4:u57 s 0=4
    ·rw[Bb h4,o3k (by omega) hin]
     simp only[Ad,Aa,zOb]
     have hk:=s11 ((u57 s 0:Int),t37,emp,false,(t29 o73 s (1,false)).1) (by rw[r6p];simp only[q3k];have:=p77 o73 hs (by omega);simp only[emp,ByteArray.size];simp;omega)
     rw[show((0:Int),(0:Int),(0:Int),(0:Int),([] :Hu p20),([] :Hu WrT),false,(⟨#[]⟩:Hs))=t37 from rfl]
     rw[show(([] :Hu u3a),([] :Hu u0g),([] :Hu u0g),(0:Int),(0:Int))=u5f from rfl]
     rw[show((⟨#[]⟩:Hs))=emp from rfl]
     rw[hk]
     simp only[zOb]
     refine r7c hu (b:=(t29 o73 s (1,false)).2.2) fun r h1 h2=> ?_
     have:=t8i h1
     rw[←h2] at this
     unfold t01 at this
     rw[Ao h3,Al h4] at this
     have hl:=p3b p9y o74 (Dv this).2
     rw[h4,hl]
     exact⟨(Dv this).1,(Dv this).2⟩
    ·rw[A7 h4,p6f (by omega) hin]
     simp only[Ad,Aa,zOb]
     have hk:=s11 ((u57 s 0:Int),(u5o 1000000000 s (1,false)).1,emp,false,u5f) (by rw[r6p];simp only[q3j];have:=o0u 1000000000 hs (by omega);simp only[emp,ByteArray.size];simp;omega)
     rw[show((0:Int),(0:Int),(0:Int),(0:Int),([] :Hu p20),([] :Hu WrT),false,(⟨#[]⟩:Hs))=t37 from rfl]
     rw[show(([] :Hu u3a),([] :Hu u0g),([] :Hu u0g),(0:Int),(0:Int))=u5f from rfl]
     rw[show((⟨#[]⟩:Hs))=emp from rfl]
     rw[hk]
     simp only[zOb]
     refine r7c hu (b:=(u5o 1000000000 s (1,false)).2.2) fun r h1 h2=> ?_
     have:=t8i h1
     rw[←h2] at this
     unfold t01 at this
     rw[Ao h3,Ao h4] at this
     have hl:=q9v (m:=9) (m' :=1000000000) (by omega) (by omega) (Dv this).2
     rw[hl]
     exact⟨(Dv this).1,(Dv this).2⟩
theorem q7v (t:Hs) (ht:t.size≤u0e):t8d t=some (t35 t):=by
 have hb:u0e=1099511627776:=rfl
 rw[q4f];unfold s65
 rw[p4d t ht]
 simp only[zOb]
 cases hu:t25 t with
 | none=>
  unfold t35 u4k
  rw[hu];rfl
 | some s=>
  have hs:=q3b hu
  simp only[t2v]
  by_cases h0:s.size=0
  ·unfold t35 u4k
   rw[hu]
   simp only
   rw[Al h0,Bb h0];rfl
  ·have hin:inT s (1,false):=⟨by simp,by simp;omega⟩
   rw[A7 h0]
   simp only[Ap,Aa,zOb]
   rw[show y4q (0:Int) s.size=true from y7t (i:=0) (by omega)]
   simp only[Ad,show((0:Int)).toNat=0 from rfl,o0k]
   rw[y4y (n:=(u57 s 0:Int)) (by omega) (by have:=p7a s 0;omega),j46,j47]
   by_cases h3:u57 s 0=3
   ·rw[Bb h3,t93 _ (by omega)]
    simp only[Ad,zOb]
    rw[q2x (u6y hin).1 (by omega)]
    simp only[zOb]
    have hf:=(u6y hin).2
    have hg:=(u6y hin).1
    unfold inT at hg
    have:=(u7w (u18 s (1,false)).2 (k:=1) (by omega)).2
    simp only at hf
    have hk:=s12 ((u57 s 0:Int),t37,(u18 s (1,false)).1,(q3o s (u18 s (1,false)).2).1,u5f) (by rw[r6p];simp only[q3k,q3j];omega)
    rw[show((0:Int),(0:Int),(0:Int),(0:Int),([] :Hu p20),([] :Hu WrT),false,(⟨#[]⟩:Hs))=t37 from rfl]
    rw[show(([] :Hu u3a),([] :Hu u0g),([] :Hu u0g),(0:Int),(0:Int))=u5f from rfl]
    rw[hk]
    simp only[zOb]
    refine r7c hu (b:=false) fun r h1 h2=> ?_
    have:=t8i h1
    rw[←h2] at this
    unfold t01 at this
    rw[Al h3] at this
    rw[h3]
    exact⟨(Dv this).1,rfl⟩
   ·rw[A7 h3]
    by_cases h4:u57 s 0=4
    ·rw[Bb h4,o3l (by omega) hin]
     simp only[Ad,Aa,zOb]
     generalize hy:(if(t29 o5v s (1,false)).2.2=true then(u5f,(0:Int),false) else((t29 o5v s (1,false)).1,(t29 o5v s (1,false)).2.1,true))=y
     have hyw:p0w.wt y.1≤30000:=by
      rw[←hy]
      split
      ·rw[q3j];omega
      ·exact p77 o5v hs (by omega)
     have hk:=s12 ((u57 s 0:Int),t37,emp,false,y.1) (by rw[r6p];simp only[q3k];simp only[emp,ByteArray.size];simp;omega)
     rw[show((0:Int),(0:Int),(0:Int),(0:Int),([] :Hu p20),([] :Hu WrT),false,(⟨#[]⟩:Hs))=t37 from rfl]
     rw[show(([] :Hu u3a),([] :Hu u0g),([] :Hu u0g),(0:Int),(0:Int))=u5f from rfl]
     rw[show((⟨#[]⟩:Hs))=emp from rfl]
     rw[hk]
     simp only[zOb]
     refine r7c hu (b:=false) fun r h1 h2=> ?_
     have:=t8i h1
     rw[←h2] at this
     unfold t01 at this
     rw[Ao h3,Al h4] at this
     have hl:=p3b p9y o75 (Dv this).2
     rw[hl,Ao (by rw[(Dv this).2];simp)] at hy
     rw[h4,←hy]
     exact⟨(Dv this).1,rfl⟩
    ·rw[A7 h4,o08 (by omega) hin]
     simp only[Ad,Aa,zOb]
     generalize hy:(if(u5o 10 s (1,false)).2.2=true then(t37,(0:Int),false) else((u5o 10 s (1,false)).1,(u5o 10 s (1,false)).2.1,true))=y
     have hyw:u0i.wt y.1≤30000:=by
      rw[←hy]
      split
      ·rw[q3k];omega
      ·exact o0u 10 hs (by omega)
     have hk:=s12 ((u57 s 0:Int),y.1,emp,false,u5f) (by rw[r6p];simp only[q3j];simp only[emp,ByteArray.size];simp;omega)
     rw[show((0:Int),(0:Int),(0:Int),(0:Int),([] :Hu p20),([] :Hu WrT),false,(⟨#[]⟩:Hs))=t37 from rfl]
     rw[show(([] :Hu u3a),([] :Hu u0g),([] :Hu u0g),(0:Int),(0:Int))=u5f from rfl]
     rw[show((⟨#[]⟩:Hs))=emp from rfl]
     rw[hk]
     simp only[zOb]
     refine r7c hu (b:=false) fun r h1 h2=> ?_
     have:=t8i h1
     rw[←h2] at this
     unfold t01 at this
     rw[Ao h3,Ao h4] at this
     have hl:=q9v (m:=9) (m' :=10) (by omega) (by omega) (Dv this).2
     rw[hl,Ao (by rw[(Dv this).2];simp)] at hy
     rw[←hy]
     exact⟨(Dv this).1,rfl⟩
end
section
theorem p9a (l:Hu u0g) (c:Hs) (hl:l.length≤8388608):u1y (l,c)=some (l.filter fun x=> !z7o x.2.2.2.2.2.2.2 c):=by
 have hq:∀x∈l,u6e (x,c)=some (z7o x.2.2.2.2.2.2.2 c):=fun x _=>by rw[q6o];rfl
 have L:=Q.first (T:=u0i) (c:=Hs) (W:=u05) (q:=u6e) (p:=fun x:u0g=>z7o x.2.2.2.2.2.2.2 c) (fun x=>u8a x) l c (by omega) hq
 rw[u83];unfold u3s
 simp only[u9z,u35,L,zOb]
 by_cases hk:u1e (fun x:u0g=>z7o x.2.2.2.2.2.2.2 c) l<l.length
 ·obtain⟨a,e1,e2,e3⟩:=Q.delete (T:=u0i) (c:=Hs) (W:=u0z) (q:=u6e) (p:=fun x:u0g=>z7o x.2.2.2.2.2.2.2 c) (fun x=>u75 x) l c (by omega) hq hk
  have hn:=u92 (fun x:u0g=> !z7o x.2.2.2.2.2.2.2 c) l
  obtain⟨n,hne⟩:∃n,n=(l.filter fun x:u0g=> !z7o x.2.2.2.2.2.2.2 c).length:=⟨_,rfl⟩
  rw[←hne] at e1 e3 hn
  have c1:decide (((u1e (fun x:u0g=>z7o x.2.2.2.2.2.2.2 c) l:Nat):Int)= -1)=false:=by simp
  have c2:decide ((0:Int)≤(n:Int))=true:=by simp
  have c3:decide ((n:Int)≤(a.length:Int))=true:=by simp;omega
  have c4:decide ((a.length:Int)≤(a.length:Int))=true:=by simp
  have hw:=y7l (i:=u1e (fun x:u0g=>z7o x.2.2.2.2.2.2.2 c) l) (by omega)
  simp only[Al hk,zOb,c1,Aa,hw,e1,c2,c3,c4,Dt,Ad,zTn,Ae,Bv]
  have c5:decide ((n:Int)≤((a.take n++List.replicate (a.length - n) u0i.zero++a.drop (n+(a.length - n))).length:Int))=true:=by simp;omega
  have c6:(a.take n++List.replicate (a.length - n) u0i.zero++a.drop (n+(a.length - n))).take (n - (0:Int).toNat)=l.filter fun x:u0g=> !z7o x.2.2.2.2.2.2.2 c:=by
   rw[Bi,Ho,Nat.sub_zero,q3y a n (by omega),e3]
  simp only[c5,Dt,Ad,c6]
 ·have hall:(l.filter fun x:u0g=> !z7o x.2.2.2.2.2.2.2 c)=l:=by
   rw[F9]
   intro x hx
   obtain⟨i,hi,rfl⟩:=B7 hx
   rw[t57 (p:=fun x:u0g=>z7o x.2.2.2.2.2.2.2 c) hi (by omega)]
   rfl
  simp only[Ao hk,zOb,Ae,Ad,hall]
theorem p6n (b:u0h) (n:Hs) (hb:p2m b):t3q (b,n)=some (s9u b n):=by
 rw[p01];unfold r7x
 simp only
 rw[t70 b hb]
 simp only[zOb]
 rw[p9a _ _ (by have:=hb.2.2.1;omega)]
 rfl
theorem p6o (b:u0h) (n:Hs) (hb:p2m b):t9d (b,n)=some (s9u b n):=by
 obtain⟨hb1,hb2,hb3⟩:=hb
 have L:=t9n u9n b.2.2.1 (fun(a:Hu u0g) i=>(n,b,u5f,((b.1,b.2.1,a,b.2.2.2):u0h),i)) (fun x:u0g=> !z7o x.2.2.2.2.2.2.2 n) (fun x=>x) (fun a=> .inl (u5f,((b.1,b.2.1,a,b.2.2.2):u0h))) (by have:=hb3.1;omega)
  (fun a _=>by rw[r28];simp only[t4o,u0b,Am,Ah,Aa])
  (fun i hi a ha=>by
   have hm:=Ag hi
   have:=hb3.1
   rw[r28];simp only[t4o,u0b,hi,Ae,Ad,y7t hi,zTn,y8k (t:=u0i) hi,y7l (show i<4611686018427387904 by omega)]
   rw[t9k _ (hb3.2 _ hm)]
   simp only[zOb]
   rw[q3n (by simp;omega)])
 rw[Er] at L
 rw[p1x];unfold r8q
 simp only
 rw[t71 b ⟨hb1,hb2,hb3⟩]
 simp only[zOb]
 have L' :u9n (n,b,(([], [], [],0,0):u0h),((b.1,b.2.1, [],b.2.2.2):u0h),0)=_:=L
 rw[L']
 rfl
theorem o34 {n i:Int} :y8h n (i+1)=t9z n i:=by
 unfold y8h t9z
 by_cases h:i<n
 ·rw[Al h,Ao (by omega)]
 ·rw[Ao h,Al (by omega)]
theorem o4b (p:u0g→Bool) (l:Hu u0g):∀(a:Hu u0g×Hu u0g),l.foldl (fun a x=>if p x=true then(a.1++ [x],a.2) else(a.1,a.2++ [x])) a=(a.1++l.filter p,a.2++l.filter fun x=> !p x):=by
 induction l with
 | nil=>intro a;simp
 | cons x l ih=>
  intro a
  rw[Bs,ih]
  cases h:p x<;>simp[h]
theorem o0y (p q:u0g→Bool) (l:Hu u0g) (d:u0g) (hl:l.length≤4194304):(l.filter p).length+ [d].length≤1099511627776∧(l.filter p++ [d]).length+(l.filter q).length≤1099511627776∧(l.filter p++ [d]).length≤8000000:=by
 have f1:=u92 p l
 have f2:=u92 q l
 rw[Ba,Aw]
 omega
theorem p3l (b z:u0h) (t d:u0g) (n:Hs) (hb:p2m b):u43 (n,t,z,b,d, [], [],(),(b.2.2.1.length:Int),0)=
 some (.inl (t,z,b,d,b.2.2.1.filter (fun x=>y3c x.2.2.2.2.2.2.2 n),b.2.2.1.filter fun x=> !y3c x.2.2.2.2.2.2.2 n)):=by
 have hl:=hb.2.2.1
 have L:=u61 u43 b.2.2.1 (fun(a:Hu u0g×Hu u0g) i=>(n,t,z,b,d,a.1,a.2,(),(b.2.2.1.length:Int),i)) (fun a x=>if y3c x.2.2.2.2.2.2.2 n=true then(a.1++ [x],a.2) else(a.1,a.2++ [x]))
  (fun a=> .inl (t,z,b,d,a.1,a.2)) (fun i a=>a.1.length≤i∧a.2.length≤i)
  (fun a _=>by rw[s5g];simp only[t0i,u0b,Am,Ah,Aa])
  (fun i hi a ha=>by
   rw[s5g];simp only[t0i,u0b,hi,Ae,Ad,y7t hi,zTn,y8k (t:=u0i) hi,y7l (show i<4611686018427387904 by omega)]
   cases y3c (b.2.2.1[i]).2.2.2.2.2.2.2 n
   ·simp only[Br,Bk,Aa]
    refine⟨⟨by omega,by simp;omega⟩,?_⟩
    rw[q3n (by simp;omega)]
   ·simp only[Bl,Ad]
    refine⟨⟨by simp;omega,by omega⟩,?_⟩
    rw[q3n (by simp;omega)]) ([], []) ⟨by simp,by simp⟩
 rw[o4b (fun x=>y3c x.2.2.2.2.2.2.2 n)] at L
 simpa using L
theorem p0q (b:u0h) (t:u0g) (n:Hs) (hb:p2m b) (ht:p0p t) (hi:o50 t.1):s0c (b,t,n)=some (s8g b t n):=by
 have hl:=hb.2.2.1
 rw[q6q];unfold r0w
 simp only
 rw[t70 b hb]
 simp only[zOb]
 rw[q7s t ht]
 simp only[zOb]
 rw[p2x t b.2.1 ht hb.2.1]
 simp only[zOb]
 rw[p3l _ _ _ _ _ hb,p3l _ _ _ _ _ hb]
 simp only[zOb,s5q hi,o34]
 have pl:=fun d=>o0y (fun x:u0g=>y3c x.2.2.2.2.2.2.2 n) (fun x:u0g=> !y3c x.2.2.2.2.2.2.2 n) b.2.2.1 d hl
 rw[q3n (pl _).1,q3n (pl _).2.1,q3n (pl _).1,q3n (pl _).2.1]
 unfold s8g o03
 cases t.2.2.2.2.2.2.1<;>rfl
theorem q9y (b z:u0h) (t d:u0g) (n:Hs) (hb:p2m b):u45 (n,b,t,z,((b.1,b.2.1, [],b.2.2.2):u0h),d,0)=
 some (.inl (n,b,t,z,((b.1,b.2.1,b.2.2.1.filter (fun x=>y3c x.2.2.2.2.2.2.2 n),b.2.2.2):u0h),d)):=by
 have hl:=hb.2.2.1
 have L:=t9n u45 b.2.2.1 (fun(a:Hu u0g) i=>(n,b,t,z,((b.1,b.2.1,a,b.2.2.2):u0h),d,i)) (fun x:u0g=>y3c x.2.2.2.2.2.2.2 n) (fun x=>x) (fun a=> .inl (n,b,t,z,((b.1,b.2.1,a,b.2.2.2):u0h),d)) (by omega)
  (fun a _=>by rw[s5n];simp only[t0p,u0b,Am,Ah,Aa])
  (fun i hi a ha=>by
   have hm:=Ag hi
   rw[s5n];simp only[t0p,u0b,hi,Ae,Ad,y7t hi,zTn,y8k (t:=u0i) hi,y7l (show i<4611686018427387904 by omega)]
   rw[t9k _ (hb.2.2.2 _ hm)]
   simp only[zOb]
   rw[q3n (by simp;omega)])
 rw[Er] at L
 exact L
theorem q6c (b z:u0h) (t:u0g) (n:Hs) (hb:p2m b) (pre:Hu u0g) (hp:pre.length≤8000000):u4j (n,b,t,z,((b.1,b.2.1,pre,b.2.2.2):u0h),0)=
 some (.inl (t,z,((b.1,b.2.1,pre++b.2.2.1.filter (fun x=> !y3c x.2.2.2.2.2.2.2 n),b.2.2.2):u0h))):=by
 have hl:=hb.2.2.1
 have L:=t9n u4j b.2.2.1 (fun(a:Hu u0g) i=>(n,b,t,z,((b.1,b.2.1,pre++a,b.2.2.2):u0h),i)) (fun x:u0g=> !y3c x.2.2.2.2.2.2.2 n) (fun x=>x) (fun a=> .inl (t,z,((b.1,b.2.1,pre++a,b.2.2.2):u0h))) (by omega)
  (fun a _=>by rw[s3v];simp only[u8p,u0b,Am,Ah,Aa])
  (fun i hi a ha=>by
   have hm:=Ag hi
   rw[s3v];simp only[u8p,u0b,hi,Ae,Ad,y7t hi,zTn,y8k (t:=u0i) hi,y7l (show i<4611686018427387904 by omega)]
   rw[t9k _ (hb.2.2.2 _ hm)]
   simp only[zOb]
   rw[q3n (by simp;omega),Bi])
 rw[Er,Bw] at L
 exact L
theorem p0r (b:u0h) (t:u0g) (n:Hs) (hb:p2m b) (ht:p0p t) (hi:o50 t.1):s0i (b,t,n)=some (s8g b t n):=by
 have hl:=hb.2.2.1
 have pl:=fun d=>o0y (fun x:u0g=>y3c x.2.2.2.2.2.2.2 n) (fun x:u0g=> !y3c x.2.2.2.2.2.2.2 n) b.2.2.1 d hl
 rw[q7b];unfold r1f
 simp only
 rw[t71 b hb]
 simp only[zOb]
 rw[t9k t ht]
 simp only[zOb]
 rw[p2y t b.2.1 ht hb.2.1]
 simp only[zOb]
 rw[q9y _ _ _ _ _ hb,q9y _ _ _ _ _ hb]
 simp only[zOb]
 rw[q3n (pl _).1,q3n (pl _).1,q6c _ _ _ _ hb _ (pl _).2.2,q6c _ _ _ _ hb _ (pl _).2.2]
 simp only[zOb,s5q hi]
 have key:∀(o:Bool),(bif decide (t.1≥b.2.2.2.2) then some ((b.1,b.2.1,(b.2.2.1.filter fun x=>y3c x.2.2.2.2.2.2.2 n)++ [((t.1,(2:Int),t.2.2.1,t.2.2.2.1,t.2.2.2.2.1,t.2.2.2.2.2.1,o,n):u0g)] ++(b.2.2.1.filter fun x=> !y3c x.2.2.2.2.2.2.2 n),b.2.2.2.1,t.1+1):u0h)
  else some (b.1,b.2.1,(b.2.2.1.filter fun x=>y3c x.2.2.2.2.2.2.2 n)++ [((t.1,(2:Int),t.2.2.1,t.2.2.2.1,t.2.2.2.2.1,t.2.2.2.2.2.1,o,n):u0g)] ++(b.2.2.1.filter fun x=> !y3c x.2.2.2.2.2.2.2 n),b.2.2.2))=
  some (b.1,b.2.1,(b.2.2.1.filter fun x=>y3c x.2.2.2.2.2.2.2 n)++ [((t.1,(2:Int),t.2.2.1,t.2.2.2.1,t.2.2.2.2.1,t.2.2.2.2.2.1,o,n):u0g)] ++(b.2.2.1.filter fun x=> !y3c x.2.2.2.2.2.2.2 n),b.2.2.2.1,t9z b.2.2.2.2 t.1):=fun o=>by
  unfold t9z
  by_cases h:t.1<b.2.2.2.2
  ·rw[A7 (by omega),Al h];rfl
  ·rw[Bb (by omega),Ao h];rfl
 unfold s8g o03
 cases t.2.2.2.2.2.2.1
 ·exact key _
 ·exact key _
end
section
def j2j (d e:u02):Prop:=q2y e=true∧s9q e=s9q d∧u4f e 0=u4f d 0∧u4f e 1=u4f d 1
end
section
def j50 (l:Hu Hs):Nat:=(l.map fun t=>(u20 t).size).sum
end
section
structure Like0 (b e:u0h):Prop where
 vs:b.1=r6t e.1 e.2.2.2.1
 past:b.2.1= []
 ready:b.2.2.1=e.2.2.1
 cs:b.2.2.2.1=e.2.2.2.1
theorem o38:BaseR o88:=by
 refine⟨rfl,fun v h=>(by cases h),⟨Bv _,by decide⟩,⟨by decide,by decide⟩,by decide,fun t h=>(by cases h),List.Pairwise.nil,by decide,fun t h=>(by cases h),List.Pairwise.nil,fun x h=>(by cases h),List.Pairwise.nil⟩
def j5t (d:u02):Ht u02:=match q0l (u0f d) with
 | none=>none
 | some b=>if(u14 (4,t37,emp,false,b)).2=true then o8b d [(u14 (4,t37,emp,false,b)).1] else none
def o7z (d:u02) (r:r3o):Ht u02:=
 if(u14 r).2=true then(match append_ d (u14 r).1 with
  | some y=>some y
  | none=>match j5t d with
   | none=>none
   | some z=>append_ z (u14 r).1)
 else none
end
section
structure SameC (x y:u0g):Prop where
 id:x.1=y.1
 st:x.2.1=y.2.1
 snap:x.2.2.1=y.2.2.1
 cs:x.2.2.2.1=y.2.2.2.1
 rs:x.2.2.2.2.1=y.2.2.2.2.1
 ws:x.2.2.2.2.2.1=y.2.2.2.2.2.1
structure Ser (H:Hu u0g) (e:p0o):Prop where
 eng:EngR e
 st:∀x∈H,x.2.1=3
 snap:∀x∈H,x.2.2.1<x.2.2.2.1∧x.2.2.2.1≤e.1.2.2.2.1
 asc:H.Pairwise fun x y=>x.2.2.2.1<y.2.2.2.1
 uqh:uq (H++(e.1.2.2.1++e.2))
 bel:∀x∈H,x.1<e.1.2.2.2.2
 pin:∀x∈e.1.2.1,∃y∈H,SameC x y
 cov:∀y∈H,∀o∈e.2,o.2.2.1<y.2.2.2.1→ ∃x∈e.1.2.1,SameC x y
 outp:∀x∈e.1.2.1,∀y∈H,ahead x y=true→y.2.2.2.1<x.2.2.2.1→x.2.2.2.2.2.2.1=true
 outr:∀p∈e.1.2.2.1,∀y∈H,ahead p y=true→p.2.2.2.2.2.2.1=true
 no3:∀x∈H,∀y∈H,∀z∈H,ahead x y=true→ahead y z=true→z.2.2.2.1<y.2.2.2.1→z.2.2.2.1≤x.2.2.2.1→False
 noA:∀x∈H,∀p∈e.1.2.2.1,∀z∈H,ahead x p=true→ahead p z=true→z.2.2.2.1≤x.2.2.2.1→False
 noB:∀p∈e.1.2.2.1,∀y∈H,∀z∈H,ahead p y=true→ahead y z=true→z.2.2.2.1<y.2.2.2.1→False
 noD:∀p∈e.1.2.2.1,∀q∈e.1.2.2.1,∀z∈H,ahead p q=true→ahead q z=true→False
 noE:∀p∈e.1.2.2.1,∀q∈e.1.2.2.1,∀r∈e.1.2.2.1,ahead p q=true→ahead q r=true→False
 ww:∀x∈H,∀y∈H,x.2.2.2.1<y.2.2.2.1→q9u x.2.2.2.2.2.1 y.2.2.2.2.2.1=true→x.2.2.2.1≤y.2.2.1
 wr:∀p∈e.1.2.2.1,∀y∈H,q9u y.2.2.2.2.2.1 p.2.2.2.2.2.1=true→y.2.2.2.1≤p.2.2.1
 rr:∀p∈e.1.2.2.1,∀q∈e.1.2.2.1,p.1≠q.1→q9u p.2.2.2.2.2.1 q.2.2.2.2.2.1=true→False
structure Passed (t:u0g) (P R:Hu u0g):Prop where
 nb:∀x∈P++R,x.1≠t.1→(x.2.1=2∨(x.2.1=3∧x.2.2.2.1 >t.2.2.1))→q9u x.2.2.2.2.2.1 t.2.2.2.2.2.1=true→False
 d1:∀x∈P++R,∀y∈P,ahead x t=true→ahead t y=true→False
 d2:∀x∈P++R,x.2.2.2.2.2.2.1=true→ahead t x=true→False
 d3:∀p∈R,ahead p t=true→ahead t p=true→False
 d4:∀p∈R,∀x∈R,ahead p t=true→ahead x p=true→x.1≠t.1→False
end
section
abbrev q5a:=p0o×u02
def j0r:r3o:=(0,t37,emp,false,u5f)
def j5b (e:p0o):Hu u0g:=e.1.2.1++e.1.2.2.1
def j1d (e:p0o) (n:Hs) (yes:Bool):p0o×r3o×Int:=
 if u1g e.1 n<0 then(e,j0r,1) else if yes=true∧p9s e.1=true then(e,j0r,3)
 else if yes=true then(j52 e (rdL u0i e.1.2.2.1 (u1g e.1 n).toNat),(3,t37,n,true,u5f),0) else(noE e n,(3,t37,n,false,u5f),0)
structure Sync (s:q5a) (b:u0h):Prop where
 eng:EngR s.1
 log:q2y s.2=true
 play:q0l (u0f s.2)=some b
 right:BaseR b
 like:Like0 b s.1.1
def j51 (s:q5a) (n:Hs) (yes:Bool):q5a×Int:=
 if(j1d s.1 n yes).2.2=0 then(match o7z s.2 (j1d s.1 n yes).2.1 with
  | some d=>(((j1d s.1 n yes).1,d),0)
  | none=>(s,3))
 else(s,(j1d s.1 n yes).2.2)
end
section
structure PassedR (t:u0g) (P R:Hu u0g):Prop extends Passed t P R where
 e1:∀x∈P++R,∀y∈R,ahead x t=true→ahead t y=true→False
 e2:∀x∈R,∀y∈R,ahead t x=true→ahead x y=true→y.1≠t.1→False
end
section
def K5:Hu Hs:= [⟨#[97]⟩,⟨#[98]⟩,⟨#[99]⟩,⟨#[100]⟩,⟨#[97,98]⟩]
structure DomT (t:u0g):Prop where
 ws:∀w∈t.2.2.2.2.2.1,w.1∈K5
 rs:∀r∈t.2.2.2.2.1,r.1∈K5∧r.2∈K5
structure DomB (b:u0h):Prop where
 vs:∀v∈b.1,v.1∈K5
 ready:∀t∈b.2.2.1,DomT t
structure DomE (e:p0o):Prop where
 base:DomB e.1
 open_:∀t∈e.2,DomT t
def Num (k:Nat) (e:p0o):Prop:=e.1.2.2.2.1≤(k:Int)∧e.1.2.2.2.2≤(k:Int)+1
structure Stt (k:Nat) (s:q5a):Prop where
 sync:∃b,Sync s b∧b.2.2.2.2≤(k:Int)+1
 dom:DomE s.1
 num:Num k s.1
end
section
structure tinyT (t:u0g):Prop where
 rl:t.2.2.2.2.1.length≤100
 rs:∀r∈t.2.2.2.2.1,r.1.size≤100∧r.2.size≤100
 wl:t.2.2.2.2.2.1.length≤100
 ws:∀w∈t.2.2.2.2.2.1,w.1.size≤100∧w.2.1.size≤100
 nm:t.2.2.2.2.2.2.2.size≤100
structure tinyB (b:u0h):Prop where
 vl:b.1.length≤10000
 vs:∀v∈b.1,v.1.size≤100∧v.2.1.size≤100
 pl:b.2.1.length≤1000
 ps:∀t∈b.2.1,tinyT t
 rl:b.2.2.1.length≤1000
 rs:∀t∈b.2.2.1,tinyT t
theorem r6r {α:Type} {f:α→Nat} {k:Nat} :∀ {l:Hu α},(∀x∈l,f x≤k)→(l.map f).sum≤l.length*k
 | [],_=>by simp
 | x::l,h=>by
  rw[C8,Ge,Bc,C7]
  have h1:=h x (by simp)
  have h2:=r6r (l:=l) (fun y hy=>h y (by simp[hy]))
  omega
theorem tinyT.wt {t:u0g} (h:tinyT t):u0i.wt t≤50000:=by
 have e1:(Ty.sl u1u).wt t.2.2.2.2.1=t.2.2.2.2.1.length+(t.2.2.2.2.1.map u1u.wt).sum:=rfl
 have e2:(Ty.sl u0o).wt t.2.2.2.2.2.1=t.2.2.2.2.2.1.length+(t.2.2.2.2.2.1.map u0o.wt).sum:=rfl
 have s1:(t.2.2.2.2.1.map u1u.wt).sum≤t.2.2.2.2.1.length*200:=r6r fun r hr=>by
  have:=h.rs r hr
  have e:u1u.wt r=r.1.size+r.2.size:=rfl
  omega
 have s2:(t.2.2.2.2.2.1.map u0o.wt).sum≤t.2.2.2.2.2.1.length*200:=r6r fun w hw=>by
  have:=h.ws w hw
  have e:u0o.wt w=w.1.size+(w.2.1.size+0):=rfl
  omega
 have:=h.rl;have:=h.wl;have:=h.nm
 rw[o09,e1,e2]
 omega
theorem tinyT.few {t:u0g} (h:tinyT t):p0p t:=⟨by have:=h.rl;omega,by have:=h.wl;omega⟩
theorem TxnR.tiny {t:u0g} (h:TxnR t):tinyT t:=by
 obtain⟨z1,z2,z3,z4,z5⟩:=h.small
 exact⟨by have:=h.rlen;omega,fun r hr=>by have:=z1 r hr;omega,by omega,fun w hw=>by have:=z2 w hw;omega,by omega⟩
theorem tinyT.like {t u:u0g} (h:tinyT t) (e1:u.2.2.2.2.1=t.2.2.2.2.1) (e2:u.2.2.2.2.2.1=t.2.2.2.2.2.1) (e3:u.2.2.2.2.2.2.2.size≤100):tinyT u:=
 ⟨by rw[e1];exact h.rl,by rw[e1];exact h.rs,by rw[e2];exact h.wl,by rw[e2];exact h.ws,e3⟩
theorem o07 {l:Hu u0g} (hl:l.length≤1000) (h:∀t∈l,tinyT t):(Ty.sl u0i).wt l≤60000000:=by
 have e:(Ty.sl u0i).wt l=l.length+(l.map u0i.wt).sum:=rfl
 have s:(l.map u0i.wt).sum≤l.length*50000:=r6r fun t ht=>(h t ht).wt
 rw[e];omega
theorem tinyB.wt {b:u0h} (h:tinyB b):p0w.wt b≤200000000:=by
 have e:(Ty.sl u0c).wt b.1=b.1.length+(b.1.map u0c.wt).sum:=rfl
 have s:(b.1.map u0c.wt).sum≤b.1.length*200:=r6r fun v hv=>by
  have:=h.vs v hv
  have e:u0c.wt v=v.1.size+(v.2.1.size+(0+0)):=rfl
  omega
 have h1:=o07 h.pl h.ps
 have h2:=o07 h.rl h.rs
 have:=h.vl
 rw[s9r,e];omega
theorem p8q {l:Hu u0g} (hl:l.length≤1000) (h:∀t∈l,tinyT t):p6k l:=⟨by omega,fun t ht=>(h t ht).few⟩
theorem tinyB.few {b:u0h} (h:tinyB b):p2m b:=⟨by have:=h.vl;omega,p8q h.pl h.ps,p8q h.rl h.rs⟩
theorem BaseR.tiny {b:u0h} (h:BaseR b):tinyB b:=by
 obtain⟨w1,w2,w3⟩:=o49.mp h.vs
 exact⟨by omega,fun v hv=>by have:=s3q (w1 v hv);omega,by have:=h.plen;omega,fun t ht=>(h.past t ht).1.tiny,by have:=h.rlen;omega,fun t ht=>(h.ready t ht).1.tiny⟩
theorem u9b {b:u0h} (h:tinyB b) (o:Hu u0g):tinyB (t7y b o):=
 ⟨A9 (o0a _ _) h.vl,fun v hv=>h.vs v ((o0b _ _).subset hv),A9 (u92 _ _) h.pl,fun t ht=>h.ps t (A6.mp ht).1,h.rl,h.rs⟩
theorem r6s {b:u0h} {t:u0g} (h:BaseR b) (ht:tinyT t):tinyB (u7i b t):=by
 obtain⟨w1,w2,w3⟩:=o49.mp h.vs
 have hb:=h.tiny
 refine⟨?_,fun v hv=> ?_,?_,fun x hx=> ?_,?_,fun x hx=> ?_⟩
 ·show(r7q b.1 t.2.2.2.2.2.1 (b.2.2.2.1+1)).length≤10000
  rw[s8k];have:=ht.wl
  have e:(t.2.2.2.2.2.1:Hu u0o.den).length=t.2.2.2.2.2.1.length:=rfl
  omega
 ·rcases(p75 _ _ _).mp hv with q | ⟨w,hw,rfl⟩
  ·exact hb.vs v q
  ·exact ht.ws w hw
 ·show(b.2.1++ [o1y b t]).length≤1000
  have:=h.plen
  rw[Ba,Aw];omega
 ·rcases Ay.mp hx with q | q
  ·exact hb.ps x q
  ·rw[Ax.mp q]
   exact ht.like rfl rfl (Cn _)
 ·show((b.2.2.1.filter fun x=> !decide (x.1=t.1)).map (p5z (o1y b t))).length≤1000
  rw[Da]
  exact A9 (u92 _ _) hb.rl
 ·obtain⟨y,hy,rfl⟩:=Bx.mp hx
  have:=hb.rs y (A6.mp hy).1
  exact this.like rfl rfl this.nm
theorem p3m {b:u0h} {t:u0g} {n:Hs} (h:BaseR b) (ht:tinyT t) (hn:n.size≤100):tinyB (s8g b t n):=by
 have hb:=h.tiny
 refine⟨hb.vl,hb.vs,hb.pl,hb.ps,?_,fun x hx=> ?_⟩
 ·show((b.2.2.1.filter fun x=>y3c x.2.2.2.2.2.2.2 n)++ [o03 b t n] ++(b.2.2.1.filter fun x=> !y3c x.2.2.2.2.2.2.2 n)).length≤1000
  have f1:=u92 (fun x:u0g=>y3c x.2.2.2.2.2.2.2 n) b.2.2.1
  have f2:=u92 (fun x:u0g=> !y3c x.2.2.2.2.2.2.2 n) b.2.2.1
  have:=h.rlen
  rw[Ba,Ba,Aw];omega
 ·rcases Ay.mp hx with q | q
  ·rcases Ay.mp q with q | q
   ·exact hb.rs x (A6.mp q).1
   ·rw[Ax.mp q]
    exact ht.like rfl rfl hn
  ·exact hb.rs x (A6.mp q).1
theorem p29 {b:u0h} {n:Hs} (hb:tinyB b):tinyB (s9u b n):=
 ⟨hb.vl,hb.vs,hb.pl,hb.ps,A9 (u92 _ _) hb.rl,fun x hx=>hb.rs x (A6.mp hx).1⟩
structure tinyR (r:r3o):Prop where
 t:tinyT r.2.1
 n:r.2.2.1.size≤100
 b:tinyB r.2.2.2.2
theorem tinyR.wt {r:r3o} (h:tinyR r):j2k.wt r≤549755813888:=by
 have:=h.t.wt;have:=h.n;have:=h.b.wt
 rw[r6p];omega
theorem q42:tinyT t37:=⟨by decide,fun r hr=>(by cases hr),by decide,fun r hr=>(by cases hr),by decide⟩
theorem s10:tinyB u5f:=⟨by decide,fun r hr=>(by cases hr),by decide,fun r hr=>(by cases hr),by decide,fun r hr=>(by cases hr)⟩
theorem o53:tinyR noR:=⟨q42,by decide,s10⟩
theorem RecR.tiny {r:r3o} (h:RecR r):tinyR r:=by
 cases h with
 | thr t h hs=>exact⟨h.tiny,Cn 100,s10⟩
 | rdy t h hs=>exact⟨h.tiny,Cn 100,s10⟩
 | fin n y h=>exact⟨q42,by have:=u6d h;show n.size≤100;omega,s10⟩
 | bas b h=>exact⟨q42,Cn 100,h.tiny⟩
def s1n (b:u0h) (r:r3o):u0h×Bool:=match s8j b r with
 | some x=>(x,true)
 | none=>(b,false)
theorem p52 {n:Int} (h:0≤n∧n≤9999):o50 n:=⟨by omega,by omega⟩
theorem p51 {n:Int} (h:1≤n∧n≤9999):o50 n:=⟨by omega,by omega⟩
theorem r7f {b x:u0h} {r:r3o} (hb:u6r b=true∧u55 r=true) {o:Bool} (hx:u93 b r=if o=true then some x else none):
 (((bif (!o) then some true else some (!u6r (t7y x []))):Ht Bool).bind fun j=>bif j then some (b,false) else some (t7y x [],true))=some (s1n b r):=by
 unfold s1n s8j
 rw[Al hb,hx]
 cases o
 ·rfl
 ·simp only[Bl,Ap,Aa,zOb]
  cases u6r (t7y x [])<;>rfl
theorem p9i (b:u0h) (r:r3o) (hb:tinyB b) (hr:tinyR r):s91 (b,r)=some (s1n b r):=by
 have hq:u0e=1099511627776:=rfl
 rw[p4s];unfold q07
 simp only
 rw[u8k b (by have:=hb.wt;omega),q0z r hr.wt,t70 b hb.few]
 simp only[zOb]
 cases h1:u6r b
 ·unfold s1n s8j
  rw[Ao (by simp[h1])];rfl
 ·cases h2:u55 r
  ·unfold s1n s8j
   rw[Ao (by simp[h2])];rfl
  ·have hB:=p25.mp h1
   have hR:=o68.mp h2
   have hbr:u6r b=true∧u55 r=true:=⟨h1,h2⟩
   simp only[Ap,Aa,zOb]
   have thr:∀t:u0g,TxnR t→u98 (b,t)=some (u7i b t)∧u2w (u7i b t, [])=some (t7y (u7i b t) [])∧u2c (t7y (u7i b t) [])=some (u6r (t7y (u7i b t) [])):=fun t ht=>by
    have h3:=r6s hB ht.tiny
    refine⟨?_,t04 _ _ h3.few (by simp),u8k _ (by have:=(u9b h3 []).wt;omega)⟩
    rw[q5c b t hb.few ht.tiny.few,p0a (p52 hB.cs) (p51 ht.id)]
   cases hR with
   | thr t h hs=>
    obtain⟨t1,t2,t3⟩:=thr t h
    simp only[Ae,Ad]
    rw[t1]
    simp only[zOb]
    rw[t2]
    simp only[zOb]
    rw[t3]
    simp only[zOb]
    rw[s5q (p52 hB.cs)]
    refine r7f (o:=decide (t.2.2.2.1=b.2.2.2.1+1)) hbr ?_
    unfold u93
    simp only[Bl,Ar]
   | rdy t h hs=>
    have hn:=u6d (h.name hs)
    have h3:=p3m (n:=t.2.2.2.2.2.2.2) hB h.tiny (by omega)
    simp only[show decide ((2:Int)=1)=false from rfl,Ae,Ad,Aa]
    rw[r30 b _ (by have:=hB.rlen;omega)]
    simp only[zOb]
    rw[p0q b t _ hb.few h.tiny.few (p51 h.id)]
    simp only[zOb]
    rw[t04 _ _ h3.few (by simp),]
    simp only[zOb]
    rw[u8k _ (by have:=(u9b h3 []).wt;omega)]
    simp only[zOb]
    have e:(bif decide ((b.2.2.1.length:Int)<3) then some (decide (u1g b t.2.2.2.2.2.2.2<0)) else some false:Ht Bool)=some (decide (b.2.2.1.length<3∧u1g b t.2.2.2.2.2.2.2<0)):=by
     by_cases q:b.2.2.1.length<3
     ·rw[Bb (show(b.2.2.1.length:Int)<3 by omega)];simp[q]
     ·rw[A7 (show ¬(b.2.2.1.length:Int)<3 by omega)];simp[q]
    rw[e]
    simp only[zOb]
    refine r7f (o:=decide (b.2.2.1.length<3∧u1g b t.2.2.2.2.2.2.2<0)) hbr ?_
    unfold u93
    simp only[show((2:Int)=1)=False by simp,Bk,Bl,Ar]
   | fin n y h=>
    simp only[show decide ((3:Int)=1)=false from rfl,show decide ((3:Int)=2)=false from rfl,Ae,Ad,Aa]
    rw[r30 b _ (by have:=hB.rlen;omega)]
    simp only[zOb]
    have h4:=p29 (b:=b) (n:=n) hb
    have giv:t3q (b,n)=some (s9u b n):=p6n b n hb.few
    have raw:∀x,(0≤u1g b n→y=true→x=u7i b (rdL u0i b.2.2.1 (u1g b n).toNat))→(y=false→x=s9u b n)→(0≤u1g b n∨True)→u93 b (3,t37,n,y,u5f)=if decide (u1g b n≥0)=true then some x else none:=fun x hx hx2 _=>by
     unfold u93
     simp only[show((3:Int)=1)=False by simp,show((3:Int)=2)=False by simp,Bk,Bl]
     by_cases q:u1g b n<0
     ·rw[Al q,A7 (show ¬u1g b n≥0 by omega)];rfl
     ·rw[Ao q,Bb (show u1g b n≥0 by omega)]
      cases hy:y
      ·rw[hx2 hy];rfl
      ·rw[hx (by omega) hy];rfl
    by_cases q:0≤u1g b n
    ·rw[Bb (show u1g b n≥0 from q)]
     cases hy:y
     ·simp only[Ad,zOb,Aa]
      rw[giv]
      simp only[zOb]
      rw[t04 _ _ h4.few (by simp)]
      simp only[zOb]
      rw[u8k _ (by have:=(u9b h4 []).wt;omega)]
      simp only[zOb]
      have:=raw (s9u b n) (fun _ k=>by rw[hy] at k;cases k) (fun _=>rfl) (.inr trivial)
      rw[hy] at this hbr
      rw[Bb (show u1g b n≥0 from q)] at this
      exact r7f (o:=true) hbr this
     ·simp only[Ad,zOb,Aa]
      have hk:(u1g b n).toNat<b.2.2.1.length:=by
       unfold u1g at q ⊢
       split
       ·rename_i z;rw[zTn];exact z
       ·rename_i z;rw[Ao z] at q;omega
      obtain⟨k,hkk⟩:∃k:Nat,u1g b n=k:=⟨(u1g b n).toNat,by omega⟩
      have hg:y4q (u1g b n) b.2.2.1.length=true:=by rw[hkk];exact y7t (by rw[hkk] at hk;simpa using hk)
      rw[hg]
      simp only[Ad]
      have hT:TxnR (rdL u0i b.2.2.1 (u1g b n).toNat):=by
       rw[y8k hk];exact(hB.ready _ (Ag hk)).1
      obtain⟨t1,t2,t3⟩:=thr _ hT
      rw[t1]
      simp only[zOb]
      rw[t2]
      simp only[zOb]
      rw[t3]
      simp only[zOb]
      have:=raw (u7i b (rdL u0i b.2.2.1 (u1g b n).toNat)) (fun _ _=>rfl) (fun k=>by rw[hy] at k;cases k) (.inr trivial)
      rw[hy] at this hbr
      rw[Bb (show u1g b n≥0 from q)] at this
      exact r7f (o:=true) hbr this
    ·rw[A7 (show ¬u1g b n≥0 from q)]
     simp only[Aa,zOb]
     rw[giv]
     simp only[zOb]
     rw[t04 _ _ h4.few (by simp)]
     simp only[zOb]
     have:=raw (s9u b n) (fun k=>absurd k q) (fun _=>rfl) (.inr trivial)
     rw[A7 (show ¬u1g b n≥0 from q)] at this
     exact r7f (o:=false) hbr this
   | bas c h=>
    simp only[show decide ((4:Int)=1)=false from rfl,show decide ((4:Int)=2)=false from rfl,show decide ((4:Int)=3)=false from rfl,Aa]
    rw[t70 c h.tiny.few]
    simp only[zOb]
    rw[t04 _ _ h.tiny.few (by simp)]
    simp only[zOb]
    rw[u8k _ (by have:=(u9b h.tiny []).wt;omega)]
    simp only[zOb]
    exact r7f (o:=true) hbr (by unfold u93;simp)
end
section
theorem p39 (d:u02) (hd:p4i.wt d≤1073741824):s3h d=some (u0f d):=by
 rw[q88];unfold r5b
 simp only[p33 d (show p4i.wt d≤u0e by unfold u0e;omega),q0y d _ hd,zOb];rfl
end
section
theorem o3g (b:u0h) (r:r3o) (hB:BaseR b) (hR:RecR r):s6e (b,r)=some (match u93 b r with
 | some x=>(x,true)
 | none=>(b,false)):=by
 have hb:=hB.tiny
 have thr:∀t:u0g,TxnR t→t0b (b,t)=some (u7i b t):=fun t ht=>by
  rw[q5d b t hb.few ht.tiny.few,p98 (p52 hB.cs) (p51 ht.id)]
 rw[p2i];unfold r9c u93
 cases hR with
 | thr t h hs=>
  simp only[Ae,Ad,Bl]
  rw[s5q (p52 hB.cs),thr t h]
  by_cases q:t.2.2.2.1=b.2.2.2.1+1
  ·rw[Bb q,Al q];rfl
  ·rw[A7 q,Ao q];rfl
 | rdy t h hs=>
  simp only[show decide ((2:Int)=1)=false from rfl,show((2:Int)=1)=False by simp,Ae,Ah,Ad,Aa,Bl,Bk]
  rw[r31 b _ (by have:=hB.rlen;omega)]
  simp only[zOb]
  rw[p0r b t _ hb.few h.tiny.few (p51 h.id)]
  simp only[zOb]
  by_cases q:b.2.2.1.length<3
  ·rw[A7 (show ¬(b.2.2.1.length:Int)≥3 by omega)]
   simp only[Aa,zOb]
   by_cases q2:u1g b t.2.2.2.2.2.2.2<0
   ·rw[A7 (show ¬u1g b t.2.2.2.2.2.2.2≥0 by omega),Al ⟨q,q2⟩];rfl
   ·rw[Bb (show u1g b t.2.2.2.2.2.2.2≥0 by omega),Ao (fun z=>q2 z.2)];rfl
  ·rw[Bb (show(b.2.2.1.length:Int)≥3 by omega),Ao (fun z=>q z.1)];rfl
 | fin n y h=>
  simp only[show decide ((3:Int)=1)=false from rfl,show decide ((3:Int)=2)=false from rfl,show((3:Int)=1)=False by simp,show((3:Int)=2)=False by simp,Ae,Ah,Ad,Aa,Bl,Bk]
  rw[r31 b _ (by have:=hB.rlen;omega)]
  simp only[zOb]
  by_cases q:u1g b n<0
  ·rw[Bb q,Al q];rfl
  ·rw[A7 q,Ao q]
   simp only[Aa]
   rw[p6o b n hb.few]
   simp only[zOb]
   have hk:(u1g b n).toNat<b.2.2.1.length:=by
    unfold u1g at q ⊢
    split
    ·rename_i z;rw[zTn];exact z
    ·rename_i z;rw[Ao z] at q;omega
   obtain⟨k,hkk⟩:∃k:Nat,u1g b n=k:=⟨(u1g b n).toNat,by omega⟩
   have hg:y4q (u1g b n) b.2.2.1.length=true:=by rw[hkk];exact y7t (by rw[hkk] at hk;simpa using hk)
   have hT:TxnR (rdL u0i b.2.2.1 (u1g b n).toNat):=by
    rw[y8k hk];exact(hB.ready _ (Ag hk)).1
   rw[hg,thr _ hT]
   cases y
   ·rfl
   ·rfl
 | bas c h=>
  simp only[show decide ((4:Int)=1)=false from rfl,show decide ((4:Int)=2)=false from rfl,show decide ((4:Int)=3)=false from rfl,show((4:Int)=1)=False by simp,show((4:Int)=2)=False by simp,show((4:Int)=3)=False by simp,Ah,Aa,Bk]
  rw[t71 c h.tiny.few];rfl
theorem o57 {b:u0h} {r:r3o} {x:u0h} (hB:BaseR b) (hR:RecR r) (h:u93 b r=some x):tinyB x:=by
 unfold u93 at h
 cases hR with
 | thr t ht hs=>
  simp only[Bl] at h
  split at h
  ·rw[←Ds h];exact r6s hB ht.tiny
  ·cases h
 | rdy t ht hs=>
  simp only[show((2:Int)=1)=False by simp,Bl,Bk] at h
  split at h
  ·rw[←Ds h];exact p3m hB ht.tiny (by have:=u6d (ht.name hs);omega)
  ·cases h
 | fin n y hn=>
  simp only[show((3:Int)=1)=False by simp,show((3:Int)=2)=False by simp,Bl,Bk] at h
  split at h
  ·cases h
  ·rename_i q
   have hk:(u1g b n).toNat<b.2.2.1.length:=by
    unfold u1g at q ⊢
    split
    ·rename_i z;rw[zTn];exact z
    ·rename_i z;rw[Ao z] at q;omega
   split at h
   ·rw[←Ds h]
    refine r6s hB ?_
    rw[y8k hk];exact(hB.ready _ (Ag hk)).1.tiny
   ·rw[←Ds h];exact p29 hB.tiny
 | bas c hc=>
  simp only[show((4:Int)=1)=False by simp,show((4:Int)=2)=False by simp,show((4:Int)=3)=False by simp,Bk] at h
  rw[←Ds h];exact hc.tiny
theorem p9j (b:u0h) (r:r3o) (hb:tinyB b) (hr:tinyR r):r0j (b,r)=some (s1n b r):=by
 have hq:u0e=1099511627776:=rfl
 rw[p5n];unfold q13
 simp only
 rw[t7z b (by have:=hb.wt;omega),q00 r hr.wt,t71 b hb.few]
 simp only[zOb]
 cases h1:u6r b
 ·unfold s1n s8j
  rw[Ao (by simp[h1])];rfl
 ·cases h2:u55 r
  ·unfold s1n s8j
   rw[Ao (by simp[h2])];rfl
  ·have hB:=p25.mp h1
   have hR:=o68.mp h2
   simp only[Ap,Aa,zOb]
   rw[o3g b r hB hR]
   simp only[zOb]
   unfold s1n s8j
   rw[Al ⟨h1,h2⟩]
   cases hx:u93 b r with
   | none=>rfl
   | some x=>
    have h3:=o57 hB hR hx
    simp only[Ap,Aa]
    rw[s9l _ _ h3.few (by simp)]
    simp only[zOb]
    rw[t7z _ (by have:=(u9b h3 []).wt;omega)]
    simp only[zOb]
    cases u6r (t7y x [])<;>rfl
theorem p55 {b x:u0h} {r:r3o} (h:s8j b r=some x):BaseR x∧RecR r:=by
 unfold s8j at h
 split at h
 ·rename_i q
  split at h
  ·cases h
  ·split at h
   ·rename_i z
    rw[←Ds h]
    exact⟨p25.mp z,o68.mp q.2⟩
   ·cases h
 ·cases h
theorem p3n (t:Hs):tinyR (t35 t).1:=by
 unfold t35
 cases h:u4k t with
 | none=>exact o53
 | some r=>exact(q22 h).1.tiny
theorem o0r (b:u0h) (t:Hs) (l:Hu Hs):r6i b (t::l)=bif !(t35 t).2 || !(s1n b (t35 t).1).2 then none else r6i (s1n b (t35 t).1).1 l:=by
 unfold t35 s1n
 simp only[r6i]
 cases u4k t with
 | none=>rfl
 | some r=>
  simp only
  cases s8j b r with
  | none=>rfl
  | some x=>rfl
def p8x (l:Hu Hs):u0h×Bool:=match q0l l with
 | some b=>(b,true)
 | none=>(u5f,false)
theorem p6t (d:u02) (hd:p4i.wt d≤1073741824) (ht:∀t∈u0f d,t.size≤u0e) (hl:(u0f d).length≤1000000):t3s d=some (p8x (u0f d)):=by
 have L:=s1i u5b (u0f d).length (fun(b:u0h) i=>(u5f,b,u0f d,((u0f d).length:Int),i)) (fun i b=>match r6i b ((u0f d).drop i) with
  | some x=> .inl (u5f,x)
  | none=> .inr (u5f,false)) (fun _ b=>BaseR b)
  (fun b hb=>by
   rw[r2u];simp only[t4a,u0b,Am,Ah,Aa]
   rw[F5];rfl)
  (fun i b hi hb=>by
   have hm:=Ag hi
   have hd:(u0f d).drop i=(u0f d)[i] ::(u0f d).drop (i+1):=Ce hi
   have hw:u5b (u5f,b,u0f d,((u0f d).length:Int),(i:Int))=bif !(t35 (u0f d)[i]).2 || !(s1n b (t35 (u0f d)[i]).1).2 then some (.inr (u5f,false)) else u5b (u5f,(s1n b (t35 (u0f d)[i]).1).1,u0f d,((u0f d).length:Int),((i+1:Nat):Int)):=by
    rw[r2u];simp only[t4a,u0b,hi,Ae,Ad,y7t hi,zTn,y8k (t:=Ty.str) hi,y7l (show i<4611686018427387904 by omega)]
    rw[q7u _ (ht _ hm)]
    simp only[zOb]
    rw[p9i b _ hb.tiny (p3n _)]
    simp only[zOb]
    cases (t35 (u0f d)[i]).2<;>cases (s1n b (t35 (u0f d)[i]).1).2<;>rfl
   rw[hw,hd,o0r]
   cases hc:(!(t35 (u0f d)[i]).2 || !(s1n b (t35 (u0f d)[i]).1).2)
   ·refine .inr ⟨(s1n b (t35 (u0f d)[i]).1).1,?_,?_,rfl⟩
    ·unfold s1n at hc ⊢
     cases hp:s8j b (t35 (u0f d)[i]).1 with
     | none=>rw[hp] at hc;simp at hc
     | some x=>exact(p55 hp).1
    ·simp only[Aa]
   ·exact .inl rfl) 0 o88 (Cn _) o38
 rw[p04];unfold r70
 rw[p0z];unfold r7v
 rw[p38 d hd]
 simp only[zOb]
 have L' :u5b ((([], [], [],0,0):u0h),(([], [], [],0,1):u0h),u0f d,((u0f d).length:Int),0)=_:=L
 rw[L',Fh]
 unfold p8x q0l
 cases r6i o88 (u0f d)<;>rfl
theorem p6u (d:u02) (hd:p4i.wt d≤1073741824) (ht:∀t∈u0f d,t.size≤u0e) (hl:(u0f d).length≤1000000):t3y d=some (p8x (u0f d)):=by
 have L:=s1i u5c (u0f d).length (fun(b:u0h) i=>(u5f,b,u0f d,i)) (fun i b=>match r6i b ((u0f d).drop i) with
  | some x=> .inl (u5f,x)
  | none=> .inr (u5f,false)) (fun _ b=>BaseR b)
  (fun b hb=>by
   rw[r29];simp only[t4p,u0b,Am,Ah,Aa]
   rw[F5];rfl)
  (fun i b hi hb=>by
   have hm:=Ag hi
   have hd:(u0f d).drop i=(u0f d)[i] ::(u0f d).drop (i+1):=Ce hi
   have hw:u5c (u5f,b,u0f d,(i:Int))=bif !(t35 (u0f d)[i]).2 || !(s1n b (t35 (u0f d)[i]).1).2 then some (.inr (u5f,false)) else u5c (u5f,(s1n b (t35 (u0f d)[i]).1).1,u0f d,((i+1:Nat):Int)):=by
    rw[r29];simp only[t4p,u0b,hi,Ae,Ad,y7t hi,zTn,y8k (t:=Ty.str) hi,y7l (show i<4611686018427387904 by omega)]
    rw[q7v _ (ht _ hm)]
    simp only[zOb]
    rw[p9j b _ hb.tiny (p3n _)]
    simp only[zOb]
    cases (t35 (u0f d)[i]).2<;>cases (s1n b (t35 (u0f d)[i]).1).2<;>rfl
   rw[hw,hd,o0r]
   cases hc:(!(t35 (u0f d)[i]).2 || !(s1n b (t35 (u0f d)[i]).1).2)
   ·refine .inr ⟨(s1n b (t35 (u0f d)[i]).1).1,?_,?_,rfl⟩
    ·unfold s1n at hc ⊢
     cases hp:s8j b (t35 (u0f d)[i]).1 with
     | none=>rw[hp] at hc;simp at hc
     | some x=>exact(p55 hp).1
    ·simp only[Aa]
   ·exact .inl rfl) 0 o88 (Cn _) o38
 rw[p1z];unfold r8s
 rw[p1v];unfold r8o
 rw[p39 d hd]
 simp only[zOb]
 have L' :u5c ((([], [], [],0,0):u0h),(([], [], [],0,1):u0h),u0f d,0)=_:=L
 rw[L',Fh]
 unfold p8x q0l
 cases r6i o88 (u0f d)<;>rfl
end
section
def txP (t:u0g):Hs×Bool:=if u5r t=true then(u78 t,true) else(emp,false)
def t7m (l m:Hu u0g):Bool:=decide (l.map txP=m.map txP)
theorem o0x (a b:Hs×Bool):(bif a.2==b.2 then z7o a.1 b.1 else false)=decide (a=b):=by
 obtain⟨a1,a2⟩:=a
 obtain⟨b1,b2⟩:=b
 rw[Cd,Ar,Ak]
 cases a2<;>cases b2<;>simp[y7f]
theorem p74 {l m:Hu u0g} (h:l.length=m.length):((List.range l.length).all fun i=>decide (txP (rdL u0i l i)=txP (rdL u0i m i)))=t7m l m:=by
 unfold t7m
 rw[Cd,Bg,Ar]
 constructor
 ·intro k
  apply Gw (by simp[h])
  intro i h1 h2
  rw[F6,F6]
  rw[Da] at h1 h2
  have:=k i (Bq.mpr h1)
  rw[Ar,y8k h1,y8k h2] at this
  exact this
 ·intro k i hi
  have h1:=Bq.mp hi
  have h2:i<m.length:=by omega
  rw[Ar,y8k h1,y8k h2]
  have e:(l.map txP)[i]'(by simpa using h1)=(m.map txP)[i]'(by simpa using h2):=by simp only[k]
  rwa [F6,F6] at e
theorem q92 {l m:Hu u0g} (h:l.length≠m.length):t7m l m=false:=by
 unfold t7m
 rw[Bu]
 intro e
 have:=Dj List.length e
 rw[Da,Da] at this
 exact h this
theorem p21 (l m:Hu u0g) (hl:l.length≤1000) (h1:∀t∈l,tinyT t) (h2:∀t∈m,tinyT t):u1h (l,m,())=some (t7m l m):=by
 rw[t0e];unfold u4g
 simp only
 by_cases h:l.length=m.length
 ·have L:=u9e u09 l.length (fun i=>(m,(),l,(l.length:Int),i)) (fun i=>decide (txP (rdL u0i l i)=txP (rdL u0i m i))) (.inl ()) (.inr false)
   (by rw[u3y];simp only[u08,u0b,Am,Ah,Aa])
   (fun i hi=>by
    have hm1:rdL u0i l i∈l:=by rw[y8k hi];exact Ag hi
    have hi2:i<m.length:=by omega
    have hm2:rdL u0i m i∈m:=by rw[y8k hi2];exact Ag hi2
    have k1:=t9l (rdL u0i l i) (by have:=(h1 _ hm1).wt;omega)
    have k2:=t9l (rdL u0i m i) (by have:=(h2 _ hm2).wt;omega)
    rw[u3y];simp only[u08,u0b,hi,Ae,Ad,y7t hi,y7t hi2,zTn,y7l (show i<4611686018427387904 by omega)]
    rw[q8u];unfold r4x
    simp only
    rw[k1,k2]
    simp only[zOb]
    rw[←o0x]
    unfold txP
    generalize (if u5r (rdL u0i l i)=true then(u78 (rdL u0i l i),true) else(emp,false))=a
    generalize (if u5r (rdL u0i m i)=true then(u78 (rdL u0i m i),true) else(emp,false))=b
    cases a.2==b.2
    ·rfl
    ·simp only[Ad,zOb]
     cases z7o a.1 b.1<;>rfl)
  rw[p74 h] at L
  rw[L,Bb (show(l.length:Int)=(m.length:Int) by omega)]
  cases t7m l m<;>rfl
 ·rw[A7 (show ¬(l.length:Int)=(m.length:Int) by omega),q92 h];rfl
theorem p22 (l m:Hu u0g) (hl:l.length≤1000) (h1:∀t∈l,tinyT t) (h2:∀t∈m,tinyT t):t7k (l,m)=some (t7m l m):=by
 rw[q9j];unfold r5n
 simp only
 by_cases h:l.length=m.length
 ·have L:=u9e t2u l.length (fun i=>(l,m,i)) (fun i=>decide (txP (rdL u0i l i)=txP (rdL u0i m i))) (.inl ()) (.inr false)
   (by rw[s9g];simp only[t2e,u0b,Am,Ah,Aa])
   (fun i hi=>by
    have hm1:rdL u0i l i∈l:=by rw[y8k hi];exact Ag hi
    have hi2:i<m.length:=by omega
    have hm2:rdL u0i m i∈m:=by rw[y8k hi2];exact Ag hi2
    have k1:=t9m (rdL u0i l i) (by have:=(h1 _ hm1).wt;omega)
    have k2:=t9m (rdL u0i m i) (by have:=(h2 _ hm2).wt;omega)
    rw[s9g];simp only[t2e,u0b,hi,Ae,Ad,y7t hi,y7t hi2,zTn,y7l (show i<4611686018427387904 by omega)]
    rw[k1,k2]
    simp only[zOb]
    rw[←o0x]
    unfold txP
    generalize (if u5r (rdL u0i l i)=true then(u78 (rdL u0i l i),true) else(emp,false))=a
    generalize (if u5r (rdL u0i m i)=true then(u78 (rdL u0i m i),true) else(emp,false))=b
    cases a.2==b.2
    ·rfl
    ·simp only[Ad,zOb,Ap,Aa]
     cases z7o a.1 b.1<;>rfl)
  rw[p74 h] at L
  rw[L,Bb (show(l.length:Int)=(m.length:Int) by omega)]
  cases t7m l m<;>rfl
 ·rw[A7 (show ¬(l.length:Int)=(m.length:Int) by omega),q92 h];rfl
end
section
theorem o5g (n:Nat) (hn:n≤1099511627776):u58 ((),(n:Int))=some [] :=by
 rw[s30];unfold t26
 have e0:IntKind.i64.wrap ((0:Int) - (0:Int))=0:=by rw[y4y (by omega) (by omega)];rfl
 have e1:IntKind.i64.wrap ((n:Int) - 0)=(n:Int):=by rw[y4y (by omega) (by omega)];omega
 have e2:decide ((n:Int)<0)=false:=A7 (by omega)
 simp only[e0,e1,e2,Aa]
 by_cases h:n=0
 ·subst h;simp
 ·have e3:decide ((n:Int) >0)=true:=by simp;omega
  have e4:(decide ((1:Int)≤(n:Int))&&decide ((n:Int)≤1099511627776))=true:=by simp;omega
  simp only[e3,e4,Ad]
  simp
theorem o1l (ls:Hu (Hu u3a)) (h:ls.flatten.length≤1099511627776) (hn:ls.length≤1099511627776):u5q ls=some ls.flatten:=by
 have fl:∀(i:Nat),i≤ls.length→(ls.take i).flatten.length≤ls.flatten.length:=fun i _=>by
  have:=En i ls
  have h2:ls.flatten=(ls.take i).flatten++(ls.drop i).flatten:=by rw[←Ga,this]
  rw[h2,Ba];omega
 have st:∀(i:Nat) (hi:i<ls.length),(ls.take (i+1)).flatten=(ls.take i).flatten++ls[i] :=fun i hi=>by
  rw[Gm,A4 hi,Ga];simp
 have L1:=s1i u1x ls.length (fun(n:Nat) i=>(ls,(n:Int),ls,(ls.length:Int),i)) (fun _ _=> .inl (ls,(ls.flatten.length:Int))) (fun i n=>n=(ls.take i).flatten.length)
  (fun n hP=>by
   rw[Cq] at hP;subst hP
   rw[u8j];simp only[u2j,u0b,Am,Ah,Aa])
  (fun i n hi hP=> .inr ⟨(ls.take (i+1)).flatten.length,rfl,rfl,by
   have h1:=fl (i+1) (by omega)
   have h2:(ls.take (i+1)).flatten.length=n+ls[i].length:=by rw[st i hi,Ba,hP]
   have e1:IntKind.i64.wrap ((n:Int)+((ls[i].length:Nat):Int))=((n+ls[i].length:Nat):Int):=by rw[y4y (by omega) (by omega)];omega
   have e2:decide (((n+ls[i].length:Nat):Int)<0)=false:=by simp;omega
   rw[u8j];simp only[u2j,u0b,hi,Ae,Ad,y7t hi,zTn,y8k (t:=Ty.sl u0c) hi,y7l (show i<4611686018427387904 by omega),h2]
   rw[e1,e2];rfl⟩) 0 0 (by omega) rfl
 have L2:=s1i u1s ls.length (fun(a:Hu u3a) i=>(a,ls,(ls.length:Int),i)) (fun _ _=> .inl ls.flatten) (fun i a=>a=(ls.take i).flatten)
  (fun a hP=>by
   rw[Cq] at hP;subst hP
   rw[u74];simp only[u2b,u0b,Am,Ah,Aa])
  (fun i a hi hP=> .inr ⟨(ls.take (i+1)).flatten,rfl,rfl,by
   have h1:=fl (i+1) (by omega)
   have h2:(ls.take (i+1)).flatten.length=a.length+ls[i].length:=by rw[st i hi,Ba,hP]
   rw[u74];simp only[u2b,u0b,hi,Ae,Ad,y7t hi,zTn,y8k (t:=Ty.sl u0c) hi,y7l (show i<4611686018427387904 by omega)]
   rw[u0m (show a.length+ls[i].length≤1099511627776 by omega),st i hi,hP];rfl⟩) 0 [] (by omega) rfl
 rw[s1l];unfold t0y
 have L1' :u1x (ls,(0:Int),ls,(ls.length:Int),0)=some (.inl (ls,(ls.flatten.length:Int))):=L1
 have L2' :u1s ([],ls,(ls.length:Int),0)=some (.inl ls.flatten):=L2
 simp only[L1',zOb,o5g _ h,L2']
def p0x:p20:=((⟨#[97]⟩:Hs),(⟨#[122,122,122]⟩:Hs))
def s5c (a b:Hu u3a) (s:Int):Bool:=decide (s5d a p0x s=s5d b p0x s)
def q25 (a b:Hu u3a) (s:Int):Bool:=s5c a b s&&(a++b).all fun v=>decide (v.2.2.2≤s) || s5c a b v.2.2.2
def o2h (a b:u0h):Bool:=decide (a.2.2.2.1=b.2.2.2.1)&&(t7m a.2.1 b.2.1&&(t7m a.2.2.1 b.2.2.1&&q25 a.1 b.1 a.2.2.2.1))
theorem q90 (a b:Hu u3a) (s:Int) (ha:a.length≤10000) (hb:b.length≤10000):t2x (s,(a,b))=some (s5c a b s):=by
 rw[q34];unfold s6u
 rw[r9h];unfold s5r
 simp only[zOb]
 rw[s9i a _ s (by omega),s9i b _ s (by omega)]
 simp only[zOb]
 rw[q3r _ _ (by have:=p3p a ((⟨#[97]⟩:Hs),(⟨#[122,122,122]⟩:Hs)) s;omega)]
 rfl
theorem q91 (a b:Hu u3a) (s:Int) (ha:a.length≤10000) (hb:b.length≤10000):u2x (a,(p0x,s))=some (s5d a p0x s)∧u2x (b,(p0x,s))=some (s5d b p0x s)∧u4y (s5d a p0x s,s5d b p0x s)=some (s5c a b s):=
 ⟨s9j a _ s (by omega),s9j b _ s (by omega),q3s _ _ (by have:=p3p a p0x s;omega)⟩
theorem p4a (a b:Hu u3a) (s:Int) (ha:a.length≤10000) (hb:b.length≤10000):s2y (a,b,s)=some (q25 a b s):=by
 have hC:=o1l [a,b] (by simp only[List.flatten_cons,List.flatten_nil,Bw,Ba];omega) (by simp)
 rw[show[a,b].flatten=a++b by simp] at hC
 have hl:(a++b).length≤20000:=by rw[Ba];omega
 generalize hg:a++b=g at hC hl
 have L:=u9e t2i g.length (fun i=>(s,(a,b),g,(g.length:Int),i)) (fun i=>(fun v:u3a=>decide (v.2.2.2≤s) || s5c a b v.2.2.2) (rdL u0c g i)) (.inl (s,(a,b))) (.inr false)
  (by rw[s8w];simp only[t1t,u0b,Am,Ah,Aa])
  (fun i hi=>by
   rw[s8w];simp only[t1t,u0b,hi,Ae,Ad,y7t hi,zTn,y7l (show i<4611686018427387904 by omega),r5q (rdL u0c g i).2.2.2 s]
   rw[q90 a b _ ha hb]
   cases decide ((rdL u0c g i).2.2.2≤s)
   ·cases s5c a b (rdL u0c g i).2.2.2<;>rfl
   ·rfl)
 rw[t63 (t:=u0c) g (fun v:u3a=>decide (v.2.2.2≤s) || s5c a b v.2.2.2)] at L
 rw[q8l];unfold r4p
 simp only
 rw[hC]
 simp only[zOb]
 rw[L]
 unfold q25
 rw[hg]
 cases g.all fun v:u3a=>decide (v.2.2.2≤s) || s5c a b v.2.2.2
 ·simp
 ·simp only[Ad,zOb,Cz]
  rw[q90 a b _ ha hb];rfl
theorem p4b (a b:Hu u3a) (s:Int) (ha:a.length≤10000) (hb:b.length≤10000):s3k (a,b,s)=some (q25 a b s):=by
 have hl:(a++b).length=a.length+b.length:=Ba
 have L:=u9e t2q (a++b).length (fun i=>(a,b,s,p0x,i)) (fun i=>(fun v:u3a=>decide (v.2.2.2≤s) || s5c a b v.2.2.2) (rdL u0c (a++b) i)) (.inl ()) (.inr false)
  (by
   rw[s88];simp only[t16]
   rw[y4y (n:=(a.length:Int)+(b.length:Int)) (by omega) (by omega),A7 (show ¬((a++b).length:Int)<(a.length:Int)+(b.length:Int) by omega)];rfl)
  (fun i hi=>by
   obtain⟨k1,k2,k3⟩:=q91 a b (rdL u0c (a++b) i).2.2.2 ha hb
   rw[s88];simp only[t16]
   rw[y4y (n:=(a.length:Int)+(b.length:Int)) (by omega) (by omega),Bb (show(i:Int)<(a.length:Int)+(b.length:Int) by omega)]
   simp only[Ad,y7l (show i<4611686018427387904 by omega)]
   by_cases h:i<a.length
   ·have e:rdL u0c (a++b) i=rdL u0c a i:=by
     rw[y8k hi,y8k h];exact Ck h
    rw[e] at k1 k2 k3 ⊢
    rw[Bb (show(i:Int)<(a.length:Int) by omega)]
    simp only[Ad,y7t h,zTn,r5q (rdL u0c a i).2.2.2 s]
    rw[k1,k2]
    simp only[zOb]
    rw[k3]
    cases decide ((rdL u0c a i).2.2.2≤s)
    ·cases s5c a b (rdL u0c a i).2.2.2<;>rfl
    ·rfl
   ·have h2:i - a.length<b.length:=by omega
    have e:rdL u0c (a++b) i=rdL u0c b (i - a.length):=by
     rw[y8k hi,y8k h2];exact Cv (by omega)
    have ew:IntKind.i64.wrap ((i:Int) - (a.length:Int))=((i - a.length:Nat):Int):=by rw[y4y (by omega) (by omega)];omega
    rw[e] at k1 k2 k3 ⊢
    rw[A7 (show ¬(i:Int)<(a.length:Int) by omega),ew]
    simp only[Aa,Ad,y7t h2,zTn,r5q (rdL u0c b (i - a.length)).2.2.2 s]
    rw[k1,k2]
    simp only[zOb]
    rw[k3]
    cases decide ((rdL u0c b (i - a.length)).2.2.2≤s)
    ·cases s5c a b (rdL u0c b (i - a.length)).2.2.2<;>rfl
    ·rfl)
 rw[t63 (t:=u0c) (a++b) (fun v:u3a=>decide (v.2.2.2≤s) || s5c a b v.2.2.2)] at L
 obtain⟨k1,k2,k3⟩:=q91 a b s ha hb
 rw[q9d];unfold r5g
 rw[q2t];unfold s9n
 simp only[zOb]
 rw[show((⟨#[97]⟩:Hs),(⟨#[122,122,122]⟩:Hs))=p0x from rfl,k1,k2]
 simp only[zOb]
 rw[k3]
 simp only[zOb]
 rw[L]
 unfold q25
 cases s5c a b s
 ·rfl
 ·cases (a++b).all fun v:u3a=>decide (v.2.2.2≤s) || s5c a b v.2.2.2<;>rfl
theorem p6r (a b:u0h) (ha:tinyB a) (hb:tinyB b):t67 (a,b)=some (o2h a b):=by
 rw[q8g];unfold r4k o2h
 simp only
 rw[p21 _ _ ha.pl ha.ps hb.ps,p21 _ _ ha.rl ha.rs hb.rs,p4a _ _ _ ha.vl hb.vl]
 simp only[zOb]
 cases decide (a.2.2.2.1=b.2.2.2.1)<;>cases t7m a.2.1 b.2.1<;>cases t7m a.2.2.1 b.2.2.1<;>rfl
theorem p6s (a b:u0h) (ha:tinyB a) (hb:tinyB b):t7e (a,b)=some (o2h a b):=by
 rw[q87];unfold r5a o2h
 simp only
 rw[p22 _ _ ha.pl ha.ps hb.ps,p22 _ _ ha.rl ha.rs hb.rs,p4b _ _ _ ha.vl hb.vl]
 simp only[zOb]
 cases decide (a.2.2.2.1=b.2.2.2.1)<;>cases t7m a.2.1 b.2.1<;>cases t7m a.2.2.1 b.2.2.1<;>rfl
end
section
theorem p8i (t:Hs) (a:Int):(u0v t a).1.size≤20000:=by
 unfold u0v
 split
 ·rename_i hc
  have:=s8n hc.1
  simp only[Bd];omega
 ·exact Cn _
theorem q50 (t:Hs):∀(m:Nat) (a:Int) (acc:Hu Hs),(∀s∈acc,s.size≤20000)→ ∀s∈(s7c t m a acc).1,s.size≤20000
 | 0,a,acc,h=>h
 | m+1,a,acc,h=>by
  unfold s7c
  split
  ·refine q50 t m _ _ fun s hs=> ?_
   rcases Ay.mp hs with q | q
   ·exact h s q
   ·rw[Ax.mp q];exact p8i _ _
  ·intro s hs;cases hs
theorem p2o (d:u02) (a:Int):∀s∈(u4f d a).1,s.size≤20000:=by
 unfold u4f
 split
 ·exact q50 _ _ _ _ fun s hs=>by cases hs
 ·intro s hs;cases hs
theorem r9v (d:u02):∀s∈u0f d,s.size≤20000:=p2o d _
theorem q58 (d:u02):(u0f d).length<256:=p8g d _
theorem p6v (d:u02) (hd:p4i.wt d≤1073741824):t3s d=some (p8x (u0f d)):=
 p6t d hd (fun t ht=>by have:=r9v d t ht;unfold u0e;omega) (by have:=q58 d;omega)
theorem p2z (d:u02) (hd:p4i.wt d≤1073741824):t3y d=some (p8x (u0f d)):=
 p6u d hd (fun t ht=>by have:=r9v d t ht;unfold u0e;omega) (by have:=q58 d;omega)
theorem o01:∀ {l:Hu Hs} {b x:u0h},BaseR b→r6i b l=some x→BaseR x
 | [],b,x,hb,h=>by rw[←Ds h];exact hb
 | t::l,b,x,hb,h=>by
  simp only[r6i] at h
  split at h
  ·cases h
  ·split at h
   ·cases h
   ·rename_i r _ y hy
    exact o01 (p55 hy).1 h
theorem p8c {l:Hu Hs} {x:u0h} (h:q0l l=some x):BaseR x:=o01 o38 h
theorem q9t (l:Hu Hs):tinyB (p8x l).1:=by
 unfold p8x
 cases h:q0l l with
 | none=>exact s10
 | some b=>exact(p8c h).tiny
def r0n (s:p0o×u02):Bool:=p5x s.1&&(q2y s.2&&((p8x (u0f s.2)).2&&o2h (p8x (u0f s.2)).1 (t7y s.1.1 [])))
theorem o0m {b:u0h} {o:Hu u0g} (h:s9o.wt (b,o)≤1048576):p2m b∧p6k o:=by
 have e1:=o3r (b,o)
 have e2:=s9r b
 simp only at e1
 have f:∀l:Hu u0g,(Ty.sl u0i).wt l≤1048576→p6k l:=fun l hl=>by
  refine⟨by have:=t3a (t:=u0i) l;omega,fun t ht=> ?_⟩
  have h1:=r6u ht
  have h2:=o09 t
  have h3:=t3a (t:=u1u) t.2.2.2.2.1
  have h4:=t3a (t:=u0o) t.2.2.2.2.2.1
  exact⟨by omega,by omega⟩
 exact⟨⟨by have:=t3a (t:=u0c) b.1;omega,f _ (by omega),f _ (by omega)⟩,f _ (by omega)⟩
theorem p6z (s:p0o×u02) (hw:q2d.wt s≤1048576):s5x s=some (r0n s):=by
 have hb:u0e=1099511627776:=rfl
 have e:q2d.wt s=s9o.wt s.1+p4i.wt s.2:=rfl
 have hf:=o0m (b:=s.1.1) (o:=s.1.2) (by have:s9o.wt (s.1.1,s.1.2)=s9o.wt s.1:=rfl
                                        omega)
 rw[p09];unfold r75 r0n
 rw[p6v s.2 (by omega),p36 s.1 (by omega),p2v s.2 (by omega)]
 simp only[zOb]
 rw[t04 s.1.1 [] hf.1 (by simp)]
 simp only[zOb]
 cases h1:p5x s.1
 ·rfl
 ·have hE:=o9u.mp h1
  rw[p6r _ _ (q9t _) (u9b hE.base.tiny [])]
  cases q2y s.2<;>cases (p8x (u0f s.2)).2<;>rfl
theorem p60 (s:p0o×u02) (hw:q2d.wt s≤1048576):s58 s=some (r0n s):=by
 have hb:u0e=1099511627776:=rfl
 have e:q2d.wt s=s9o.wt s.1+p4i.wt s.2:=rfl
 have hf:=o0m (b:=s.1.1) (o:=s.1.2) (by have:s9o.wt (s.1.1,s.1.2)=s9o.wt s.1:=rfl
                                        omega)
 rw[p15];unfold r8y r0n
 rw[p2z s.2 (by omega),p37 s.1 (by omega),p2w s.2 (by omega)]
 simp only[zOb]
 rw[s9l s.1.1 [] hf.1 (by simp)]
 simp only[zOb]
 cases h1:p5x s.1
 ·rfl
 ·have hE:=o9u.mp h1
  rw[p6s _ _ (q9t _) (u9b hE.base.tiny [])]
  cases q2y s.2<;>cases (p8x (u0f s.2)).2<;>rfl
end
section
def j26:q5a:=((u5f, []),([], []))
def q9z (d:u02):q5a×Bool:=if q2y d=true∧(p8x (u0f d)).2=true then((((p8x (u0f d)).1, []),d),true) else(j26,false)
theorem o3h (d:u02) (hd:p4i.wt d≤10000000):s0e d=some (q9z d):=by
 have hb:u0e=1099511627776:=rfl
 rw[q6u];unfold r00 q9z
 rw[p6v d (by omega),p2v d (by omega),o1m d (by omega)]
 simp only[zOb]
 cases q2y d<;>cases (p8x (u0f d)).2<;>rfl
theorem o3i (d:u02) (hd:p4i.wt d≤10000000):s0k d=some (q9z d):=by
 have hb:u0e=1099511627776:=rfl
 rw[q7e];unfold r1i q9z
 rw[p2z d (by omega),p2w d (by omega),o1n d (by omega)]
 simp only[zOb]
 cases q2y d<;>cases (p8x (u0f d)).2<;>rfl
theorem p8k (d:u02):tinyB (q9z d).1.1.1:=by
 unfold q9z
 split
 ·exact q9t _
 ·exact s10
def p70 (s:q5a):Bool:=r0n s&&((q9z s.2).2&&o2h (q9z s.2).1.1.1 (t7y s.1.1 []))
theorem q95 {s:q5a} (h:r0n s=true):EngR s.1:=by
 unfold r0n at h
 simp only[Ai] at h
 exact o9u.mp h.1
theorem o3c (w:q5y.den) (hw:q2d.wt w.1≤1048576):s0b w=some (p70 w.1):=by
 have e:q2d.wt w.1=s9o.wt w.1.1+p4i.wt w.1.2:=rfl
 have hf:=o0m (b:=w.1.1.1) (o:=w.1.1.2) (by have:s9o.wt (w.1.1.1,w.1.1.2)=s9o.wt w.1.1:=rfl
                                            omega)
 rw[q6p];unfold r0v p70
 rw[o3h w.1.2 (by omega),p6z w.1 hw]
 simp only[zOb]
 rw[t04 w.1.1.1 [] hf.1 (by simp)]
 simp only[zOb]
 cases h1:r0n w.1
 ·cases (q9z w.1.2).2<;>rfl
 ·have hE:=q95 h1
  rw[p6r _ _ (p8k _) (u9b hE.base.tiny [])]
  cases (q9z w.1.2).2<;>rfl
theorem o3d (w:q5y.den) (hw:q2d.wt w.1≤1048576):s0h w=some (p70 w.1):=by
 have e:q2d.wt w.1=s9o.wt w.1.1+p4i.wt w.1.2:=rfl
 have hf:=o0m (b:=w.1.1.1) (o:=w.1.1.2) (by have:s9o.wt (w.1.1.1,w.1.1.2)=s9o.wt w.1.1:=rfl
                                            omega)
 rw[q7a];unfold r1e p70
 rw[o3i w.1.2 (by omega),p60 w.1 hw]
 simp only[zOb]
 rw[s9l w.1.1.1 [] hf.1 (by simp)]
 simp only[zOb]
 cases h1:r0n w.1
 ·rfl
 ·have hE:=q95 h1
  rw[p6s _ _ (p8k _) (u9b hE.base.tiny [])]
  cases (q9z w.1.2).2<;>rfl
end
section
theorem o1p (b:u0h) (o:Hu u0g) (hb:p2m b) (ho:p6k o):s6f (b,o)=some (b,o):=by
 have h1:=t71 b hb
 have h2:=q0b o ho
 rw[p2k];unfold r9e
 simp only[h1,h2,zOb]
theorem o1o (b:u0h) (o:Hu u0g) (hb:p2m b) (ho:p6k o):t78 (b,o)=some (b,o):=by
 have h1:=t70 b hb
 have h2:=q0a o ho
 rw[q38];unfold s6y
 simp only[h1,h2,zOb]
theorem p9f (b:u0h) (o:Hu u0g) (n:Hs) (hb:smallB b) (ho:p6k o) {k:Nat} (hk:k<b.2.2.1.length) (hr:u1g b n=(k:Int)):
 ∃e r code,s1s ((b,o),n,true)=some (e,r,code)∧(code=(0:Int)∨code=3):=by
 have h1:=o1p b o hb.few ho
 have h2:=r31 b n (by have:=hb.2.2.1;omega)
 have h3:=o3z b
 have ht:=hb.2.2.2 _ (Ag hk)
 have h4:=q5d b b.2.2.1[k] hb.few ht
 have h5:=s9l (r7h b b.2.2.1[k]) o (p8p hb ht) ho.1
 have c1:decide ((k:Int)<0)=false:=by simp
 rw[hr] at h2
 rw[p5m];unfold q12
 simp only[h1,h2,h3,zOb,c1,Aa,Ad]
 cases p9s b with
 | true=>exact⟨_,_,_,rfl, .inr rfl⟩
 | false=>
  simp only[Aa,y7t hk,Ad,zTn,y8k (t:=u0i) hk,h4,h5,zOb]
  exact⟨_,_,_,rfl, .inl rfl⟩
theorem p9e (b:u0h) (o:Hu u0g) (n:Hs) (hb:smallB b) (ho:p6k o) {k:Nat} (hk:k<b.2.2.1.length) (hr:u1g b n=(k:Int)):
 ∃e r code,s90 ((b,o),n,true)=some (e,r,code)∧(code=(0:Int)∨code=3):=by
 have h1:=o1o b o hb.few ho
 have h2:=r30 b n (by have:=hb.2.2.1;omega)
 have h3:=o3y b
 have ht:=hb.2.2.2 _ (Ag hk)
 have h4:=q5c b b.2.2.1[k] hb.few ht
 have h5:=t04 (u7h b b.2.2.1[k]) o (q6e hb ht) ho.1
 have c1:decide ((k:Int)<0)=false:=by simp
 rw[hr] at h2
 rw[p4r];unfold q06
 simp only[h1,h2,h3,zOb,c1,Aa,Ad]
 cases p9s b with
 | true=>exact⟨_,_,_,rfl, .inr rfl⟩
 | false=>
  simp only[Aa,y7t hk,Ad,zTn,y8k (t:=u0i) hk,h4,h5,zOb]
  exact⟨_,_,_,rfl, .inl rfl⟩
end
end
end Go.Proofs.YtkdpclfhapphhaaGreat.Ab
