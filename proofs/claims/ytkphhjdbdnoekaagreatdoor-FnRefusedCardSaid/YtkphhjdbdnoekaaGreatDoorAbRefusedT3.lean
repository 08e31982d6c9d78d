import Derived.Test.YtkphhjdbdnoekaaGreatDoorAbRefusedT2
namespace Go.Proofs.YtkphhjdbdnoekaaGreatDoor.Ab
open Go Go.IntKind
set_option linter.all false
def d6z(a b:Int):Int:=u32.wrap ((BitVec.ofInt u32.bits a^^^BitVec.ofInt u32.bits b).toNat:Int)
def d16(x:Int):Int:=bif decide (Int.tmod x 2=1) then d6z (u32.wrap (Int.tdiv x 2)) 3558460437 else u32.wrap (Int.tdiv x 2)
def o40:Nat->Int->Int
 |0,x=>x|n+1,x=>o40 n (d16 x)
def o41(x:Int)(b:UInt8):Int:=o40 8 (d6z x (u32.wrap (b.toNat:Int)))
def d6t(t:Hs):Int:=t.data.toList.foldl o41 4294967295
def d6q(x:Int)(k:Nat):Int:=u8.wrap (Int.fdiv x (2^k))
def c0r(x:Int):Hs:=y7s [d6q x 24,d6q x 16,d6q x 8,u8.wrap x]
def q7e(t:Hs):Hs:=t++c0r (d6t t)
def o4u(t:Hs):Hs×Bool:=if t.size<=20000 then(q7e t,true) else(emp,false)
def t98(t:Hs):Ht Hs:=if 4<=t.size/\t.size - 4<=20000/\q7e (t.extract 0 (t.size - 4))=t then some (t.extract 0 (t.size - 4)) else none
theorem d1b(x:Int):(c0r x).size=4:=u6c _
theorem o8r(t:Hs):(q7e t).size=t.size+4:=by unfold q7e;rw[Af,d1b]
theorem p5d{t:Hs}(h:t.size<=20000):t98 (q7e t)=some t:=by
 have hs:=o8r t;have e:(q7e t).extract 0 ((q7e t).size - 4)=t:=by
  rw[hs,Nat.add_sub_cancel];exact ByteArray.extract_append_eq_left rfl
 unfold t98;rw[e,Al ⟨by omega,by omega,rfl⟩]
abbrev r21:=Int×u0e×Hs×Bool×u0m
def u3i:u0e:=(0,0,0,0, [], [],false,emp)
def u26:u0m:=([], [], [],0,0)
def noT(t:u0e):Bool:=decide (t.1=0)&&(decide (t.2.1=0)&&(decide (t.2.2.1=0)&&(decide (t.2.2.2.1=0)&&(decide (t.2.2.2.2.1.length=0)&&(decide (t.2.2.2.2.2.1.length=0)&&(!t.2.2.2.2.2.2.1&&decide (t.2.2.2.2.2.2.2.size=0)))))))
def noB(b:u0m):Bool:=decide (b.1.length=0)&&(decide (b.2.1.length=0)&&(decide (b.2.2.1.length=0)&&(decide (b.2.2.2.1=0)&&decide (b.2.2.2.2=0))))
def u88(r:r21):Bool:=
 if r.1=1 then u93 r.2.1&&(decide (r.2.1.2.1=3)&&(decide (r.2.2.1.size=0)&&(!r.2.2.2.1&&noB r.2.2.2.2)))
 else if r.1=2 then u93 r.2.1&&(decide (r.2.1.2.1=2)&&(decide (r.2.2.1.size=0)&&(!r.2.2.2.1&&noB r.2.2.2.2)))
 else if r.1=3 then noT r.2.1&&(u81 r.2.2.1&&noB r.2.2.2.2)
 else if r.1=4 then noT r.2.1&&(decide (r.2.2.1.size=0)&&(!r.2.2.2.1&&u95 r.2.2.2.2))
 else false
def q7a(r:r21):Hs:=y7s [u8.wrap r.1] ++(if r.1=3 then u0t r.2.2.1++j58 r.2.2.2.1 else if r.1=4 then s7l r.2.2.2.2 else t8i r.2.1)
def u0u(r:r21):Hs×Bool:=if u88 r=true then o4u (q7a r) else(emp,false)
theorem d4a{s:Hs}(h:s.size=0):s=emp:=j7l (by
 rw[p1x]at h;rw[Dk.mp h];rfl)
theorem d1k{t:u0e}:noT t=true↔t=u3i:=by
 unfold noT u3i;simp only[Ai,Ar,Bj];constructor
 .rintro⟨h1,h2,h3,h4,h5,h6,h7,h8⟩
  obtain⟨t1,t2,t3,t4,t5,t6,t7,t8⟩:=t;simp only at h1 h2 h3 h4 h5 h6 h7 h8;rw[h1,h2,h3,h4,Dk.mp h5,Dk.mp h6,h7,d4a h8]
 .rintro rfl
  exact⟨rfl,rfl,rfl,rfl,rfl,rfl,rfl,rfl⟩
theorem j6s{b:u0m}:noB b=true↔b=u26:=by
 unfold noB u26;simp only[Ai,Ar];constructor
 .rintro⟨h1,h2,h3,h4,h5⟩
  obtain⟨t1,t2,t3,t4,t5⟩:=b;simp only at h1 h2 h3 h4 h5;rw[h4,h5,Dk.mp h1,Dk.mp h2,Dk.mp h3]
 .rintro rfl
  exact⟨rfl,rfl,rfl,rfl,rfl⟩
inductive RecR:r21->Prop where
 |thr (t:u0e) (h:TxnR t) (hs:t.2.1=3):RecR (1,t,emp,false,u26)|rdy (t:u0e) (h:TxnR t) (hs:t.2.1=2):RecR (2,t,emp,false,u26)|fin (n:Hs) (y:Bool) (h:u81 n=true):RecR (3,u3i,n,y,u26)|bas (b:u0m) (h:BaseR b):RecR (4,u3i,emp,false,b)
theorem d48{r:r21}:u88 r=true↔RecR r:=by
 obtain⟨k,t,n,y,b⟩:=r;unfold u88;simp only;constructor
 .intro h;split at h
  .rename_i e;simp only[Ai,Ar,Bj,p5c,j6s]at h;obtain⟨h1,h2,h3,h4,h5⟩:=h;rw[e,d4a h3,h4,h5];exact .thr t h1 h2
  .split at h
   .rename_i _ e;simp only[Ai,Ar,Bj,p5c,j6s]at h;obtain⟨h1,h2,h3,h4,h5⟩:=h;rw[e,d4a h3,h4,h5];exact .rdy t h1 h2
   .split at h
    .rename_i _ _ e;simp only[Ai,d1k,j6s]at h;obtain⟨h1,h2,h3⟩:=h;rw[e,h1,h3];exact .fin n y h2
    .split at h
     .rename_i _ _ _ e;simp only[Ai,Ar,Bj,d1k,o72]at h;obtain⟨h1,h2,h3,h4⟩:=h;rw[e,h1,d4a h2,h3];exact .bas b h4
     .cases h
 .intro h;cases h with
  |thr t h hs=>simp[p5c.mpr h,hs,j6s.mpr rfl,emp,ByteArray.size]|rdy t h hs=>simp[p5c.mpr h,hs,j6s.mpr rfl,emp,ByteArray.size]|fin n y h=>simp[h,j6s.mpr rfl,d1k.mpr rfl]|bas b h=>simp[o72.mpr h,d1k.mpr rfl,emp,ByteArray.size]
theorem r0h{r:r21}(h:RecR r):2<=(q7a r).size/\(q7a r).size<=10000:=by
 have h1:∀n:Int,(y7s [n]).size=1:=fun n=>u6c _
 cases h with
 |thr t h hs=>
  have:=s5i h;have q:1<=(t8i t).size:=by
   unfold t8i;rw[Af,r2m];have:=p5f t.1.toNat;omega
  show 2<=(y7s _++t8i t).size/\(y7s _++t8i t).size<=10000;rw[Af,h1];omega
 |rdy t h hs=>
  have:=s5i h;have q:1<=(t8i t).size:=by
   unfold t8i;rw[Af,r2m];have:=p5f t.1.toNat;omega
  show 2<=(y7s _++t8i t).size/\(y7s _++t8i t).size<=10000;rw[Af,h1];omega
 |fin n y h=>
  have:=u2z h;have q:=u09 (s:=n) (by omega);show 2<=(y7s _++(u0t n++j58 y)).size/\(y7s _++(u0t n++j58 y)).size<=10000;have:=(s76 n).1;rw[Af,Af,h1,u4b];omega
 |bas b h=>
  have:=p56 h;have a1:=(d2q.mp h.vs).2.2;have a2:=h.plen;have a3:=h.rlen;have q:1<=(s7l b).size:=by
   unfold s7l;rw[Af,r2m];have:=p5f b.2.2.2.1.toNat;omega
  show 2<=(y7s _++s7l b).size/\(y7s _++s7l b).size<=10000;rw[Af,h1];omega
theorem t8e{r:r21}(h:RecR r):u0u r=(q7e (q7a r),true):=by
 unfold u0u o4u;rw[Al (d48.mpr h),Al (by have:=(r0h h).2;omega)]
def c2t:Lim:=⟨9,121,13,4⟩
theorem j6q:c2t.ok:=⟨by decide,by decide,by decide,by decide⟩
def t7d(s:Hs):r21×Bool:=
 if u96 s 0=3 then((3,u3i,(u3e s (1,false)).1,(p5q s (u3e s (1,false)).2).1,u26),(p5q s (u3e s (1,false)).2).2.2)
 else if u96 s 0=4 then((4,u3i,emp,false,(s0c c2t s (1,false)).1),(s0c c2t s (1,false)).2.2)
 else(((u96 s 0:Int),(u83 9 s (1,false)).1,emp,false,u26),(u83 9 s (1,false)).2.2)
def u6f(t:Hs):Ht r21:=
 match t98 t with
 |none=>none|some s=>if s.size=0 then none else if(t7d s).2=true\/u0u (t7d s).1≠(t,true) then none else some (t7d s).1
theorem o9s{k:Nat}(h:k<256)(s:Hs):u96 (y7s [u8.wrap (k:Int)] ++s) 0=k:=by
 unfold u96;rw[o1t,r2j];have:u8.wrap (k:Int)=(k:Int):=d2h h;rw[this];show(UInt8.ofNat ((k:Int)).toNat).toNat=k;rw[zTn];simp;omega
theorem s58{r:r21}(h:RecR r):t7d (q7a r)=(r,false):=by
 have st:∀(x:Int) (s:Hs),s0o (y7s [x] ++s) 1 s:=fun x s=>by
  have:=j9p (a:=y7s [x]) (s:=s) (b:=emp);rw[j57,u6c]at this;exact this
 cases h with
 |thr t h hs=>
  have e:q7a (1,t,emp,false,u26)=y7s [u8.wrap ((1:Nat):Int)] ++t8i t:=rfl;rw[e];unfold t7d;rw[o9s (by omega),Ao (by omega),Ao (by omega)];have q:=q6x (m:=9) (by omega) h (st (u8.wrap ((1:Nat):Int)) (t8i t));have q:u83 9 (y7s [u8.wrap ((1:Nat):Int)] ++t8i t) (1,false)=_:=q;rw[q];rfl
 |rdy t h hs=>
  have e:q7a (2,t,emp,false,u26)=y7s [u8.wrap ((2:Nat):Int)] ++t8i t:=rfl;rw[e];unfold t7d;rw[o9s (by omega),Ao (by omega),Ao (by omega)];have q:=q6x (m:=9) (by omega) h (st (u8.wrap ((2:Nat):Int)) (t8i t));have q:u83 9 (y7s [u8.wrap ((2:Nat):Int)] ++t8i t) (1,false)=_:=q;rw[q];rfl
 |fin n y h=>
  have e:q7a (3,u3i,n,y,u26)=y7s [u8.wrap ((3:Nat):Int)] ++(u0t n++j58 y):=rfl;rw[e];unfold t7d;rw[o9s (by omega),Al rfl];obtain⟨k1,k2⟩:=d7v.mp (st (u8.wrap ((3:Nat):Int)) (u0t n++j58 y));have q1:=s3s (by have:=u2z h;omega) k1;have q1:u3e (y7s [u8.wrap ((3:Nat):Int)] ++(u0t n++j58 y)) (1,false)=_:=q1;rw[q1];simp only;rw[p2g k2]
 |bas b h=>
  have e:q7a (4,u3i,emp,false,b)=y7s [u8.wrap ((4:Nat):Int)] ++s7l b:=rfl;rw[e];unfold t7d;rw[o9s (by omega),Ao (by omega),Al rfl];have q:=j4u j6q h (st (u8.wrap ((4:Nat):Int)) (s7l b));have q:r79 c2t (y7s [u8.wrap ((4:Nat):Int)] ++s7l b) (1,false)=_:=q;unfold s0c;rw[q];simp only[o72.mpr h,Ap,Fp]
theorem q66{r:r21}(h:RecR r):u6f (q7e (q7a r))=some r:=by
 have hs:=r0h h;unfold u6f;rw[p5d (by omega)];simp only;rw[Ao (by omega),s58 h];simp only;rw[t8e h,Ao (by simp)]
theorem p46{t:Hs}{r:r21}(h:u6f t=some r):RecR r/\t=q7e (q7a r):=by
 unfold u6f at h;split at h
 .cases h
 .rename_i s hs;split at h
  .cases h
  .split at h
   .cases h
   .rename_i hc;simp only[Hr,ne_eq,Decidable.not_not] at hc;have e:=Ds h;rw[e] at hc;have hr:u88 r=true:=by
     cases q:u88 r with
     |true=>rfl|false=>
      have:=hc.2;unfold u0u at this;rw[Ao (by simp[q])]at this;simp at this
    have hR:=d48.mp hr;refine⟨hR,?_⟩;have:=hc.2;rw[t8e hR]at this;exact(Dv this).1.symm
def u3r(b:u0m)(r:r21):Ht u0m:=
 if r.1=1 then(if r.2.1.2.2.2.1=b.2.2.2.1+1 then some (u1u b r.2.1) else none)
 else if r.1=2 then(if b.2.2.1.length<3/\u0k b r.2.1.2.2.2.2.2.2.2<0 then some (u21 b r.2.1 r.2.1.2.2.2.2.2.2.2) else none)
 else if r.1=3 then(if u0k b r.2.2.1<0 then none else if r.2.2.2.1=true then some (u1u b (rdL u0y b.2.2.1 (u0k b r.2.2.1).toNat)) else some (s3a b r.2.2.1))
 else some r.2.2.2.2
def t1m(b:u0m)(r:r21):Ht u0m:=
 if u95 b=true/\u88 r=true then(match u3r b r with
  |none=>none|some x=>if u95 (tidied x [])=true then some (tidied x []) else none)
 else none
def j9f:u0m:=([], [], [],0,1)
def s7x:u0m->Hu Hs->Ht u0m
 |b, [] =>some b|b,t::l=>match u6f t with
  |none=>none|some r=>match t1m b r with
   |none=>none|some x=>s7x x l
def t1a(l:Hu Hs):Ht u0m:=s7x j9f l
theorem j9i(b:u0m):∀(l m:Hu Hs),s7x b (l++m)=(s7x b l).bind fun x=>s7x x m:=by
 intro l
 induction l generalizing b with
 |nil=>intro m;rfl|cons t l ih=>
  intro m;simp only[Ef,s7x];cases u6f t with
  |none=>rfl|some r=>
   simp only;cases t1m b r with
   |none=>rfl|some x=>exact ih x m
theorem o4x{s:Hu Hs}{p:Int×Hs}{k i:Nat}{b:UInt8}(hk:k<s.length)(hp0:0<=p.1)(h1:s9b (rdL Ty.str s k) i=b)(h2:p.1=(k:Int)->s9b p.2 i=b):s9b (rdL Ty.str (s75 s p) k) i=b:=by
 have:=j44 (s:=s) (p:=p) (j:=(k:Int)) hp0 (by omega) (by simpa using hk);rw[zTn]at this;rw[this];split
 .rename_i e;exact h2 e
 .exact h1
theorem j82{x:u0j}(hk:u1v x=true)(keep:Hu Int)(tear:Int){k i:Nat}(hkl:k<x.1.length)(hi:i<64){b:UInt8}(h1:s9b (rdL Ty.str x.1 k) i=b)(h2:∀p∈x.2,p.1=(k:Int)->s9b p.2 i=b):
 s9b (rdL Ty.str (t2i x keep tear).1 k) i=b:=by
 obtain⟨k1,k2,k3,k4⟩:=o77.mp hk;have ht:=(p5a tear).1;have e:(t2i x keep tear).1=s4q x keep (u0r keep x.2.length) (t8g tear) x.2.length:=by unfold t2i;rw[Al hk];rfl
 rw[e];have key:∀n,n<=x.2.length->s9b (rdL Ty.str (s4q x keep (u0r keep x.2.length) (t8g tear) n) k) i=b:=by
  intro n
  induction n with
  |zero=>intro _;exact h1|succ n ih=>
   intro hn;have ih:=ih (by omega);obtain⟨i1,i2⟩:=r69 hk keep ht (last:=u0r keep x.2.length) n (by omega);have hp:=k4 x.2[n] (Ag (by omega));have hpb:=h2 x.2[n] (Ag (by omega));rw[r01];generalize hS:s4q x keep (u0r keep x.2.length) (t8g tear) n=S at*;unfold t2j;rw[y9a (t:=o7z) (show n<x.2.length by omega)];split
   .split
    .refine o4x (by omega) hp.1.1 ih (fun z=> ?_);have z:(x.2[n]).1=(k:Int):=z;have hold:rdL Ty.str S (x.2[n]).1.toNat=rdL Ty.str S k:=by rw[z,zTn]
     have h64:(rdL Ty.str S k).size=64:=by
      have e:rdL Ty.str S k=S[k]'(by omega):=y9a (t:=Ty.str) (by omega);rw[e];exact i2 _ (Ag _)
     simp only[hold];rw[u8m,u34,u34,Bd,hp.2,h64];split
     .rw[Co];exact hpb z
     .rw[Al (by omega)];rw[show t8g tear+(i - (min (t8g tear) 64 - 0))=i by omega];exact ih
    .exact o4x (by omega) hp.1.1 ih hpb
   .exact ih
 exact key _ (Au _)
theorem j5d:∀ {f:Nat} {d x:u0j} {k at_:Nat} {t:Hs},o0q f d k at_ t=some x->at_<64-> ∀p∈x.2,p∈d.2\/ ∃j:Nat,p.1=(j:Int)/\k<=j/\j*64<k*64+at_+t.size/\ ∀i,i<64->j*64+i<k*64+at_->s9b p.2 i=s9b (u0l d (j:Int)).1 i
 |0,d,x,k,at_,t,h,_,p,hp=>by cases h;exact .inl hp
 |f+1,d,x,k,at_,t,h,hat,p,hp=>by
  rw[o0q]at h;split at h
  .cases h;exact .inl hp
  .rename_i hz;split at h
   .rename_i hrd;cases hw:u61 d (k:Int) ((u0l d (k:Int)).1.extract 0 at_++t.extract 0 (min t.size (64 - at_))++(u0l d (k:Int)).1.extract (at_+min t.size (64 - at_)) 64) with
    |none=>rw[hw]at h;cases h|some y=>
     rw[hw]at h;simp only[zOb]at h;rcases j5d h (by omega) p hp with q|⟨j,h1,h2,h3,h4⟩
     .rw[(t8l hw).2]at q;simp only[Ay,Ax]at q;rcases q with q|q
      .exact .inl q
      .refine .inr ⟨k,by rw[q],Au _,by omega,fun i hi hlt=> ?_⟩;rw[q];simp only;rw[u8m,u8m,u34];simp only[Af,Bd,hrd.2];rw[Al (by omega),Al (by omega),Al (by omega),Co]
     .refine .inr ⟨j,h1,by omega,?_,fun i hi hlt=>by omega⟩;rw[Bd]at h3;omega
   .cases h
def SameLog(d e:u0j):Prop:=u2k e=true/\u0n e=u0n d/\u0c e 0=u0c d 0/\u0c e 1=u0c d 1
theorem t0z{a:Int}(ha:a=0\/a=1):u0f a=1+a*48/\(s9a a:Int)=2+a*48:=by
 have hfa:u0f a=1+a*48:=by unfold u0f;rw[Al (d3g.mpr ha)]
 refine⟨hfa,?_⟩;unfold s9a;rcases ha with rfl|rfl<;>omega
theorem p4x{e:u0j}(h1:u1v e=true)(h2:e.1.length=97)(h3:e.2= [])(h4:(u0c e 0).2.2=true)(h5:(u0c e 1).2.2=true):u2k e=true:=by
 unfold u2k;rw[h1,h4,h5];simp[h2,h3]
theorem r5l{d e:u0j}(h:u0l e 0=u0l d 0):u0n e=u0n d:=by
 unfold u0n u48;rw[h]
theorem d1e{d e:u0j}(hl:u2k d=true){a:Int}(ha:a=0\/a=1)(h1:u1v e=true)(h2:e.1.length=97)(h3:e.2= [])
 (h4:∀k:Nat,k<97-> ¬(s9a a<=k/\k<s9a a+47)->u0l e (k:Int)=u0l d (k:Int))
 (h5:∀j:Nat,(j:Int)<(u0c d a).2.1->j<3008->s9b (r9l e a) j=s9b (r9l d a) j):SameLog d e:=by
 obtain⟨d1,d2,d3,d4,d5⟩:=u58 hl;have fd:=r03 d1 d2;have fe:=r03 h1 h2;obtain⟨f1,f2⟩:=t0z ha;have hact:u0n e=u0n d:=r5l (h4 0 (by omega) (by omega));have hcnt:u0z e a=u0z d a:=by
  unfold u0z u48;have hk:u0f a=(((u0f a).toNat:Nat):Int):=by rcases ha with rfl|rfl<;>omega
  have:=h4 (u0f a).toNat (by rcases ha with rfl|rfl<;>omega) (by rcases ha with rfl|rfl<;>omega);rw[←hk]at this;rw[this]
 have hra:u0c e a=u0c d a:=by
  have hda:=t4e fd ha;have hok:(u0c d a).2.2=true:=by rcases ha with rfl|rfl<;>assumption
  rw[t4e fe ha,hcnt];obtain⟨l,E,r⟩:∃l E,u0c d a=(l,E,true):=⟨_,_,by rw[←hok]⟩;rw[r]at h5⊢;rw[r]at hda;have hsz:(r9l e a).size=(r9l d a).size:=by rw[(u8b fe ha).2.1,(u8b fd ha).2.1]
  have hat:=o1r (r9l d a) (u0z d a).toNat 0 [] (by simp);rw[←hda]at hat;refine q56 hsz hda.symm (fun q hq=>h5 q hq ?_);have:=(u8b fd ha).2.1;simp only at hat;omega
 have hro:u0c e (1 - a)=u0c d (1 - a):=by
  refine t5y (fun q hq=> ?_);have ho:=(t0z (a:=1 - a) (by omega)).1;obtain⟨j,hj⟩:∃j:Nat,u0f (1 - a)+(q:Int)=(j:Int):=⟨(u0f (1 - a)+(q:Int)).toNat,by rcases ha with rfl|rfl<;>omega⟩;rw[hj];exact h4 j (by rcases ha with rfl|rfl<;>omega) (by rcases ha with rfl|rfl<;>omega)
 have both:u0c e 0=u0c d 0/\u0c e 1=u0c d 1:=by
  rcases ha with rfl|rfl
  .exact⟨hra,by simpa using hro⟩
  .exact⟨by simpa using hro,hra⟩
 exact⟨p4x h1 h2 h3 (by rw[both.1];exact d4) (by rw[both.2];exact d5),hact,both.1,both.2⟩
theorem o0t{d x:u0j}{a:Int}{t:Hs}(h:t1k d a t=some x):∃E:Nat,(u0c d a).2.1=(E:Int)/\E+(u0t t).size<=3008/\o0q ((u0t t).size+1) d (s9a a+E / 64) (E % 64) (u0t t)=some x/\t.size≠0/\t.size<=3008/\u0z d a<255:=by
 have hat:=q0a d a;unfold t1k at h;split at h
 .cases h
 .rename_i hc;simp only[Hr]at hc;unfold u7l at h;split at h
  .exact⟨(u0c d a).2.1.toNat,by omega,by omega,h,hc.2.1,by omega,by omega⟩
  .cases h
theorem q0b{d:u0j}(h:d.2= []){k:Nat}(hk:k<d.1.length):u0l d (k:Int)=(rdL Ty.str d.1 k,true):=by
 unfold u0l;rw[Al (by omega),h,zTn];rfl
theorem j6a{d x:u0j}{a:Int}{t:Hs}(hl:u2k d=true)(ha:a=0\/a=1)(h:t1k d a t=some x)(keep:Hu Int)(tear:Int):SameLog d (t2i x keep tear):=by
 obtain⟨d1,d2,d3,d4,d5⟩:=u58 hl;obtain⟨_,x1,x2,_⟩:=s4o h;obtain⟨E,e1,e2,e3,_⟩:=o0t h;obtain⟨c1,c2,c3⟩:=o9w x1 keep tear;have hxl:x.1.length=97:=by rw[x2];exact d2
 have hcl:(t2i x keep tear).1.length=97:=by rw[c3];exact hxl
 obtain⟨f1,f2⟩:=t0z ha;have fd:=r03 d1 d2;have fe:=r03 c1 hcl;have puts:=fun p hp=>(j5d e3 (Ev _ (by omega)) p hp).resolve_left (by rw[d3];intro z;cases z)
 have byte:∀k i:Nat,k<97->i<64->(k*64+i<s9a a*64+E\/ ¬(s9a a<=k/\k<s9a a+47))->s9b (u0l (t2i x keep tear) (k:Int)).1 i=s9b (u0l d (k:Int)).1 i:=fun k i hk hi hc=>by
  rw[q0b c2 (by omega),q0b d3 (by omega)];simp only;refine j82 x1 keep tear (by omega) hi (by rw[x2]) (fun p hp hpk=> ?_);obtain⟨j,j1,j2,j3,j4⟩:=puts p hp;have hjk:j=k:=by omega
  subst hjk;rcases hc with hc|hc
  .rw[j4 i hi (by omega),q0b d3 (by omega)]
  .exfalso;exact hc ⟨by omega,by omega⟩
 refine d1e hl ha c1 hcl c2 (fun k hk hn=> ?_) (fun j hj hj2=> ?_)
 .have q1:=fe k hk;have q2:=fd k hk;apply Prod.ext
  .exact p4q (by rw[q1.2,q2.2]) (fun i hi=>byte k i hk (by omega) (.inr hn))
  .rw[q1.1,q2.1]
 .rw[(u8b fe ha).2.2 j hj2,(u8b fd ha).2.2 j hj2];have hj' :j<E:=by omega
  refine byte _ _ ?_ (Ev _ (by omega)) (.inl (by omega));rcases ha with rfl|rfl<;>omega
theorem SameLog.tx{d e:u0j}(h:SameLog d e):u0d e=u0d d:=by
 obtain⟨_,h2,h3,h4⟩:=h;unfold u0d;rw[h2];rcases t32 d with q|q<;>rw[q]
 .rw[h3]
 .rw[h4]
theorem o3x{d x:u0j}{a:Int}{t:Hs}(hl:u2k d=true)(ha:a=0\/a=1)(h:t1k d a t=some x):
 SameLog d (flush x)/\ ∀E:Nat,(u0c d a).2.1=(E:Int)-> ∀q,q<(u0t t).size->s9b (r9l (flush x) a) (E+q)=s9b (u0t t) q:=by
 obtain⟨d1,d2,d3,d4,d5⟩:=u58 hl;obtain⟨_,x1,x2,_⟩:=s4o h;obtain⟨E,e1,e2,e3,_⟩:=o0t h;obtain⟨c1,c2,c3⟩:=s2p x1;have hxl:x.1.length=97:=by rw[x2];exact d2
 have hcl:(flush x).1.length=97:=by rw[c3];exact hxl
 obtain⟨f1,f2⟩:=t0z ha;have fd:=r03 d1 d2;have fe:=r03 c1 hcl;have hb97:s9a a+47<=97:=by rcases ha with rfl|rfl<;>omega
 have hbytes:=fun j i (hi:i<64) (hj:j<97)=>o8y e3 (by omega) (Ev _ (by omega)) j i hi (by omega)
 refine⟨d1e hl ha c1 hcl c2 (fun k hk hn=> ?_) (fun j hj hj2=> ?_),fun E' hE' q hq=> ?_⟩
 .rw[t71 x1];exact q8c e3 (Ev _ (by omega)) k (fun z=>hn ⟨by omega,by omega⟩)
 .rw[(u8b fe ha).2.2 j hj2,(u8b fd ha).2.2 j hj2,t71 x1,hbytes _ _ (Ev _ (by omega)) (by omega),Ao (by omega)]
 .have hEE:E' =E:=by omega
  subst hEE;rw[(u8b fe ha).2.2 (E' +q) (by omega),t71 x1,hbytes _ _ (Ev _ (by omega)) (by omega),Al (by omega)];congr 1;omega
theorem p57(t:Hs):p87 t=((s9b t 0).toNat:Int):=rfl
theorem o1y(n:Int)(r:Hs)(h0:0<=n)(h1:n<256):p87 (s0a n++r)=n:=by
 rw[p57,u8m,Al (by rw[u20];omega)];unfold s0a s9b;rw[r2j];have w:u8.wrap n=n:=by rw[j68];omega
 rw[w];simp only[u8s,C8,Eh,List.getD_cons_zero];rw[Gg];omega
theorem d1w{d y:u0j}{a:Int}{t:Hs}(hl:u2k d=true)(ha:a=0\/a=1)(h:p42 d a t=some y):
 u2k y=true/\u0n y=u0n d/\u0c y (1 - a)=u0c d (1 - a)/\u0z y a=u0z d a+1/\u0c y a=((u0c d a).1++ [t],(u0c d a).2.1+((u0t t).size:Int),true):=by
 obtain⟨d1,d2,d3,d4,d5⟩:=u58 hl;obtain⟨x,hx,x1,y1,y2,y3,hy⟩:=j77 d2 h;obtain⟨s1,s2⟩:=o3x hl ha hx;obtain⟨E,e1,e2,e3,e4,e5,e6⟩:=o0t hx;obtain⟨c1,c2,c3⟩:=s2p x1;have hxl:(flush x).1.length=97:=(u58 s1.1).2.1;obtain⟨f1,f2⟩:=t0z ha;have hcl:=r68 d a;have hc1:s3p d a=u0z d a+1:=by unfold s3p;exact y5f (by omega) (by omega)
 have hob:=p2c (s:=u0f a) c1 c2 (by omega) (by rw[hxl];rcases ha with rfl|rfl<;>omega) (u20 (s3p d a));have hcz:r3p (flush x) a (s3p d a)=some ((flush x).1, [(u0f a,s0a (s3p d a)++(rdL Ty.str (flush x).1 (u0f a).toNat).extract 1 64)]):=hob;have hz1:=(t06 hob).2.1;rw[hcz]at hy;simp only[orD]at hy;have hrd:∀j:Int,u0l y j=if j=u0f a then(s0a (s3p d a)++(rdL Ty.str (flush x).1 (u0f a).toNat).extract 1 64,true) else u0l (flush x) j:=fun j=>by
  rw[hy,t71 hz1];by_cases e:j=u0f a
  .rw[Al e,e];unfold u0l;rw[Al (by show _/\_<((flush x).1.length:Int);rw[hxl];rcases ha with rfl|rfl<;>omega)];simp[t57]
  .rw[Ao e];have hne: ¬u0f a=j:=fun z=>e z.symm
   unfold u0l;simp only[t57,Bs,List.foldl_nil,hne,Bk,c2]
 have fy:=r03 y1 y3;have fx:=r03 c1 hxl;have fd:=r03 d1 d2;have hcnt:u0z y a=u0z d a+1:=by
  unfold u0z at hc1⊢;rw[d3g.mpr ha,Al rfl] at*;unfold u48 at*;rw[hrd,Al rfl];simp only;have:u0z d a=p87 (u0l d (u0f a)).1:=by unfold u0z u48;rw[d3g.mpr ha,Al rfl]
  rw[hc1];exact o1y _ _ (by omega) (by omega)
 have hareaT:∀j,j<3008->s9b (r9l y a) j=s9b (r9l (flush x) a) j:=fun j hj=>by
  rw[(u8b fy ha).2.2 j hj,(u8b fx ha).2.2 j hj,hrd,Ao (by rcases ha with rfl|rfl<;>omega)]
 have hother:u0c y (1 - a)=u0c (flush x) (1 - a):=by
  refine t5y (fun q hq=> ?_);have ho:=(t0z (a:=1 - a) (by omega)).1;rw[hrd,Ao (by rcases ha with rfl|rfl<;>omega)]
 have hother2:u0c (flush x) (1 - a)=u0c d (1 - a):=by
  rcases ha with rfl|rfl
  .exact s1.2.2.2
  .exact s1.2.2.1
 have hact:u0n y=u0n d:=by
  rw[←s1.2.1];exact r5l (by rw[hrd,Ao (by rcases ha with rfl|rfl<;>omega)])
 have hok:(u0c d a).2.2=true:=by rcases ha with rfl|rfl<;>assumption
 have hda:u9b (r9l d a) (u0z d a).toNat 0 [] =((u0c d a).1,(E:Int),true):=by
  rw[←t4e fd ha,←e1,←hok]
 have hfx:u9b (r9l (flush x) a) (u0z (flush x) a).toNat 0 [] =((u0c d a).1,(E:Int),true):=by
  have:u0c (flush x) a=u0c d a:=by
   rcases ha with rfl|rfl
   .exact s1.2.2.1
   .exact s1.2.2.2
  rw[←t4e fx ha,this,←e1,←hok]
 have hcx:u0z (flush x) a=u0z d a:=by
  unfold u0z u48;have hk:u0f a=(((u0f a).toNat:Nat):Int):=by rcases ha with rfl|rfl<;>omega
  have h2:=q8c e3 (Ev _ (by omega)) (u0f a).toNat (by rcases ha with rfl|rfl<;>omega);rw[←hk]at h2;rw[t71 x1,h2]
 have hsz:(r9l y a).size=(r9l (flush x) a).size:=by rw[(u8b fy ha).2.1,(u8b fx ha).2.1]
 have hra:u0c y a=((u0c d a).1++ [t],(u0c d a).2.1+((u0t t).size:Int),true):=by
  rw[t4e fy ha,hcnt,e1];have hm:(u0z d a+1).toNat=(u0z d a).toNat+1:=by omega
  rw[hm];have hloc:=q56 hsz hfx (fun q hq=>hareaT q (by omega));rw[hcx]at hloc;have hrs:=p60 (T:=r9l y a) (E:=E) e4 e5 (by rw[(u8b fy ha).2.1];exact e2) (fun q hq=>by rw[hareaT _ (by omega)];exact s2 E e1 q hq);have:=o1s hloc hrs e4;rw[this];congr 2
 have hlog:u2k y=true:=by
  rw[hother2]at hother;refine p4x y1 y3 y2 ?_ ?_
  .rcases ha with rfl|rfl
   .rw[hra]
   .have:u0c y 0=u0c d 0:=by simpa using hother
    rw[this];exact d4
  .rcases ha with rfl|rfl
   .have:u0c y 1=u0c d 1:=by simpa using hother
    rw[this];exact d5
   .rw[hra]
 exact⟨hlog,hact,hother.trans hother2,hcnt,hra⟩
theorem d1y{d:u0j}(hk:u1v d=true){k:Nat}(hlt:k<d.1.length):(u0l d (k:Int)).2=true/\(u0l d (k:Int)).1.size=64:=by
 obtain⟨k1,k2,k3,k4⟩:=o77.mp hk;have hc:(0:Int)<=(k:Int)/\(k:Int)<(d.1.length:Int):=by omega
 unfold u0l;rw[Al hc];refine⟨rfl,?_⟩;cases hp:t57 d.2 (k:Int) with
 |none=>
  have e:rdL Ty.str d.1 k=d.1[k] :=y9a (t:=Ty.str) hlt;simp only[Eo,zTn];rw[e];exact k3 _ (Ag hlt)
 |some s=>
  obtain⟨p,hp1,hp2⟩:=p19 hp;simp only[Eb];rw[←hp2];exact(k4 p hp1).2
theorem j5e:∀(f:Nat) {d:u0j} {k at_:Nat} {t:Hs},u1v d=true->at_<64->k*64+at_+t.size<=d.1.length*64->d.2.length+(at_+t.size+63) / 64<=60-> ∃x,o0q f d k at_ t=some x
 |0,d,k,at_,t,_,_,_,_=>⟨d,rfl⟩|f+1,d,k,at_,t,hk,hat,h1,h2=>by
  rw[o0q];by_cases hz:t.size=0
  .exact⟨d,by rw[Al hz]⟩
  .have hr:=d1y hk (k:=k) (by omega);rw[Ao hz,Al hr];have hsz:((u0l d (k:Int)).1.extract 0 at_++t.extract 0 (min t.size (64 - at_))++(u0l d (k:Int)).1.extract (at_+min t.size (64 - at_)) 64).size=64:=by
    simp only[Af,Bd,hr.2];omega
   have hin:r89 (k:Int) 0 ((d.1.length:Int) - 1)=true:=by simp[r89];omega
   have hok:u1v (d.1,d.2++ [((k:Int),(u0l d (k:Int)).1.extract 0 at_++t.extract 0 (min t.size (64 - at_))++(u0l d (k:Int)).1.extract (at_+min t.size (64 - at_)) 64)])=true:=by
    rw[r9n,hk,hin,hsz];simp;omega
   have hw:u61 d (k:Int) ((u0l d (k:Int)).1.extract 0 at_++t.extract 0 (min t.size (64 - at_))++(u0l d (k:Int)).1.extract (at_+min t.size (64 - at_)) 64)=some (d.1,d.2++ [((k:Int),(u0l d (k:Int)).1.extract 0 at_++t.extract 0 (min t.size (64 - at_))++(u0l d (k:Int)).1.extract (at_+min t.size (64 - at_)) 64)]):=by
    unfold u61;rw[Al hok]
   rw[hw];simp only[zOb];have hs2:(t.extract (min t.size (64 - at_)) t.size).size=t.size - min t.size (64 - at_):=by rw[Bd];omega
   refine j5e f hok (by omega) ?_ ?_
   .rw[hs2];show _<=d.1.length*64;omega
   .rw[hs2];simp only[Ba,Aw];omega
theorem j8z{d:u0j}{a:Int}{t:Hs}(hl:u2k d=true)(ha:a=0\/a=1)(h0:t.size≠0)(h1:t.size<=3008)(h2:u0z d a<255)(h3:(u0c d a).2.1+((u0t t).size:Int)<=3008):∃x,t1k d a t=some x:=by
 obtain⟨d1,d2,d3,d4,d5⟩:=u58 hl;obtain⟨f1,f2⟩:=t0z ha;have hat:=q0a d a;have hok:(u0c d a).2.2=true:=by rcases ha with rfl|rfl<;>assumption
 have hsp:=s76 t;unfold t1k;rw[Ao (by rw[hok];simp only[Fm,false_or];omega)];unfold u7l;have hc:(r89 (u0c d a).2.1 0 6400&&r89 (u0f a+1) 0 ((d.1.length:Int) - 1)&&u1v d)=true:=by
  rw[d1,d2];simp only[r89,Ai,Ar,and_true];rcases ha with rfl|rfl<;>omega
 rw[Al hc];refine j5e _ d1 (Ev _ (by omega)) ?_ ?_
 .rw[d2];rcases ha with rfl|rfl<;>omega
 .rw[d3];simp only[Cc];omega
theorem d3z{d:u0j}{a:Int}{t:Hs}(hl:u2k d=true)(ha:a=0\/a=1)(h0:t.size≠0)(h1:t.size<=3008)(h2:u0z d a<255)(h3:(u0c d a).2.1+((u0t t).size:Int)<=3008):∃y,p42 d a t=some y:=by
 obtain⟨x,hx⟩:=j8z hl ha h0 h1 h2 h3;unfold p42;rw[hx];exact⟨_,rfl⟩
def j9o(l:Hu Hs):Nat:=(l.map fun t=>(u0t t).size).sum
theorem j31{a:Int}(ha:a=0\/a=1):∀ {l:Hu Hs} {x:u0j},u2k x=true->u0z x a+(l.length:Int)<=255->(u0c x a).2.1+(j9o l:Int)<=3008->(∀t∈l,t.size≠0/\t.size<=3008)->
 ∃y,r3r a l x=some y/\u2k y=true/\u0n y=u0n x/\u0c y (1 - a)=u0c x (1 - a)/\(u0c y a).1=(u0c x a).1++l
 |[],x,hl,_,_,_=>⟨x,rfl,hl,rfl,rfl,by simp⟩|t::l,x,hl,hc,hr,ht=>by
  have h0:=ht t (C9 ..);have hs:j9o (t::l)=(u0t t).size+j9o l:=by simp[j9o]
  simp only[Bc]at hc;obtain⟨y,hy⟩:=d3z hl ha h0.1 h0.2 (by omega) (by omega);obtain⟨p1,p2,p3,p4,p5⟩:=d1w hl ha hy;obtain⟨z,z1,z2,z3,z4,z5⟩:=j31 ha (l:=l) p1 (by omega) (by rw[p5];simp only;omega) (fun t h=>ht t (Bm _ h));refine⟨z,?_,z2,z3.trans p2,z4.trans p3,?_⟩
  .unfold r3r;rw[hy];exact z1
  .rw[z5,p5];simp
theorem j80{d:u0j}(hl:u2k d=true){a n:Int}(ha:a=0\/a=1):∃z r,r3p d a n=some z/\u1v z=true/\z.1=d.1/\z.2= [(u0f a,s0a n++r)] /\ ∀j:Int,u0l (flush z) j=if j=u0f a then(s0a n++r,true) else u0l d j:=by
 obtain⟨d1,d2,d3,d4,d5⟩:=u58 hl;obtain⟨f1,f2⟩:=t0z ha;have hob:=p2c (s:=u0f a) d1 d3 (by omega) (by rw[d2];rcases ha with rfl|rfl<;>omega) (u20 n);have hz1:=(t06 hob).2.1;refine⟨_,_,hob,hz1,rfl,rfl,fun j=> ?_⟩;rw[t71 hz1];by_cases e:j=u0f a
 .rw[Al e,e];unfold u0l;rw[Al (by show _/\_<(d.1.length:Int);rw[d2];rcases ha with rfl|rfl<;>omega)];simp[t57]
 .rw[Ao e];have hne: ¬u0f a=j:=fun z=>e z.symm
  unfold u0l;simp only[t57,Bs,List.foldl_nil,hne,Bk,d3]
theorem o3v{d:u0j}(hl:u2k d=true):u2k (s8h d)=true/\u0n (s8h d)=u0n d/\u0c (s8h d) (u0n d)=u0c d (u0n d)/\u0c (s8h d) (u7j d)=([],0,true)/\u0z (s8h d) (u7j d)=0:=by
 obtain⟨a1,a2⟩:=s3q d;obtain⟨z,r,hz,hz1,hz2,hz3,hrd⟩:=j80 hl (n:=0) a1;obtain⟨d1,d2,d3,d4,d5⟩:=u58 hl;have e:s8h d=flush z:=by unfold s8h;rw[hz];rfl
 obtain⟨c1,c2,c3⟩:=s2p hz1;have hlen:(flush z).1.length=97:=by rw[c3,hz2];exact d2
 obtain⟨f1,f2⟩:=t0z a1;rw[e];have hcnt:u0z (flush z) (u7j d)=0:=by
  unfold u0z u48;rw[d3g.mpr a1,Al rfl,hrd,Al rfl];exact o1y 0 r (by omega) (by omega)
 have ho:u0c (flush z) (u7j d)=([],0,true):=by
  rw[t4e (r03 c1 hlen) a1,hcnt];rfl
 have hother:u0c (flush z) (1 - u7j d)=u0c d (1 - u7j d):=by
  refine t5y (fun q hq=> ?_);have ho:=(t0z (a:=1 - u7j d) (by omega)).1;rw[hrd,Ao (by omega)]
 rw[←a2]at hother;have hact:u0n (flush z)=u0n d:=r5l (by rw[hrd,Ao (by omega)]);have hok:(u0c d (u0n d)).2.2=true:=by rcases t32 d with q|q<;>rw[q] <;>assumption
 refine⟨p4x c1 hlen c2 ?_ ?_,hact,hother,ho,hcnt⟩
 .rcases a1 with q|q
  .rw[q]at ho;rw[ho]
  .have q2:u0n d=0:=by omega
   rw[q2]at hother hok;rw[hother];exact hok
 .rcases a1 with q|q
  .have q2:u0n d=1:=by omega
   rw[q2]at hother hok;rw[hother];exact hok
  .rw[q]at ho;rw[ho]
theorem j29{z:u0j}{s:Int}{b:Hs}(hk:u1v z=true)(hz:z.2= [(s,b++(rdL Ty.str z.1 s.toNat).extract 1 64)])(hb:b.size=1)(keep:Hu Int)(tear:Int):
 (p17 keep 0=false->t2i z keep tear=(z.1, []))/\(p17 keep 0=true->1<=t8g tear->t2i z keep tear=flush z)/\(t2i z keep tear=(z.1, [])\/t2i z keep tear=flush z):=by
 obtain⟨k1,k2,k3,k4⟩:=o77.mp hk;have hs:=(k4 (s,b++(rdL Ty.str z.1 s.toNat).extract 1 64) (by rw[hz];simp)).1;have hlt:s.toNat<z.1.length:=by
  have h1:0<=s:=hs.1;have h2:s<(z.1.length:Int):=hs.2;omega
 have ht:=(p5a tear).1;have eo:rdL Ty.str z.1 s.toNat=z.1[s.toNat] :=y9a (t:=Ty.str) hlt;have hold:(rdL Ty.str z.1 s.toNat).size=64:=by rw[eo];exact k3 _ (Ag hlt)
 have hlen:z.2.length=1:=by rw[hz];rfl
 have h0:rdL o7z z.2 0=(s,b++(rdL Ty.str z.1 s.toNat).extract 1 64):=by rw[hz];rfl
 have hc:t2i z keep tear=(t2j z keep (u0r keep 1) (t8g tear) z.1 0, []):=by
  unfold t2i;rw[Al hk,hlen];rfl
 have hfl:flush z=(s75 z.1 (s,b++(rdL Ty.str z.1 s.toNat).extract 1 64), []):=by
  unfold flush;rw[Al hk,hz];rfl
 have hno:p17 keep 0=false->t2i z keep tear=(z.1, []):=fun h=>by
  rw[hc];unfold t2j;rw[h,Ao (by simp)]
 have hyes:p17 keep 0=true->t2i z keep tear=(s75 z.1 (s,(b++(rdL Ty.str z.1 s.toNat).extract 1 64).extract 0 (t8g tear)++(rdL Ty.str z.1 s.toNat).extract (t8g tear) 64), []):=fun h=>by
  have hlast:u0r keep 1=0:=by
   show(if p17 keep 0 then((0:Nat):Int) else u0r keep 0)=0;rw[Al h];rfl
  rw[hc];unfold t2j;rw[h,Al rfl,hlast,Al (by rfl),h0];simp only[hold]
 have hfull:p17 keep 0=true->1<=t8g tear->t2i z keep tear=flush z:=fun h h1=>by
  rw[hyes h,hfl];congr 2;congr 1;apply p4q
  .simp only[Af,Bd,hold,hb];omega
  .intro i hi;simp only[Af,Bd,hold,hb]at hi;rw[u8m,u34,u34];simp only[Af,Bd,hold,hb];by_cases h2:i<t8g tear
   .rw[Al (by omega),Al (by omega),Co]
   .rw[Ao (by omega),Al (by omega),u8m,Ao (by omega),u34,hb,hold,Al (by omega)];congr 1;omega
 refine⟨hno,hfull,?_⟩;cases h:p17 keep 0 with
 |false=>exact .inl (hno h)|true=>
  by_cases h1:1<=t8g tear
  .exact .inr (hfull h h1)
  .left;have ht0:t8g tear=0:=by omega
   rw[hyes h,ht0];congr 1;have e1:(b++(rdL Ty.str z.1 s.toNat).extract 1 64).extract 0 0++(rdL Ty.str z.1 s.toNat).extract 0 64=rdL Ty.str z.1 s.toNat:=by
    apply p4q
    .simp only[Af,Bd,hold,hb];omega
    .intro i hi;simp only[Af,Bd,hold,hb]at hi;rw[u8m,Ao (by rw[Bd];omega),u34,hold,Al (by rw[Bd];omega)];congr 1;rw[Bd];omega
   rw[e1];unfold s75;show z.1.set s.toNat (rdL Ty.str z.1 s.toNat)=z.1;rw[eo];exact List.set_getElem_self hlt
theorem o1z{d:u0j}(hl:u2k d=true){a n:Int}(ha:a=0\/a=1)(keep:Hu Int)(tear:Int):∃z,r3p d a n=some z/\
 (p17 keep 0=false->t2i z keep tear=d)/\(p17 keep 0=true->1<=t8g tear->t2i z keep tear=flush z)/\(t2i z keep tear=d\/t2i z keep tear=flush z):=by
 obtain⟨d1,d2,d3,d4,d5⟩:=u58 hl;obtain⟨f1,f2⟩:=t0z ha;have hob:=p2c (s:=u0f a) d1 d3 (by omega) (by rw[d2];rcases ha with rfl|rfl<;>omega) (u20 n);have hz1:=(t06 hob).2.1;have hd:(d.1,([] :Hu (Int×Hs)))=d:=by rw[←d3]
 obtain⟨c1,c2,c3⟩:=j29 hz1 rfl (u20 n) keep tear;rw[hd]at c1 c3;exact⟨_,hob,c1,c2,c3⟩
theorem o76{x:u0j}(hl:u2k x=true)(keep:Hu Int)(tear:Int):∃z,j65 x=some z/\u1v z=true/\(∀j:Int,u0l (flush z) j=if j=0 then(s0a (i64.wrap (u48 x 0+1))++(rdL Ty.str x.1 0).extract 1 64,true) else u0l x j)/\(flush z).1.length=97/\
 (p17 keep 0=false->t2i z keep tear=x)/\(p17 keep 0=true->1<=t8g tear->t2i z keep tear=flush z)/\(t2i z keep tear=x\/t2i z keep tear=flush z):=by
 obtain⟨d1,d2,d3,d4,d5⟩:=u58 hl;have hob:=p2c (s:=0) d1 d3 (by omega) (by rw[d2];omega) (u20 (i64.wrap (u48 x 0+1)));have hz1:=(t06 hob).2.1;have hd:(x.1,([] :Hu (Int×Hs)))=x:=by rw[←d3]
 obtain⟨c1,c2,c3⟩:=j29 hz1 rfl (u20 (i64.wrap (u48 x 0+1))) keep tear;rw[hd]at c1 c3;refine⟨_,hob,hz1,fun j=> ?_,by rw[(s2p hz1).2.2];exact d2,c1,c2,c3⟩;rw[t71 hz1];by_cases e:j=0
 .rw[Al e,e];unfold u0l;rw[Al (by show _/\_<(x.1.length:Int);rw[d2];omega)];simp[t57]
 .rw[Ao e];have hne: ¬(0:Int)=j:=fun z=>e z.symm
  unfold u0l;simp only[t57,Bs,List.foldl_nil,hne,Bk,d3]
theorem d4f{x z:u0j}(hl:u2k x=true)(hz1:u1v z=true)(hlen:(flush z).1.length=97)(hrd:∀j:Int,u0l (flush z) j=if j=0 then(s0a (i64.wrap (u48 x 0+1))++(rdL Ty.str x.1 0).extract 1 64,true) else u0l x j):
 u2k (flush z)=true/\u0n (flush z)=1 - u0n x/\u0c (flush z) 0=u0c x 0/\u0c (flush z) 1=u0c x 1:=by
 obtain⟨d1,d2,d3,d4,d5⟩:=u58 hl;obtain⟨c1,c2,c3⟩:=s2p hz1;have r0:u0c (flush z) 0=u0c x 0:=t5y (fun q hq=>by
  have:=(t0z (a:=0) (.inl rfl)).1;rw[hrd,Ao (by omega)])
 have r1:u0c (flush z) 1=u0c x 1:=t5y (fun q hq=>by
  have:=(t0z (a:=1) (.inr rfl)).1;rw[hrd,Ao (by omega)])
 have hb:=o9r (u0l x 0).1;refine⟨p4x c1 hlen c2 (by rw[r0];exact d4) (by rw[r1];exact d5),?_,r0,r1⟩;unfold u0n u48;rw[hrd,Al rfl];have w:i64.wrap (u48 x 0+1)=u48 x 0+1:=by unfold u48;exact y5f (by omega) (by omega)
 have e:p87 (s0a (i64.wrap (u48 x 0+1))++(rdL Ty.str x.1 0).extract 1 64)=(u48 x 0+1) % 256:=by
  rw[w,p57,u8m,Al (by rw[u20];omega)];unfold s0a s9b;rw[r2j,j68];simp only[u8s,C8,Eh,List.getD_cons_zero];rw[Gg];omega
 show Int.tmod (p87 _) 2=_;rw[e];have hf:u48 x 0=p87 (u0l x 0).1:=rfl;rw[hf];generalize p87 (u0l x 0).1=n at*;obtain⟨m,rfl⟩:∃m:Nat,n=(m:Int):=⟨n.toNat,by omega⟩;have t1:Int.tmod (m:Int) 2=((m % 2:Nat):Int):=j47 m 2;have t2:Int.tmod (((m:Int)+1) % 256) 2=((((m+1) % 256) % 2:Nat):Int):=by
  have:((m:Int)+1) % 256=(((m+1) % 256:Nat):Int):=by omega
  rw[this];exact j47 ((m+1) % 256) 2
 rw[t1,t2];omega
theorem p54{d y:u0j}{t:Hs}(h:append_ d t=some y):u2k d=true/\u2k y=true/\u0d y=u0d d++ [t] :=by
 unfold append_ at h;split at h
 .rename_i hl;obtain⟨p1,p2,p3,p4,p5⟩:=d1w hl (t32 d) h;refine⟨hl,p1,?_⟩;unfold u0d;rw[p2,p5]
 .cases h
theorem p0o{d y:u0j}{t:Hs}(h:append_ d t=some y)(step:Int)(keep:Hu Int)(tear:Int):
 (step=0->SameLog d (u2v d t step keep tear))/\(step≠0->step≠1->u2v d t step keep tear=y)/\
 (step=1->(p17 keep 0=false->SameLog d (u2v d t step keep tear))/\(p17 keep 0=true->1<=t8g tear->u2v d t step keep tear=y)/\(SameLog d (u2v d t step keep tear)\/u2v d t step keep tear=y)):=by
 have ha:=t32 d;obtain⟨hl,x,z,hb,k1,k2,hz,k3,k4⟩:=r3o h;have hput:p42 d (u0n d) t=some y:=by unfold append_ at h;rw[hl,Al rfl]at h;exact h
 have hy:y=flush z:=by
  unfold p42 at hput;rw[hb]at hput;simp only[Dc,Ac]at hput;rw[hz]at hput;simp only[orD]at hput;exact hput.symm
 have hs:=(o3x hl ha hb).1;obtain⟨z',hz',c1,c2,c3⟩:=o1z hs.1 (n:=s3p d (u0n d)) ha keep tear;rw[hz]at hz';cases hz';have e0:∀st,u2v d t st keep tear=(if st=0 then t2i x keep tear else if st=1 then t2i z keep tear else y):=fun st=>by
  unfold u2v;rw[h];simp only[hb,orD,hz]
 refine⟨fun s0=> ?_,fun n0 n1=> ?_,fun s1=> ?_⟩
 .rw[e0,Al s0];exact j6a hl ha hb keep tear
 .rw[e0,Ao n0,Ao n1]
 .have e:u2v d t step keep tear=t2i z keep tear:=by rw[e0,Ao (by omega),Al s1]
  rw[e,hy];exact⟨fun q=>by rw[c1 q];exact hs,fun q r=>c2 q r,c3.imp (fun q=>by rw[q];exact hs) id⟩
theorem p0n{d:u0j}{t:Hs}(h:append_ d t=none)(step:Int)(keep:Hu Int)(tear:Int):u2v d t step keep tear=d:=by
 unfold u2v;rw[h]
theorem d3b{d:u0j}{l:Hu Hs}(hl:u2k d=true)(hn:l.length<=255)(hr:j9o l<=3008)(ht:∀t∈l,t.size≠0/\t.size<=3008):
 ∃x,r9q d l=some x/\u2k x=true/\u0n x=u0n d/\u0d x=u0d d/\(u0c x (u7j d)).1=l:=by
 obtain⟨a1,a2⟩:=s3q d;obtain⟨f1,f2,f3,f4,f5⟩:=o3v hl;obtain⟨y,y1,y2,y3,y4,y5⟩:=j31 a1 (l:=l) f1 (by rw[f5];omega) (by rw[f4];simp only;omega) ht;rw[←a2]at y4;refine⟨y,by unfold r9q;rw[hl,Al rfl];exact y1,y2,y3.trans f2,?_,by rw[y5,f4];simp⟩;unfold u0d;rw[y3.trans f2,y4,f3]
theorem j86{d x:u0j}{l:Hu Hs}(hx:r9q d l=some x)(h1:u2k x=true)(h2:u0n x=u0n d)(h3:u0d x=u0d d)(h4:(u0c x (u7j d)).1=l)(hl:u2k d=true):
 ∃y,r6e d l=some y/\u2k y=true/\u0d y=l/\ ∀(step:Int) (keep:Hu Int) (tear:Int),
  (step=0->u2k (t7w d l step keep tear)=true/\u0d (t7w d l step keep tear)=u0d d)/\(step=1->t7w d l step keep tear=x)/\
  (step≠0->step≠1->step≠2->t7w d l step keep tear=y)/\
  (step=2->(p17 keep 0=false->t7w d l step keep tear=x)/\(p17 keep 0=true->1<=t8g tear->t7w d l step keep tear=y)/\(t7w d l step keep tear=x\/t7w d l step keep tear=y)):=by
 obtain⟨a1,a2⟩:=s3q d;obtain⟨z,hz,hz1,hrd,hlen,_⟩:=o76 h1 [] 0;obtain⟨t1,t2,t3,t4⟩:=d4f h1 hz1 hlen hrd;have hsw:r6e d l=some (flush z):=by unfold r6e;rw[hx];simp only[Dc,hz,orD]
 have htx:u0d (flush z)=l:=by
  have ho:u0n (flush z)=u7j d:=by rw[t2,h2];rfl
  unfold u0d;rw[ho,←h4];rcases a1 with q|q<;>rw[q]
  .rw[t3]
  .rw[t4]
 refine⟨flush z,hsw,t1,htx,fun step keep tear=> ?_⟩;obtain⟨c,hc,c1,c2,c3⟩:=o1z hl (n:=0) a1 keep tear;obtain⟨z',hz',_,_,_,g1,g2,g3⟩:=o76 h1 keep tear;rw[hz]at hz';cases hz';have e0:∀st,t7w d l st keep tear=(if st=0 then t2i c keep tear else if st=1 then x else if st=2 then t2i z keep tear else flush z):=fun st=>by
  unfold t7w;rw[hx];simp only[hc,orD,hz]
 have hf0:flush c=s8h d:=by unfold s8h;rw[hc];rfl
 obtain⟨f1,f2,f3,f4,f5⟩:=o3v hl;have htx0:u0d (s8h d)=u0d d:=by unfold u0d;rw[f2,f3]
 refine⟨fun s0=> ?_,fun s1=> ?_,fun n0 n1 n2=> ?_,fun s2=> ?_⟩
 .rw[e0,Al s0];rcases c3 with q|q
  .rw[q];exact⟨hl,rfl⟩
  .rw[q,hf0];exact⟨f1,htx0⟩
 .rw[e0,Ao (by omega),Al s1]
 .rw[e0,Ao n0,Ao n1,Ao n2]
 .have e:t7w d l step keep tear=t2i z keep tear:=by rw[e0,Ao (by omega),Ao (by omega),Al s2]
  rw[e];exact⟨g1,g2,g3⟩
structure Like0(b e:u0m):Prop where
 vs:b.1=u2y e.1 e.2.2.2.1
 past:b.2.1= []
 ready:b.2.2.1=e.2.2.1
 cs:b.2.2.2.1=e.2.2.2.1
theorem p4z(b:u0m):∀(o:Hu u0e),s5q b o<=b.2.2.2.1:=by
 intro o;have key:∀(o:Hu u0e) (m:Int),o.foldl (fun m t=>if t.2.2.1<m then t.2.2.1 else m) m<=m:=by
  intro o
  induction o with
  |nil=>intro m;exact Bv _|cons t o ih=>
   intro m;rw[Bs];refine Int.le_trans (ih _) ?_;split<;>omega
 exact key o _
theorem j9g(b:u0m):s5q b [] =b.2.2.2.1:=rfl
theorem Like0.tidy{b e:u0m}(h:Like0 b e)(he:BaseR e)(o:Hu u0e):Like0 b (tidied e o):=
 ⟨by rw[h.vs];exact(p5b (d2q.mp he.vs).2.1 (p4z e o)).symm,h.past,h.ready,h.cs⟩
theorem r8d{x:u0m}(hp:∀t∈x.2.1,t.2.2.2.1<=x.2.2.2.1):tidied x [] =(u2y x.1 x.2.2.2.1, [],x.2.2):=by
 unfold tidied;rw[j9g];congr 2;rw[List.filter_eq_nil_iff];intro t ht;simp[hp t ht]
theorem Like0.self{b e:u0m}(h:Like0 b e)(he:BaseR e):tidied b [] =b:=by
 rw[r8d (by rw[h.past];intro t ht;cases ht)];obtain⟨b1,b2,b3⟩:=b;have h1:=h.vs;have h2:=h.past;have h4:=h.cs;simp only at h1 h2 h4;rw[h4,h1,h2,p5b (d2q.mp he.vs).2.1 (Bv _)]
theorem j87{d d' x:u0e}(h1:d.1=d'.1)(h2:d.2.1=d'.2.1)(h3:d.2.2.1=d'.2.2.1)(h4:d.2.2.2.1=d'.2.2.2.1)(h5:d.2.2.2.2.2.1=d'.2.2.2.2.2.1):o0v d x=o0v d' x:=by
 have:ahead x d=ahead x d' :=by unfold ahead p78 j4q;rw[h1,h2,h3,h4,h5]
 unfold o0v;rw[this]
theorem Like0.vlen{b e:u0m}(h:Like0 b e):b.1.length<=e.1.length:=by rw[h.vs];exact(t8h _ _).length_le
theorem p8t{b e:u0m}{t u:u0e}(h:Like0 b e)(he:BaseR e)(hb:BaseR b)(hc:e.2.2.2.1<9999)(hv:e.1.length<=100)(hu:TxnR u)(h9:u.1<9999)(hs:u.2.2.1<=e.2.2.2.1)
 (h1:u.1=t.1) (h3:u.2.2.1=t.2.2.1) (h5:u.2.2.2.2.2.1=t.2.2.2.2.2.1):
 u95 (tidied (u1u b u) [])=true/\Like0 (tidied (u1u b u) []) (u1u e t):=by
 have hR:BaseR (u1u b u):=j46 hb hu (by rw[h.cs];exact hs) (by rw[h.cs];exact hc) (by rw[h.past];simp) (by have:=h.vlen;omega) (by rw[h.past];intro x hx;cases hx) h9;refine⟨o72.mpr (s7h hR _),?_⟩;rw[r8d (fun x hx=>(hR.past x hx).2.2)];obtain⟨v1,v2,v3⟩:=d2q.mp he.vs;refine⟨?_,rfl,?_,?_⟩
 .show u2y (s3y b.1 u.2.2.2.2.2.1 (b.2.2.2.1+1)) (b.2.2.2.1+1)=u2y (s3y e.1 t.2.2.2.2.2.1 (e.2.2.2.1+1)) (e.2.2.2.1+1);rw[h.cs,h.vs,h5];exact d4e v2 (h5 ▸ j5f hu.ws) fun x hx=>by have:=he.vcs x hx;unfold vCs;omega
 .show(b.2.2.1.filter fun x=> !decide (x.1=u.1)).map (o0v (s9u b u))=(e.2.2.1.filter fun x=> !decide (x.1=t.1)).map (o0v (s9u e t));rw[h.ready,h1];refine Ff fun x _=>j87 h1 rfl h3 ?_ h5
  show b.2.2.2.1+1=e.2.2.2.1+1;rw[h.cs]
 .show b.2.2.2.1+1=e.2.2.2.1+1;rw[h.cs]
theorem d6m{b:u0m}{n:Hs}:u0k b n<0↔ ∀x∈b.2.2.1,x.2.2.2.2.2.2.2≠n:=by
 unfold u0k;constructor
 .intro h x hx e;obtain⟨i,hi,rfl⟩:=B7 hx;obtain⟨k,hk,hr⟩:=j9k b hi e;unfold u0k at hr;rw[hr]at h;omega
 .intro h;split
  .rename_i q;have:=u9u q;exact absurd (y7r.mp this) (h _ (Ag q))
  .omega
theorem t8c{b:u0m}{n:Hs}(h: ¬u0k b n<0):∃(k:Nat) (hk:k<b.2.2.1.length),u0k b n=(k:Int)/\b.2.2.1[k].2.2.2.2.2.2.2=n:=by
 unfold u0k at h⊢;split at h
 .rename_i q;rw[Al q];exact⟨_,q,rfl,y7r.mp (u9u q)⟩
 .omega
theorem q69{b e:u0m}(h:b.2.2.1=e.2.2.1)(n:Hs):u0k b n=u0k e n:=by unfold u0k;rw[h]
theorem o7i{b e:u0m}{t:u0e}(h:Like0 b e)(he:BaseR e)(hb:BaseR b)(hc:e.2.2.2.1<9999)(hv:e.1.length<=100)(ht:TxnR t)(h9:t.1<9999)(hs:t.2.2.1<=e.2.2.2.1):
 ∃x,t1m b (1,s9u e t,emp,false,u26)=some x/\BaseR x/\Like0 x (u1u e t):=by
 have hD:=j6d (b:=e) ht hs hc;obtain⟨k1,k2⟩:=p8t (t:=t) (u:=s9u e t) h he hb hc hv hD h9 hs rfl rfl rfl;refine⟨_,?_,o72.mp k1,k2⟩;unfold t1m;rw[Al ⟨o72.mpr hb,d48.mpr (.thr _ hD rfl)⟩];have e1:u3r b (1,s9u e t,emp,false,u26)=some (u1u b (s9u e t)):=by
  unfold u3r;rw[Al rfl,Al (by show e.2.2.2.1+1=b.2.2.2.1+1;rw[h.cs])]
 rw[e1];simp only;rw[Al k1]
theorem j9j{b e:u0m}{n:Hs}{k:Nat}(h:Like0 b e)(he:BaseR e)(hb:BaseR b)(hc:e.2.2.2.1<9999)(hv:e.1.length<=100)(hn:u81 n=true)(hk:k<e.2.2.1.length)(hr:u0k e n=(k:Int)):
 ∃x,t1m b (3,u3i,n,true,u26)=some x/\BaseR x/\Like0 x (u1u e e.2.2.1[k]):=by
 obtain⟨q1,q2,q3⟩:=he.ready _ (Ag hk);have h9:e.2.2.1[k].1<9999:=by
  have:=r0z.mp he.below _ (Az e.2.1 (Ag hk));have:=he.next.2;omega
 obtain⟨k1,k2⟩:=p8t (t:=e.2.2.1[k]) (u:=e.2.2.1[k]) h he hb hc hv q1 h9 q3 rfl rfl rfl;refine⟨_,?_,o72.mp k1,k2⟩;unfold t1m;rw[Al ⟨o72.mpr hb,d48.mpr (.fin _ _ hn)⟩];have e1:u3r b (3,u3i,n,true,u26)=some (u1u b e.2.2.1[k]):=by
  unfold u3r;simp only;rw[Ao (by decide),Ao (by decide),Al trivial,q69 h.ready,hr,Ao (by omega),Al trivial,zTn];congr 2;rw[h.ready];exact y9a (t:=u0y) hk
 rw[e1];simp only;rw[Al k1]
theorem d1q{b e:u0m}{n:Hs}{k:Nat}(h:Like0 b e)(he:BaseR e)(hb:BaseR b)(hn:u81 n=true)(hk:k<e.2.2.1.length)(hr:u0k e n=(k:Int)):
 ∃x,t1m b (3,u3i,n,false,u26)=some x/\BaseR x/\Like0 x (s3a e n):=by
 have hR:=o3z hb n;refine⟨tidied (s3a b n) [],?_,s7h hR _,?_⟩
 .unfold t1m;rw[Al ⟨o72.mpr hb,d48.mpr (.fin _ _ hn)⟩];have e1:u3r b (3,u3i,n,false,u26)=some (s3a b n):=by
   unfold u3r;simp only;rw[Ao (by decide),Ao (by decide),Al trivial,q69 h.ready,hr,Ao (by omega),Ao (by decide)]
  rw[e1];simp only;rw[Al (o72.mpr (s7h hR _))]
 .rw[r8d (fun x hx=>(hR.past x hx).2.2)];refine⟨?_,rfl,?_,h.cs⟩
  .show u2y b.1 b.2.2.2.1=u2y e.1 e.2.2.2.1;rw[h.cs,h.vs];exact p5b (d2q.mp he.vs).2.1 (Bv _)
  .show b.2.2.1.filter _=e.2.2.1.filter _;rw[h.ready]
theorem j4s{b e:u0m}{t:u0e}{n:Hs}(h:Like0 b e)(he:BaseR e)(hb:BaseR b)(ht:TxnR t)(h3:t.2.1≠3)(hn:u81 n=true)(hs:t.2.2.1<=e.2.2.2.1)(hl:e.2.2.1.length<3)
 (hx:∀x∈e.2.2.1,x.2.2.2.2.2.2.2≠n) (hid:∀x∈e.2.2.1,x.1≠t.1) (h9:t.1<9999):
 ∃x,t1m b (2,u70 e t n,emp,false,u26)=some x/\BaseR x/\Like0 x (u21 e t n):=by
 have hD:=j1l (b:=e) ht h3 hn;have hrr:u70 b (u70 e t n) n=u70 e t n:=by
  have:p40 (u70 e t n) b.2.1=false:=by rw[h.past];rfl
  unfold u70 at this⊢;rw[this,Fp]
 have hR:BaseR (u21 b (u70 e t n) n):=p2b hb hD (by show(2:Int)≠3;omega) (by rw[h.cs];exact hs) hn (by rw[h.ready];exact hl) (by rw[h.ready];exact hx) (by
  rw[h.past,h.ready];exact hid) h9
 refine⟨tidied (u21 b (u70 e t n) n) [],?_,s7h hR _,?_⟩
 .unfold t1m;rw[Al ⟨o72.mpr hb,d48.mpr (.rdy _ hD rfl)⟩];have e1:u3r b (2,u70 e t n,emp,false,u26)=some (u21 b (u70 e t n) n):=by
   unfold u3r;simp only;have hcond:b.2.2.1.length<3/\u0k b (u70 e t n).2.2.2.2.2.2.2<0:=⟨by rw[h.ready];exact hl,by rw[q69 h.ready];exact d6m.mpr hx⟩;rw[Ao (by decide),Al trivial,Al hcond];rfl
  rw[e1];simp only;rw[Al (o72.mpr (s7h hR _))]
 .rw[r8d (fun x hx=>(hR.past x hx).2.2)];refine⟨?_,rfl,?_,h.cs⟩
  .show u2y b.1 b.2.2.2.1=u2y e.1 e.2.2.2.1;rw[h.cs,h.vs];exact p5b (d2q.mp he.vs).2.1 (Bv _)
  .show(b.2.2.1.filter _)++ [u70 b (u70 e t n) n] ++(b.2.2.1.filter _)=(e.2.2.1.filter _)++ [u70 e t n] ++(e.2.2.1.filter _);rw[h.ready,hrr]
theorem j4m:BaseR j9f:=by
 refine⟨rfl,fun v h=>(by cases h),⟨Bv _,by decide⟩,⟨by decide,by decide⟩,by decide,fun t h=>(by cases h),List.Pairwise.nil,by decide,fun t h=>(by cases h),List.Pairwise.nil,fun x h=>(by cases h),List.Pairwise.nil⟩
theorem j6t{b:u0m}(hb:BaseR b)(hs:tidied b [] =b):t1m j9f (4,u3i,emp,false,b)=some b:=by
 unfold t1m;rw[Al ⟨o72.mpr j4m,d48.mpr (.bas b hb)⟩];have e1:u3r j9f (4,u3i,emp,false,b)=some b:=by
  unfold u3r;simp only;rw[Ao (by decide),Ao (by decide),Ao (by decide)]
 rw[e1];simp only;rw[hs,Al (o72.mpr hb)]
theorem p63{d y:u0j}{t:Hs}(h:r6e d [t] =some y):u2k d=true/\u2k y=true/\u0d y= [t] :=by
 obtain⟨x,hx⟩:∃x,r9q d [t] =some x:=by
  cases q:r9q d [t] with
  |none=>unfold r6e at h;rw[q]at h;cases h|some x=>exact⟨x,rfl⟩
 have hl:u2k d=true:=by
  unfold r9q at hx;split at hx
  .assumption
  .cases hx
 obtain⟨a1,a2⟩:=s3q d;obtain⟨f1,f2,f3,f4,f5⟩:=o3v hl;have hp:∃z,p42 (s8h d) (u7j d) t=some z:=by
  unfold r9q at hx;rw[Al hl]at hx;cases q:p42 (s8h d) (u7j d) t with
  |none=>simp only[r3r,q]at hx;cases hx|some z=>exact⟨z,rfl⟩
 obtain⟨z,hz⟩:=hp;obtain⟨w,hw,_⟩:=j77 (u58 f1).2.1 hz;obtain⟨E,hE,g1,g2,g3,g4,g5⟩:=o0t hw;obtain⟨x',x1,x2,x3,x4,x5⟩:=d3b (l:= [t]) hl (by simp) (by simp[j9o];omega) (fun u hu=>by simp at hu;subst hu;exact⟨g3,g4⟩);rw[hx]at x1;cases x1;obtain⟨y',y1,y2,y3,_⟩:=j86 hx x2 x3 x4 x5 hl;rw[h]at y1;cases y1;exact⟨hl,y2,y3⟩
def j1y(d:u0j):Ht u0j:=match t1a (u0d d) with
 |none=>none|some b=>if(u0u (4,u3i,emp,false,b)).2=true then r6e d [(u0u (4,u3i,emp,false,b)).1] else none
def u9v(d:u0j)(r:r21):Ht u0j:=
 if(u0u r).2=true then(match append_ d (u0u r).1 with
  |some y=>some y|none=>match j1y d with
   |none=>none|some z=>append_ z (u0u r).1)
 else none
theorem j7k{d y:u0j}{b:u0m}(hp:t1a (u0d d)=some b)(hb:BaseR b)(hs:tidied b [] =b)(h:j1y d=some y):u2k d=true/\u2k y=true/\t1a (u0d y)=some b:=by
 unfold j1y at h;rw[hp]at h;simp only at h;rw[t8e (.bas b hb),Al rfl]at h;obtain⟨h1,h2,h3⟩:=p63 h;refine⟨h1,h2,?_⟩;rw[h3];unfold t1a;simp only[s7x];rw[q66 (.bas b hb)];simp only;rw[j6t hb hs]
theorem o0w{d y:u0j}{b x:u0m}{r:r21}(hp:t1a (u0d d)=some b)(hb:BaseR b)(hs:tidied b [] =b)(hr:RecR r)(hx:t1m b r=some x)(h:u9v d r=some y):u2k y=true/\t1a (u0d y)=some x:=by
 have step:∀ {d y:u0j},t1a (u0d d)=some b->append_ d (q7e (q7a r))=some y->u2k y=true/\t1a (u0d y)=some x:=by
  intro d y hp h;obtain⟨h1,h2,h3⟩:=p54 h;refine⟨h2,?_⟩;rw[h3];unfold t1a at hp⊢;rw[j9i,hp];simp only[zOb,s7x];rw[q66 hr];simp only;rw[hx]
 unfold u9v at h;rw[t8e hr,Al rfl]at h;simp only at h;cases q:append_ d (q7e (q7a r)) with
 |some z=>
  rw[q]at h;cases h;exact step hp q
 |none=>
  rw[q]at h;simp only at h;cases a:j1y d with
  |none=>rw[a]at h;cases h|some z=>
   rw[a]at h;obtain⟨_,_,z3⟩:=j7k hp hb hs a;exact step z3 h
abbrev u1a:=u3g×u0j
def j1w:r21:=(0,u3i,emp,false,u26)
def u2q(o:Hu u0e)(id:Int):Int:=if u0o (fun x:u0e=>decide (x.1=id)) o<o.length then((u0o (fun x:u0e=>decide (x.1=id)) o:Nat):Int) else -1
def u3c(e:u3g)(id:Int):u0e:=rdL u0y e.2 (u2q e.2 id).toNat
def t1l(e:u3g):Hu u0e:=e.1.2.1++e.1.2.2.1
def s4s(e:u3g)(id:Int):Int:=
 if u2q e.2 id<0 then 1 else if q58 (u3c e id) (t1l e)=true then 4 else if p0p (u3c e id) (t1l e)=true then 5 else if s8i e.1=true then 3 else 0
def u4s(e:u3g)(id:Int):u3g×r21×Int:=
 if s4s e id=1 then(e,j1w,1) else if s4s e id=0 then(q59 e (u3c e id),(1,s9u e.1 (u3c e id),emp,false,u26),0) else(leaveE e id,j1w,s4s e id)
def s6w(e:u3g)(id:Int):Int:=
 if s4s e id≠0 then s4s e id else if t8d (u3c e id) (t1l e)=true then 5 else if 3<=e.1.2.2.1.length then 3 else 0
def s3x(e:u3g)(id:Int)(n:Hs):u3g×r21×Int:=
 if u2q e.2 id<0 then(e,j1w,1) else if u81 n=false then(e,j1w,2) else if 0<=u0k e.1 n then(e,j1w,6)
 else if s6w e id=0 then(j6u e (u3c e id) n,(2,u70 e.1 (u3c e id) n,emp,false,u26),0) else(leaveE e id,j1w,s6w e id)
def p0z(e:u3g)(n:Hs)(yes:Bool):u3g×r21×Int:=
 if u0k e.1 n<0 then(e,j1w,1) else if yes=true/\s8i e.1=true then(e,j1w,3)
 else if yes=true then(c0w e (rdL u0y e.1.2.2.1 (u0k e.1 n).toNat),(3,u3i,n,true,u26),0) else(noE e n,(3,u3i,n,false,u26),0)
def s7t(e:u3g)(id:Int):u3g×Int:=if u2q e.2 id<0 then(e,1) else(leaveE e id,0)
def t64(e:u3g):u3g×Int×Int:=if e.2.length<4/\e.1.2.2.2.2<9999 then(d43 e,e.1.2.2.2.2,0) else(e,0,3)
def d56(l:Hu s3z)(r:s3z):Bool:=l.any fun x=>z7q x.1 r.1&&z7q x.2 r.2
def c2n(t:u0e)(r:s3z):u0e:=(t.1,t.2.1,t.2.2.1,t.2.2.2.1,t.2.2.2.2.1++ [r],t.2.2.2.2.2)
def r0b(t:u0e)(r:s3z):u0e×Bool:=if d56 t.2.2.2.2.1 r=true then(t,true) else if t.2.2.2.2.1.length<8 then(c2n t r,true) else(t,false)
def d13(t:u0e)(l:Hu WrT):u0e:=(t.1,t.2.1,t.2.2.1,t.2.2.2.1,t.2.2.2.2.1,l,t.2.2.2.2.2.2)
def r5a(t:u0e)(w:WrT):u0e×Bool:=if(p2e t.2.2.2.2.2.1 w).length<=8 then(d13 t (p2e t.2.2.2.2.2.1 w),true) else(t,false)
def r1i(e:u3g)(id:Int)(r:s3z)(right:Bool):u3g×Int:=
 if u2q e.2 id<0 then(e,1) else if right=false then(e,2) else if(r0b (u3c e id) r).2=true then(j6y e (u2q e.2 id).toNat (r0b (u3c e id) r).1,0) else(e,3)
def j1z(e:u3g)(id:Int)(w:WrT):u3g×Int:=
 if u2q e.2 id<0 then(e,1) else if u4i w=false then(e,2) else if(r5a (u3c e id) w).2=true then(j6y e (u2q e.2 id).toNat (r5a (u3c e id) w).1,0) else(e,3)
theorem d7u{o:Hu u0e}{id:Int}:u2q o id<0↔ ∀x∈o,x.1≠id:=by
 unfold u2q;constructor
 .intro h x hx e;obtain⟨i,hi,rfl⟩:=B7 hx;split at h
  .omega
  .rename_i q;have:=u9n (p:=fun x:u0e=>decide (x.1=id)) hi (by have:=t2l (fun x:u0e=>decide (x.1=id)) o;omega);simp[e]at this
 .intro h;split
  .rename_i q;have:=u9u q;simp only[Ar]at this;exact absurd this (h _ (Ag q))
  .omega
theorem u16{e:u3g}{id:Int}(h: ¬u2q e.2 id<0):∃(k:Nat) (hk:k<e.2.length),u2q e.2 id=(k:Int)/\u3c e id=e.2[k] /\e.2[k].1=id:=by
 unfold u3c;unfold u2q at h⊢;split at h
 .rename_i q;rw[Al q];refine⟨_,q,rfl,?_,?_⟩
  .rw[zTn];exact y9a (t:=u0y) q
  .simpa using u9u q
 .omega
theorem q6d{e:u3g}{id:Int}(h:s4s e id=0): ¬u2q e.2 id<0/\q58 (u3c e id) (t1l e)=false/\p0p (u3c e id) (t1l e)=false/\s8i e.1=false:=by
 unfold s4s at h;split at h
 .omega
 .rename_i h1;split at h
  .omega
  .rename_i h2;split at h
   .omega
   .rename_i h3;split at h
    .omega
    .rename_i h4;exact⟨h1,by simpa using h2,by simpa using h3,by simpa using h4⟩
theorem c2q{e:u3g}{id:Int}:s4s e id=1↔u2q e.2 id<0:=by
 unfold s4s;constructor
 .intro h;split at h
  .assumption
  .split at h
   .omega
   .split at h
    .omega
    .split at h<;>omega
 .intro h;rw[Al h]
theorem d10{e:u3g}{id:Int}(h:u2q e.2 id<0):s5h e id=e.2:=by
 unfold s5h;rw[F9];intro x hx;simp[d7u.mp h x hx]
theorem d8r{t:u0e}{r:s3z}(h:TxnR t)(hr:u3f r=true)(hl:t.2.2.2.2.1.length<8):TxnR (c2n t r):=
 ⟨h.id,h.st,h.snap,by show(t.2.2.2.2.1++ [r]).length<=8;simp only[Ba,Aw];omega,h.ws,fun x hx=>by
   rcases Ay.mp hx with hx|hx
   .exact h.rs x hx
   .rw[Ax]at hx;subst hx;exact hr,h.done,h.nocs,h.name,h.noname,h.out⟩
theorem d6l{t:u0e}{r:s3z}(h:TxnR t)(hr:u3f r=true):TxnR (r0b t r).1/\(r0b t r).1.1=t.1/\(r0b t r).1.2.1=t.2.1/\(r0b t r).1.2.2.1=t.2.2.1/\(r0b t r).1.2.2.2.2.2.1=t.2.2.2.2.2.1:=by
 unfold r0b;split
 .exact⟨h,rfl,rfl,rfl,rfl⟩
 .split
  .rename_i q;exact⟨d8r h hr q,rfl,rfl,rfl,rfl⟩
  .exact⟨h,rfl,rfl,rfl,rfl⟩
theorem d1v{l:Hu WrT}{w:WrT}(h:u6d l=true)(hw:u4i w=true)(hl:(p2e l w).length<=8):u6d (p2e l w)=true:=by
 obtain⟨h1,h2,h3⟩:=d5c.mp h;refine d5c.mpr ⟨fun x hx=> ?_,?_,hl⟩
 .rcases j76 hx with hx|rfl
  .exact h1 x hx
  .exact hw
 .unfold p2e;rw[Bi,Cg];refine⟨Dz _ h2,?_,?_⟩
  .rw[Fs,Ch];refine⟨fun y hy=> ?_,Dz _ h2⟩;have:=(A6.mp hy).2;rw[j39]at this;exact this
  .intro x hx y hy;have h4:=(A6.mp hx).2;rcases Ay.mp hy with hy|hy
   .rw[Ax]at hy;subst hy;exact h4
   .have h5:=(A6.mp hy).2;rw[j39]at h5;exact p1i h4 h5
theorem d49{t:u0e}{l:Hu WrT}(h:TxnR t)(hl:u6d l=true):TxnR (d13 t l):=
 ⟨h.id,h.st,h.snap,h.rlen,hl,h.rs,h.done,h.nocs,h.name,h.noname,h.out⟩
theorem d4k{t:u0e}{w:WrT}(h:TxnR t)(hw:u4i w=true):TxnR (r5a t w).1/\(r5a t w).1.1=t.1/\(r5a t w).1.2.1=t.2.1/\(r5a t w).1.2.2.1=t.2.2.1/\(r5a t w).1.2.2.2.2.1=t.2.2.2.2.1:=by
 unfold r5a;split
 .rename_i q;exact⟨d49 h (d1v h.ws hw q),rfl,rfl,rfl,rfl⟩
 .exact⟨h,rfl,rfl,rfl,rfl⟩
theorem d45{e:u3g}(h:EngR e){id:Int}{r:s3z}{right:Bool}(hr:right=true->u3f r=true):EngR (r1i e id r right).1:=by
 unfold r1i;split
 .exact h
 .rename_i q;split
  .exact h
  .rename_i hb;split
   .obtain⟨k,hk,e1,e2,e3⟩:=u16 q;obtain⟨o1,o2,o3⟩:=h.open_ _ (Ag hk);rw[e1,zTn,e2];obtain⟨r1,r2,r3,r4,r5⟩:=d6l o1 (hr (by simpa using hb));exact j43 h hk r1 r2 (r3.trans o2) r4
   .exact h
theorem d9d{e:u3g}(h:EngR e){id:Int}{w:WrT}:EngR (j1z e id w).1:=by
 unfold j1z;split
 .exact h
 .rename_i q;split
  .exact h
  .rename_i hb;split
   .obtain⟨k,hk,e1,e2,e3⟩:=u16 q;obtain⟨o1,o2,o3⟩:=h.open_ _ (Ag hk);rw[e1,zTn,e2];obtain⟨r1,r2,r3,r4,r5⟩:=d4k (w:=w) o1 (by simpa using hb);exact j43 h hk r1 r2 (r3.trans o2) r4
   .exact h
theorem d25{e:u3g}(h:EngR e):EngR (t64 e).1:=by
 unfold t64;split
 .rename_i q;exact d51 h q.1 q.2
 .exact h
theorem d3k{e:u3g}(h:EngR e)(id:Int):EngR (s7t e id).1:=by
 unfold s7t;split
 .exact h
 .exact q6w h id
theorem d05{e:u3g}(h:EngR e)(id:Int):EngR (u4s e id).1:=by
 unfold u4s;split
 .exact h
 .split
  .rename_i _ q;obtain⟨h1,h2,h3,h4⟩:=q6d q;obtain⟨k,hk,e1,e2,e3⟩:=u16 h1;rw[e2];exact o9u h (Ag hk) h4
  .exact q6w h id
structure Sync(s:u1a)(b:u0m):Prop where
 eng:EngR s.1
 log:u2k s.2=true
 play:t1a (u0d s.2)=some b
 right:BaseR b
 like:Like0 b s.1.1
theorem Like0.of{b e e' :u0m}(h:Like0 b e)(h1:e'.1=e.1)(h2:e'.2.2.1=e.2.2.1)(h3:e'.2.2.2.1=e.2.2.2.1):Like0 b e' :=
 ⟨by rw[h1,h3];exact h.vs,h.past,by rw[h2];exact h.ready,by rw[h3];exact h.cs⟩
theorem Sync.opens{s:u1a}{b:u0m}{e:u3g}(h:Sync s b)(he:EngR e)(h1:e.1.1=s.1.1.1)(h2:e.1.2.2.1=s.1.1.2.2.1)(h3:e.1.2.2.2.1=s.1.1.2.2.2.1):Sync (e,s.2) b:=
 ⟨he,h.log,h.play,h.right,h.like.of h1 h2 h3⟩
theorem Sync.leave{s:u1a}{b:u0m}(h:Sync s b)(id:Int):Sync (leaveE s.1 id,s.2) b:=
 ⟨q6w h.eng id,h.log,h.play,h.right,h.like.tidy h.eng.base _⟩
theorem Sync.own{s:u1a}{b:u0m}(h:Sync s b):tidied b [] =b:=h.like.self h.eng.base
def u27(s:u1a)(id:Int):u1a×Int:=
 if(u4s s.1 id).2.2=0 then(match u9v s.2 (u4s s.1 id).2.1 with
  |some d=>(((u4s s.1 id).1,d),0)|none=>((leaveE s.1 id,s.2),3))
 else(((u4s s.1 id).1,s.2),(u4s s.1 id).2.2)
def r4o(s:u1a)(id:Int)(n:Hs):u1a×Int:=
 if(s3x s.1 id n).2.2=0 then(match u9v s.2 (s3x s.1 id n).2.1 with
  |some d=>(((s3x s.1 id n).1,d),0)|none=>((leaveE s.1 id,s.2),3))
 else(((s3x s.1 id n).1,s.2),(s3x s.1 id n).2.2)
def t1r(s:u1a)(n:Hs)(yes:Bool):u1a×Int:=
 if(p0z s.1 n yes).2.2=0 then(match u9v s.2 (p0z s.1 n yes).2.1 with
  |some d=>(((p0z s.1 n yes).1,d),0)|none=>(s,3))
 else(s,(p0z s.1 n yes).2.2)
def j7r(s:u1a):u1a×Bool:=match j1y s.2 with
 |some d=>((s.1,d),true)|none=>(s,false)
def d9e(d:u0j):Ht u1a:=if u2k d=true then(match t1a (u0d d) with
 |some b=>some ((b, []),d)|none=>none) else none
theorem Sync.commit{s:u1a}{b:u0m}(h:Sync s b)(id:Int):∃b',Sync (u27 s id).1 b' /\(b' =b\/((u27 s id).2=0/\s4s s.1 id=0/\t1m b (1,s9u s.1.1 (u3c s.1 id),emp,false,u26)=some b')):=by
 have hE:=h.eng;unfold u27;by_cases c0:(u4s s.1 id).2.2=0
 .rw[Al c0];have j0:s4s s.1 id=0:=by
   unfold u4s at c0;split at c0
   .cases c0
   .split at c0
    .assumption
    .exact c0
  have ec:u4s s.1 id=(q59 s.1 (u3c s.1 id),(1,s9u s.1.1 (u3c s.1 id),emp,false,u26),0):=by
   unfold u4s;rw[Ao (by omega),Al j0]
  obtain⟨h1,h2,h3,h4⟩:=q6d j0;obtain⟨k,hk,e1,e2,e3⟩:=u16 h1;have ht:u3c s.1 id∈s.1.2:=by rw[e2];exact Ag hk
  obtain⟨f1,f2,f3⟩:=p4p h4;obtain⟨tR,t1,ts⟩:=hE.open_ _ ht;have h9:(u3c s.1 id).1<9999:=by have:=hE.bel _ (Az _ ht);have:=hE.base.next.2;omega
  obtain⟨x,p1,p2,p3⟩:=o7i (t:=u3c s.1 id) h.like hE.base h.right f3 f2 tR h9 ts;rw[ec];simp only;cases hk2:u9v s.2 (1,s9u s.1.1 (u3c s.1 id),emp,false,u26) with
  |none=>exact⟨b,h.leave id, .inl rfl⟩|some d=>
   obtain⟨l1,l2⟩:=o0w h.play h.right h.own (.thr _ (j6d tR ts f3) rfl) p1 hk2;have hR:=o9u hE ht h4;exact⟨x,⟨hR,l1,l2,p2,p3.tidy (q8b hE (.inl ht) h4) _⟩, .inr ⟨rfl,j0,p1⟩⟩
 .rw[Ao c0];refine⟨b,?_, .inl rfl⟩;unfold u4s;split
  .exact h
  .split
   .rename_i q1 q2;exfalso;apply c0;unfold u4s;rw[Ao q1,Al q2]
   .exact h.leave id
theorem d1r{e:u3g}{id:Int}(h:s6w e id=0):s4s e id=0/\t8d (u3c e id) (t1l e)=false/\e.1.2.2.1.length<3:=by
 unfold s6w at h;split at h
 .rename_i q;exact absurd h q
 .rename_i q;split at h
  .omega
  .rename_i q2;split at h
   .omega
   .exact⟨by omega,by simpa using q2,by omega⟩
theorem d6i{e:u3g}{id:Int}{n:Hs}(h:(s3x e id n).2.2=0): ¬u2q e.2 id<0/\u81 n=true/\u0k e.1 n<0/\s6w e id=0/\s3x e id n=(j6u e (u3c e id) n,(2,u70 e.1 (u3c e id) n,emp,false,u26),0):=by
 unfold s3x at h⊢;split at h
 .cases h
 .rename_i q1;split at h
  .cases h
  .rename_i q2;split at h
   .cases h
   .rename_i q3;split at h
    .rename_i q4;exact⟨q1,by simpa using q2,by omega,q4,by rw[Ao q1,Ao q2,Ao q3,Al q4]⟩
    .rename_i q4;exact absurd h q4
theorem Sync.prep{s:u1a}{b:u0m}(h:Sync s b)(id:Int)(n:Hs):∃b',Sync (r4o s id n).1 b' /\(b' =b\/((r4o s id n).2=0/\(s3x s.1 id n).2.2=0/\t1m b (2,u70 s.1.1 (u3c s.1 id) n,emp,false,u26)=some b')):=by
 have hE:=h.eng;unfold r4o;by_cases c0:(s3x s.1 id n).2.2=0
 .rw[Al c0];obtain⟨h1,hn,hr,hc,ec⟩:=d6i c0;obtain⟨j0,rd,rl⟩:=d1r hc;obtain⟨k,hk,e1,e2,e3⟩:=u16 h1;have ht:u3c s.1 id∈s.1.2:=by rw[e2];exact Ag hk
  obtain⟨tR,t1,ts⟩:=hE.open_ _ ht;have h9:(u3c s.1 id).1<9999:=by have:=hE.bel _ (Az _ ht);have:=hE.base.next.2;omega
  have hnn:=d6m.mp hr;obtain⟨x,p1,p2,p3⟩:=j4s (t:=u3c s.1 id) (n:=n) h.like hE.base h.right tR (by omega) hn ts rl hnn (fun x hx=>hE.apart x (Az _ hx) _ ht) h9;rw[ec];simp only;cases hk2:u9v s.2 (2,u70 s.1.1 (u3c s.1 id) n,emp,false,u26) with
  |none=>exact⟨b,h.leave id, .inl rfl⟩|some d=>
   obtain⟨l1,l2⟩:=o0w h.play h.right h.own (.rdy _ (j1l tR (by omega) hn) rfl) p1 hk2;have hB:BaseR (u21 s.1.1 (u3c s.1 id) n):=p2b hE.base tR (by omega) ts hn rl hnn (fun x hx=>hE.apart x hx _ ht) h9;exact⟨x,⟨d1s hE ht hn rl hnn,l1,l2,p2,p3.tidy hB _⟩, .inr ⟨by trivial,by trivial,p1⟩⟩
 .rw[Ao c0];refine⟨b,?_, .inl rfl⟩;unfold s3x;split
  .exact h
  .split
   .exact h
   .split
    .exact h
    .split
     .rename_i q1 q2 q3 q4;exfalso;apply c0;unfold s3x;rw[Ao q1,Ao q2,Ao q3,Al q4]
     .exact h.leave id
theorem Sync.fin{s:u1a}{b:u0m}(h:Sync s b)(n:Hs)(yes:Bool):∃b',Sync (t1r s n yes).1 b' /\(b' =b\/((t1r s n yes).2=0/\(p0z s.1 n yes).2.2=0/\t1m b (3,u3i,n,yes,u26)=some b')):=by
 have hE:=h.eng;unfold t1r;by_cases c0:(p0z s.1 n yes).2.2=0
 .rw[Al c0];unfold p0z at c0;split at c0
  .cases c0
  .rename_i q1;split at c0
   .cases c0
   .rename_i q2;obtain⟨k,hk,r1,r2⟩:=t8c q1;obtain⟨tR,t2,ts⟩:=hE.base.ready _ (Ag hk);have hn:u81 n=true:=by rw[←r2];exact tR.name t2
    cases yes with
    |true=>
     have hf:s8i s.1.1=false:=by simpa using q2
     obtain⟨f1,f2,f3⟩:=p4p hf;have ec:p0z s.1 n true=(c0w s.1 s.1.1.2.2.1[k],(3,u3i,n,true,u26),0):=by
      unfold p0z;rw[Ao q1,Ao q2,Al rfl,r1,zTn,y9a (t:=u0y) hk]
     obtain⟨x,p1,p2,p3⟩:=j9j h.like hE.base h.right f3 f2 hn hk r1;rw[ec];simp only;cases hk2:u9v s.2 (3,u3i,n,true,u26) with
     |none=>exact⟨b,h, .inl rfl⟩|some d=>
      obtain⟨l1,l2⟩:=o0w h.play h.right h.own (.fin n true hn) p1 hk2;exact⟨x,⟨d60 hE (Ag hk) hf,l1,l2,p2,p3.tidy (q8b hE (.inr (Ag hk)) hf) _⟩, .inr ⟨by trivial,by trivial,p1⟩⟩
    |false=>
     have ec:p0z s.1 n false=(noE s.1 n,(3,u3i,n,false,u26),0):=by
      unfold p0z;rw[Ao q1,Ao q2,Ao (by decide)]
     obtain⟨x,p1,p2,p3⟩:=d1q h.like hE.base h.right hn hk r1;rw[ec];simp only;cases hk2:u9v s.2 (3,u3i,n,false,u26) with
     |none=>exact⟨b,h, .inl rfl⟩|some d=>
      obtain⟨l1,l2⟩:=o0w h.play h.right h.own (.fin n false hn) p1 hk2;exact⟨x,⟨c2u hE n,l1,l2,p2,p3.tidy (o3z hE.base n) _⟩, .inr ⟨by trivial,by trivial,p1⟩⟩
 .rw[Ao c0];exact⟨b,h, .inl rfl⟩
theorem Sync.fix{s:u1a}{b:u0m}(h:Sync s b):Sync (j7r s).1 b:=by
 unfold j7r;cases ha:j1y s.2 with
 |none=>exact h|some d=>
  obtain⟨_,l1,l2⟩:=j7k h.play h.right h.own ha;exact⟨h.eng,l1,l2,h.right,h.like⟩
theorem j9m{s:u1a}{b:u0m}(h:Sync s b):d9e s.2=some ((b, []),s.2)/\Sync ((b, []),s.2) b:=by
 constructor
 .unfold d9e;rw[Al h.log,h.play]
 .have hb:=h.right;have hE:EngR (b, []):=⟨hb,Cn _,fun t ht=>(by cases ht),List.Pairwise.nil,by simpa using hb.below,by simpa using hb.nodup⟩;refine⟨hE,h.log,h.play,hb,?_,h.like.past,rfl,rfl⟩;have hs:=h.own;rw[r8d (fun t ht=>(hb.past t ht).2.2)]at hs;exact(Dj Prod.fst hs).symm
def K5:Hu Hs:= [⟨#[97]⟩,⟨#[98]⟩,⟨#[99]⟩,⟨#[100]⟩,⟨#[97,98]⟩]
structure DomT(t:u0e):Prop where
 ws:∀w∈t.2.2.2.2.2.1,w.1∈K5
 rs:∀r∈t.2.2.2.2.1,r.1∈K5/\r.2∈K5
structure DomB(b:u0m):Prop where
 vs:∀v∈b.1,v.1∈K5
 ready:∀t∈b.2.2.1,DomT t
structure DomE(e:u3g):Prop where
 base:DomB e.1
 open_:∀t∈e.2,DomT t
def Num(k:Nat)(e:u3g):Prop:=e.1.2.2.2.1<=(k:Int)/\e.1.2.2.2.2<=(k:Int)+1
structure Stt(k:Nat)(s:u1a):Prop where
 sync:∃b,Sync s b/\b.2.2.2.2<=(k:Int)+1
 dom:DomE s.1
 num:Num k s.1
def o7m(H:Hu u0e)(e' :u3g)(r67:Int)(t:u0e):Hu u0e:=
 if e'.1.2.2.2.1=i64.wrap (r67+1) then H++ [d33 e'.1.2.2.2.1 t] else H
theorem j61{H:Hu u0e}{e' :u3g}{c:Int}(t:u0e)(hc:j95 c)(h:e'.1.2.2.2.1=c):o7m H e' c t=H:=by
 unfold o7m;rw[s26 hc,Ao (by omega)]
theorem j1p{H:Hu u0e}{e' :u3g}{c:Int}(t:u0e)(hc:j95 c)(h:e'.1.2.2.2.1=c+1):o7m H e' c t=H++ [d33 (c+1) t] :=by
 unfold o7m;rw[s26 hc,Al h,h]
def HB(H:Hu u0e)(s:u1a):Prop:= ∃b,Sync s b/\ ∀x∈H,x.1<b.2.2.2.2
theorem d01(v:Nat):(bif decide ((v:Int)<97) then some true else some (decide ((v:Int) >122)))=some (!(decide (97<=v)&&decide (v<=122))):=by
 have e1:decide ((v:Int)<97)= !decide (97<=v):=by by_cases h:97<=v<;>simp[h] <;>omega
 have e2:decide ((v:Int) >122)= !decide (v<=122):=by by_cases h:v<=122<;>simp[h] <;>omega
 rw[e1,e2];cases decide (97<=v)<;>cases decide (v<=122)<;>rfl
theorem q8d(a b c:Int):u03 (a,b,c)=some (inB a b c):=s5k a b c
theorem r7d(a b c:Int):u0q (a,b,c)=some (inB a b c):=s6u a b c
theorem s0p{X R:Type}(W:X->Ht R)(n:Nat)(mk:Int->X)(ok:Nat->Bool)(yes no:R)(hend:W (mk (n:Int))=some yes)
 (hstep:∀(i:Nat),i<n->W (mk (i:Int))=bif ok i then W (mk ((i+1:Nat):Int)) else some no):W (mk 0)=some (bif (List.range n).all ok then yes else no):=by
 have key:∀d i:Nat,i+d=n->W (mk (i:Int))=some (bif (List.range d).all (fun j=>ok (i+j)) then yes else no):=by
  intro d
  induction d with
  | zero=>intro i hi;have:i=n:=by omega
          subst this;simpa using hend
  |succ d ih=>
   intro i hi;rw[hstep i (by omega),ih (i+1) (by omega),List.range_succ_eq_map,Gc,List.all_map,Df];have e:((fun j=>ok (i+j)) ∘Nat.succ)=fun j=>ok (i+1+j):=by funext j;simp only[Function.comp];congr 1;omega
   rw[e];cases ok i<;>rfl
 have:=key n 0 (by omega);simpa using this
theorem r0y{t:Ty}(l:Hu t.den)(f:t.den->Bool):((List.range l.length).all fun i=>f (rdL t l i))=l.all f:=by
 rw[Cd,Bg,Bg];constructor
 .intro h x hx;obtain⟨i,hi,rfl⟩:=B7 hx;have:=h i (Bq.mpr hi)
  rwa [y9a hi]at this
 .intro h i hi;rw[y9a (Bq.mp hi)];exact h _ (Ag _)
theorem d0v{α:Type}(l:Hu α)(f g:α->Bool):(l.all fun i=>f i&&g i)=(l.all f&&l.all g):=by
 induction l with
 |nil=>rfl|cons x l ih=>simp only[Gc,ih];cases f x<;>cases g x<;>simp
theorem r5m{t:Ty}(l:Hu t.den)(f:t.den->Bool)(lt:t.den->t.den->Bool):
 ((List.range l.length).all fun i=>f (rdL t l i)&&(decide (i=0) || lt (rdL t l (i - 1)) (rdL t l i)))=(l.all f&&o5l t lt l):=by
 rw[d0v (List.range l.length) (fun i=>f (rdL t l i)) (fun i=>decide (i=0) || lt (rdL t l (i - 1)) (rdL t l i)),r0y];rfl
theorem s6v(i:Nat):decide ((i:Int) >0)= !decide (i=0):=by by_cases h:i=0<;>simp[h] <;>omega
theorem s1c{i:Nat}(h:i<4611686018427387904)(h0:i≠0):i64.wrap ((i:Int) - (1:Int))=((i - 1:Nat):Int):=by
 rw[y5f (by omega) (by omega)];omega
theorem j08(s:Hs){i:Nat}(h:i<s.size):s.data.toList.getD i 0=s.data.toList[i]'h:=by
 rw[A5,A4 h];rfl
theorem s3f(s:Hs)(hs:s.size<=u0i):u9d s=some (u81 s):=by
 have hb:u0i=1099511627776:=rfl
 have L:=s0p s6m s.size (fun i=>(s,i)) (fun i=>(fun b:UInt8=>decide (97<=b.toNat)&&decide (b.toNat<=122)) (s.data.toList.getD i 0)) (.inl s) (.inr false)
  (by rw[p1k];simp only[s6c,u0b,Am,Ah,Aa])
  (fun i hi=>by
   rw[p1k];simp only[s6c,u0b,hi,Ae,Ad,y8h hi,zTn,y7x (show i<4611686018427387904 by omega)];rw[d01];simp only[zOb];cases (decide (97<=(s.data.toList.getD i 0).toNat)&&decide ((s.data.toList.getD i 0).toNat<=122))<;>rfl)
 have hA:((List.range s.size).all fun i=>(fun b:UInt8=>decide (97<=b.toNat)&&decide (b.toNat<=122)) (s.data.toList.getD i 0))=s.data.toList.all (fun b=>decide (97<=b.toNat)&&decide (b.toNat<=122)):=by
  rw[Cd,Bg,Bg];constructor
  .intro h x hx;obtain⟨i,hi,rfl⟩:=B7 hx;have:=h i (Bq.mpr hi)
   rwa [j08 s hi]at this
  .intro h i hi;rw[j08 s (Bq.mp hi)];exact h _ (Ag _)
 rw[hA]at L;rw[j3e];unfold p7l;simp only[L,zOb];unfold u81;cases s.data.toList.all (fun b=>decide (97<=b.toNat)&&decide (b.toNat<=122))
 .rfl
 .simp only[Ad,q8d,zOb,Bz];unfold inB;congr 1;have e1:decide ((1:Int)<=(s.size:Int))=decide (1<=s.size):=by simp;omega
  have e2:decide ((s.size:Int)<=3)=decide (s.size<=3):=by simp;omega
  rw[e1,e2]
theorem s3g(s:Hs)(hs:s.size<=u0i):u9g s=some (u81 s):=by
 have hb:u0i=1099511627776:=rfl
 have L:=s0p s6p s.size (fun i=>(s,i)) (fun i=>(fun b:UInt8=>decide (97<=b.toNat)&&decide (b.toNat<=122)) (s.data.toList.getD i 0)) (.inl s) (.inr false)
  (by rw[p1o];simp only[s6g,u0b,Am,Ah,Aa])
  (fun i hi=>by
   rw[p1o];simp only[s6g,u0b,hi,Ae,Ad,y8h hi,zTn,y7x (show i<4611686018427387904 by omega)];rw[d01];simp only[zOb];cases (decide (97<=(s.data.toList.getD i 0).toNat)&&decide ((s.data.toList.getD i 0).toNat<=122))<;>rfl)
 have hA:((List.range s.size).all fun i=>(fun b:UInt8=>decide (97<=b.toNat)&&decide (b.toNat<=122)) (s.data.toList.getD i 0))=s.data.toList.all (fun b=>decide (97<=b.toNat)&&decide (b.toNat<=122)):=by
  rw[Cd,Bg,Bg];constructor
  .intro h x hx;obtain⟨i,hi,rfl⟩:=B7 hx;have:=h i (Bq.mpr hi)
   rwa [j08 s hi]at this
  .intro h i hi;rw[j08 s (Bq.mp hi)];exact h _ (Ag _)
 rw[hA]at L;rw[j3r];unfold p7y;simp only[L,zOb];unfold u81;cases s.data.toList.all (fun b=>decide (97<=b.toNat)&&decide (b.toNat<=122))
 .rfl
 .simp only[Ad,r7d,zOb,Bz];unfold inB;congr 1;have e1:decide ((1:Int)<=(s.size:Int))=decide (1<=s.size):=by simp;omega
  have e2:decide ((s.size:Int)<=3)=decide (s.size<=3):=by simp;omega
  rw[e1,e2]
theorem q4f(r:s3z)(h1:r.1.size<=u0i)(h2:r.2.size<=u0i):s00 r=some (u3f r):=by
 rw[o5w];unfold q87 u3f;simp only[s3f _ h1,s3f _ h2,zOb];cases u81 r.1<;>cases u81 r.2<;>rfl
theorem q4g(r:s3z)(h1:r.1.size<=u0i)(h2:r.2.size<=u0i):s05 r=some (u3f r):=by
 rw[o6k];unfold q9t u3f;simp only[s3g _ h1,s3g _ h2,zOb];cases u81 r.1<;>cases u81 r.2<;>rfl
theorem t9w(s:Hs):z7q s (⟨#[]⟩:Hs)=decide (s.size=0):=by
 rw[Cd,y7r,Ar];constructor
 .intro h;subst h;rfl
 .intro h;exact Gf (Fi h)
theorem c5n(s:Hs):decide ((s.size:Int)<=12)=decide (s.size<=12):=by simp;omega
theorem q4n(w:WrT)(h1:w.1.size<=u0i):s01 w=some (u4i w):=by
 rw[o55];unfold q9g u4i;simp only[s3f _ h1,zOb,t9w,c5n];cases u81 w.1<;>cases decide (w.2.1.size<=12)<;>cases w.2.2<;>rfl
theorem q4o(w:WrT)(h1:w.1.size<=u0i):s06 w=some (u4i w):=by
 rw[o6t];unfold q92 u4i;simp only[s3g _ h1,zOb,t9w,c5n];cases u81 w.1<;>cases decide (w.2.1.size<=12)<;>cases w.2.2<;>rfl
theorem o8z{l:Hu WrT}{w:WrT}(h:w∈l):w.1.size<=(Ty.sl u2m).wt l/\w.2.1.size<=(Ty.sl u2m).wt l:=by
 have h1:(Ty.sl u2m).wt l=l.length+(l.map u2m.wt).sum:=rfl;have h2:=o80 (f:=u2m.wt) h;have h3:u2m.wt w=w.1.size+(w.2.1.size+0):=rfl;omega
theorem o8k{l:Hu s3z}{w:s3z}(h:w∈l):w.1.size<=(Ty.sl t3d).wt l/\w.2.size<=(Ty.sl t3d).wt l:=by
 have h1:(Ty.sl t3d).wt l=l.length+(l.map t3d.wt).sum:=rfl;have h2:=o80 (f:=t3d.wt) h;have h3:t3d.wt w=w.1.size+w.2.size:=rfl;omega
theorem s5t{t:Ty}(l:Hu t.den):l.length<=(Ty.sl t).wt l:=by
 have h1:(Ty.sl t).wt l=l.length+(l.map t.wt).sum:=rfl;omega
theorem le8(n:Nat):decide ((n:Int)<=8)=decide (n<=8):=by simp;omega
theorem gt8(n:Nat):decide ((n:Int) >8)= !decide (n<=8):=by by_cases h:n<=8<;>simp[h] <;>omega
theorem o9n(l:Hu WrT)(hl:(Ty.sl u2m).wt l<=u0i):r1t l=some (u6d l):=by
 have hb:u0i=1099511627776:=rfl;have hn:=s5t (t:=u2m) l
 have L:=s0p t9m l.length (fun i=>(l,l,(l.length:Int),i)) (fun i=>u4i (rdL u2m l i)&&(decide (i=0) || (fun a b:WrT=>y3i a.1 b.1) (rdL u2m l (i - 1)) (rdL u2m l i))) (.inl l) (.inr false)
  (by rw[r8n];simp only[t8v,u0b,Am,Ah,Aa])
  (fun i hi=>by
   have hm:rdL u2m l i∈l:=by rw[y9a hi];exact Ag hi
   rw[r8n];simp only[t8v,u0b,hi,Ae,Ad,y8h hi,zTn,y7x (show i<4611686018427387904 by omega),q4n _ (A9 (o8z hm).1 hl),zOb,s6v];by_cases h0:i=0
   .subst h0;simp only[Ae,Ap,Aa,Dx,Cz];cases u4i (rdL u2m l 0)<;>rfl
   .simp only[h0,Ah,Bh,Ad,Ci,s1c (show i<4611686018427387904 by omega) h0,y8h (show i - 1<l.length by omega),zTn];cases u4i (rdL u2m l i)
    .rfl
    .simp only[Ap,Aa,zOb,Bz];cases y3i (rdL u2m l (i - 1)).1 (rdL u2m l i).1<;>rfl)
 rw[r5m (t:=u2m) l u4i (fun a b=>y3i a.1 b.1)]at L;rw[o2t];unfold q46;simp only[L,zOb];unfold u6d;cases l.all u4i
 .rfl
 .cases o5l u2m (fun a b=>y3i a.1 b.1) l
  .rfl
  .simp only[Bz,Ad];rw[le8]
theorem p2s(l:Hu WrT)(hl:(Ty.sl u2m).wt l<=u0i):s5c l=some (u6d l):=by
 have hb:u0i=1099511627776:=rfl;have hn:=s5t (t:=u2m) l
 have L:=s0p t9v l.length (fun i=>(l,i)) (fun i=>u4i (rdL u2m l i)&&(decide (i=0) || (fun a b:WrT=>y3i a.1 b.1) (rdL u2m l (i - 1)) (rdL u2m l i))) (.inl l) (.inr false)
  (by rw[r85];simp only[t9d,u0b,Am,Ah,Aa])
  (fun i hi=>by
   have hm:rdL u2m l i∈l:=by rw[y9a hi];exact Ag hi
   rw[r85];simp only[t9d,u0b,hi,Ae,Ad,y8h hi,zTn,y7x (show i<4611686018427387904 by omega),q4o _ (A9 (o8z hm).1 hl),zOb,s6v];by_cases h0:i=0
   .subst h0;simp only[Ae,Ap,Aa,Dx,Cz];cases u4i (rdL u2m l 0)<;>rfl
   .simp only[h0,Ah,Bh,Ad,Ci,s1c (show i<4611686018427387904 by omega) h0,y8h (show i - 1<l.length by omega),zTn];cases u4i (rdL u2m l i)
    .rfl
    .simp only[Ap,Aa,zOb,Bz];cases y3i (rdL u2m l (i - 1)).1 (rdL u2m l i).1<;>rfl)
 rw[r5m (t:=u2m) l u4i (fun a b=>y3i a.1 b.1)]at L;rw[o3n];unfold q5y;simp only[L,zOb];unfold u6d;cases l.all u4i
 .rfl
 .cases o5l u2m (fun a b=>y3i a.1 b.1) l
  .rfl
  .simp only[Bz,Ad];rw[le8]
theorem j49(t:u0e):u0y.wt t=0+(0+(0+(0+((Ty.sl t3d).wt t.2.2.2.2.1+((Ty.sl u2m).wt t.2.2.2.2.2.1+(0+t.2.2.2.2.2.2.2.size)))))):=rfl
theorem t9g(t:u0e)(ht:u0y.wt t<=u0i):u6q t=some (u93 t):=by
 have hb:u0i=1099511627776:=rfl;have hw:=j49 t;have hn:=s5t (t:=t3d) t.2.2.2.2.1
 have L:=s0p s6o t.2.2.2.2.1.length (fun i=>(t,t.2.2.2.2.1,(t.2.2.2.2.1.length:Int),i)) (fun i=>u3f (rdL t3d t.2.2.2.2.1 i)) (.inl t) (.inr false)
  (by rw[p1n];simp only[s6f,u0b,Am,Ah,Aa])
  (fun i hi=>by
   have hm:rdL t3d t.2.2.2.2.1 i∈t.2.2.2.2.1:=by rw[y9a hi];exact Ag hi
   have hz:=o8k hm;rw[p1n];simp only[s6f,u0b,hi,Ae,Ad,y8h hi,zTn,y7x (show i<4611686018427387904 by omega),q4f (rdL t3d t.2.2.2.2.1 i) (A9 hz.1 (by omega)) (A9 hz.2 (by omega)),zOb];cases u3f (rdL t3d t.2.2.2.2.1 i)<;>rfl)
 rw[r0y (t:=t3d) t.2.2.2.2.1 u3f]at L;rw[j3k];unfold p7r;have k1:=o9n t.2.2.2.2.2.1 (by omega);have k2:=s3f t.2.2.2.2.2.2.2 (by omega);simp only[L,zOb];unfold u93;cases t.2.2.2.2.1.all u3f
 .simp only[Aa,Fx,Fy]
 .simp only[Ad,q8d,k1,k2,zOb,t9w,gt8,Bz];cases h3:inB t.2.2.1 0 9999
  .cases inB t.1 1 9999<;>cases inB t.2.1 1 3<;>simp
  .have h3' :=p6y.mp h3;rw[y5f (n:=t.2.2.1+1) (by omega) (by omega)];cases inB t.1 1 9999<;>cases inB t.2.1 1 3<;>cases decide (t.2.2.2.2.1.length<=8)<;>cases u6d t.2.2.2.2.2.1<;>simp
   generalize inB t.2.2.2.1 (t.2.2.1+1) 9999=b1;generalize u81 t.2.2.2.2.2.2.2=b2;by_cases e3:t.2.1=3
   .cases t.2.2.2.2.2.2.1<;>cases b1<;>simp[e3]
   .by_cases e2:t.2.1=2
    .cases t.2.2.2.2.2.2.1<;>cases b2<;>by_cases e5:t.2.2.2.1=0<;>simp[e2,e5]
    .by_cases e1:t.2.1=1<;>cases t.2.2.2.2.2.2.1<;>by_cases e5:t.2.2.2.1=0<;>simp[e1,e2,e3,e5]
theorem s3k(t:u0e)(ht:u0y.wt t<=u0i):u9i t=some (u93 t):=by
 have hb:u0i=1099511627776:=rfl;have hw:=j49 t;have hn:=s5t (t:=t3d) t.2.2.2.2.1
 have L:=s0p s6s t.2.2.2.2.1.length (fun i=>(t,i)) (fun i=>u3f (rdL t3d t.2.2.2.2.1 i)) (.inl t) (.inr false)
  (by rw[p1s];simp only[s6k,u0b,Am,Ah,Aa])
  (fun i hi=>by
   have hm:rdL t3d t.2.2.2.2.1 i∈t.2.2.2.2.1:=by rw[y9a hi];exact Ag hi
   have hz:=o8k hm;rw[p1s];simp only[s6k,u0b,hi,Ae,Ad,y8h hi,zTn,y7x (show i<4611686018427387904 by omega),q4g (rdL t3d t.2.2.2.2.1 i) (A9 hz.1 (by omega)) (A9 hz.2 (by omega)),zOb];cases u3f (rdL t3d t.2.2.2.2.1 i)<;>rfl)
 rw[r0y (t:=t3d) t.2.2.2.2.1 u3f]at L;rw[j3w];unfold p73;have k1:=p2s t.2.2.2.2.2.1 (by omega);have k2:=s3g t.2.2.2.2.2.2.2 (by omega);simp only[L,r7d,k1,k2,zOb,t9w,gt8];unfold u93;cases t.2.2.2.2.1.all u3f
 .cases inB t.1 1 9999<;>cases inB t.2.1 1 3<;>cases inB t.2.2.1 0 9999<;>cases decide (t.2.2.2.2.1.length<=8)<;>cases u6d t.2.2.2.2.2.1<;>simp
 .simp only[Ad,Bz,r7d,k2,zOb,t9w];cases h3:inB t.2.2.1 0 9999
  .cases inB t.1 1 9999<;>cases inB t.2.1 1 3<;>simp
  .have h3' :=p6y.mp h3;rw[y5f (n:=t.2.2.1+1) (by omega) (by omega)];cases inB t.1 1 9999<;>cases inB t.2.1 1 3<;>cases decide (t.2.2.2.2.1.length<=8)<;>cases u6d t.2.2.2.2.2.1<;>try rfl
   generalize decide (t.2.2.2.2.2.2.2.size=0)=b4;generalize inB t.2.2.2.1 (t.2.2.1+1) 9999=b1;generalize u81 t.2.2.2.2.2.2.2=b2;by_cases e3:t.2.1=3
   .cases t.2.2.2.2.2.2.1<;>cases b1<;>cases b4<;>simp[e3]
   .by_cases e2:t.2.1=2
    .cases t.2.2.2.2.2.2.1<;>cases b2<;>by_cases e5:t.2.2.2.1=0<;>simp[e2,e5]
    .by_cases e1:t.2.1=1<;>cases t.2.2.2.2.2.2.1<;>cases b4<;>by_cases e5:t.2.2.2.1=0<;>simp[e1,e2,e3,e5]
def c6e(w:u2m.den):Prop:=w.1.size<=4/\w.2.1.size<=13
def c6d(n:Nat)(t:u0y.den):Prop:=t.2.2.2.2.1.length<=n/\(∀r∈t.2.2.2.2.1,r.1.size<=2/\r.2.size<=2)/\t.2.2.2.2.2.1.length<=n/\(∀r∈t.2.2.2.2.2.1,c6e r)/\t.2.2.2.2.2.2.2.size<=16
theorem j8h{l:Hu u2u}{w:u2u}(h:w∈l):w.1.size<=(Ty.sl u0g).wt l/\w.2.1.size<=(Ty.sl u0g).wt l:=by
 have h1:(Ty.sl u0g).wt l=l.length+(l.map u0g.wt).sum:=rfl;have h2:=o80 (f:=u0g.wt) h;have h3:u0g.wt w=w.1.size+(w.2.1.size+(0+0)):=rfl;omega
theorem c0s(n:Nat):decide ((n:Int) >12)= !decide (n<=12):=by by_cases h:n<=12<;>simp[h] <;>omega
theorem d81(n:Nat):decide ((n:Int)<=120)=decide (n<=120):=by simp;omega
theorem p8g(a b:Int):decide (a>=b)= !decide (a<b):=by
 by_cases h:a<b
 .have: ¬a>=b:=by omega
  simp[h,this]
 .have:a>=b:=by omega
  simp[h,this]
theorem p8h(a b:Int):decide (a >b)= !decide (a<=b):=by
 by_cases h:a<=b
 .have: ¬a >b:=by omega
  simp[h,this]
 .have:a >b:=by omega
  simp[h,this]
theorem d52(a b:u2u):∃r,u7v (a,b)=some r/\decide (r>=0)= !r4q a b:=by
 rw[s7m];unfold t7u r4q;simp only[o7o,zOb];rcases p61 a.1 b.1 with h|h|h
 .exact⟨-1,by simp[h],by simp[h]⟩
 .simp only[h,t8f,y6w,Br,Bk,Bl,Ae,Ap,Aa,j99,zOb,Ci,Bz];refine⟨_,rfl,?_⟩;by_cases h3:a.2.2.2<b.2.2.2
  .simp[h3]
  .by_cases h4:a.2.2.2 >b.2.2.2<;>simp[h3,h4]
 .have e1:=q0c h;have e2:z7q a.1 b.1=false:=o4z.mpr (fun e=>by rw[e,t8f]at h;cases h);exact⟨1,by simp[e1,e2],by simp[e1,e2]⟩
theorem o1j(l:Hu u2u)(hl:(Ty.sl u0g).wt l<=u0i):s51 l=some (u7k l):=by
 have hb:u0i=1099511627776:=rfl;have hn:=s5t (t:=u0g) l
 have L:=s0p t3v l.length (fun i=>(l,l,(l.length:Int),i)) (fun i=>q7j (rdL u0g l i)&&(decide (i=0) || r4q (rdL u0g l (i - 1)) (rdL u0g l i))) (.inl l) (.inr false)
  (by rw[r2r];simp only[t3l,u0b,Am,Ah,Aa])
  (fun i hi=>by
   have hm:rdL u0g l i∈l:=by rw[y9a hi];exact Ag hi
   rw[r2r];simp only[t3l,u0b,hi,Ae,Ad,y8h hi,zTn,y7x (show i<4611686018427387904 by omega),s3f _ (A9 (j8h hm).1 hl),q8d,zOb,s6v,t9w,c0s];unfold q7j;generalize u81 (rdL u0g l i).1=b1;generalize decide ((rdL u0g l i).2.1.size<=12)=b2;generalize decide ((rdL u0g l i).2.1.size=0)=b3;generalize (rdL u0g l i).2.2.1=b4;generalize inB (rdL u0g l i).2.2.2 1 9999=b5;by_cases h0:i=0
   .subst h0;simp only[Ae,Ap,Aa,Dx,Cz];cases b1<;>cases b2<;>cases b3<;>cases b4<;>cases b5<;>rfl
   .obtain⟨r,hr,hr2⟩:=d52 (rdL u0g l (i - 1)) (rdL u0g l i);simp only[h0,Ah,Bh,Ad,Ci,s1c (show i<4611686018427387904 by omega) h0,y8h (show i - 1<l.length by omega),zTn,hr,hr2,zOb];cases r4q (rdL u0g l (i - 1)) (rdL u0g l i)<;>cases b1<;>cases b2<;>cases b3<;>cases b4<;>cases b5<;>rfl)
 rw[r5m (t:=u0g) l q7j r4q]at L;rw[p6g];unfold r6p;simp only[L,zOb];unfold u7k;cases l.all q7j
 .rfl
 .cases o5l u0g r4q l
  .rfl
  .simp only[Bz,Ad];rw[d81]
theorem o1k(l:Hu u2u)(hl:(Ty.sl u0g).wt l<=u0i):s56 l=some (u7k l):=by
 have hb:u0i=1099511627776:=rfl;have hn:=s5t (t:=u0g) l
 have L:=s0p t30 l.length (fun i=>(l,i)) (fun i=>q7j (rdL u0g l i)&&(decide (i=0) || r4q (rdL u0g l (i - 1)) (rdL u0g l i))) (.inl l) (.inr false)
  (by rw[r2x];simp only[t3r,u0b,Am,Ah,Aa])
  (fun i hi=>by
   have hm:rdL u0g l i∈l:=by rw[y9a hi];exact Ag hi
   rw[r2x];simp only[t3r,u0b,hi,Ae,Ad,y8h hi,zTn,y7x (show i<4611686018427387904 by omega),s3g _ (A9 (j8h hm).1 hl),r7d,zOb,s6v,t9w,c0s];unfold q7j r4q;generalize u81 (rdL u0g l i).1=b1;generalize decide ((rdL u0g l i).2.1.size<=12)=b2;generalize decide ((rdL u0g l i).2.1.size=0)=b3;generalize (rdL u0g l i).2.2.1=b4;generalize inB (rdL u0g l i).2.2.2 1 9999=b5;by_cases h0:i=0
   .subst h0;simp only[Ae,Ap,Aa,Dx,Cz];cases b1<;>cases b2<;>cases b3<;>cases b4<;>cases b5<;>rfl
   .simp only[h0,Ah,Bh,Ad,Ci,s1c (show i<4611686018427387904 by omega) h0,y8h (show i - 1<l.length by omega),zTn,zOb];rcases p61 (rdL u0g l (i - 1)).1 (rdL u0g l i).1 with h|h|h
    .have e2:z7q (rdL u0g l (i - 1)).1 (rdL u0g l i).1=false:=o4z.mpr (fun e=>by rw[e,t8f]at h;cases h);rw[h,e2];cases b1<;>cases b2<;>cases b3<;>cases b4<;>cases b5<;>rfl
    .rw[h,t8f,y6w];rw[p8g];cases decide ((rdL u0g l (i - 1)).2.2.2<(rdL u0g l i).2.2.2)<;>cases b1<;>cases b2<;>cases b3<;>cases b4<;>cases b5<;>rfl
    .have e1:=q0c h;have e2:z7q (rdL u0g l (i - 1)).1 (rdL u0g l i).1=false:=o4z.mpr (fun e=>by rw[e,t8f]at h;cases h);rw[e1,e2];cases b1<;>cases b2<;>cases b3<;>cases b4<;>cases b5<;>rfl)
 rw[r5m (t:=u0g) l q7j r4q]at L;rw[p6s];unfold r61;simp only[L,zOb];unfold u7k;cases l.all q7j
 .rfl
 .cases o5l u0g r4q l
  .rfl
  .simp only[Bz,Ad];rw[d81]
theorem d2w(n:Nat)(hn:n<=1099511627776):t58 ((),(n:Int))=some [] :=by
 rw[q37];unfold s5p;have e0:i64.wrap ((0:Int) - (0:Int))=0:=by rw[y5f (by omega) (by omega)];rfl
 have e1:i64.wrap ((n:Int) - 0)=(n:Int):=by rw[y5f (by omega) (by omega)];omega
 have e2:decide ((n:Int)<0)=false:=A7 (by omega);simp only[e0,e1,e2,Aa];by_cases h:n=0
 .subst h;simp
 .have e3:decide ((n:Int) >0)=true:=by simp;omega
  have e4:(decide ((1:Int)<=(n:Int))&&decide ((n:Int)<=1099511627776))=true:=by simp;omega
  simp only[e3,e4,Ad];simp
theorem p5t(ls:Hu (Hu u0e))(h:ls.flatten.length<=1099511627776)(hn:ls.length<=1099511627776):u24 ls=some ls.flatten:=by
 have fl:∀(i:Nat),i<=ls.length->(ls.take i).flatten.length<=ls.flatten.length:=fun i _=>by
  have:=En i ls;have h2:ls.flatten=(ls.take i).flatten++(ls.drop i).flatten:=by rw[←Ga,this]
  rw[h2,Ba];omega
 have st:∀(i:Nat) (hi:i<ls.length),(ls.take (i+1)).flatten=(ls.take i).flatten++ls[i] :=fun i hi=>by
  rw[Gm,A4 hi,Ga];simp
 have L1:=q4l u3o ls.length (fun(n:Nat) i=>(ls,(n:Int),ls,(ls.length:Int),i)) (fun _ _=> .inl (ls,(ls.flatten.length:Int))) (fun i n=>n=(ls.take i).flatten.length)
  (fun n hP=>by
   rw[Cq]at hP;subst hP;rw[s0e];simp only[u6z,u0b,Am,Ah,Aa])
  (fun i n hi hP=> .inr ⟨(ls.take (i+1)).flatten.length,rfl,rfl,by
   have h1:=fl (i+1) (by omega);have h2:(ls.take (i+1)).flatten.length=n+ls[i].length:=by rw[st i hi,Ba,hP]
   have e1:i64.wrap ((n:Int)+((ls[i].length:Nat):Int))=((n+ls[i].length:Nat):Int):=by rw[y5f (by omega) (by omega)];omega
   have e2:decide (((n+ls[i].length:Nat):Int)<0)=false:=by simp;omega
   rw[s0e];simp only[u6z,u0b,hi,Ae,Ad,y8h hi,zTn,y9a (t:=Ty.sl u0y) hi,y7x (show i<4611686018427387904 by omega),h2];rw[e1,e2];rfl⟩) 0 0 (by omega) rfl
 have L2:=q4l u29 ls.length (fun(a:Hu u0e) i=>(a,ls,(ls.length:Int),i)) (fun _ _=> .inl ls.flatten) (fun i a=>a=(ls.take i).flatten)
  (fun a hP=>by
   rw[Cq]at hP;subst hP;rw[t8j];simp only[u5t,u0b,Am,Ah,Aa])
  (fun i a hi hP=> .inr ⟨(ls.take (i+1)).flatten,rfl,rfl,by
   have h1:=fl (i+1) (by omega);have h2:(ls.take (i+1)).flatten.length=a.length+ls[i].length:=by rw[st i hi,Ba,hP]
   rw[t8j];simp only[u5t,u0b,hi,Ae,Ad,y8h hi,zTn,y9a (t:=Ty.sl u0y) hi,y7x (show i<4611686018427387904 by omega)];rw[u0v (show a.length+ls[i].length<=1099511627776 by omega),st i hi,hP];rfl⟩) 0 [] (by omega) rfl
 rw[r7b];unfold s3m;have L1' :u3o (ls,(0:Int),ls,(ls.length:Int),0)=some (.inl (ls,(ls.flatten.length:Int))):=L1;have L2' :u29 ([],ls,(ls.length:Int),0)=some (.inl ls.flatten):=L2;simp only[L1',zOb,d2w _ h,L2']
theorem d1c(l:Hu u0e)(n:Int):((List.range l.length).all fun i=>decide ((rdL u0y l i).1<n)&& !((l.take i).any fun y=>decide (y.1=(rdL u0y l i).1)))=p15 (u68 l) n:=by
 rw[Cd,Bg,q6c];unfold u68;constructor
 .intro h;constructor
  .intro x hx;obtain⟨t,ht,rfl⟩:=Bx.mp hx;obtain⟨i,hi,rfl⟩:=B7 ht;have:=h i (Bq.mpr hi);rw[Ai,Ar,y9a hi]at this;exact this.1
  .rw[D8,Dl,Cp];intro i j hi hj hij e;have:=h j (Bq.mpr hj);rw[Ai,Bj,y9a hj] at this;have hm:l[i] ∈l.take j:=by
    rw[Gy];exact⟨i,by simp;omega,by simp⟩
   have:=Ct.mp this.2 _ hm;simp only[Ar]at this;exact this e
 .rintro⟨h1,h2⟩ i hi
  have hi:=Bq.mp hi;rw[Ai,Ar,y9a hi,Bj];refine⟨h1 _ (Bx.mpr ⟨_,Ag hi,rfl⟩),?_⟩;rw[Ct];intro y hy;rw[Gy]at hy;obtain⟨j,hj,rfl⟩:=hy;simp only[Ec]at hj;rw[D8,Dl,Cp]at h2;simp only[Fc,Ar];exact h2 j i (by omega) hi (by omega)
theorem p00(l:Hu u0e)(n:Int)(hl:l.length<=1099511627776):t5n (l,n)=some (p15 (u68 l) n):=by
 have hsome:∀(m:Hu u0e) (t:u0e),m.length<=1099511627776->u85 (m,t)=some (m.any fun y=>decide (y.1=t.1)):=by
  intro m t hm;have L:=Q.first (T:=u0y) (c:=u0e) (W:=u1e) (q:=s44) (p:=fun y:u0e=>decide (y.1=t.1)) (fun x=>t1s x) m t (by omega) (fun x _=>by rw[p4d];rfl);simp only[s9v,t61,t09,u4a,t23,u5i,L,zOb];rw[←u9t];by_cases h:u0o (fun y:u0e=>decide (y.1=t.1)) m<m.length
  .simp[h]
  .simp[h]
 have L:=s0p t6v l.length (fun i=>(l,n,l,(l.length:Int),i)) (fun i=>decide ((rdL u0y l i).1<n)&& !((l.take i).any fun y=>decide (y.1=(rdL u0y l i).1))) (.inl ()) (.inr false)
  (by rw[r4x];simp only[t6g,u0b,Am,Ah,Aa])
  (fun i hi=>by
   have e1:(decide ((0:Int)<=0)&&decide ((0:Int)<=(i:Int))&&decide ((i:Int)<=(l.length:Int)))=true:=by simp;omega
   have e2:(l.take i).drop ((0:Int)).toNat=l.take i:=by simp
   have e3:=hsome (l.take i) (rdL u0y l i) (by simp;omega);rw[r4x];simp only[t6g,u0b,hi,Ae,Ad,y8h hi,zTn,y7x (show i<4611686018427387904 by omega),p8g (rdL u0y l i).1 n,e1];rw[e2,e3];cases decide ((rdL u0y l i).1<n)
   .rfl
   .simp only[Ap,Aa,zOb,Bz];cases (l.take i).any fun y=>decide (y.1=(rdL u0y l i).1)<;>rfl)
 rw[d1c]at L;rw[p9v];unfold q05;simp only[L,zOb];cases p15 (u68 l) n<;>rfl
theorem q57(b:u0m):d8i.wt b=(Ty.sl u0g).wt b.1+((Ty.sl u0y).wt b.2.1+((Ty.sl u0y).wt b.2.2.1+(0+0))):=rfl
theorem p2k{l:Hu u0e}{t:u0e}(h:t∈l):u0y.wt t<=(Ty.sl u0y).wt l:=by
 have h1:(Ty.sl u0y).wt l=l.length+(l.map u0y.wt).sum:=rfl;have h2:=o80 (f:=u0y.wt) h;omega
theorem gt3(n:Nat):decide ((n:Int) >3)= !decide (n<=3):=by by_cases h:n<=3<;>simp[h] <;>omega
theorem gt4(n:Nat):decide ((n:Int) >4)= !decide (n<=4):=by by_cases h:n<=4<;>simp[h] <;>omega
theorem u9c(t:u0e):u4c t=some (decide (t.2.1=2)):=by rw[o57];rfl
theorem t3h(b:u0m)(hw:d8i.wt b<=u0i):u3m b=some (u95 b):=by
 have hb:u0i=1099511627776:=rfl;have hbw:=q57 b;have n1:=s5t (t:=u0g) b.1;have n2:=s5t (t:=u0y) b.2.1;have n3:=s5t (t:=u0y) b.2.2.1
 have L1:=s0p t7m b.1.length (fun i=>(b,b.1,(b.1.length:Int),i)) (fun i=>(fun v:u2u=>decide (v.2.2.2<=b.2.2.2.1)) (rdL u0g b.1 i)) (.inl b) (.inr false)
  (by rw[q7k];simp only[s30,u0b,Am,Ah,Aa])
  (fun i hi=>by
   rw[q7k];simp only[s30,u0b,hi,Ae,Ad,y8h hi,zTn,y7x (show i<4611686018427387904 by omega),p8h (rdL u0g b.1 i).2.2.2 b.2.2.2.1];cases decide ((rdL u0g b.1 i).2.2.2<=b.2.2.2.1)<;>rfl)
 rw[r0y (t:=u0g) b.1 (fun v:u2u=>decide (v.2.2.2<=b.2.2.2.1))]at L1
 have L2:=s0p t4n b.2.1.length (fun i=>(b,b.2.1,(b.2.1.length:Int),i)) (fun i=>(fun t:u0e=>u93 t&&(decide (t.2.1=3)&&decide (t.2.2.2.1<=b.2.2.2.1))) (rdL u0y b.2.1 i)&&(decide (i=0) || (fun x y:u0e=>decide (x.2.2.2.1<y.2.2.2.1)) (rdL u0y b.2.1 (i - 1)) (rdL u0y b.2.1 i))) (.inl b) (.inr false)
  (by rw[q24];simp only[s1d,u0b,Am,Ah,Aa])
  (fun i hi=>by
   have hm:rdL u0y b.2.1 i∈b.2.1:=by rw[y9a hi];exact Ag hi
   have ht:=p2k hm;have hk:=t9g (rdL u0y b.2.1 i) (by omega);rw[q24];simp only[s1d,u0b,hi,Ae,Ad,y8h hi,zTn,y7x (show i<4611686018427387904 by omega),p8h (rdL u0y b.2.1 i).2.2.2.1 b.2.2.2.1,s6v,o34,zOb];rw[hk];simp only[zOb];generalize u93 (rdL u0y b.2.1 i)=b1;generalize decide ((rdL u0y b.2.1 i).2.1=3)=b2;generalize decide ((rdL u0y b.2.1 i).2.2.2.1<=b.2.2.2.1)=b3;by_cases h0:i=0
   .subst h0;simp only[Ae,Ap,Aa,Dx,Cz];cases b1<;>cases b2<;>cases b3<;>rfl
   .simp only[h0,Ah,Bh,Ad,Ci,s1c (show i<4611686018427387904 by omega) h0,y8h (show i - 1<b.2.1.length by omega),zTn,p8g (rdL u0y b.2.1 (i - 1)).2.2.2.1 (rdL u0y b.2.1 i).2.2.2.1];generalize decide ((rdL u0y b.2.1 (i - 1)).2.2.2.1<(rdL u0y b.2.1 i).2.2.2.1)=b4;cases b1<;>cases b2<;>cases b3<;>cases b4<;>rfl)
 rw[r5m (t:=u0y) b.2.1 (fun t:u0e=>u93 t&&(decide (t.2.1=3)&&decide (t.2.2.2.1<=b.2.2.2.1))) (fun x y:u0e=>decide (x.2.2.2.1<y.2.2.2.1))]at L2
 have L3:=s0p t4o b.2.2.1.length (fun i=>(b,b.2.2.1,(b.2.2.1.length:Int),i)) (fun i=>(fun t:u0e=>u93 t&&(decide (t.2.1=2)&&decide (t.2.2.1<=b.2.2.2.1))) (rdL u0y b.2.2.1 i)&&(decide (i=0) || (fun x y:u0e=>y3i x.2.2.2.2.2.2.2 y.2.2.2.2.2.2.2) (rdL u0y b.2.2.1 (i - 1)) (rdL u0y b.2.2.1 i))) (.inl b) (.inr false)
  (by rw[q25];simp only[s1e,u0b,Am,Ah,Aa])
  (fun i hi=>by
   have hm:rdL u0y b.2.2.1 i∈b.2.2.1:=by rw[y9a hi];exact Ag hi
   have ht:=p2k hm;have hk:=t9g (rdL u0y b.2.2.1 i) (by omega);rw[q25];simp only[s1e,u0b,hi,Ae,Ad,y8h hi,zTn,y7x (show i<4611686018427387904 by omega),p8h (rdL u0y b.2.2.1 i).2.2.1 b.2.2.2.1,s6v,u9c,zOb];rw[hk];simp only[zOb];generalize u93 (rdL u0y b.2.2.1 i)=b1;generalize decide ((rdL u0y b.2.2.1 i).2.1=2)=b2;generalize decide ((rdL u0y b.2.2.1 i).2.2.1<=b.2.2.2.1)=b3;by_cases h0:i=0
   .subst h0;simp only[Ae,Ap,Aa,Dx,Cz];cases b1<;>cases b2<;>cases b3<;>rfl
   .simp only[h0,Ah,Bh,Ad,Ci,s1c (show i<4611686018427387904 by omega) h0,y8h (show i - 1<b.2.2.1.length by omega),zTn];generalize y3i (rdL u0y b.2.2.1 (i - 1)).2.2.2.2.2.2.2 (rdL u0y b.2.2.1 i).2.2.2.2.2.2.2=b4;cases b1<;>cases b2<;>cases b3<;>cases b4<;>rfl)
 rw[r5m (t:=u0y) b.2.2.1 (fun t:u0e=>u93 t&&(decide (t.2.1=2)&&decide (t.2.2.1<=b.2.2.2.1))) (fun x y:u0e=>y3i x.2.2.2.2.2.2.2 y.2.2.2.2.2.2.2)]at L3;have hC:=p5t [b.2.1,b.2.2.1] (by simp only[List.flatten_cons,List.flatten_nil,Bw,Ba];omega) (by simp);have hf: [b.2.1,b.2.2.1].flatten=b.2.1++b.2.2.1:=by simp
 rw[hf]at hC;have hI:=p00 (b.2.1++b.2.2.1) b.2.2.2.2 (by rw[Ba];omega);have hV:=o1j b.1 (by omega);rw[o9y];unfold p2t;rw[hV];simp only[q8d,c0s,gt3,zOb];unfold u95 j72 j1k;generalize u7k b.1=c1;generalize inB b.2.2.2.1 0 9999=c3;generalize inB b.2.2.2.2 1 9999=c4;generalize decide (b.2.1.length<=12)=c5;generalize decide (b.2.2.1.length<=3)=c6;generalize ha1:b.1.all (fun v:u2u=>decide (v.2.2.2<=b.2.2.2.1))=a1 at L1;generalize ha2:b.2.1.all (fun t:u0e=>u93 t&&(decide (t.2.1=3)&&decide (t.2.2.2.1<=b.2.2.2.1)))=a2 at L2;generalize ha3:o5l u0y (fun x y:u0e=>decide (x.2.2.2.1<y.2.2.2.1)) b.2.1=a3 at L2;generalize ha4:b.2.2.1.all (fun t:u0e=>u93 t&&(decide (t.2.1=2)&&decide (t.2.2.1<=b.2.2.2.1)))=a4 at L3;generalize ha5:o5l u0y (fun x y:u0e=>y3i x.2.2.2.2.2.2.2 y.2.2.2.2.2.2.2) b.2.2.1=a5 at L3;generalize p15 (u68 (b.2.1++b.2.2.1)) b.2.2.2.2=a6 at hI;have hR:((t7m (b,b.1,(b.1.length:Int),0)).bind fun r5=>match r5 with
  |.inl o6=>(t4n (o6,o6.2.1,(o6.2.1.length:Int),0)).bind fun r10=>match r10 with
   |.inl o11=>(t4o (o11,o11.2.2.1,(o11.2.2.1.length:Int),0)).bind fun r15=>match r15 with
    |.inl o16=>(u24 [o16.2.1,o16.2.2.1]).bind fun y17=>(t5n (y17,o16.2.2.2.2)).bind fun y18=>some y18
    |.inr z19=>some z19
   |.inr z20=>some z20
  |.inr z21=>some z21)=some (a1&&((a2&&a3)&&((a4&&a5)&&a6))):=by
  rw[L1];cases a1
  .rfl
  .simp only[Ad,zOb,Bz];rw[L2];cases (a2&&a3)
   .rfl
   .simp only[Ad,zOb,Bz];rw[L3];cases (a4&&a5)
    .rfl
    .simp only[Ad,zOb,Bz];rw[hC];simp only[zOb];rw[hI];rfl
 cases c1<;>cases c3<;>cases c4<;>cases c5<;>cases c6<;>simp only[Ap,Bh,Ad,Aa,zOb,Fx,Fy,Bz,Cz]
 exact hR
theorem j89(l:Hu Int)(n:Int):((List.range l.length).all fun i=>((List.range i).all fun j=> !decide (rdL (Ty.int .i64) l j=rdL (Ty.int .i64) l i))&&decide (rdL (Ty.int .i64) l i<n))=p15 l n:=by
 rw[Cd,Bg,q6c];constructor
 .intro h;constructor
  .intro x hx;obtain⟨i,hi,rfl⟩:=B7 hx;have:=h i (Bq.mpr hi);rw[Ai,Ar,y9a (t:=Ty.int .i64) hi]at this;exact this.2
  .rw[D8,Cp];intro i j hi hj hij e;have:=h j (Bq.mpr hj);rw[Ai,Bg]at this;have:=this.1 i (Bq.mpr hij);rw[y9a (t:=Ty.int .i64) hi,y9a (t:=Ty.int .i64) hj,Bj,Bu]at this;exact this e
 .rintro⟨h1,h2⟩ i hi
  have hi:=Bq.mp hi;rw[Ai,Ar,y9a (t:=Ty.int .i64) hi,Bg];refine⟨fun j hj=> ?_,h1 _ (Ag hi)⟩;have hj:=Bq.mp hj;rw[D8,Cp]at h2;rw[y9a (t:=Ty.int .i64) (show j<l.length by omega),Bj,Bu];exact h2 j i (by omega) hi hj
theorem j18(b:u0m)(l:Hu Int)(hl:l.length<=1099511627776):t0c (b,l,0)=some (bif p15 l b.2.2.2.2 then .inl () else .inr false):=by
 have inner:∀i:Nat,i<l.length->t4v (b,l,(i:Int),0)=some (bif (List.range i).all (fun j=> !decide (rdL (Ty.int .i64) l j=rdL (Ty.int .i64) l i)) then .inl (b,l,(i:Int)) else .inr false):=by
  intro i hi
  exact s0p t4v i (fun j=>(b,l,(i:Int),j)) (fun j=> !decide (rdL (Ty.int .i64) l j=rdL (Ty.int .i64) l i)) (.inl (b,l,(i:Int))) (.inr false)
   (by rw[q3j];simp only[s1s,u0b,Am,Ah,Aa])
   (fun j hj=>by
    rw[q3j];simp only[s1s,u0b,hj,Ae,Ad,y8h hi,y8h (show j<l.length by omega),zTn,y7x (show j<4611686018427387904 by omega)];by_cases e:rdL (Ty.int .i64) l j=rdL (Ty.int .i64) l i
    .rw[Bb e];rfl
    .rw[A7 e];rfl)
 have L:=s0p t0c l.length (fun i=>(b,l,i)) (fun i=>((List.range i).all fun j=> !decide (rdL (Ty.int .i64) l j=rdL (Ty.int .i64) l i))&&decide (rdL (Ty.int .i64) l i<b.2.2.2.2)) (.inl ()) (.inr false)
  (by rw[q3i];simp only[s1r,u0b,Am,Ah,Aa])
  (fun i hi=>by
   rw[q3i];simp only[s1r,u0b,hi,Ae,Ad];rw[inner i hi];cases (List.range i).all fun j=> !decide (rdL (Ty.int .i64) l j=rdL (Ty.int .i64) l i)
   .rfl
   .simp only[Ad,zOb,y8h hi,zTn,y7x (show i<4611686018427387904 by omega),Bz];rw[p8g];cases decide (rdL (Ty.int .i64) l i<b.2.2.2.2)<;>rfl)
 rw[j89]at L;exact L
theorem j7t(l:Hu u0e){i:Nat}(h:i<l.length):u68 (l.take i)++ [(rdL u0y l i).1] =u68 (l.take (i+1)):=by
 rw[y9a h];unfold u68;rw[Gm,A4 h,Dh];rfl
theorem s5u(b:u0m)(hw:d8i.wt b<=549755813888):t02 b=some (u95 b):=by
 have hb:u0i=1099511627776:=rfl;have hbw:=q57 b;have n1:=s5t (t:=u0g) b.1;have n2:=s5t (t:=u0y) b.2.1;have n3:=s5t (t:=u0y) b.2.2.1
 have L1:=s0p t7o b.1.length (fun i=>(b,i)) (fun i=>(fun v:u2u=>decide (v.2.2.2<=b.2.2.2.1)) (rdL u0g b.1 i)) (.inl b) (.inr false)
  (by rw[q7p];simp only[s35,u0b,Am,Ah,Aa])
  (fun i hi=>by
   rw[q7p];simp only[s35,u0b,hi,Ae,Ad,y8h hi,zTn,y7x (show i<4611686018427387904 by omega),p8h (rdL u0g b.1 i).2.2.2 b.2.2.2.1];cases decide ((rdL u0g b.1 i).2.2.2<=b.2.2.2.1)<;>rfl)
 rw[r0y (t:=u0g) b.1 (fun v:u2u=>decide (v.2.2.2<=b.2.2.2.1))]at L1;have il:∀(l:Hu u0e) (i:Nat),i<=l.length->(u68 (l.take i)).length=i:=fun l i h=>by unfold u68;simp;omega
 have L2:=s0p t0b b.2.1.length (fun i=>(b,u68 (b.2.1.take i.toNat),i)) (fun i=>(fun t:u0e=>u93 t&&(decide (t.2.1=3)&&decide (t.2.2.2.1<=b.2.2.2.1))) (rdL u0y b.2.1 i)&&(decide (i=0) || (fun x y:u0e=>decide (x.2.2.2.1<y.2.2.2.1)) (rdL u0y b.2.1 (i - 1)) (rdL u0y b.2.1 i))) (.inl (b,u68 b.2.1)) (.inr false)
  (by rw[q3g];simp only[s1p,u0b,Am,Ah,Aa,zTn,Cq])
  (fun i hi=>by
   have hm:rdL u0y b.2.1 i∈b.2.1:=by rw[y9a hi];exact Ag hi
   have ht:=p2k hm;have hk:=s3k (rdL u0y b.2.1 i) (by omega);rw[q3g];simp only[s1p,u0b,hi,Ae,Ad,y8h hi,zTn,y7x (show i<4611686018427387904 by omega),p8h (rdL u0y b.2.1 i).2.2.2.1 b.2.2.2.1,s6v,zOb];rw[hk];have hc:Nat.ble ((u68 (b.2.1.take i)).length+ [(rdL u0y b.2.1 i).1].length) z7z=true:=u0v (by rw[il _ _ (by omega)];simp;omega);simp only[zOb];rw[hc,j7t _ hi];generalize u93 (rdL u0y b.2.1 i)=b1;generalize decide ((rdL u0y b.2.1 i).2.1=3)=b2;generalize decide ((rdL u0y b.2.1 i).2.2.2.1<=b.2.2.2.1)=b3;by_cases h0:i=0
   .subst h0;simp only[Ae,Ap,Aa,Dx,Cz];cases b1<;>cases b2<;>cases b3<;>rfl
   .simp only[h0,Ah,Bh,Ad,Ci,s1c (show i<4611686018427387904 by omega) h0,y8h (show i - 1<b.2.1.length by omega),zTn,p8g (rdL u0y b.2.1 (i - 1)).2.2.2.1 (rdL u0y b.2.1 i).2.2.2.1];generalize decide ((rdL u0y b.2.1 (i - 1)).2.2.2.1<(rdL u0y b.2.1 i).2.2.2.1)=b4;cases b1<;>cases b2<;>cases b3<;>cases b4<;>rfl)
 rw[r5m (t:=u0y) b.2.1 (fun t:u0e=>u93 t&&(decide (t.2.1=3)&&decide (t.2.2.2.1<=b.2.2.2.1))) (fun x y:u0e=>decide (x.2.2.2.1<y.2.2.2.1))]at L2
 have L3:=s0p t4u b.2.2.1.length (fun i=>(b,u68 b.2.1++u68 (b.2.2.1.take i.toNat),i)) (fun i=>(fun t:u0e=>u93 t&&(decide (t.2.1=2)&&decide (t.2.2.1<=b.2.2.2.1))) (rdL u0y b.2.2.1 i)&&(decide (i=0) || (fun x y:u0e=>y3i x.2.2.2.2.2.2.2 y.2.2.2.2.2.2.2) (rdL u0y b.2.2.1 (i - 1)) (rdL u0y b.2.2.1 i))) (.inl (b,u68 (b.2.1++b.2.2.1))) (.inr false)
  (by rw[q3h];simp only[s1q,u0b,Am,Ah,Aa,zTn,Cq];unfold u68;rw[Dh])
  (fun i hi=>by
   have hm:rdL u0y b.2.2.1 i∈b.2.2.1:=by rw[y9a hi];exact Ag hi
   have ht:=p2k hm;have hk:=s3k (rdL u0y b.2.2.1 i) (by omega);rw[q3h];simp only[s1q,u0b,hi,Ae,Ad,y8h hi,zTn,y7x (show i<4611686018427387904 by omega),p8h (rdL u0y b.2.2.1 i).2.2.1 b.2.2.2.1,s6v,zOb];rw[hk];have hz:(u68 b.2.1).length=b.2.1.length:=by unfold u68;simp
   have hc:Nat.ble ((u68 b.2.1++u68 (b.2.2.1.take i)).length+ [(rdL u0y b.2.2.1 i).1].length) z7z=true:=u0v (by rw[Ba,il _ _ (by omega),hz];simp;omega);simp only[zOb];rw[hc,Bi,j7t _ hi];generalize u93 (rdL u0y b.2.2.1 i)=b1;generalize decide ((rdL u0y b.2.2.1 i).2.1=2)=b2;generalize decide ((rdL u0y b.2.2.1 i).2.2.1<=b.2.2.2.1)=b3;by_cases h0:i=0
   .subst h0;simp only[Ae,Ap,Aa,Dx,Cz];cases b1<;>cases b2<;>cases b3<;>rfl
   .simp only[h0,Ah,Bh,Ad,Ci,s1c (show i<4611686018427387904 by omega) h0,y8h (show i - 1<b.2.2.1.length by omega),zTn];generalize y3i (rdL u0y b.2.2.1 (i - 1)).2.2.2.2.2.2.2 (rdL u0y b.2.2.1 i).2.2.2.2.2.2.2=b4;cases b1<;>cases b2<;>cases b3<;>cases b4<;>rfl)
 rw[r5m (t:=u0y) b.2.2.1 (fun t:u0e=>u93 t&&(decide (t.2.1=2)&&decide (t.2.2.1<=b.2.2.2.1))) (fun x y:u0e=>y3i x.2.2.2.2.2.2.2 y.2.2.2.2.2.2.2)]at L3;have L2' :t0b (b, [],0)=_:=L2;have e:u68 b.2.1++u68 (b.2.2.1.take (0:Int).toNat)=u68 b.2.1:=by simp[u68]
 rw[e]at L3;have hI:=j18 b (u68 (b.2.1++b.2.2.1)) (by unfold u68;rw[Da,Ba];omega);have hV:=o1k b.1 (by omega);rw[j0g];unfold p3c;rw[hV];simp only[r7d,c0s,gt3,zOb];unfold u95 j72 j1k;generalize u7k b.1=c1;generalize inB b.2.2.2.1 0 9999=c3;generalize inB b.2.2.2.2 1 9999=c4;generalize decide (b.2.1.length<=12)=c5;generalize decide (b.2.2.1.length<=3)=c6;generalize ha1:b.1.all (fun v:u2u=>decide (v.2.2.2<=b.2.2.2.1))=a1 at L1;generalize ha2:b.2.1.all (fun t:u0e=>u93 t&&(decide (t.2.1=3)&&decide (t.2.2.2.1<=b.2.2.2.1)))=a2 at L2';generalize ha3:o5l u0y (fun x y:u0e=>decide (x.2.2.2.1<y.2.2.2.1)) b.2.1=a3 at L2';generalize ha4:b.2.2.1.all (fun t:u0e=>u93 t&&(decide (t.2.1=2)&&decide (t.2.2.1<=b.2.2.2.1)))=a4 at L3;generalize ha5:o5l u0y (fun x y:u0e=>y3i x.2.2.2.2.2.2.2 y.2.2.2.2.2.2.2) b.2.2.1=a5 at L3;generalize p15 (u68 (b.2.1++b.2.2.1)) b.2.2.2.2=a6 at hI;have hR:((t7o (b,0)).bind fun r5=>match r5 with
  |.inl o6=>(t0b (o6, [],0)).bind fun r9=>match r9 with
   |.inl o10=>(t4u (o10.1,o10.2,0)).bind fun r13=>match r13 with
    |.inl o14=>(t0c (o14.1,o14.2,0)).bind fun r18=>match r18 with
     |.inl o19=>some true|.inr z20=>some z20
    |.inr z21=>some z21
   |.inr z22=>some z22
  |.inr z23=>some z23)=some (a1&&((a2&&a3)&&((a4&&a5)&&a6))):=by
  rw[L1];cases a1
  .rfl
  .simp only[Ad,zOb,Bz];rw[L2'];cases (a2&&a3)
   .rfl
   .simp only[Ad,zOb,Bz];rw[L3];cases (a4&&a5)
    .rfl
    .simp only[Ad,zOb,Bz];rw[hI];cases a6<;>rfl
 cases c1<;>cases c3<;>cases c4<;>cases c5<;>cases c6<;>simp only[Ap,Bh,Ad,Aa,zOb,Fx,Fy,Bz,Cz]
 exact hR
theorem j7p(e:u3g):d5y.wt e=d8i.wt e.1+(Ty.sl u0y).wt e.2:=rfl
theorem o87(e:u3g)(hw:d5y.wt e<=u0i):r1n e=some (j85 e):=by
 have hb:u0i=1099511627776:=rfl;have hew:=j7p e;have hbw:=q57 e.1;have n1:=s5t (t:=u0y) e.2;have n2:=s5t (t:=u0y) e.1.2.1;have n3:=s5t (t:=u0y) e.1.2.2.1
 have L:=s0p t9h e.2.length (fun i=>(e,e.2,(e.2.length:Int),i)) (fun i=>(fun t:u0e=>u93 t&&(decide (t.2.1=1)&&decide (t.2.2.1<=e.1.2.2.2.1))) (rdL u0y e.2 i)&&(decide (i=0) || (fun x y:u0e=>decide (x.1<y.1)) (rdL u0y e.2 (i - 1)) (rdL u0y e.2 i))) (.inl ()) (.inr false)
  (by rw[r8g];simp only[t8o,u0b,Am,Ah,Aa])
  (fun i hi=>by
   have hm:rdL u0y e.2 i∈e.2:=by rw[y9a hi];exact Ag hi
   have ht:=p2k hm;have hk:=t9g (rdL u0y e.2 i) (by omega);rw[r8g];simp only[t8o,u0b,hi,Ae,Ad,y8h hi,zTn,y7x (show i<4611686018427387904 by omega),p8h (rdL u0y e.2 i).2.2.1 e.1.2.2.2.1,s6v,zOb];rw[hk];simp only[zOb];generalize u93 (rdL u0y e.2 i)=b1;generalize decide ((rdL u0y e.2 i).2.1=1)=b2;generalize decide ((rdL u0y e.2 i).2.2.1<=e.1.2.2.2.1)=b3;by_cases h0:i=0
   .subst h0;simp only[Ae,Ap,Aa,Dx,Cz];cases b1<;>cases b2<;>cases b3<;>rfl
   .simp only[h0,Ah,Bh,Ad,Ci,s1c (show i<4611686018427387904 by omega) h0,y8h (show i - 1<e.2.length by omega),zTn,p8g (rdL u0y e.2 (i - 1)).1 (rdL u0y e.2 i).1];generalize decide ((rdL u0y e.2 (i - 1)).1<(rdL u0y e.2 i).1)=b4;cases b1<;>cases b2<;>cases b3<;>cases b4<;>rfl)
 rw[r5m (t:=u0y) e.2 (fun t:u0e=>u93 t&&(decide (t.2.1=1)&&decide (t.2.2.1<=e.1.2.2.2.1))) (fun x y:u0e=>decide (x.1<y.1))]at L;have hC:=p5t [e.1.2.1,e.1.2.2.1,e.2] (by simp only[List.flatten_cons,List.flatten_nil,Bw,Ba];omega) (by simp);have hf: [e.1.2.1,e.1.2.2.1,e.2].flatten=e.1.2.1++e.1.2.2.1++e.2:=by simp
 rw[hf]at hC;have hI:=p00 (e.1.2.1++e.1.2.2.1++e.2) e.1.2.2.2.2 (by rw[Ba,Ba];omega);have hB:=t3h e.1 (by omega);rw[o2h];unfold q4v;rw[hB];simp only[zOb,gt4];rw[hC];simp only[zOb];rw[hI];simp only[zOb];rw[L];unfold j85 j70;cases u95 e.1<;>cases decide (e.2.length<=4)<;>cases p15 (u68 (e.1.2.1++e.1.2.2.1++e.2)) e.1.2.2.2.2<;>try rfl
 all_goals
  cases e.2.all (fun t:u0e=>u93 t&&(decide (t.2.1=1)&&decide (t.2.2.1<=e.1.2.2.2.1)))<;>cases o5l u0y (fun x y:u0e=>decide (x.1<y.1)) e.2<;>rfl
theorem d3d{b:u0m}{o:Hu u0e}(hb:p15 (u68 (b.2.1++b.2.2.1)) b.2.2.2.2=true)(ho:o5l u0y (fun x y:u0e=>decide (x.1<y.1)) o=true):
 p15 (u68 (b.2.1++b.2.2.1++o)) b.2.2.2.2=o.all (fun t=>decide (t.1<b.2.2.2.2)&&((b.2.1.all fun x=> !decide (x.1=t.1))&&(b.2.2.1.all fun x=> !decide (x.1=t.1)))):=by
 rw[c2o (f:=fun t=>t.1)]at ho;obtain⟨h1,h2⟩:=q6c.mp hb;rw[Cd,q6c,Bg];simp only[Ai,Ar,Bg,Bj,Bu];unfold u68 at*;constructor
 .rintro⟨k1,k2⟩ t ht
  rw[Dh,Gp]at k2;refine⟨k1 _ (Bx.mpr ⟨t,by simp[ht],rfl⟩),fun x hx=> ?_,fun x hx=> ?_⟩
  .exact k2.2.2 _ (Bx.mpr ⟨x,by simp[hx],rfl⟩) _ (Bx.mpr ⟨t,ht,rfl⟩)
  .exact k2.2.2 _ (Bx.mpr ⟨x,by simp[hx],rfl⟩) _ (Bx.mpr ⟨t,ht,rfl⟩)
 .intro k;constructor
  .intro x hx;obtain⟨t,ht,rfl⟩:=Bx.mp hx;rcases Ay.mp ht with q|q
   .exact h1 _ (Bx.mpr ⟨t,q,rfl⟩)
   .exact(k t q).1
  .rw[Dh,Gp];refine⟨h2,?_,?_⟩
   .rw[D8,Dl];exact ho.imp fun {a b} q e=>by omega
   .intro a ha c hc e;obtain⟨x,hx,rfl⟩:=Bx.mp ha;obtain⟨t,ht,rfl⟩:=Bx.mp hc;rcases Ay.mp hx with q|q
    .exact(k t ht).2.1 x q e
    .exact(k t ht).2.2 x q e
theorem o88(e:u3g)(hw:d5y.wt e<=549755813888):r2a e=some (j85 e):=by
 have hb:u0i=1099511627776:=rfl;have hew:=j7p e;have hbw:=q57 e.1;have n1:=s5t (t:=u0y) e.2;have n2:=s5t (t:=u0y) e.1.2.1;have n3:=s5t (t:=u0y) e.1.2.2.1;have I1:∀(j:Int) (t:u0e),t0u (e,j,t,0)=some (bif (e.1.2.1.all fun x=> !decide (x.1=t.1)) then .inl (e,j,t) else .inr false):=fun j t=>by
  have L:=s0p t0u e.1.2.1.length (fun i=>(e,j,t,i)) (fun i=>(fun x:u0e=> !decide (x.1=t.1)) (rdL u0y e.1.2.1 i)) (.inl (e,j,t)) (.inr false)
   (by rw[r41];simp only[t6k,u0b,Am,Ah,Aa])
   (fun i hi=>by
    rw[r41];simp only[t6k,u0b,hi,Ae,Ad,y8h hi,zTn,y7x (show i<4611686018427387904 by omega)];cases decide ((rdL u0y e.1.2.1 i).1=t.1)<;>rfl)
  rw[r0y (t:=u0y) e.1.2.1 (fun x:u0e=> !decide (x.1=t.1))]at L;exact L
 have I2:∀(j:Int) (t:u0e),u79 (e,j,t,0)=some (bif (e.1.2.2.1.all fun x=> !decide (x.1=t.1)) then .inl (e,j) else .inr false):=fun j t=>by
  have L:=s0p u79 e.1.2.2.1.length (fun i=>(e,j,t,i)) (fun i=>(fun x:u0e=> !decide (x.1=t.1)) (rdL u0y e.1.2.2.1 i)) (.inl (e,j)) (.inr false)
   (by rw[r42];simp only[t6l,u0b,Am,Ah,Aa])
   (fun i hi=>by
    rw[r42];simp only[t6l,u0b,hi,Ae,Ad,y8h hi,zTn,y7x (show i<4611686018427387904 by omega)];cases decide ((rdL u0y e.1.2.2.1 i).1=t.1)<;>rfl)
  rw[r0y (t:=u0y) e.1.2.2.1 (fun x:u0e=> !decide (x.1=t.1))]at L;exact L
 have L:=s0p u9l e.2.length (fun i=>(e,i)) (fun i=>(fun t:u0e=>(u93 t&&(decide (t.2.1=1)&&decide (t.2.2.1<=e.1.2.2.2.1)))&&(decide (t.1<e.1.2.2.2.2)&&((e.1.2.1.all fun x=> !decide (x.1=t.1))&&(e.1.2.2.1.all fun x=> !decide (x.1=t.1))))) (rdL u0y e.2 i)&&(decide (i=0) || (fun x y:u0e=>decide (x.1<y.1)) (rdL u0y e.2 (i - 1)) (rdL u0y e.2 i))) (.inl ()) (.inr false)
  (by rw[r8u];simp only[t82,u0b,Am,Ah,Aa])
  (fun i hi=>by
   have hm:rdL u0y e.2 i∈e.2:=by rw[y9a hi];exact Ag hi
   have ht:=p2k hm;have hk:=s3k (rdL u0y e.2 i) (by omega);have k1:=I1 (i:Int) (rdL u0y e.2 i);have k2:=I2 (i:Int) (rdL u0y e.2 i);rw[r8u];simp only[t82,u0b,hi,Ae,Ad,y8h hi,zTn,y7x (show i<4611686018427387904 by omega),p8h (rdL u0y e.2 i).2.2.1 e.1.2.2.2.1,p8g (rdL u0y e.2 i).1 e.1.2.2.2.2,s6v,zOb];rw[hk,k1];simp only[zOb];generalize u93 (rdL u0y e.2 i)=b1;generalize decide ((rdL u0y e.2 i).2.1=1)=b2;generalize decide ((rdL u0y e.2 i).2.2.1<=e.1.2.2.2.1)=b3;generalize decide ((rdL u0y e.2 i).1<e.1.2.2.2.2)=b5;generalize (e.1.2.1.all fun x=> !decide (x.1=(rdL u0y e.2 i).1))=b6;generalize (e.1.2.2.1.all fun x=> !decide (x.1=(rdL u0y e.2 i).1))=b7 at k2⊢;have tail:((bif b6 then Sum.inl (e,(i:Int),rdL u0y e.2 i) else Sum.inr false:(u3g×Int×u0e)⊕Bool) |>fun r5=>(match r5 with
    |.inl o6=>(u79 (o6.1,o6.2.1,o6.2.2,0)).bind fun r7=>match r7 with
     |.inl o8=>u9l (o8.1,i64.wrap (o8.2+1))|.inr z9=>some (.inr z9)
    |.inr z10=>some (.inr z10)))=bif b6&&b7 then u9l (e,((i+1:Nat):Int)) else some (.inr false):=by
    cases b6
    .rfl
    .simp only[Ad];rw[k2];cases b7
     .rfl
     .simp only[Ad,zOb,y7x (show i<4611686018427387904 by omega)];rfl
   by_cases h0:i=0
   .subst h0;simp only[Ae,Ap,Aa,Dx,Cz];cases b1<;>cases b2<;>cases b3<;>cases b5<;>try rfl
    exact tail
   .simp only[h0,Ah,Bh,Ad,Ci,s1c (show i<4611686018427387904 by omega) h0,y8h (show i - 1<e.2.length by omega),zTn,p8g (rdL u0y e.2 (i - 1)).1 (rdL u0y e.2 i).1];generalize decide ((rdL u0y e.2 (i - 1)).1<(rdL u0y e.2 i).1)=b4;cases b1<;>cases b2<;>cases b3<;>cases b5<;>cases b4<;>(first|rfl|(rw[Fy];rfl)|(rw[Cz];exact tail)))
 rw[r5m (t:=u0y) e.2 (fun t:u0e=>(u93 t&&(decide (t.2.1=1)&&decide (t.2.2.1<=e.1.2.2.2.1)))&&(decide (t.1<e.1.2.2.2.2)&&((e.1.2.1.all fun x=> !decide (x.1=t.1))&&(e.1.2.2.1.all fun x=> !decide (x.1=t.1))))) (fun x y:u0e=>decide (x.1<y.1)),d0v]at L;have hB:=s5u e.1 (by omega);rw[o28];unfold q5j;rw[hB];simp only[zOb,gt4];rw[L];unfold j85 j70;cases h1:u95 e.1
 .rfl
 .have hbi:p15 (u68 (e.1.2.1++e.1.2.2.1)) e.1.2.2.2.2=true:=by
   have:=o72.mp h1;exact q6c.mpr ⟨this.below,this.nodup⟩
  cases ha:o5l u0y (fun x y:u0e=>decide (x.1<y.1)) e.2
  .cases decide (e.2.length<=4)<;>simp
  .rw[d3d hbi ha];cases decide (e.2.length<=4)
   .rfl
   .simp only[Ap,Aa,zOb,Bz,Cz];cases (e.2.all fun t:u0e=>u93 t&&(decide (t.2.1=1)&&decide (t.2.2.1<=e.1.2.2.2.1)))
    .rfl
    .simp only[Bz];cases (e.2.all fun t:u0e=>decide (t.1<e.1.2.2.2.2)&&((e.1.2.1.all fun x=> !decide (x.1=t.1))&&(e.1.2.2.1.all fun x=> !decide (x.1=t.1))))<;>rfl
theorem c0t(n:Nat):decide ((n:Int)=0)=decide (n=0):=by simp
theorem d3r(t:u0e):r1u t=some (noT t):=by
 rw[o2x];unfold q5a noT;simp only[c0t,t9w];cases decide (t.1=0)<;>cases decide (t.2.1=0)<;>cases decide (t.2.2.1=0)<;>cases decide (t.2.2.2.1=0)<;>cases decide (t.2.2.2.2.1.length=0)<;>cases decide (t.2.2.2.2.2.1.length=0)<;>cases t.2.2.2.2.2.2.1<;>rfl
theorem d3s(t:u0e):s5f t=some (noT t):=by
 rw[o3s];unfold q53 noT;simp only[c0t,t9w];cases decide (t.1=0)<;>cases decide (t.2.1=0)<;>cases decide (t.2.2.1=0)<;>cases decide (t.2.2.2.1=0)<;>cases decide (t.2.2.2.2.1.length=0)<;>cases decide (t.2.2.2.2.2.1.length=0)<;>cases t.2.2.2.2.2.2.1<;>rfl
theorem d3o(b:u0m):s8p b=some (noB b):=by
 rw[p9s];unfold q02 noB;simp only[c0t];cases decide (b.1.length=0)<;>cases decide (b.2.1.length=0)<;>cases decide (b.2.2.1.length=0)<;>cases decide (b.2.2.2.1=0)<;>rfl
theorem d3p(b:u0m):s8w b=some (noB b):=by
 rw[o0h];unfold q1q noB;simp only[c0t];cases decide (b.1.length=0)<;>cases decide (b.2.1.length=0)<;>cases decide (b.2.2.1.length=0)<;>cases decide (b.2.2.2.1=0)<;>cases decide (b.2.2.2.2=0)<;>rfl
theorem q7b(r:r21):c2f.wt r=0+(u0y.wt r.2.1+(r.2.2.1.size+(0+d8i.wt r.2.2.2.2))):=rfl
theorem p2p(r:r21)(hw:c2f.wt r<=549755813888):s41 r=some (u88 r):=by
 have hb:u0i=1099511627776:=rfl;have hr:=q7b r;have k1:=t9g r.2.1 (by omega);have k2:=t3h r.2.2.2.2 (by omega);have k3:=s3f r.2.2.1 (by omega);rw[o2o];unfold q42;rw[d3r,d3o];simp only[k1,k2,k3,o34,u9c,zOb,t9w];unfold u88;generalize u93 r.2.1=c1;generalize u95 r.2.2.2.2=c2;generalize u81 r.2.2.1=c3;generalize noT r.2.1=c4;generalize noB r.2.2.2.2=c5;generalize decide (r.2.2.1.size=0)=c6;generalize decide (r.2.1.2.1=3)=c7;generalize decide (r.2.1.2.1=2)=c8;generalize r.2.2.2.1=c9;by_cases h1:r.1=1
 .simp only[h1,Ae,Ad,Bl];cases c1<;>cases c5<;>cases c6<;>cases c7<;>cases c9<;>rfl
 .by_cases h2:r.1=2
  .simp only[h2,Ae,Ad,Bl];cases c1<;>cases c5<;>cases c6<;>cases c8<;>cases c9<;>rfl
  .by_cases h3:r.1=3
   .simp only[h3,Ae,Ad,Bl];cases c3<;>cases c4<;>cases c5<;>cases c9<;>rfl
   .by_cases h4:r.1=4
    .simp only[h4,Ae,Ad,Bl];cases c2<;>cases c4<;>cases c6<;>cases c9<;>rfl
    .simp only[h1,h2,h3,h4,Ah,Aa,Bk]
theorem p2q(r:r21)(hw:c2f.wt r<=549755813888):s49 r=some (u88 r):=by
 have hb:u0i=1099511627776:=rfl;have hr:=q7b r;have k1:=s3k r.2.1 (by omega);have k2:=s5u r.2.2.2.2 (by omega);have k3:=s3g r.2.2.1 (by omega);rw[o3g];unfold q5q;simp only[k1,k2,k3,r7d,d3s,d3p,zOb,t9w];unfold u88;generalize u93 r.2.1=c1;generalize u95 r.2.2.2.2=c2;generalize u81 r.2.2.1=c3;generalize noT r.2.1=c4;generalize noB r.2.2.2.2=c5;generalize decide (r.2.2.1.size=0)=c6;generalize r.2.2.2.1=c9;by_cases h1:r.1=1
 .simp only[h1,show inB 1 1 4=true from rfl,Ae,Ad,Bl];generalize decide (r.2.1.2.1=3)=c7;generalize decide (r.2.1.2.1=2)=c8;cases c1<;>cases c5<;>cases c6<;>cases c7<;>cases c8<;>cases c9<;>rfl
 .by_cases h2:r.1=2
  .simp only[h2,show inB 2 1 4=true from rfl,Ae,Ad,Bl];generalize decide (r.2.1.2.1=3)=c7;generalize decide (r.2.1.2.1=2)=c8;cases c1<;>cases c5<;>cases c6<;>cases c7<;>cases c8<;>cases c9<;>rfl
  .by_cases h3:r.1=3
   .simp only[h3,show inB 3 1 4=true from rfl,Ae,Ad,Bl];cases c3<;>cases c4<;>cases c5<;>cases c9<;>rfl
   .by_cases h4:r.1=4
    .simp only[h4,show inB 4 1 4=true from rfl,Ae,Ad,Bl];cases c2<;>cases c4<;>cases c6<;>cases c9<;>rfl
    .have:inB r.1 1 4=false:=by
      cases h:inB r.1 1 4
      .rfl
      .have:=p6y.mp h;omega
     simp only[h1,h2,h3,h4,this,Ah,Aa,Bk,Bh,Ad]
theorem p0m{α:Type}{P:Prop}[Decidable P]{a b:α}(h:P):(bif decide P then a else b)=a:=by rw[Bb h];rfl
theorem p5p{α:Type}{n:Nat}{a b:α}(h:n<=1099511627776):(bif Nat.ble n z7z then a else b)=a:=by rw[u0v h];rfl
theorem u8u{n:Int}(h0:0<=n)(h1:n<=1000000000):u2c n=some (q7i n):=by
 obtain⟨m,rfl⟩:∃m:Nat,n=m:=⟨n.toNat,by omega⟩;rw[o38 m (by omega)];rfl
theorem j67{n:Int}(h0:0<=n)(h1:n<=1000000000):t5v n=some (q7i n,true):=by
 rw[q4k,Al ⟨h0,h1⟩];rfl
theorem s3j{s:Hs}(h:s.size<=10000):u4g s=some (u0t s):=by
 rw[o3r];unfold q52;rw[u8u (by omega) (by omega)];simp only[zOb];have:=u2d (n:=(s.size:Int)) (by omega);rw[p0m (by omega)];rfl
theorem j8u{s:Hs}(h:s.size<=10000):t5k s=some (u0t s,true):=by
 rw[p7e s (by omega),Ao (by omega)]
theorem o0r(b:Bool):t96 b=some (j58 b):=by
 rw[j0y];unfold p3u;cases b<;>rfl
theorem p45{r:s3z}(h:r.1.size<=100/\r.2.size<=100):(j5m r).size<=204:=by
 have q1:=u09 (s:=r.1) (by omega);have q2:=u09 (s:=r.2) (by omega);unfold j5m;rw[Af];omega
theorem s6t{E:Type}(f:E->Hs)(l:Hu E)(s:Hs):l.foldl (fun s x=>s++f x) s=s++q35 f l:=p32 f l s
theorem q4j(t:u0e)(ht:u0y.wt t<=549755813888):s68 t=some (if u93 t=true then(t8i t,true) else(emp,false)):=by
 have hb:u0i=1099511627776:=rfl;rw[o6s];unfold q91;rw[s3k t (by omega)];simp only[zOb];cases hc:u93 t
 .rfl
 .have h:=p5c.mp hc;obtain⟨z1,z2,z3,z4,z5⟩:=h.small;have hi:=h.id;have hst:=h.st;have hsn:=h.snap;have hrl:=h.rlen;have v1:=u2d (n:=t.1) (by omega);have v2:=u2d (n:=t.2.1) (by omega);have v3:=u2d (n:=t.2.2.1) (by omega);have v4:=u2d (n:=t.2.2.2.1) (by omega);have v5:=u2d (n:=(t.2.2.2.2.1.length:Int)) (by omega);have v6:=u2d (n:=(t.2.2.2.2.2.1.length:Int)) (by omega);have v7:=u09 (s:=t.2.2.2.2.2.2.2) (by omega);have L1:∀A:Hs,A.size<=1000->t43 (t,A,0)=some (.inl (t,A++q35 j5m t.2.2.2.2.1)):=fun A hA=>by
   have:=t14 t43 t.2.2.2.2.1 (fun(A:Hs) i=>(t,A,i)) (fun A r=>A++j5m r) (fun A=> .inl (t,A)) (fun i A=>A.size<=1000+i*204)
    (fun A _=>by rw[q3x];simp only[s16,u0b,Am,Ah,Aa])
    (fun i hi A hP=>by
     have hr:=z1 _ (Ag hi);have hs:=p45 (r:=t.2.2.2.2.1[i]) (by omega);have hs' :=hs;unfold j5m at hs';rw[Af]at hs';refine⟨by rw[Af,C7];omega,?_⟩;rw[q3x];simp only[s16,u0b,hi,Ae,Ad,y8h hi,zTn,y9a (t:=t3d) hi,y7x (show i<4611686018427387904 by omega)];rw[s3j (by omega),s3j (by omega)];simp only[zOb];rw[p0m (by omega),p0m (by rw[Af];omega),t1z];rfl) A (by omega)
   rw[s6t]at this;exact this
  have L2:∀A:Hs,A.size<=10000->t2e (t,A,0)=some (.inl (t,A++q35 wrT t.2.2.2.2.2.1)):=fun A hA=>by
   have:=t14 t2e t.2.2.2.2.2.1 (fun(A:Hs) i=>(t,A,i)) (fun A r=>A++wrT r) (fun A=> .inl (t,A)) (fun i A=>A.size<=10000+i*304)
    (fun A _=>by rw[r84];simp only[t9c,u0b,Am,Ah,Aa])
    (fun i hi A hP=>by
     have hr:=z2 _ (Ag hi);have q1:=u09 (s:=(t.2.2.2.2.2.1[i]).1) (by omega);have q2:=u09 (s:=(t.2.2.2.2.2.1[i]).2.1) (by omega);have q3:=u4b (t.2.2.2.2.2.1[i]).2.2;refine⟨by unfold wrT;simp only[Af,C7];omega,?_⟩;rw[r84];simp only[t9c,u0b,hi,Ae,Ad,y8h hi,zTn,y9a (t:=u2m) hi,y7x (show i<4611686018427387904 by omega)];rw[s3j (by omega),s3j (by omega),o0r];simp only[zOb];rw[p0m (by omega),p0m (by rw[Af];omega),p0m (by simp only[Af];omega),t1z,t1z];rfl) A (by omega)
   rw[s6t]at this;exact this
  have n1:(q35 j5m t.2.2.2.2.1).size<=t.2.2.2.2.1.length*204:=s4p fun r hr=>p45 (by have:=z1 r hr;omega)
  have n2:(q35 wrT t.2.2.2.2.2.1).size<=t.2.2.2.2.2.1.length*304:=s4p fun w hw=>by
   have:=z2 w hw;have q1:=u09 (s:=w.1) (by omega);have q2:=u09 (s:=w.2.1) (by omega);unfold wrT;rw[Af,Af,u4b];omega
  simp only[Ap,Aa,Bl];rw[u8u (n:=t.1) (by omega) (by omega),u8u (n:=t.2.1) (by omega) (by omega),u8u (n:=t.2.2.1) (by omega) (by omega),u8u (n:=t.2.2.2.1) (by omega) (by omega),u8u (n:=(t.2.2.2.2.1.length:Int)) (by omega) (by omega)];simp only[zOb];rw[p0m (by omega),p0m (by simp only[Af];omega),p0m (by simp only[Af];omega),p0m (by simp only[Af];omega),L1 _ (by simp only[Af];omega)];simp only[zOb];rw[u8u (n:=(t.2.2.2.2.2.1.length:Int)) (by omega) (by omega)];simp only[zOb];rw[p0m (by simp only[Af];omega),L2 _ (by simp only[Af];omega)];simp only[zOb];rw[o0r,s3j (by omega)];simp only[zOb];rw[p0m (by simp only[Af,u4b];omega),p0m (by simp only[Af,u4b];omega)];unfold t8i;simp only[t1z]
theorem d19{l:Hu u0e}{t:u0e}(h:t∈l)(hl:(Ty.sl u0y).wt l<=549755813888):u0y.wt t<=549755813888:=A9 (p2k h) hl
theorem j25(l:Hu u0e)(hl:(Ty.sl u0y).wt l<=549755813888)(hn:l.length<=10000)(h:∀t∈l,TxnR t):s7c l=some (r8e l):=by
 have v1:=u2d (n:=(l.length:Int)) (by omega);have L:t47 (l,q7i (l.length:Int),0)=some (.inl (q7i (l.length:Int)++q35 t8i l)):=by
  have:=t14 t47 l (fun(A:Hs) i=>(l,A,i)) (fun A r=>A++t8i r) (fun A=> .inl A) (fun i A=>A.size<=2+i*300)
   (fun A _=>by rw[q31];simp only[s2b,u0b,Am,Ah,Aa])
   (fun i hi A hP=>by
    have hm:=Ag hi;have hr:=s5i (h _ hm);refine⟨by rw[Af,C7];omega,?_⟩;rw[q31];simp only[s2b,u0b,hi,Ae,Ad,y8h hi,zTn,y9a (t:=u0y) hi,y7x (show i<4611686018427387904 by omega)];rw[q4j _ (d19 hm hl),Al (p5c.mpr (h _ hm))];simp only[zOb];rw[p0m (by omega)]) (q7i (l.length:Int)) (by omega)
  rw[s6t]at this;exact this
 rw[o65];unfold p0f;rw[u8u (by omega) (by omega)];simp only[zOb];rw[L];rfl
theorem o85(b:u0m)(hw:d8i.wt b<=549755813888):r19 b=some (if u95 b=true then(s7l b,true) else(emp,false)):=by
 have hbw:=q57 b;rw[o27];unfold q5i;rw[s5u b hw];simp only[zOb];cases hc:u95 b
 .rfl
 .have h:=o72.mp hc;obtain⟨w1,w2,w3⟩:=d2q.mp h.vs;have hcs:=h.cs;have hx:=h.next;have hp:=h.plen;have hr:=h.rlen;have q1:=u2d (n:=b.2.2.2.1) (by omega);have q2:=u2d (n:=b.2.2.2.2) (by omega);have q3:=u2d (n:=(b.1.length:Int)) (by omega);have q4:=s4p (f:=j5c) (k:=22) (l:=b.1) (fun v hv=>p5h (w1 v hv));have q5:=r0j (l:=b.2.1) (by omega) (fun t ht=>(h.past t ht).1);have q6:=r0j (l:=b.2.2.1) (by omega) (fun t ht=>(h.ready t ht).1);have L:∀A:Hs,A.size<=1000->t19 (b,A,0)=some (.inl (b,A++q35 j5c b.1)):=fun A hA=>by
   have:=t14 t19 b.1 (fun(A:Hs) i=>(b,A,i)) (fun A r=>A++j5c r) (fun A=> .inl (b,A)) (fun i A=>A.size<=1000+i*22)
    (fun A _=>by rw[r8t];simp only[t81,u0b,Am,Ah,Aa])
    (fun i hi A hP=>by
     have hm:=w1 _ (Ag hi);have hr:=p5h hm;have hv:=r2n hm;have s1:=u09 (s:=(b.1[i]).1) (by omega);have s2:=u09 (s:=(b.1[i]).2.1) (by omega);have s3:=u4b (b.1[i]).2.2.1;have s4:=u2d (n:=(b.1[i]).2.2.2) (by omega);refine⟨by rw[Af,C7];omega,?_⟩;rw[r8t];simp only[t81,u0b,hi,Ae,Ad,y8h hi,zTn,y9a (t:=u0g) hi,y7x (show i<4611686018427387904 by omega)];rw[s3j (by omega),s3j (by omega),o0r,u8u (by omega) (by omega)];simp only[zOb];rw[p0m (by omega),p0m (by simp only[Af];omega),p0m (by simp only[Af];omega),p0m (by simp only[Af];omega)];unfold j5c;simp only[t1z]) A (by omega)
   rw[s6t]at this;exact this
  simp only[Ap,Aa,Bl];rw[u8u (n:=b.2.2.2.1) (by omega) (by omega),u8u (n:=b.2.2.2.2) (by omega) (by omega),u8u (n:=(b.1.length:Int)) (by omega) (by omega)];simp only[zOb];rw[p0m (by omega),p0m (by simp only[Af];omega),L _ (by simp only[Af];omega)];simp only[zOb];rw[j25 b.2.1 (by omega) (by omega) (fun t ht=>(h.past t ht).1),j25 b.2.2.1 (by omega) (by omega) (fun t ht=>(h.ready t ht).1)];simp only[zOb];rw[p0m (by simp only[Af];omega),p0m (by simp only[Af];omega)];unfold s7l;simp only[t1z]
theorem r1k(A:Hs)(ns:Hu Int)(hn:∀n∈ns,0<=n/\n<16384)(hl:ns.length<=10)(hA:A.size<=1000000):u7w (z7w A,ns)=some (z7w (A++q35 q7i ns)):=by
 have:=t14 t9o ns (fun(A:Hs) i=>(z7w A,ns,(ns.length:Int),i)) (fun A n=>A++q7i n) (fun A=> .inl (z7w A)) (fun i A=>A.size<=1000000+i*2)
  (fun A _=>by rw[r8p];simp only[t8x,u0b,Am,Ah,Aa])
  (fun i hi A hP=>by
   have hm:=hn _ (Ag hi);have hv:=u2d (n:=ns[i]) hm.2;refine⟨by rw[Af,C7];omega,?_⟩;rw[r8p];simp only[t8x,u0b,hi,Ae,Ad,y8h hi,zTn,y9a (t:=Ty.int .i64) hi,y7x (show i<4611686018427387904 by omega)];rw[j67 hm.1 (by omega)];simp only[zOb];rw[p5p (by rw[t0e,t0e];omega),s3o]) A (by omega)
 rw[s6t]at this;rw[o2z];unfold q5b;simp only;rw[this];rfl
theorem s7w(A:Hs)(ns:Hu Hs)(hn:∀n∈ns,n.size<=100)(hl:ns.length<=10)(hA:A.size<=1000000):u8p (z7w A,ns)=some (z7w (A++q35 u0t ns)):=by
 have:=t14 t6w ns (fun(A:Hs) i=>(z7w A,ns,(ns.length:Int),i)) (fun A n=>A++u0t n) (fun A=> .inl (z7w A)) (fun i A=>A.size<=1000000+i*102)
  (fun A _=>by rw[r4y];simp only[t6h,u0b,Am,Ah,Aa])
  (fun i hi A hP=>by
   have hm:=hn _ (Ag hi);have hv:=u09 (s:=ns[i]) (by omega);refine⟨by rw[Af,C7];omega,?_⟩;rw[r4y];simp only[t6h,u0b,hi,Ae,Ad,y8h hi,zTn,y9a (t:=Ty.str) hi,y7x (show i<4611686018427387904 by omega)];rw[j8u (by omega)];simp only[zOb];rw[p5p (by rw[t0e,t0e];omega),s3o]) A (by omega)
 rw[s6t]at this;rw[p9x];unfold q07;simp only;rw[this];rfl
theorem r4e(A:Hs)(b:Bool)(hA:A.size<=1000000):t0i (z7w A,b)=some (z7w (A++j58 b)):=by
 rw[p9w];unfold q06;have e:z7w (j58 b)= [if b then 1 else 0] :=by cases b<;>rfl
 rw[s3o,e];cases b
 .simp only[Aa];rw[p5p (by rw[t0e];simp;omega)];rfl
 .simp only[Ad];rw[p5p (by rw[t0e];simp;omega)];rfl
theorem p8m(ns:Hu Int)(hn:∀n∈ns,0<=n/\n<16384)(hl:ns.length<=10):u7w (([] :Hu Int),ns)=some (z7w (q35 q7i ns)):=by
 have:=r1k emp ns hn hl (by simp[emp,ByteArray.size]);rw[j6i]at this;exact this
theorem r9m{E:Type}(f:E->Hs)(a:E):q35 f [a] =f a:=by rw[r00,o9t,j57]
theorem o0u{E:Type}(f:E->Hs)(a b:E):q35 f [a,b] =f a++f b:=by rw[r00,r9m]
theorem o73{E:Type}(f:E->Hs)(a b c:E):q35 f [a,b,c] =f a++(f b++f c):=by rw[r00,o0u]
theorem d02{E:Type}(f:E->Hs)(a b c d e:E):q35 f [a,b,c,d,e] =f a++(f b++(f c++(f d++f e))):=by rw[r00,r00,o73]
theorem q4i(t:u0e)(ht:u0y.wt t<=549755813888):s61 t=some (if u93 t=true then(t8i t,true) else(emp,false)):=by
 have hb:u0i=1099511627776:=rfl;rw[o53];unfold q9e;rw[t9g t (by omega)];simp only[zOb];cases hc:u93 t
 .rfl
 .have h:=p5c.mp hc;obtain⟨z1,z2,z3,z4,z5⟩:=h.small;have hi:=h.id;have hst:=h.st;have hsn:=h.snap;have hrl:=h.rlen;have v1:=u2d (n:=t.1) (by omega);have v2:=u2d (n:=t.2.1) (by omega);have v3:=u2d (n:=t.2.2.1) (by omega);have v4:=u2d (n:=t.2.2.2.1) (by omega);have v5:=u2d (n:=(t.2.2.2.2.1.length:Int)) (by omega);have v6:=u2d (n:=(t.2.2.2.2.2.1.length:Int)) (by omega);have v7:=u09 (s:=t.2.2.2.2.2.2.2) (by omega);have L1:∀A:Hs,A.size<=1000->t4s (t,z7w A,t.2.2.2.2.1,(t.2.2.2.2.1.length:Int),0)=some (.inl (t,z7w (A++q35 j5m t.2.2.2.2.1))):=fun A hA=>by
   have:=t14 t4s t.2.2.2.2.1 (fun(A:Hs) i=>(t,z7w A,t.2.2.2.2.1,(t.2.2.2.2.1.length:Int),i)) (fun A r=>A++j5m r) (fun A=> .inl (t,z7w A)) (fun i A=>A.size<=1000+i*204)
    (fun A _=>by rw[q3e];simp only[s1n,u0b,Am,Ah,Aa])
    (fun i hi A hP=>by
     have hr:=z1 _ (Ag hi);have hs:=p45 (r:=t.2.2.2.2.1[i]) (by omega);refine⟨by rw[Af,C7];omega,?_⟩;rw[q3e];simp only[s1n,u0b,hi,Ae,Ad,y8h hi,zTn,y9a (t:=t3d) hi,y7x (show i<4611686018427387904 by omega)];rw[s7w A [(t.2.2.2.2.1[i]).1,(t.2.2.2.2.1[i]).2] (by intro n hn;simp only[A8,Du,Em]at hn;rcases hn with rfl|rfl<;>omega) (by simp) (by omega)];simp only[zOb];rw[o0u];rfl) A (by omega)
   rw[s6t]at this;exact this
  have L2:∀A:Hs,A.size<=10000->t17 (t,z7w A,t.2.2.2.2.2.1,(t.2.2.2.2.2.1.length:Int),0)=some (.inl (t,z7w (A++q35 wrT t.2.2.2.2.2.1))):=fun A hA=>by
   have:=t14 t17 t.2.2.2.2.2.1 (fun(A:Hs) i=>(t,z7w A,t.2.2.2.2.2.1,(t.2.2.2.2.2.1.length:Int),i)) (fun A r=>A++wrT r) (fun A=> .inl (t,z7w A)) (fun i A=>A.size<=10000+i*304)
    (fun A _=>by rw[r8m];simp only[t8u,u0b,Am,Ah,Aa])
    (fun i hi A hP=>by
     have hr:=z2 _ (Ag hi);have q1:=u09 (s:=(t.2.2.2.2.2.1[i]).1) (by omega);have q2:=u09 (s:=(t.2.2.2.2.2.1[i]).2.1) (by omega);have q3:=u4b (t.2.2.2.2.2.1[i]).2.2;refine⟨by unfold wrT;simp only[Af,C7];omega,?_⟩;rw[r8m];simp only[t8u,u0b,hi,Ae,Ad,y8h hi,zTn,y9a (t:=u2m) hi,y7x (show i<4611686018427387904 by omega)];rw[s7w A [(t.2.2.2.2.2.1[i]).1,(t.2.2.2.2.2.1[i]).2.1] (by intro n hn;simp only[A8,Du,Em]at hn;rcases hn with rfl|rfl<;>omega) (by simp) (by omega)];simp only[zOb];rw[o0u,r4e _ _ (by simp only[Af];omega)];simp only[zOb];unfold wrT;simp only[t1z]) A (by omega)
   rw[s6t]at this;exact this
  have n1:(q35 j5m t.2.2.2.2.1).size<=t.2.2.2.2.1.length*204:=s4p fun r hr=>p45 (by have:=z1 r hr;omega)
  have n2:(q35 wrT t.2.2.2.2.2.1).size<=t.2.2.2.2.2.1.length*304:=s4p fun w hw=>by
   have:=z2 w hw;have q1:=u09 (s:=w.1) (by omega);have q2:=u09 (s:=w.2.1) (by omega);unfold wrT;rw[Af,Af,u4b];omega
  simp only[Ap,Aa,Bl];rw[p8m [t.1,t.2.1,t.2.2.1,t.2.2.2.1,(t.2.2.2.2.1.length:Int)] (by intro n hn;simp only[A8,Du,Em]at hn;rcases hn with rfl|rfl|rfl|rfl|rfl<;>omega) (by simp)];simp only[zOb];rw[d02,L1 _ (by simp only[Af];omega)];simp only[zOb];rw[r1k _ [(t.2.2.2.2.2.1.length:Int)] (by intro n hn;simp only[A8,Du,Em]at hn;subst hn;omega) (by simp) (by simp only[Af];omega)];simp only[zOb];rw[r9m,L2 _ (by simp only[Af];omega)];simp only[zOb];rw[r4e _ _ (by simp only[Af];omega)];simp only[zOb];rw[s7w _ [t.2.2.2.2.2.2.2] (by intro n hn;simp only[A8,Du,Em]at hn;subst hn;omega) (by simp) (by simp only[Af,u4b];omega)];simp only[zOb];rw[r9m,s3d];unfold t8i;simp only[t1z]
theorem o84(b:u0m)(hw:d8i.wt b<=549755813888):r1l b=some (if u95 b=true then(s7l b,true) else(emp,false)):=by
 have hb:u0i=1099511627776:=rfl;have hbw:=q57 b;rw[o2d];unfold q4r;rw[t3h b (by omega)];simp only[zOb];cases hc:u95 b
 .rfl
 .have h:=o72.mp hc;obtain⟨w1,w2,w3⟩:=d2q.mp h.vs;have hcs:=h.cs;have hx:=h.next;have hp:=h.plen;have hr:=h.rlen;have q1:=u2d (n:=b.2.2.2.1) (by omega);have q2:=u2d (n:=b.2.2.2.2) (by omega);have q3:=u2d (n:=(b.1.length:Int)) (by omega);have q4:=s4p (f:=j5c) (k:=22) (l:=b.1) (fun v hv=>p5h (w1 v hv));have q5:=r0j (l:=b.2.1) (by omega) (fun t ht=>(h.past t ht).1);have q6:=r0j (l:=b.2.2.1) (by omega) (fun t ht=>(h.ready t ht).1);have L:∀A:Hs,A.size<=1000->t15 (b,z7w A,b.1,(b.1.length:Int),0)=some (.inl (b,z7w (A++q35 j5c b.1))):=fun A hA=>by
   have:=t14 t15 b.1 (fun(A:Hs) i=>(b,z7w A,b.1,(b.1.length:Int),i)) (fun A r=>A++j5c r) (fun A=> .inl (b,z7w A)) (fun i A=>A.size<=1000+i*22)
    (fun A _=>by rw[r8f];simp only[t8n,u0b,Am,Ah,Aa])
    (fun i hi A hP=>by
     have hm:=w1 _ (Ag hi);have hr:=p5h hm;have hv:=r2n hm;have s1:=u09 (s:=(b.1[i]).1) (by omega);have s2:=u09 (s:=(b.1[i]).2.1) (by omega);have s3:=u4b (b.1[i]).2.2.1;refine⟨by rw[Af,C7];omega,?_⟩;rw[r8f];simp only[t8n,u0b,hi,Ae,Ad,y8h hi,zTn,y9a (t:=u0g) hi,y7x (show i<4611686018427387904 by omega)];rw[s7w A [(b.1[i]).1,(b.1[i]).2.1] (by intro n hn;simp only[A8,Du,Em]at hn;rcases hn with rfl|rfl<;>omega) (by simp) (by omega)];simp only[zOb];rw[o0u,r4e _ _ (by simp only[Af];omega)];simp only[zOb];rw[r1k _ [(b.1[i]).2.2.2] (by intro n hn;simp only[A8,Du,Em]at hn;subst hn;omega) (by simp) (by simp only[Af];omega)];simp only[zOb];rw[r9m];unfold j5c;simp only[t1z]) A (by omega)
   rw[s6t]at this;exact this
  have IN:∀(A:Hs) (g:Hu (Hu u0e)) (n k:Int) (l:Hu u0e),A.size<=100000->l.length<=100->(Ty.sl u0y).wt l<=549755813888->(∀t∈l,TxnR t)->
   t0q (z7w A,g,n,k,l,(l.length:Int),0)=some (.inl (z7w (A++q35 t8i l),g,n,k)):=fun A g n k l hA hl hlw hok=>by
   have:=t14 t0q l (fun(A:Hs) i=>(z7w A,g,n,k,l,(l.length:Int),i)) (fun A r=>A++t8i r) (fun A=> .inl (z7w A,g,n,k)) (fun i A=>A.size<=100000+i*300)
    (fun A _=>by rw[r4r];simp only[t6a,u0b,Am,Ah,Aa])
    (fun i hi A hP=>by
     have hm:=Ag hi;have hr:=s5i (hok _ hm);refine⟨by rw[Af,C7];omega,?_⟩;rw[r4r];simp only[t6a,u0b,hi,Ae,Ad,y8h hi,zTn,y9a (t:=u0y) hi,y7x (show i<4611686018427387904 by omega)];rw[q4i _ (d19 hm hlw),Al (p5c.mpr (hok _ hm))];simp only[zOb];rw[p5p (by rw[t0e,t0e];omega),s3o]) A (by omega)
   rw[s6t]at this;exact this
  have O:∀A:Hs,A.size<=10000->t6t (z7w A, [b.2.1,b.2.2.1],2,0)=some (.inl (z7w (A++r8e b.2.1++r8e b.2.2.1))):=fun A hA=>by
   have v1:=u2d (n:=(b.2.1.length:Int)) (by omega);have v2:=u2d (n:=(b.2.2.1.length:Int)) (by omega);have e0:y4v 0 [b.2.1,b.2.2.1].length=true:=rfl;have e1:y4v 1 [b.2.1,b.2.2.1].length=true:=rfl;have r0:rdL (Ty.sl u0y) [b.2.1,b.2.2.1] (0:Int).toNat=b.2.1:=rfl;have r1:rdL (Ty.sl u0y) [b.2.1,b.2.2.1] (1:Int).toNat=b.2.2.1:=rfl;have w0:i64.wrap ((0:Int)+1)=1:=rfl;have w1:i64.wrap ((1:Int)+1)=2:=rfl;rw[s5j];simp only[t0m];rw[p0m (by omega),e0,r0,r1k A [(b.2.1.length:Int)] (by intro n hn;simp only[A8,Du,Em]at hn;subst hn;omega) (by simp) (by omega)];simp only[Ad,zOb];rw[r9m,IN _ _ _ _ b.2.1 (by simp only[Af];omega) (by omega) (by omega) (fun t ht=>(h.past t ht).1)];simp only[zOb];rw[w0,s5j];simp only[t0m];have n1:(A++q7i (b.2.1.length:Int)++q35 t8i b.2.1).size<=20000:=by
    have:A++q7i (b.2.1.length:Int)++q35 t8i b.2.1=A++r8e b.2.1:=by unfold r8e;rw[t1z]
    rw[this,Af];omega
   rw[p0m (by omega),e1,r1,r1k _ [(b.2.2.1.length:Int)] (by intro n hn;simp only[A8,Du,Em]at hn;subst hn;omega) (by simp) (by omega)];simp only[Ad,zOb];rw[r9m,IN _ _ _ _ b.2.2.1 (by rw[Af];omega) (by omega) (by omega) (fun t ht=>(h.ready t ht).1)];simp only[zOb];rw[w1,s5j];simp only[t0m];unfold r8e;simp[t1z]
  simp only[Ap,Aa,Bl];rw[p8m [b.2.2.2.1,b.2.2.2.2,(b.1.length:Int)] (by intro n hn;simp only[A8,Du,Em]at hn;rcases hn with rfl|rfl|rfl<;>omega) (by simp)];simp only[zOb];rw[o73,L _ (by simp only[Af];omega)];simp only[zOb];have e2:(([b.2.1,b.2.2.1] :Hu (Hu u0e)).length:Int)=2:=rfl;rw[e2,O _ (by simp only[Af];omega)];simp only[zOb];rw[s3d];unfold s7l;simp only[t1z]
end Go.Proofs.YtkphhjdbdnoekaaGreatDoor.Ab
