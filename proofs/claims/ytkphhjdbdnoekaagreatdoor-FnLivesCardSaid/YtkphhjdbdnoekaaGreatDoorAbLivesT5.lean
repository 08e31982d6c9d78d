import Derived.Test.YtkphhjdbdnoekaaGreatDoorAbLivesT4
import Derived.Test.YtkphhjdbdnoekaaGreatDoorAbK2
import Derived.Test.YtkphhjdbdnoekaaGreatDoorAbF4
import Derived.Test.YtkphhjdbdnoekaaGreatDoorAbS2
import Derived.Test.YtkphhjdbdnoekaaGreatDoorAbS4
import Derived.Test.YtkphhjdbdnoekaaGreatDoorAbS6
namespace Go.Proofs.YtkphhjdbdnoekaaGreatDoor.Ab
open Go Go.IntKind
set_option linter.unusedVariables false
set_option linter.unusedSimpArgs false
set_option linter.unnecessarySimpa false
set_option linter.unusedSectionVars false
structure FitS (s:u2k):Prop where
 eng:EngR s.1
 log:u2s s.2=true
structure Fit (k:Nat) (H:Hu u0e) (s:u2k):Prop extends FitS s where
 few:H.length<=k
 hist:∀t∈H,TxnR t
theorem d4y {d y:u0j} (h:j6t d=some y):u2s y=true:=by
 unfold j6t at h;split at h
 .cases h
 .split at h
  .exact(o8g h).2.1
  .cases h
theorem q7o {d y:u0j} {r:r2l} (h:t71 d r=some y):u2s y=true:=by
 unfold t71 at h;split at h
 .split at h
  .rename_i e;cases h;exact(o7k e).2.1
  .split at h
   .cases h
   .exact(o7k h).2.1
 .cases h
section
variable {k:Nat} {H:Hu u0e} {s:u2k}
theorem Fit.opens (h:Fit k H s) {e:u3m} (he:EngR e):Fit (k+1) H (e,s.2):=⟨⟨he,h.log⟩,by have:=h.few;omega,h.hist⟩
theorem Fit.leave (h:Fit k H s) (id:Int):Fit (k+1) H ((r7t s.1 id).1,s.2):=h.opens (d2e h.eng id)
theorem Fit.fix (h:Fit k H s):Fit (k+1) H (d1m s).1:=by
 unfold d1m;split
 .rename_i e;exact⟨⟨h.eng,d4y e⟩,by have:=h.few;omega,h.hist⟩
 .exact⟨⟨h.eng,h.log⟩,by have:=h.few;omega,h.hist⟩
theorem Fit.no (h:Fit k H s) (t:u0e) {s' :u2k} (he:EngR s'.1) (hl:u2s s'.2=true) (hc:s'.1.1.2.2.2.1=s.1.1.2.2.2.1):Fit (k+1) (o67 H s'.1 s.1.1.2.2.2.1 t) s' :=by
 rw[j6c t h.eng.mids hc];exact⟨⟨he,hl⟩,by have:=h.few;omega,h.hist⟩
theorem Fit.yes (h:Fit k H s) {t:u0e} {s' :u2k} (he:EngR s'.1) (hl:u2s s'.2=true) (hc:s'.1.1.2.2.2.1=s.1.1.2.2.2.1+1) (ht:TxnR t) (hs:t.2.2.1<=s.1.1.2.2.2.1) (h9:s.1.1.2.2.2.1<9999):
 Fit (k+1) (o67 H s'.1 s.1.1.2.2.2.1 t) s' :=by
 rw[j06 t h.eng.mids hc];refine⟨⟨he,hl⟩,by rw[Ba,Aw];have:=h.few;omega,fun x hx=> ?_⟩;rcases Ay.mp hx with hx | hx
 .exact h.hist x hx
 .rw[Ax.mp hx];exact d5p ht hs h9
theorem Fit.commit (h:Fit k H s) (id:Int) (t0:u0e):Fit (k+1) (o67 H (u6x s id).1.1 s.1.1.2.2.2.1 (if u2w s.1.2 id<0 then t0 else u9a s.1 id)) (u6x s id).1:=by
 unfold u6x u80;by_cases j1:s77 s.1 id=1
 .rw[Al j1,Ao (show ¬((1:Int)=0) by decide)];exact h.no _ (s' :=(s.1,s.2)) h.eng h.log rfl
 .rw[Ao j1];by_cases j0:s77 s.1 id=0
  .rw[Al j0,Al rfl];obtain⟨n,b1,b2,b3⟩:=p1p j0;rw[Ao n];obtain⟨j,hj,e1,e2,e3⟩:=u2h n;have ht:u9a s.1 id∈s.1.2:=by rw[e2];exact Ag hj
   obtain⟨t1,t2,t3⟩:=h.eng.open_ _ ht;split
   .rename_i d e;exact h.yes (s' :=(p1e s.1 (u9a s.1 id),d)) (j6z h.eng ht b3) (q7o e) rfl t1 t3 (j0n b3).2.2
   .exact h.no _ (s' :=(Ab.leaveE s.1 id,s.2)) (p1u h.eng id) h.log rfl
  .rw[Ao j0,Ao j0];exact h.no _ (s' :=(Ab.leaveE s.1 id,s.2)) (p1u h.eng id) h.log rfl
theorem Fit.prep (h:Fit k H s) (id:Int) (n:Hs):Fit (k+1) H (p4q s id n).1:=by
 have same:Fit (k+1) H s:=h.opens (e:=s.1) h.eng;unfold p4q r2k;by_cases c1:u2w s.1.2 id<0
 .rw[Al c1,Ao (show ¬((1:Int)=0) by decide)];exact same
 rw[Ao c1];cases hk:t02 n with
 | false=>rw[Al rfl,Ao (show ¬((2:Int)=0) by decide)];exact same | true=>
  rw[Ao (show ¬(true=false) by decide)];by_cases c2:0<=u0l s.1.1 n
  .rw[Al c2,Ao (show ¬((6:Int)=0) by decide)];exact same
  rw[Ao c2];by_cases c3:r3w s.1 id=0
  .rw[Al c3,Al rfl];obtain⟨j0,d0,l0⟩:=d35 c3;obtain⟨j,hj,e1,e2,e3⟩:=u2h c1;have ht:u9a s.1 id∈s.1.2:=by rw[e2];exact Ag hj
   split
   .rename_i d e;exact⟨⟨d36 h.eng ht hk l0 (d5o.mp (by omega)),q7o e⟩,by have:=h.few;omega,h.hist⟩
   .exact h.opens (p1u h.eng id)
  .rw[Ao c3,Ao c3];exact h.opens (p1u h.eng id)
theorem Fit.fin (h:Fit k H s) (n:Hs) (y:Bool) (t0:u0e):
 Fit (k+1) (o67 H (t7d s n y).1.1 s.1.1.2.2.2.1 (if u0l s.1.1 n<0 then t0 else rdL u01 s.1.1.2.2.1 (u0l s.1.1 n).toNat)) (t7d s n y).1:=by
 have same:∀t,Fit (k+1) (o67 H s.1 s.1.1.2.2.2.1 t) s:=fun t=>h.no t h.eng h.log rfl
 unfold t7d o0e;by_cases c1:u0l s.1.1 n<0
 .rw[Al c1,Ao (show ¬((1:Int)=0) by decide)];exact same _
 rw[Ao c1];by_cases c2:y=true/\r0n s.1.1=true
 .rw[Al c2,Ao (show ¬((3:Int)=0) by decide)];exact same _
 rw[Ao c2];obtain⟨j,hj,e1,e2⟩:=s27 c1;have e3:rdL u01 s.1.1.2.2.1 (u0l s.1.1 n).toNat=s.1.1.2.2.1[j] :=by rw[e1];exact y9a hj
 by_cases c3:y=true
 .rw[Al c3,Al rfl];have hf:r0n s.1.1=false:=by
   cases q:r0n s.1.1 with
   | false=>rfl | true=>exact absurd ⟨c3,q⟩ c2
  have ht:rdL u01 s.1.1.2.2.1 (u0l s.1.1 n).toNat∈s.1.1.2.2.1:=by rw[e3];exact Ag hj
  obtain⟨t1,t2,t3⟩:=h.eng.base.ready _ ht;split
  .rename_i d e;rw[Ao c1];exact h.yes (s' :=(c1z s.1 (rdL u01 s.1.1.2.2.1 (u0l s.1.1 n).toNat),d)) (d8j h.eng ht hf) (q7o e) rfl t1 t3 (j0n hf).2.2
  .exact same _
 .rw[Ao c3,Al rfl];split
  .rename_i d e;exact h.no _ (s' :=(Ab.noE s.1 n,d)) (c4o h.eng n) (q7o e) rfl
  .exact same _
theorem FitS.fit (h:FitS s):Fit 0 [] s:=⟨h,Cn _,fun t ht=>by cases ht⟩
theorem d11 {b:u0m} (hb:BaseR b):EngR (b, []):=⟨hb,Cn _,fun t ht=>(by cases ht),List.Pairwise.nil,by simpa using hb.below,by simpa using hb.nodup⟩
end
def fig (n:Nat):Int:=if n<10 then 48+(n:Int) else 87+(n:Int)
theorem d8i {n:Nat} (h:n<200):u8.wrap (n:Int)=(n:Int):=d1c (by omega)
theorem j96 (n:Nat) (h:n<16):s2x (n:Int)=some (fig n):=by
 rw[p9v];unfold q1c fig;by_cases hc:n<10
 .have:decide ((n:Int)<(10:Int))=true:=by simp;omega
  have e1:i64.wrap ((48:Int)+(n:Int))=((48+n:Nat):Int):=by rw[y5f (by omega) (by omega)];omega
  rw[this,Ad,Al hc,e1,d8i (by omega)];exact Dj some (by omega)
 .have:decide ((n:Int)<(10:Int))=false:=by simp;omega
  have e1:i64.wrap ((97:Int)+(n:Int))=(97:Int)+(n:Int):=y5f (by omega) (by omega);have e2:i64.wrap ((97:Int)+(n:Int) - 10)=((87+n:Nat):Int):=by rw[y5f (by omega) (by omega)];omega
  rw[this,Aa,Ao hc,e1,e2,d8i (by omega)];exact Dj some (by omega)
theorem c5d:∀k:Nat,k<10->y7s [fig k] =(⟨#[UInt8.ofNat (48+k)]⟩:Hs):=by decide
theorem o3o (u:Nat):y6b (u:Int)=⟨(Lib.decDigits u).toArray⟩:=by unfold y6b;rw[Lib.itoa_nonneg]
theorem d14 {u:Nat} (h: ¬u<10):y6b (u:Int)=y6b ((u / 10:Nat):Int)++⟨#[UInt8.ofNat (48+u % 10)]⟩:=by
 rw[o3o,o3o,Lib.decDigits,dif_neg h];apply Gf;simp[Ft]
theorem j93 {u:Nat} (h:u<10):y6b (u:Int)=⟨#[UInt8.ofNat (48+u)]⟩:=by
 rw[o3o,Lib.decDigits_one h]
theorem j94:∀(m:Nat) (u:Nat) (s:Hs),u<10^m->0<u->u<9223372036854775808->s.size+m<=1000->s2e ((u:Int),false,s)=some (.inl (false,y6b (u:Int)++s))
 | 0,u,s,h1,h2,h3,h4=>by simp at h1;omega
 | m+1,u,s,h1,h2,h3,h4=>by
  have e1:Int.tmod (u:Int) 10=((u % 10:Nat):Int):=j4m u 10;have e2:Int.tdiv (u:Int) 10=((u / 10:Nat):Int):=d3b u 10;have d1:decide ((u:Int)=0)=false:=A7 (by omega);have d2:decide (((u % 10:Nat):Int)<0)=false:=A7 (by omega);have hl:(y7s [fig (u % 10)]).size+s.size<=140737488355328:=by rw[u58];simp only[Aw];omega
  rw[q3a];simp only[s1s,d1,e1,e2,d2,Bh,Ad,Aa,j96 (u % 10) (by omega),zOb,hl,Ae,y8q (show u / 10<=4611686018427387904 by omega)];rw[c5d (u % 10) (by omega)];by_cases c:u<10
  .have z:u / 10=0:=by omega
   have z2:u % 10=u:=by omega
   rw[z,q3a,z2,←j93 c];simp[s1s]
  .have p:u / 10<10^m:=by rw[Gr] at h1;omega
   have:=j94 m (u / 10) (⟨#[UInt8.ofNat (48+u % 10)]⟩++s) p (by omega) (by omega) (by rw[Af];show 1+s.size+m<=1000;omega);rw[this,d14 c,ByteArray.append_assoc]
theorem j1p {n:Int} (h0:0<=n) (h1:n<=9223372036854775807):r5o n=some (y6b n):=by
 obtain⟨u,rfl⟩:∃u:Nat,n=(u:Int):=⟨n.toNat,by omega⟩;rw[o51];unfold q87;by_cases c:u=0
 .subst c;have:=j93 (u:=0) (by omega);simp only[this];rfl
 .have p:u<10^19:=by have:(10:Nat)^19=10000000000000000000:=by decide
                     omega
  have e:=j94 19 u (⟨#[]⟩:Hs) p (by omega) (by omega) (by decide);have d:decide ((u:Int)<0)=false:=A7 (by omega);have d0:decide ((u:Int)=0)=false:=A7 (by omega);have ez:y6b (u:Int)++(⟨#[]⟩:Hs)=y6b (u:Int):=ByteArray.append_empty;simp only[d0,Aa,d,e,zOb,ez]
def j90:Hs:=⟨#[44]⟩
def q3z (p:PrT):Hs:=p.1++(⟨#[61]⟩:Hs)++p.2
def s4j (l:Hu PrT):Hs:=z6k (l.map q3z) j90
theorem o3p (s:Hs):z6k [] s=⟨#[]⟩:=by simp[z6k,Lib.join_nil]
theorem j3t (x s:Hs):z6k [x] s=x:=by
 apply Gf;simp[z6k,Lib.join_one]
theorem j8i (x:Hs) (r:Hu Hs) (y s:Hs):z6k ((x::r)++ [y]) s=z6k (x::r) s++s++y:=by
 apply Gf;apply Fj;simp[z6k,Lib.join_cons,Lib.joinTail,Ft]
theorem o7x (l:Hu Hs) (y s:Hs) (h:l≠ []):z6k (l++ [y]) s=z6k l s++s++y:=by
 cases l with
 | nil=>exact absurd rfl h | cons x r=>exact j8i x r y s
theorem o31 {l:Hu PrT} (hs:∀x∈l,x.1.size<=3/\x.2.size<=12):∀i:Nat,i<=l.length->(s4j (l.take i)).size<=17*i:=by
 intro i
 induction i with
 | zero=>
  intro _;show(z6k ((l.take 0).map q3z) j90).size<=_;rw[List.take_zero,Eh,o3p];exact Au _
 | succ i ih=>
  intro hi;have hlt:i<l.length:=by omega
  have:=ih (by omega);obtain⟨s1,s2⟩:=hs _ (Ag hlt);have z1:(⟨#[44]⟩:Hs).size=1:=rfl;have z2:(⟨#[61]⟩:Hs).size=1:=rfl;unfold s4j at this ⊢;rw[B9 hlt,Dh,List.map_singleton];by_cases c:(l.take i).map q3z= []
  .rw[c,Cf,j3t];simp only[q3z,Af,z2];omega
  .have zc:j90.size=1:=rfl;rw[o7x _ _ _ c];simp only[q3z,Af,zc,z2];omega
theorem d0k {l:Hu PrT} (hl:l.length<=200) (hs:∀x∈l,x.1.size<=3/\x.2.size<=12):∀(d i:Nat),i+d=l.length->t2g (l,s4j (l.take i),(i:Int))=some (.inl (s4j l)):=by
 intro d
 induction d with
 | zero=>
  intro i hi;rw[r8w];simp only[t9d,u0b,show ¬i<l.length by omega,Ah,Aa];rw[List.take_of_length_le (by omega)]
 | succ d ih=>
  intro i hi;have hlt:i<l.length:=by omega
  obtain⟨s1,s2⟩:=hs _ (Ag hlt);have ha:=o31 hs i (by omega);have z1:(⟨#[44]⟩:Hs).size=1:=rfl;have z2:(⟨#[61]⟩:Hs).size=1:=rfl;have nx:=ih (i+1) (by omega);have st:s4j (l.take (i+1))=if i=0 then l[i].1++(⟨#[61]⟩:Hs)++l[i].2 else s4j (l.take i)++(⟨#[44]⟩:Hs)++l[i].1++(⟨#[61]⟩:Hs)++l[i].2:=by
   unfold s4j;rw[B9 hlt,Dh,List.map_singleton];split
   .rename_i c;subst c;simp[j3t,q3z]
   .rename_i c;rw[o7x _ _ _ (by simp;exact⟨c,by intro q;rw[q] at hlt;simp at hlt⟩)];simp only[q3z,j90,ByteArray.append_assoc]
  rw[r8w];simp only[t9d,u0b,hlt,Ae,Ad,y8h hlt,zTn,y9a (t:=d7i) hlt,Af,z1,z2];rw[y7x (by omega)];by_cases c:(i:Int) >0
  .rw[st,Ao (by omega)] at nx;simp only[c,Ae,Ad,show(s4j (l.take i)).size+1<=140737488355328 by omega,show(s4j (l.take i)).size+1+l[i].1.size<=140737488355328 by omega,show(s4j (l.take i)).size+1+l[i].1.size+1<=140737488355328 by omega,show(s4j (l.take i)).size+1+l[i].1.size+1+l[i].2.size<=140737488355328 by omega];exact nx
  .have c0:i=0:=by omega
   rw[st,Al c0] at nx;have e0:s4j (l.take i)=(⟨#[]⟩:Hs):=by rw[c0];simp[s4j,o3p]
   have z0:(⟨#[]⟩:Hs).size=0:=rfl;rw[e0];simp only[c,Ah,Aa,Ae,Ad,z0,show 0+l[i].1.size<=140737488355328 by omega,show 0+l[i].1.size+1<=140737488355328 by omega,show 0+l[i].1.size+1+l[i].2.size<=140737488355328 by omega];have e1:(⟨#[]⟩:Hs)++l[i].1=l[i].1:=ByteArray.empty_append;rw[e1];exact nx
theorem j1x {l:Hu PrT} (hl:l.length<=200) (hs:∀x∈l,x.1.size<=3/\x.2.size<=12):r1q l=some (s4j l):=by
 have e:=d0k hl hs l.length 0 (by omega);have e0:s4j (l.take 0)=(⟨#[]⟩:Hs):=by simp[s4j,o3p]
 rw[e0] at e;have e:t2g (l,(⟨#[]⟩:Hs),0)=some (.inl (s4j l)):=e;rw[o3e];unfold q5w;simp only[e,zOb]
abbrev EvT:=j2k.den
def d76:Hs:=⟨#[45]⟩
def j66:Hs:=⟨#[]⟩
def o3i (g:u3m×Hs×Bool×Int):Hs:=if g.2.2.2=0/\g.2.2.1=false then d76 else g.2.1
def r7u (s:u3m) (e:EvT):Int×Hs×u3m:=
 if e.1=1 then((s0s s).2.2,if(s0s s).2.2=0 then y6b (s0s s).2.1 else j66,(s0s s).1)
 else if e.1=2 then((j1g s e.2.1 e.2.2.1).2.2.2,o3i (j1g s e.2.1 e.2.2.1),(j1g s e.2.1 e.2.2.1).1)
 else if e.1=3 then((p6l s e.2.1 (e.2.2.1,e.2.2.2.1)).2.2,s4j (p6l s e.2.1 (e.2.2.1,e.2.2.2.1)).2.1,(p6l s e.2.1 (e.2.2.1,e.2.2.2.1)).1)
 else if e.1=4 then((j7d s e.2.1 (e.2.2.1,e.2.2.2.1,false)).2,j66,(j7d s e.2.1 (e.2.2.1,e.2.2.2.1,false)).1)
 else((j7d s e.2.1 (e.2.2.1,j66,true)).2,j66,(j7d s e.2.1 (e.2.2.1,j66,true)).1)
def j3i (s:u2k) (H:Hu u0e) (e:EvT):Int×Hu u0e×u2k:=
 if e.1=6 then((u6x s e.2.1).2,o67 H (u6x s e.2.1).1.1 s.1.1.2.2.2.1 (if u2w s.1.2 e.2.1<0 then u6a else u9a s.1 e.2.1),(u6x s e.2.1).1)
 else if e.1=7 then((r7t s.1 e.2.1).2,H,((r7t s.1 e.2.1).1,s.2))
 else if e.1=8 then((p4q s e.2.1 e.2.2.1).2,H,(p4q s e.2.1 e.2.2.1).1)
 else((t7d s e.2.2.1 (decide (e.1=9))).2,o67 H (t7d s e.2.2.1 (decide (e.1=9))).1.1 s.1.1.2.2.2.1 (if u0l s.1.1 e.2.2.1<0 then u6a else rdL u01 s.1.1.2.2.1 (u0l s.1.1 e.2.2.1).toNat),(t7d s e.2.2.1 (decide (e.1=9))).1)
def p91 (d:u0j) (e:EvT):u0j:=if o8b (u2v d (⟨#[120]⟩:Hs) 0 e.2.2.2.2 e.2.1) d=true then u2v d (⟨#[120]⟩:Hs) 0 e.2.2.2.2 e.2.1 else d
def doC (s:u2k) (H:Hu u0e) (e:EvT):Int×Hs×Hu u0e×u2k:=
 if e.1<=5 then((r7u s.1 e).1,(r7u s.1 e).2.1,H,((r7u s.1 e).2.2,s.2))
 else if e.1=11 then(if(d1m s).2=true then 0 else 3,j66,H,(d1m s).1)
 else if e.1=12 then(if(p11 (p91 s.2 e)).2=true then(0,j66,H,(p11 (p91 s.2 e)).1) else(1,j66,H,s))
 else((j3i s H e).1,j66,(j3i s H e).2.1,(j3i s H e).2.2)
theorem ev5 {q:Int} (h1:1<=q) (h2:q<=5):q=1\/q=2\/q=3\/q=4\/q=5:=by omega
theorem j65 {e:u3m} (hE:EngR e):0<=(s0s e).2.1/\(s0s e).2.1<=9999:=by
 have:=hE.base.next;unfold s0s;split
 .exact⟨by show 0<=e.1.2.2.2.2;omega,this.2⟩
 .exact⟨by show(0:Int)<=0;omega,by show(0:Int)<=9999;omega⟩
theorem d5j {s:u3m} (hE:EngR s) {e:EvT} (h1:1<=e.1) (h5:e.1<=5):EngR (r7u s e).2.2:=by
 obtain⟨kd,at_,key,tx,kp⟩:=e;have hg:EngR (j1g s at_ key).1:=by rw[d17];exact d31 hE (fun q=>by rw[j00];exact q)
 have hs:EngR (p6l s at_ (key,tx)).1:=by rw[d0v];exact d31 hE (fun q=>q)
 rcases ev5 h1 h5 with q | q | q | q | q<;>(have q:kd=_:=q;subst q)
 .exact d12 hE
 .exact hg
 .exact hs
 .exact d8b hE
 .exact d8b hE
theorem c06 {s:u2k} (hE:EngR s.1) (H:Hu u0e) (r:p5j) {e:EvT} (he:EvR e) (h5:e.1<=5):
 t1g ((s,H,r),e)=some ((r7u s.1 e).1,(r7u s.1 e).2.1,(((r7u s.1 e).2.2,s.2),H,r)):=by
 obtain⟨kd,at_,key,tx,kp⟩:=e;have k1:(1:Int)<=kd:=he.kind.1;have hk:key.size<=6:=he.key6;have ht5:tx.size<=20:=he.text;have h5:kd<=(5:Int):=h5;rw[o6y];unfold q95;rcases ev5 k1 h5 with rfl | rfl | rfl | rfl | rfl
 .have hn:=j65 hE;have hd:=j1p (n:=(s0s s.1).2.1) hn.1 (by omega);simp only[Ae,Ad,j7v hE,zOb];by_cases c:(s0s s.1).2.2=0
  .simp only[c,Ae,Ap,Aa,hd,zOb,r7u,Bl]
  .simp only[c,Ah,Bh,Ad,r7u,Bl,Bk];rfl
 .simp only[show decide ((2:Int)=1)=false by decide,Aa,Ae,Ad,j5a hE at_ (show key.size<=1048576 by omega),zOb];have e0:r7u s.1 ((2:Int),at_,key,tx,kp)=((j1g s.1 at_ key).2.2.2,o3i (j1g s.1 at_ key),(j1g s.1 at_ key).1):=rfl;rw[e0];obtain⟨g,hg⟩:∃g,g=j1g s.1 at_ key:=⟨_,rfl⟩;rw[←hg];unfold o3i;by_cases c:g.2.2.2=0
  .cases c2:g.2.2.1
   .simp only[c,c2,Ae,Ad,zOb,Bh,and_self,Bl];rfl
   .simp only[c,c2,Ae,Ad,Aa,zOb,Ap,Fm,and_false,Bk]
  .simp only[c,Ah,Aa,zOb,false_and,Bk]
 .simp only[show decide ((3:Int)=1)=false by decide,show decide ((3:Int)=2)=false by decide,Aa,Ae,Ad,o82 hE at_ (r:=(key,tx)) ⟨by show key.size<=_;omega,by show tx.size<=_;omega⟩,j1x (p12 hE at_ (key,tx)).1 (p12 hE at_ (key,tx)).2,zOb];rfl
 .simp only[show decide ((4:Int)=1)=false by decide,show decide ((4:Int)=2)=false by decide,show decide ((4:Int)=3)=false by decide,Aa,Ae,Ad,o0v hE at_ (w:=(key,tx,false)) (by show key.size<=_;omega),zOb];rfl
 .simp only[show decide ((5:Int)=1)=false by decide,show decide ((5:Int)=2)=false by decide,show decide ((5:Int)=3)=false by decide,show decide ((5:Int)=4)=false by decide,Aa,o0v hE at_ (w:=(key,(⟨#[]⟩:Hs),true)) (by show key.size<=_;omega),zOb];rfl
theorem q7y {n:Nat} (h:n<=100000000):Nat.ble n z7z=true:=Nat.ble_eq_true_of_le (A9 h (by decide))
theorem j7w {t:u0e} (h:s71 t):u05 t=some t:=by
 rw[p0e];unfold r4z;have h1:Nat.ble (([] :Hu s5b).length+t.2.2.2.2.1.length) z7z=true:=q7y (by have:=h.1;rw[Cc];omega);have h2:Nat.ble (([] :Hu WrT).length+t.2.2.2.2.2.1.length) z7z=true:=q7y (by have:=h.2;rw[Cc];omega);simp only[h1,h2,Ad,Cf]
theorem q7i (s:u2k) (H:Hu u0e) (r:p5j) (c:Int) {t:u0e} (ht:s71 t) (hn:H.length<=1000000):u41 ((s,H,r),c,t)=some (s,o67 H s.1 c t,r):=by
 have h1:Nat.ble (([] :Hu u0e).length+H.length) z7z=true:=q7y (by rw[Cc];omega);rw[p6f];unfold r6s o67;by_cases q:s.1.1.2.2.2.1=i64.wrap (c+1)
 .rw[Al q];have h2:∀x:u0e,Nat.ble (H.length+ [x].length) z7z=true:=fun x=>q7y (by rw[Aw];omega)
  simp only[q,Ae,Ap,Aa,j7w ht,zOb,h1,h2,Ad,Cf];rfl
 .rw[Ao q];simp only[q,Ah,Bh,Ad]
theorem j4x:s71 u6a:=⟨by show 0<=1048576;omega,by show 0<=1048576;omega⟩
theorem c1n {q:Int} (h1:6<=q) (h2:q<=10):q=6\/q=7\/q=8\/q=9\/q=10:=by omega
theorem c42 {k:Nat} {H:Hu u0e} {s:u2k} (h:Fit k H s) (hk:k<=1000) (r:p5j) {e:EvT} (he:EvR e) (h6:6<=e.1) (h10:e.1<=10):
 t4b ((s,H,r),e)=some ((j3i s H e).1,((j3i s H e).2.2,(j3i s H e).2.1,r)):=by
 have hE:=h.eng;have hd:=h.log;have hn:=h.few;obtain⟨kd,at_,key,tx,kp⟩:=e;have h6:(6:Int)<=kd:=h6;have h10:kd<=(10:Int):=h10;have key6:key.size<=6:=he.key6;have fo:∀t∈s.1.2,s71 t:=fun t ht=>(hE.fewO).2 t ht
 have fr:∀t∈s.1.1.2.2.1,s71 t:=fun t ht=>(hE.fewB).2.2.2 t ht
 have hzero:((0,0,0,0, [], [],false,(⟨#[]⟩:Hs)):u0e)=u6a:=rfl;rw[j0l];unfold p3k
 have fin:∀y:Bool,((u2d (s.1.1,key)).bind fun y8=>(bif (decide (y8>=(0:Int))) then(bif (y4v y8 s.1.1.2.2.1.length) then((t0l ((s,H,r),(key,y))).bind fun y9=>((u41 (y9.2,(s.1.1.2.2.2.1,(rdL u01 s.1.1.2.2.1 (y8).toNat)))).bind fun y10=>(some (y9.1,y10)))) else none) else((t0l ((s,H,r),(key,y))).bind fun y11=>((u41 (y11.2,(s.1.1.2.2.2.1,u6a))).bind fun y12=>(some (y11.1,y12))))))=
  some ((t7d s key y).2,((t7d s key y).1,o67 H (t7d s key y).1.1 s.1.1.2.2.2.1 (if u0l s.1.1 key<0 then u6a else rdL u01 s.1.1.2.2.1 (u0l s.1.1 key).toNat),r)):=fun y=>by
  have e1:=s3d s.1.1 key (by have:=hE.base.rlen;omega);simp only[e1,zOb,o63 hE hd (H,r) (by omega:key.size<=100) y];by_cases c:u0l s.1.1 key<0
  .rw[Al c];have c1:decide (u0l s.1.1 key>=0)=false:=A7 (by omega);simp only[c1,Aa,q7i _ H r _ j4x (by omega),zOb]
  .rw[Ao c];have c1:decide (u0l s.1.1 key>=0)=true:=Bb (by omega);obtain⟨j,hj,e2,e3⟩:=s27 c;have e4:(u0l s.1.1 key).toNat=j:=by omega
   have hf:s71 (rdL u01 s.1.1.2.2.1 (u0l s.1.1 key).toNat):=by
    rw[e4,y9a (t:=u01) hj];exact fr _ (Ag hj)
   have hg:y4v (u0l s.1.1 key) s.1.1.2.2.1.length=true:=by rw[e2];exact y8h hj
   simp only[c1,Ad,hg,q7i _ H r _ hf (by omega),zOb]
 rcases c1n h6 h10 with rfl | rfl | rfl | rfl | rfl
 .have e1:=t7e s.1 at_ (by have:=hE.olen;omega);simp only[Ae,Ad,e1,zOb,o62 hE hd (H,r) at_,hzero];have e0:j3i s H ((6:Int),at_,key,tx,kp)=((u6x s at_).2,o67 H (u6x s at_).1.1 s.1.1.2.2.2.1 (if u2w s.1.2 at_<0 then u6a else u9a s.1 at_),(u6x s at_).1):=rfl;rw[e0];by_cases c:u2w s.1.2 at_<0
  .rw[Al c];have c1:decide (u2w s.1.2 at_>=0)=false:=A7 (by omega);simp only[c1,Aa,q7i _ H r _ j4x (by omega),zOb]
  .rw[Ao c];have c1:decide (u2w s.1.2 at_>=0)=true:=Bb (by omega);obtain⟨j,hj,e2,e3,e5⟩:=u2h c;have hf:s71 (u9a s.1 at_):=by rw[e3];exact fo _ (Ag hj)
   have hg:y4v (u2w s.1.2 at_) s.1.2.length=true:=by rw[e2];exact y8h hj
   have ha:rdL u01 s.1.2 (u2w s.1.2 at_).toNat=u9a s.1 at_:=rfl;simp only[c1,Ad,hg,ha,q7i _ H r _ hf (by omega),zOb]
 .simp only[show decide ((7:Int)=6)=false by decide,Aa,Ae,Ad,j71 hE at_,zOb];rfl
 .simp only[show decide ((8:Int)=6)=false by decide,show decide ((8:Int)=7)=false by decide,Aa,Ae,Ad,o3s hE hd (H,r) at_ (by omega:key.size<=1048576),zOb];rfl
 .have:=fin true;have e0:j3i s H ((9:Int),at_,key,tx,kp)=((t7d s key true).2,o67 H (t7d s key true).1.1 s.1.1.2.2.2.1 (if u0l s.1.1 key<0 then u6a else rdL u01 s.1.1.2.2.1 (u0l s.1.1 key).toNat),(t7d s key true).1):=rfl;rw[e0];simpa only[show decide ((9:Int)=6)=false by decide,show decide ((9:Int)=7)=false by decide,show decide ((9:Int)=8)=false by decide,Ae,Aa,hzero] using this
 .have:=fin false;have e0:j3i s H ((10:Int),at_,key,tx,kp)=((t7d s key false).2,o67 H (t7d s key false).1.1 s.1.1.2.2.2.1 (if u0l s.1.1 key<0 then u6a else rdL u01 s.1.1.2.2.1 (u0l s.1.1 key).toNat),(t7d s key false).1):=rfl;rw[e0];simpa only[show decide ((10:Int)=6)=false by decide,show decide ((10:Int)=7)=false by decide,show decide ((10:Int)=8)=false by decide,show decide ((10:Int)=9)=false by decide,Aa,hzero] using this
theorem d15 {k:Nat} {H:Hu u0e} {s:u2k} (h:Fit k H s) {e:EvT} (h6:6<=e.1) (h10:e.1<=10):Fit (k+1) (j3i s H e).2.1 (j3i s H e).2.2:=by
 obtain⟨kd,at_,key,tx,kp⟩:=e;rcases c1n h6 h10 with q | q | q | q | q<;>(have q:kd=_:=q;subst q)
 .exact h.commit at_ u6a
 .exact h.leave at_
 .exact h.prep at_ key
 .exact h.fin key true u6a
 .exact h.fin key false u6a
theorem j0s {d:u0j} (hd:u2s d=true) (e:EvT):u2s (p91 d e)=true:=by
 unfold p91;split
 .cases ha:append_ d (⟨#[120]⟩:Hs) with
  | none=>rw[o46 ha];exact hd | some y=>exact((o47 ha 0 e.2.2.2.2 e.2.1).1 rfl).1
 .exact hd
theorem c05 {d:u0j} (hd:u2s d=true) (e:EvT):t1f (d,e)=some (p91 d e):=by
 have hw:=u8c hd;have e1:=o4v (d:=d) (t:=(⟨#[120]⟩:Hs)) hw (by decide) 0 e.2.2.2.2 e.2.1;have w1:=p7u (d:=d) (t:=(⟨#[120]⟩:Hs)) hw 0 e.2.2.2.2 e.2.1;rw[o6x];unfold q94 p91;simp only[e1,o40 (u2v d (⟨#[120]⟩:Hs) 0 e.2.2.2.2 e.2.1) d (by omega) (by omega),u9k d (by unfold u0i;omega),zOb];cases o8b (u2v d (⟨#[120]⟩:Hs) 0 e.2.2.2.2 e.2.1) d<;>rfl
theorem d20 {k:Nat} {H:Hu u0e} {s:u2k} (h:Fit k H s) {x:u0j} (hx:u2s x=true):Fit (k+1) H (p11 x).1\/(p11 x).2=false:=by
 unfold p11 p92;cases hp:r5c (u0h x) with
 | none=>right;simp | some b=>left;rw[Al ⟨hx,rfl⟩];exact⟨⟨d11 (p73 hp),hx⟩,by have:=h.few;omega,h.hist⟩
theorem k11 {q:Int} (h:q=11): ¬q<=5:=by omega
theorem k12 {q:Int} (h:q=12): ¬q<=5/\ ¬q=11:=by omega
theorem k6 {q:Int} (h1:6<=q) (h2:q<=10): ¬q<=5/\ ¬q=11/\ ¬q=12:=by omega
theorem c1o {q:Int} (h1:1<=q) (h2:q<=12):q<=5\/q=11\/q=12\/(6<=q/\q<=10):=by omega
theorem d41 {k:Nat} {H:Hu u0e} {s:u2k} (h:Fit k H s) {e:EvT} (he:EvR e):Fit (k+1) (doC s H e).2.2.1 (doC s H e).2.2.2:=by
 unfold doC;rcases c1o he.kind.1 he.kind.2 with c | c | c | ⟨c1,c2⟩
 .rw[Al c];exact h.opens (d5j h.eng he.kind.1 c)
 .rw[Ao (k11 c),Al c];exact h.fix
 .rw[Ao (k12 c).1,Ao (k12 c).2,Al c];split
  .rename_i q;rcases d20 h (j0s h.log e) with z | z
   .exact z
   .rw[z] at q;cases q
  .exact h.opens (e:=s.1) h.eng
 .rw[Ao (k6 c1 c2).1,Ao (k6 c1 c2).2.1,Ao (k6 c1 c2).2.2];exact d15 h c1 c2
theorem DoW {k:Nat} {H:Hu u0e} {s:u2k} (h:Fit k H s) (hk:k<=1000) (r:p5j) {e:EvT} (he:EvR e):
 r34 ((s,H,r),e)=some ((doC s H e).1,(doC s H e).2.1,((doC s H e).2.2.2,(doC s H e).2.2.1,r)):=by
 have hE:=h.eng;have hd:=h.log;rw[j3g];unfold p7o doC;rcases c1o he.kind.1 he.kind.2 with c | c | c | ⟨c1,c2⟩
 .rw[Al c];have e1:=c06 hE H r he c;rcases ev5 he.kind.1 c with q | q | q | q | q<;>simp[q,e1]
 .simp only[c,show ¬((11:Int)<=5) by omega,Bk,Bl,show decide ((11:Int)=1)=false by decide,show decide ((11:Int)=2)=false by decide,show decide ((11:Int)=3)=false by decide,show decide ((11:Int)=4)=false by decide,show decide ((11:Int)=5)=false by decide,Aa,Ae,Ad,d1t hE hd,zOb];cases (d1m s).2<;>rfl
 .simp only[c,show ¬((12:Int)<=5) by omega,show ¬((12:Int)=11) by omega,Bk,Bl,show decide ((12:Int)=1)=false by decide,show decide ((12:Int)=2)=false by decide,show decide ((12:Int)=3)=false by decide,show decide ((12:Int)=4)=false by decide,show decide ((12:Int)=5)=false by decide,show decide ((12:Int)=11)=false by decide,Aa,Ae,Ad,c05 hd e,j9n (p91 s.2 e) (u8c (j0s hd e)),zOb];cases (p11 (p91 s.2 e)).2<;>rfl
 .have n:∀q:Int,6<=q->q<=10->decide (q=1)=false/\decide (q=2)=false/\decide (q=3)=false/\decide (q=4)=false/\decide (q=5)=false/\decide (q=11)=false/\decide (q=12)=false/\ ¬q<=5/\ ¬q=11/\ ¬q=12:=fun q h1 h2=>by
   simp only[Bu];omega
  obtain⟨n1,n2,n3,n4,n5,n6,n7,n8,n9,n10⟩:=n e.1 c1 c2;simp only[n1,n2,n3,n4,n5,n6,n7,n8,n9,n10,Ah,Bk,Aa,c42 h hk r he c1 c2,zOb];rfl
theorem j9i {n:Int} (h0:0<=n) (h1:n<=9223372036854775807):r5f n=some (y6b n):=by
 rw[o5a];unfold q8i;rw[o6z];unfold y7k;have d1:decide (-9223372036854775808<=n)=true:=Bb (by omega);have d2:decide (n<=9223372036854775807)=true:=Bb h1;rw[d1,d2];rfl
theorem j1q {e:j2k.den} (h:EvR e):u9c e=some true:=by
 have l1:u0t (e.1,1,12)=some true:=by
  rw[s4h];unfold s4c;have:=h.kind;simp[this.1,this.2]
 have a1:decide (e.2.1>=0)=true:=Bb h.at0;have a2:decide ((e.2.2.1.size:Int)<=6)=true:=Bb (by have:=h.key6;omega);have a3:decide ((e.2.2.2.1.size:Int)<=20)=true:=Bb (by have:=h.text;omega);have a4:decide ((e.2.2.2.2.length:Int)<=10)=true:=Bb (by have:=h.keep;omega);rw[r43];unfold s6n;simp only[l1,a1,a2,a3,a4,zOb,Ad];by_cases c:e.1=12
 .simp only[c,Ae,Ad,zOb]
 .have:=h.nokeep c;simp[c,this]
theorem d5l {e:u3m} (h:EngR e) (id:Int) (n:Hs):EngR (r2k e id n).1:=by
 unfold r2k;by_cases c1:u2w e.2 id<0
 .rw[Al c1];exact h
 rw[Ao c1];cases hk:t02 n with
 | false=>rw[Al rfl];exact h | true=>
  rw[Ao (show ¬(true=false) by decide)];by_cases c2:0<=u0l e.1 n
  .rw[Al c2];exact h
  rw[Ao c2];by_cases c3:r3w e id=0
  .rw[Al c3];obtain⟨j0,d0,l0⟩:=d35 c3;obtain⟨j,hj,e1,e2,e3⟩:=u2h c1;have ht:u9a e id∈e.2:=by rw[e2];exact Ag hj
   exact d36 h ht hk l0 (d5o.mp (by omega))
  .rw[Ao c3];exact p1u h id
theorem d7v {e:u3m} (h:EngR e) (n:Hs) (y:Bool):EngR (o0e e n y).1:=by
 unfold o0e;by_cases c1:u0l e.1 n<0
 .rw[Al c1];exact h
 rw[Ao c1];by_cases c2:y=true/\r0n e.1=true
 .rw[Al c2];exact h
 rw[Ao c2];obtain⟨j,hj,e1,e2⟩:=s27 c1;have e3:rdL u01 e.1.2.2.1 (u0l e.1 n).toNat=e.1.2.2.1[j] :=by rw[e1];exact y9a hj
 by_cases c3:y=true
 .rw[Al c3];have hf:r0n e.1=false:=by
   cases q:r0n e.1 with
   | false=>rfl | true=>exact absurd ⟨c3,q⟩ c2
  exact d8j h (by rw[e3];exact Ag hj) hf
 .rw[Ao c3];exact c4o h n
theorem p5l {s:u2k} (h:EngR s.1) (hd:u2s s.2=true) (id:Int) {n:Hs} (hn:n.size<=1048576):s25 (s,id,n)=some (p4q s id n):=by
 have h1:=j17 h id hn;have h0:=s90 h.fewB h.fewO (u8c hd);have hR:=d5l h id n;have h2:=p5e ((r2k s.1 id n).1,s.2) (r2k s.1 id n).2.1 hR.fewB hR.fewO (u8c hd) (o70 h id n);have hL:=r52 h id;rw[p1g];unfold r0c;simp only[h1,zOb];rw[o2i];unfold p1c p4q;simp only[h0,zOb];by_cases c:(r2k s.1 id n).2.2=0
 .have hn: ¬u2w s.1.2 id<0:=fun q=>by
   unfold r2k at c;rw[Al q] at c;exact absurd c (show ¬((1:Int)=0) by decide)
  rw[p4f hn] at hL;simp only[c,Ae,Ap,Aa,Bl,h2,zOb];cases t71 s.2 (r2k s.1 id n).2.1 with
  | none=>simp only[Option.isSome_none,Aa,hL,zOb] | some d=>rfl
 .simp only[c,Ah,Bh,Ad,Bk,zOb]
theorem p8f {s:u2k} (h:EngR s.1) (hd:u2s s.2=true) {n:Hs} (hn:n.size<=100) (y:Bool):t63 (s,n,y)=some (t7d s n y):=by
 have h1:=o8u h n y;have h0:=s90 h.fewB h.fewO (u8c hd);have hR:=d7v h n y;have h2:=p5e ((o0e s.1 n y).1,s.2) (o0e s.1 n y).2.1 hR.fewB hR.fewO (u8c hd) (j3n n hn y);rw[p3t];unfold r2r t7d;simp only[h1,h0,zOb];by_cases c:(o0e s.1 n y).2.2=0
 .simp only[c,Ae,Ap,Aa,Bl,h2,zOb];cases t71 s.2 (o0e s.1 n y).2.1 with
  | none=>rfl | some d=>rfl
 .simp only[c,Ah,Bh,Ad,Bk]
theorem j6b {s:u2k} (h:EngR s.1) (id:Int):((u6x s id).2=0/\ ¬u2w s.1.2 id<0/\(u6x s id).1.1.1.2.2.2.1=s.1.1.2.2.2.1+1)\/((u6x s id).2≠0/\(u6x s id).1.1.1.2.2.2.1=s.1.1.2.2.2.1):=by
 unfold u6x u80;by_cases j1:s77 s.1 id=1
 .rw[Al j1,Ao (show ¬((1:Int)=0) by decide)];exact .inr ⟨by show ¬((1:Int)=0);decide,rfl⟩
 .rw[Ao j1];by_cases j0:s77 s.1 id=0
  .rw[Al j0,Al rfl];split
   .exact .inl ⟨rfl,(p1p j0).1,rfl⟩
   .exact .inr ⟨by show ¬((3:Int)=0);decide,rfl⟩
  .rw[Ao j0,Ao j0];exact .inr ⟨j0,rfl⟩
theorem d27 {s:u2k} (h:EngR s.1) (n:Hs) (y:Bool):((t7d s n y).2=0/\y=true/\ ¬u0l s.1.1 n<0/\(t7d s n y).1.1.1.2.2.2.1=s.1.1.2.2.2.1+1)\/(¬((t7d s n y).2=0/\y=true)/\(t7d s n y).1.1.1.2.2.2.1=s.1.1.2.2.2.1):=by
 unfold t7d o0e;by_cases c1:u0l s.1.1 n<0
 .rw[Al c1,Ao (show ¬((1:Int)=0) by decide)];exact .inr ⟨fun q=>absurd q.1 (by show ¬((1:Int)=0);decide),rfl⟩
 rw[Ao c1];by_cases c2:y=true/\r0n s.1.1=true
 .rw[Al c2,Ao (show ¬((3:Int)=0) by decide)];exact .inr ⟨fun q=>absurd q.1 (by show ¬((3:Int)=0);decide),rfl⟩
 rw[Ao c2];by_cases c3:y=true
 .rw[Al c3,Al rfl];split
  .exact .inl ⟨rfl,c3,c1,rfl⟩
  .exact .inr ⟨fun q=>absurd q.1 (by show ¬((3:Int)=0);decide),rfl⟩
 .rw[Ao c3,Al rfl];split
  .exact .inr ⟨fun q=>c3 q.2,rfl⟩
  .exact .inr ⟨fun q=>c3 q.2,rfl⟩
theorem d48 (w:u2k×(Hu u0e×p5j)) (c:Int) {l:Hu PrT} (hl:l.length<=200) (hs:∀x∈l,x.1.size<=3/\x.2.size<=12):∀(d i:Nat),i+d=l.length->
 u7m (w,c,(l.take i).map q3z,l,(l.length:Int),(i:Int))=some (.inl (w,c,l.map q3z)):=by
 intro d
 induction d with
 | zero=>
  intro i hi;rw[s7x];simp only[t0o,u0b,show ¬i<l.length by omega,Ah,Aa];rw[List.take_of_length_le (by omega)]
 | succ d ih=>
  intro i hi;have hlt:i<l.length:=by omega
  obtain⟨s1,s2⟩:=hs _ (Ag hlt);have z2:(⟨#[61]⟩:Hs).size=1:=rfl;have nx:=ih (i+1) (by omega);have hb:∀x:Hs,Nat.ble (((l.take i).map q3z).length+ [x].length) z7z=true:=fun x=>q7y (by rw[Aw,Da,Ec];omega)
  rw[s7x];simp only[t0o,u0b,hlt,Ae,Ad,y8h hlt,zTn,y9a (t:=d7i) hlt,Af,z2,show l[i].1.size+1<=140737488355328 by omega,show l[i].1.size+1+l[i].2.size<=140737488355328 by omega,hb];rw[y7x (by omega)];have e:(l.take (i+1)).map q3z=(l.take i).map q3z++ [q3z l[i]] :=by rw[B9 hlt,Dh,List.map_singleton]
  rw[e] at nx;exact nx
theorem d2c (w:u2k×(Hu u0e×p5j)) (c:Int) {l:Hu PrT} (hl:l.length<=200) (hs:∀x∈l,x.1.size<=3/\x.2.size<=12):
 u7m (w,c, [],l,(l.length:Int),(0:Int))=some (.inl (w,c,l.map q3z)):=d48 w c hl hs l.length 0 (by omega)
theorem j70 {l:Hu PrT} (hl:l.length<=200) (hs:∀x∈l,x.1.size<=3/\x.2.size<=12):r5z (l.map q3z,(⟨#[44]⟩:Hs))=some (s4j l):=by
 have h1:=o31 hs l.length (Au _);rw[List.take_of_length_le (Au _)] at h1;have a1:Nat.ble (l.map q3z).length 140737488355328=true:=Nat.ble_eq_true_of_le (by rw[Da];omega);have a2:Nat.ble (z6k (l.map q3z) (⟨#[44]⟩:Hs)).size 140737488355328=true:=Nat.ble_eq_true_of_le (A9 (show(z6k (l.map q3z) (⟨#[44]⟩:Hs)).size<=17*l.length from h1) (by omega));rw[o60];unfold y7l;simp only[a1,a2,Dt,Ad];rfl
theorem d3o {s:u2k} (hE:EngR s.1) (Q:Hu u0e×p5j) {e:EvT} (he:EvR e) (h:e.1=2\/e.1=3):
 t65 ((s,Q),e)=some ((r7u s.1 e).2.1,(r7u s.1 e).1,((r7u s.1 e).2.2,s.2),Q):=by
 obtain⟨kd,at_,key,tx,kp⟩:=e;have hk:key.size<=6:=he.key6;have ht5:tx.size<=20:=he.text;have h:kd=2\/kd=3:=h;rw[p3v];unfold r2t;rcases h with rfl | rfl
 .simp only[Ae,Ad,j49 hE at_ (show key.size<=1048576 by omega),zOb];have e0:r7u s.1 ((2:Int),at_,key,tx,kp)=((j1g s.1 at_ key).2.2.2,o3i (j1g s.1 at_ key),(j1g s.1 at_ key).1):=rfl;rw[e0];obtain⟨g,hg⟩:∃g,g=j1g s.1 at_ key:=⟨_,rfl⟩;rw[←hg];unfold o3i;by_cases c:g.2.2.2=0
  .cases c2:g.2.2.1
   .simp only[c,c2,Ae,Ad,zOb,Bh,and_self,Bl];rfl
   .simp only[c,c2,Ae,Ad,Aa,zOb,Ap,Fm,and_false,Bk]
  .simp only[c,Ah,Aa,zOb,false_and,Bk]
 .have sm:=p12 hE at_ (key,tx);simp only[show decide ((3:Int)=2)=false by decide,Aa,o81 hE at_ (r:=(key,tx)) ⟨by show key.size<=_;omega,by show tx.size<=_;omega⟩,d2c _ _ sm.1 sm.2,j70 sm.1 sm.2,zOb];rfl
theorem j9l (s:u2k) (H:Hu u0e) (r:p5j) {t:u0e} (ht:s71 t) (hn:H.length<=1000000):u9v ((s,H,r),t)=some (s,H++ [d2z s.1.1.2.2.2.1 t],r):=by
 have h1:∀x:u0e,Nat.ble (H.length+ [x].length) z7z=true:=fun x=>q7y (by rw[Aw];omega)
 rw[p1h];unfold r0d;simp only[s69 t ht,zOb,h1,Ad];rfl
theorem c03 {k:Nat} {H:Hu u0e} {s:u2k} (h:Fit k H s) (hk:k<=1000) (r:p5j) {e:EvT} (he:EvR e) (h6:6<=e.1) (h10:e.1<=10):
 t90 ((s,H,r),e)=some ((j3i s H e).1,((j3i s H e).2.2,(j3i s H e).2.1,r)):=by
 have hE:=h.eng;have hd:=h.log;have hn:=h.few;obtain⟨kd,at_,key,tx,kp⟩:=e;have h6:(6:Int)<=kd:=h6;have h10:kd<=(10:Int):=h10;have key6:key.size<=6:=he.key6;have fo:∀t∈s.1.2,s71 t:=fun t ht=>(hE.fewO).2 t ht
 have fr:∀t∈s.1.1.2.2.1,s71 t:=fun t ht=>(hE.fewB).2.2.2 t ht
 have nz:∀ {n:Int},n≠0->decide (n=0)=false:=fun h=>A7 h
 rw[p5y];unfold r6b
 have fin:∀y:Bool,((u2c (s.1.1,key)).bind fun y6=>(t63 (s,key,y)).bind fun y7=>((bif decide (y7.2=(0:Int)) then some y else some false).bind fun j8=>bif j8 then(bif y4v y6 s.1.1.2.2.1.length then((u9v ((y7.1,H,r),rdL u01 s.1.1.2.2.1 y6.toNat)).bind fun y9=>some (y7.2,y9)) else none) else some (y7.2,(y7.1,H,r))))=
  some ((t7d s key y).2,((t7d s key y).1,o67 H (t7d s key y).1.1 s.1.1.2.2.2.1 (if u0l s.1.1 key<0 then u6a else rdL u01 s.1.1.2.2.1 (u0l s.1.1 key).toNat),r)):=fun y=>by
  have e1:=s3c s.1.1 key (by have:=hE.base.rlen;omega);simp only[e1,zOb,p8f hE hd (by omega:key.size<=100) y];rcases d27 hE key y with ⟨c1,c2,c3,c4⟩ | ⟨c1,c2⟩
  .obtain⟨j,hj,e2,e3⟩:=s27 c3;have e4:(u0l s.1.1 key).toNat=j:=by omega
   have hf:s71 (rdL u01 s.1.1.2.2.1 (u0l s.1.1 key).toNat):=by
    rw[e4,y9a (t:=u01) hj];exact fr _ (Ag hj)
   have hg:y4v (u0l s.1.1 key) s.1.1.2.2.1.length=true:=by rw[e2];exact y8h hj
   rw[Ao c3,j06 _ hE.mids c4,←c4];subst c2;simp only[c1,Ae,Ad,zOb,hg,j9l _ H r hf (by omega)]
  .rw[j6c _ hE.mids c2];cases y with
   | false=>cases decide ((t7d s key false).2=0)<;>rfl
   | true=>
    have:(t7d s key true).2≠0:=fun q=>c1 ⟨q,rfl⟩
    simp only[nz this,Aa,zOb]
 rcases c1n h6 h10 with rfl | rfl | rfl | rfl | rfl
 .have e1:=s22 s.1 at_ (by have:=hE.olen;omega);simp only[Ae,Ad,e1,zOb,p8e hE hd at_];have e0:j3i s H ((6:Int),at_,key,tx,kp)=((u6x s at_).2,o67 H (u6x s at_).1.1 s.1.1.2.2.2.1 (if u2w s.1.2 at_<0 then u6a else u9a s.1 at_),(u6x s at_).1):=rfl;rw[e0];rcases j6b hE at_ with ⟨c1,c3,c4⟩ | ⟨c1,c2⟩
  .obtain⟨j,hj,e2,e3,e5⟩:=u2h c3;have hf:s71 (u9a s.1 at_):=by rw[e3];exact fo _ (Ag hj)
   have hg:y4v (u2w s.1.2 at_) s.1.2.length=true:=by rw[e2];exact y8h hj
   have ha:rdL u01 s.1.2 (u2w s.1.2 at_).toNat=u9a s.1 at_:=rfl;rw[Ao c3,j06 _ hE.mids c4,←c4];simp only[c1,Ae,Ad,zOb,hg,ha,j9l _ H r hf (by omega)]
  .rw[j6c _ hE.mids c2];simp only[nz c1,Aa]
 .simp only[show decide ((7:Int)=6)=false by decide,Aa,Ae,Ad,r52 hE at_,zOb];rfl
 .simp only[show decide ((8:Int)=6)=false by decide,show decide ((8:Int)=7)=false by decide,Aa,Ae,Ad,p5l hE hd at_ (by omega:key.size<=1048576),zOb];rfl
 .have:=fin true;have e0:j3i s H ((9:Int),at_,key,tx,kp)=((t7d s key true).2,o67 H (t7d s key true).1.1 s.1.1.2.2.2.1 (if u0l s.1.1 key<0 then u6a else rdL u01 s.1.1.2.2.1 (u0l s.1.1 key).toNat),(t7d s key true).1):=rfl;rw[e0];simpa only[show decide ((9:Int)=6)=false by decide,show decide ((9:Int)=7)=false by decide,show decide ((9:Int)=8)=false by decide,Ae,Aa] using this
 .have:=fin false;have e0:j3i s H ((10:Int),at_,key,tx,kp)=((t7d s key false).2,o67 H (t7d s key false).1.1 s.1.1.2.2.2.1 (if u0l s.1.1 key<0 then u6a else rdL u01 s.1.1.2.2.1 (u0l s.1.1 key).toNat),(t7d s key false).1):=rfl;rw[e0];simpa only[show decide ((10:Int)=6)=false by decide,show decide ((10:Int)=7)=false by decide,show decide ((10:Int)=8)=false by decide,show decide ((10:Int)=9)=false by decide,Aa] using this
theorem d7d {s:u2k} (hd:u2s s.2=true) (Q:Hu u0e×p5j) (e:EvT):
 t64 ((s,Q),e)=some (if(p11 (p91 s.2 e)).2=true then((0:Int),(p11 (p91 s.2 e)).1,Q) else((1:Int),s,Q)):=by
 have hw:=u8c hd;have e1:=o4u (d:=s.2) (t:=(⟨#[120]⟩:Hs)) hw (by decide) 0 e.2.2.2.2 e.2.1;have w1:=p7u (d:=s.2) (t:=(⟨#[120]⟩:Hs)) hw 0 e.2.2.2.2 e.2.1;have hl:=j0s hd e;have r1:=j2c s.2 hw;rw[p3u];unfold r2s;unfold p91 at hl ⊢;simp only[e1,o4z (u2v s.2 (⟨#[120]⟩:Hs) 0 e.2.2.2.2 e.2.1) s.2 (by omega) (by omega),zOb];cases c:o8b (u2v s.2 (⟨#[120]⟩:Hs) 0 e.2.2.2.2 e.2.1) s.2 with
 | false=>
  simp only[Bh,Ad,r1,zOb,Br,Bk];cases (p11 s.2).2<;>rfl
 | true=>
  rw[c,Al rfl] at hl;have r2:=j2c (u2v s.2 (⟨#[120]⟩:Hs) 0 e.2.2.2.2 e.2.1) (u8c hl);simp only[Ap,Aa,r2,zOb,Bl];cases (p11 (u2v s.2 (⟨#[120]⟩:Hs) 0 e.2.2.2.2 e.2.1)).2<;>rfl
def d5u (s:u2k) (H:Hu u0e) (r:p5j) (e:EvT):c2k.den:=((doC s H e).2.2.2,(doC s H e).2.2.1,r.1++ [(doC s H e).1],r.2++ [(doC s H e).2.1])
theorem d7b {k:Nat} {H:Hu u0e} {s:u2k} (h:Fit k H s) (hk:k<=900) {r:p5j} (r1:r.1.length<=100000) (r2:r.2.length<=100000):s8d (s,H,r)=some (s,H,r):=by
 have h0:=s90 h.eng.fewB h.eng.fewO (u8c h.log);have hH:q7l H:=q60 (by have:=h.few;omega) fun t ht=>(h.hist t ht).tiny
 rw[p88];unfold q0q;simp only[h0,r8y H hH,zOb,q7y (show r.1.length<=100000000 by omega),q7y (show r.2.length<=100000000 by omega),Ad]
theorem c1a {k:Nat} {H:Hu u0e} {s:u2k} (h:Fit k H s) (hk:k<=900) {r:p5j} (r1:r.1.length<=100000) (r2:r.2.length<=100000) {e:EvT} (he:EvR e):
 t5l ((s,H,r),e)=some (d5u s H r e):=by
 have hE:=h.eng;have hd:=h.log;have b1:∀x:Int,Nat.ble (r.1.length+ [x].length) z7z=true:=fun x=>q7y (by rw[Aw];omega)
 have b2:∀x:Hs,Nat.ble (r.2.length+ [x].length) z7z=true:=fun x=>q7y (by rw[Aw];omega)
 have key6:=he.key6;rw[p83];unfold q0m;simp only[d7b h hk r1 r2,j1q he,zOb,Ap,Aa];unfold d5u doC;have d:∀a b:Int,a≠b->decide (a=b)=false:=fun a b q=>A7 q
 rcases c1o he.kind.1 he.kind.2 with c | c | c | ⟨c1,c2⟩
 .rw[Al c];rcases ev5 he.kind.1 c with q | q | q | q | q
  .have hn:=j65 hE;have hD:=j9i (n:=(s0s s.1).2.1) hn.1 (by omega);have e0:r7u s.1 e=((s0s s.1).2.2,(if(s0s s.1).2.2=0 then y6b (s0s s.1).2.1 else j66),(s0s s.1).1):=by unfold r7u;rw[Al q]
   rw[e0];simp only[q,Ae,Ad,j7u hE,zOb];by_cases z:(s0s s.1).2.2=0
   .simp only[z,Ae,Ad,hD,zOb,b1,b2,Bl]
   .simp only[z,Ah,Aa,b1,b2,Bk];rfl
  .simp only[q,d 2 1 (by decide),Ae,Ad,Aa,d3o hE (H,r) he (.inl q),zOb,b1,b2]
  .simp only[q,d 3 1 (by decide),d 3 2 (by decide),Ae,Ad,Aa,d3o hE (H,r) he (.inr q),zOb,b1,b2]
  .have e0:r7u s.1 e=((j7d s.1 e.2.1 (e.2.2.1,e.2.2.2.1,false)).2,j66,(j7d s.1 e.2.1 (e.2.2.1,e.2.2.2.1,false)).1):=by unfold r7u;simp[q]
   rw[e0];simp only[q,d 4 1 (by decide),d 4 2 (by decide),d 4 3 (by decide),Ae,Ad,Aa,o0u hE e.2.1 (w:=(e.2.2.1,e.2.2.2.1,false)) (by show e.2.2.1.size<=_;omega),zOb,b1,b2];rfl
  .have e0:r7u s.1 e=((j7d s.1 e.2.1 (e.2.2.1,j66,true)).2,j66,(j7d s.1 e.2.1 (e.2.2.1,j66,true)).1):=by unfold r7u;simp[q]
   have hp:=o0u hE e.2.1 (w:=(e.2.2.1,(⟨#[]⟩:Hs),true)) (by show e.2.2.1.size<=_;omega);rw[e0];simp only[q,d 5 1 (by decide),d 5 2 (by decide),d 5 3 (by decide),d 5 4 (by decide),Ae,Ad,Aa,hp,zOb,b1,b2];rfl
 .have hF:=j88 hE.fewB hE.fewO (u8c hd);simp only[c,show ¬((11:Int)<=5) by omega,Bk,Bl,d 11 1 (by decide),d 11 2 (by decide),d 11 3 (by decide),d 11 4 (by decide),d 11 5 (by decide),Aa,Ae,Ad,hF,zOb];cases (d1m s).2<;>simp only[Bh,Ap,Ad,Aa,b1,b2,Bl,Br,Bk] <;>rfl
 .have hF:=d7d hd (H,r) e;simp only[c,show ¬((12:Int)<=5) by omega,show ¬((12:Int)=11) by omega,Bk,Bl,d 12 1 (by decide),d 12 2 (by decide),d 12 3 (by decide),d 12 4 (by decide),d 12 5 (by decide),d 12 11 (by decide),Aa,Ae,Ad,hF,zOb];cases (p11 (p91 s.2 e)).2<;>simp only[Bl,Br,Bk,b1,b2,Ad] <;>rfl
 .have n:∀q:Int,6<=q->q<=10->decide (q=1)=false/\decide (q=2)=false/\decide (q=3)=false/\decide (q=4)=false/\decide (q=5)=false/\decide (q=11)=false/\decide (q=12)=false/\ ¬q<=5/\ ¬q=11/\ ¬q=12:=fun q h1 h2=>by
   simp only[Bu];omega
  obtain⟨n1,n2,n3,n4,n5,n6,n7,n8,n9,n10⟩:=n e.1 c1 c2;simp only[n1,n2,n3,n4,n5,n6,n7,n8,n9,n10,Ah,Bk,Aa,c03 h (by omega) r he c1 c2,zOb,b1,b2,Ad];rfl
theorem q33 {kd at_:Int} {key tx:Hs} (h1:1<=kd) (h2:kd<=11) (h0:0<=at_) (hk:key.size<=6) (ht:tx.size<=6):EvR ((kd,at_,key,tx,([] :Hu Int)):j2k.den):=
 ⟨⟨h1,by show kd<=12;omega⟩,h0,hk,by show tx.size<=20;omega,by show 0<=10;omega,fun _=>rfl⟩
def K3:Hu Hs:= [⟨#[97]⟩,⟨#[98]⟩,⟨#[99]⟩]
def T3:Hu Hs:= [⟨#[111,110,101]⟩,⟨#[116,119,111]⟩,⟨#[116,104,114,101,101]⟩]
def PQ3:Hu Hs:= [⟨#[112]⟩,⟨#[113]⟩,⟨#[114]⟩]
theorem d0x {y a b c:Hs} (h:y∈ [a,b,c]) (ha:a.size<=6) (hb:b.size<=6) (hc:c.size<=6):y.size<=6:=by
 simp only[A8,Ep,Em] at h;rcases h with rfl | rfl | rfl
 .exact ha
 .exact hb
 .exact hc
theorem o0q {y:Hs} (h:y∈K3):y.size<=6:=d0x h (by decide) (by decide) (by decide)
theorem d4s {y:Hs} (h:y∈T3):y.size<=6:=d0x h (by decide) (by decide) (by decide)
theorem o8w {y:Hs} (h:y∈PQ3):y.size<=6:=d0x h (by decide) (by decide) (by decide)
theorem d5f (c:Src) (most:Int) (out:Hu j2k.den) (next:Int) (op:Hu Int) (id:Int) (ho:op.length<=4) (h0:∀x∈op,0<=x):
 ∀(d i:Nat) (l:Hu Int),i+d=op.length->l.length<=i->(∀x∈l,0<=x)-> ∃l' :Hu Int,u2r (c,most,out,next,op,id,l,(i:Int))=some (.inl (c,most,out,next,l'))/\l'.length<=4/\ ∀x∈l',0<=x:=by
 intro d
 induction d with
 | zero=>
  intro i l hi hl h;refine⟨l,?_,by omega,h⟩;rw[r2f];simp only[t3t,u0b,show ¬i<op.length by omega,Ah,Aa]
 | succ d ih=>
  intro i l hi hl h;have hlt:i<op.length:=by omega
  rw[r2f];have hb:∀x:Int,Nat.ble (l.length+ [x].length) z7z=true:=fun x=>q7y (by rw[Aw];omega)
  simp only[t3t,u0b,hlt,Ae,Ad,y8h hlt,zTn,y9a (t:=Ty.int .i64) hlt,hb];rw[y7x (by omega)];by_cases q:op[i] =id
  .simp only[q,Ae,Ap,Aa];exact ih (i+1) l (by omega) (by omega) h
  .simp only[q,Ah,Bh,Ad];refine ih (i+1) _ (by omega) (by rw[Ba,Aw];omega) fun x hx=> ?_
   rcases Ay.mp hx with hx | hx
   .exact h x hx
   .rw[Ax.mp hx];exact h0 _ (Ag hlt)
def c09 (most:Int) (out:Hu j2k.den) (F:Ht (Hu j2k.den⊕Unit)) (next:Int):Prop:=
 ∃(c' :Src) (e:j2k.den) (next' :Int) (op' :Hu Int),F=u3u (c',most,out++ [e],next',op')/\c'.ok/\EvR e/\0<=next' /\next' <=next+1/\op'.length<=4/\ ∀x∈op',0<=x
theorem d43 {c:Src} (hc:c.ok) {most:Int} {out:Hu j2k.den} {next:Int} {op:Hu Int} (hlt:(out.length:Int)<most) (hm:most<=74) (n0:0<=next) (n1:next<=100) (ho:op.length<=4) (h0:∀x∈op,0<=x):
 c09 most out (u3u (c,most,out,next,op)) next:=by
 obtain⟨y2,c1,e2,k2,r2⟩:=s9f hc (n:=18) (by omega);have hb:∀x:j2k.den,Nat.ble (out.length+ [x].length) z7z=true:=fun x=>q7y (by rw[Aw];omega)
 have hb1:Nat.ble (([] :Hu Int).length+op.length) z7z=true:=q7y (by rw[Cc];omega);have hb2:∀x:Int,Nat.ble ((([] :Hu Int)++op).length+ [x].length) z7z=true:=fun x=>q7y (by rw[Aw,Cf];omega)
 have wn:i64.wrap (next+1)=next+1:=y5f (by omega) (by omega)
 have opn:∀x∈op++ [next],0<=x:=fun x hx=>by
  rcases Ay.mp hx with hx | hx
  .exact h0 x hx
  .rw[Ax.mp hx];exact n0
 have ev1:EvR ((1,0,(⟨#[]⟩:Hs),(⟨#[]⟩:Hs),([] :Hu Int)):j2k.den):=q33 (by omega) (by omega) (by omega) (by decide) (by decide);rw[r4q];simp only[t6q,hlt,Ae,Ad,e2,zOb];cases op with
 | nil=>
  obtain⟨y4,c2,e4,k4,r4⟩:=o8x k2 (l:=K3) (by decide);have e4:u16 (c1, [(⟨#[97]⟩:Hs),(⟨#[98]⟩:Hs),(⟨#[99]⟩:Hs)])=some (y4,c2):=e4;simp only[Cc,show decide (((0:Nat):Int) >0)=false by decide,show decide (((0:Nat):Int)=0)=true by decide,Aa,Ad,e4,zOb,hb];simp only[Cc] at hb1 hb2;simp only[hb1,hb2,Ad,wn];exact⟨c2,_,next+1,_,rfl,k4,ev1,by omega,by omega,by simp,opn⟩
 | cons o os=>
  obtain⟨op,hop⟩:∃op,op=o::os:=⟨_,rfl⟩;rw[←hop] at ho h0 hb1 hb2 opn ⊢;have hl0:0<op.length:=by rw[hop];simp
  have g1:decide ((op.length:Int) >0)=true:=Bb (by omega);have g2:decide ((op.length:Int)=0)=false:=A7 (by omega);obtain⟨y3,c3,e3,k3,r3⟩:=s9f k2 (n:=(op.length:Int)) (by omega);obtain⟨j,hj⟩:∃j:Nat,y3=(j:Int):=⟨y3.toNat,by omega⟩;subst hj;have hjl:j<op.length:=by omega
  obtain⟨y4,c4,e4,k4,r4⟩:=o8x k3 (l:=K3) (by decide);have e4:u16 (c3, [(⟨#[97]⟩:Hs),(⟨#[98]⟩:Hs),(⟨#[99]⟩:Hs)])=some (y4,c4):=e4;have hid:0<=op[j] :=h0 _ (Ag hjl);simp only[g1,g2,Ad,Aa,e3,y8h hjl,zTn,y9a (t:=Ty.int .i64) hjl,e4,zOb,hb,hb1,hb2,wn];obtain⟨id,hidd⟩:∃id,id=op[j] :=⟨_,rfl⟩;rw[←hidd] at hid ⊢;obtain⟨bg,hbg⟩:∃bg,bg=(bif decide (y2<3) then some (decide ((op.length:Int)<4)) else some false:Ht Bool):=⟨_,rfl⟩;have hbg2:bg=some (decide (y2<3)&&decide ((op.length:Int)<4)):=by rw[hbg];cases decide (y2<3)<;>rfl
  rw[←hbg,hbg2];simp only[zOb];by_cases b1:(decide (y2<3)&&decide ((op.length:Int)<4))=true
  .simp only[b1,Ad];have:(op.length:Int)<4:=by simp at b1;omega
   exact⟨c4,_,next+1,_,rfl,k4,ev1,by omega,by omega,by simp;omega,opn⟩
  .have b1:(decide (y2<3)&&decide ((op.length:Int)<4))=false:=by simpa using b1
   simp only[b1,Aa];by_cases b2:y2<6
   .simp only[b2,Ae,Ad];exact⟨c4,_,next,op,rfl,k4,q33 (by omega) (by omega) hid (o0q r4) (by decide),n0,by omega,ho,h0⟩
   simp only[b2,Ah,Aa];by_cases b3:y2=6
   .simp only[b3,Ae,Ad];exact⟨c4,_,next,op,rfl,k4,q33 (by omega) (by omega) hid (by decide) (o0q r4),n0,by omega,ho,h0⟩
   simp only[b3,Ah,Aa];by_cases b4:y2<10
   .obtain⟨y6,c6,e6,k6,r6⟩:=o8x k4 (l:=T3) (by decide);have e6:u16 (c4, [(⟨#[111,110,101]⟩:Hs),(⟨#[116,119,111]⟩:Hs),(⟨#[116,104,114,101,101]⟩:Hs)])=some (y6,c6):=e6;simp only[b4,Ae,Ad,e6,zOb,hb];exact⟨c6,_,next,op,rfl,k6,q33 (by omega) (by omega) hid (o0q r4) (d4s r6),n0,by omega,ho,h0⟩
   simp only[b4,Ah,Aa];by_cases b5:y2=10
   .simp only[b5,Ae,Ad];exact⟨c4,_,next,op,rfl,k4,q33 (by omega) (by omega) hid (o0q r4) (by decide),n0,by omega,ho,h0⟩
   simp only[b5,Ah,Aa];have pq:∀ {s:Src},s.ok-> ∃(y:Hs) (s' :Src),u16 (s, [(⟨#[112]⟩:Hs),(⟨#[113]⟩:Hs),(⟨#[114]⟩:Hs)])=some (y,s')/\s'.ok/\y∈PQ3:=fun {s} hs=>by
    obtain⟨y,s',q1,q2,q3⟩:=o8x hs (l:=PQ3) (by decide);exact⟨y,s',q1,q2,q3⟩
   by_cases b6:y2<14
   .obtain⟨y7,c7,e7,k7,r7⟩:=pq k4;have lf:=fun(o:Hu j2k.den)=>d5f c7 most o next op id ho h0 op.length 0 [] (by omega) (by simp) (fun x hx=>by cases hx)
    simp only[b6,Ae,Ad,e7,zOb,hb];by_cases b7:y2=13
    .simp only[b7,Ae,Ad];obtain⟨l',q1,q2,q3⟩:=lf (out++ [((8:Int),id,y7,(⟨#[]⟩:Hs),([] :Hu Int))]);have q1:u2r (c7,most,out++ [((8:Int),id,y7,(⟨#[]⟩:Hs),([] :Hu Int))],next,op,id, [],(0:Int))=_:=q1;simp only[q1,zOb];exact⟨c7,_,next,l',rfl,k7,q33 (by omega) (by omega) hid (o8w r7) (by decide),n0,by omega,q2,q3⟩
    .simp only[b7,Ah,Aa];obtain⟨l',q1,q2,q3⟩:=lf (out++ [((6:Int),id,y7,(⟨#[]⟩:Hs),([] :Hu Int))]);have q1:u2r (c7,most,out++ [((6:Int),id,y7,(⟨#[]⟩:Hs),([] :Hu Int))],next,op,id, [],(0:Int))=_:=q1;simp only[q1,zOb];exact⟨c7,_,next,l',rfl,k7,q33 (by omega) (by omega) hid (o8w r7) (by decide),n0,by omega,q2,q3⟩
   simp only[b6,Ah,Aa];by_cases b8:y2=14
   .obtain⟨y15,c5,e5,k5,r5⟩:=j74 k4 [9,10,9] (by decide) (by decide);obtain⟨y16,c6,e6,k6,r6⟩:=pq k5;simp only[b8,Ae,Ad,e5,e6,zOb,hb];have hy:y15=9\/y15=10:=by
     simp only[A8,Ep,Em] at r5;omega
    exact⟨c6,_,next,op,rfl,k6,q33 (by omega) (by omega) (by omega) (o8w r6) (by decide),n0,by omega,ho,h0⟩
   simp only[b8,Ah,Aa];by_cases b9:y2=15
   .simp only[b9,Ae,Ad];exact⟨c4,_,next,op,rfl,k4,q33 (by omega) (by omega) (by omega) (by decide) (by decide),n0,by omega,ho,h0⟩
   simp only[b9,Ah,Aa];by_cases b10:y2=16
   .obtain⟨y17,c5,e5,k5,_⟩:=d4r k4 (n:=3) (by omega);simp only[b10,Ae,Ad,e5,zOb];cases y17
    .simp only[Aa];exact⟨c5,_,next,op,rfl,k5,q33 (by omega) (by omega) hid (by decide) (by decide),n0,by omega,ho,h0⟩
    .obtain⟨y18,c6,e6,k6,r6⟩:=s9f k5 (n:=70) (by omega);obtain⟨y19,c7,e7,k7,r7⟩:=s9f k6 (n:=2) (by omega);simp only[Ad,e6,e7,zOb,hb];refine⟨c7,_,next, [],rfl,k7,⟨⟨by show(1:Int)<=12;omega,by show(12:Int)<=12;omega⟩,r6.1,(by decide:(⟨#[]⟩:Hs).size<=6),(by decide:(⟨#[]⟩:Hs).size<=20),by show 2<=10;omega,fun q=>absurd rfl q⟩,n0,by omega,by simp,fun x hx=>by cases hx⟩
   simp only[b10,Ah,Aa];exact⟨c4,_,next,op,rfl,k4,q33 (by omega) (by omega) (by omega) (o0q r4) (by decide),n0,by omega,ho,h0⟩
theorem c1p {most:Int} (hm:most<=74):∀(d:Nat) {c:Src} {out:Hu j2k.den} {next:Int} {op:Hu Int},c.ok->(out.length:Int)+d=most->0<=next->next<=(out.length:Int)+1->op.length<=4->(∀x∈op,0<=x)->(∀e∈out,EvR e)->
 ∃out' :Hu j2k.den,u3u (c,most,out,next,op)=some (.inl out')/\(out'.length:Int)=most/\ ∀e∈out',EvR e:=by
 intro d
 induction d with
 | zero=>
  intro c out next op hc hd n0 n1 ho h0 he
  refine⟨out,?_,by omega,he⟩;rw[r4q];simp only[t6q,show decide ((out.length:Int)<most)=false from A7 (by omega),Aa]
 | succ d ih=>
  intro c out next op hc hd n0 n1 ho h0 he
  obtain⟨c',e,next',op',q1,q2,q3,q4,q5,q6,q7⟩:=d43 hc (most:=most) (out:=out) (next:=next) (op:=op) (by omega) hm n0 (by omega) ho h0;rw[q1];refine ih q2 (by rw[Ba,Aw];omega) q4 (by rw[Ba,Aw];omega) q6 q7 fun x hx=> ?_
  rcases Ay.mp hx with hx | hx
  .exact he x hx
  .rw[Ax.mp hx];exact q3
theorem o0o {l:Hu Int} (hl:l.length<=1048576):∃es:Hu j2k.den,s2z l=some es/\16<=es.length/\es.length<=74/\ ∀e∈es,EvR e:=by
 obtain⟨c,e1,k1⟩:=d3p hl;have w0:Int.tdiv (l.length:Int) 3=(l.length:Int) / 3:=Int.tdiv_eq_ediv_of_nonneg (by omega);have w1:i64.wrap ((l.length:Int) / 3)=(l.length:Int) / 3:=y5f (by omega) (by omega);have w2:i64.wrap (16+(l.length:Int) / 3)=16+(l.length:Int) / 3:=y5f (by omega) (by omega);have run:∀most:Int,16<=most->most<=74-> ∃es:Hu j2k.den,u3u (c,most, [],1, [])=some (.inl es)/\(16<=es.length/\es.length<=74)/\ ∀e∈es,EvR e:=fun most h0 h1=>by
  obtain⟨es,q1,q2,q3⟩:=c1p h1 most.toNat (c:=c) (out:= []) (next:=1) (op:= []) k1 (by simp;omega) (by omega) (by simp) (by simp) (fun x hx=>by cases hx) (fun x hx=>by cases hx);exact⟨es,q1,by omega,q3⟩
 rw[p9z];unfold q1g;simp only[e1,w0,w1,w2,zOb];by_cases b:16+(l.length:Int) / 3 >74
 .obtain⟨es,q1,q2,q3⟩:=run 74 (by omega) (by omega);exact⟨es,by simp only[b,Ae,Ad,q1,zOb],q2.1,q2.2,q3⟩
 .obtain⟨es,q1,q2,q3⟩:=run (16+(l.length:Int) / 3) (by omega) (by omega);exact⟨es,by simp only[b,Ah,Aa,q1,zOb],q2.1,q2.2,q3⟩
section
set_option maxRecDepth 20000
def j41:Hs:=y9l ⟨#[0]⟩ 64
theorem d6f:y7s (List.replicate 64 0)=j41:=by rfl
theorem d7q:s65 ()=some j41:=by
 have hset:∀i,(List.replicate 64 (0:Int)).set i 0=List.replicate 64 0:=fun i=>by
  apply Gw (by simp);intro j h1 h2;rw[List.getElem_set,List.getElem_replicate];split
  .rfl
  .rfl
 have key:∀(r i:Nat),i+r=64->u4d ((64:Int),0,List.replicate 64 0,(i:Int))=some (.inl (List.replicate 64 0)):=by
  intro r
  induction r with
  | zero=>
   intro i hi;have:i=64:=by omega
   subst this;rw[t0m];rfl
  | succ r ih=>
   intro i hi;have hlt:decide ((i:Int)<64)=true:=by simp;omega
   have hg:y4v (i:Int) (List.replicate 64 (0:Int)).length=true:=y8h (by simp;omega);rw[t0m];simp only[u98,hlt,Ad,hg,hset];rw[y7x (by omega)];exact ih (i+1) (by omega)
 have e1:u4d ((64:Int),0,List.replicate 64 0,0)=_:=key 64 0 rfl;rw[p0d];unfold r4y;rw[r47];unfold s6o;have hc:(decide ((0:Int)<=64)&&decide ((64:Int)<=1099511627776))=true:=rfl;have hr:List.replicate ((64:Int)).toNat (Ty.int .u8).zero=List.replicate 64 (0:Int):=rfl;simp only[hc,Ad,hr,e1,zOb,d6f]
theorem c08:s8m ((⟨#[0]⟩:Hs),(64:Int))=some j41:=by
 rw[p90];rfl
def d6q:u0j:=(List.replicate 97 j41, [])
theorem j6m:s9s ()=some d6q:=by
 have key:∀(r i:Nat),i+r=97->u8h ((97:Int),([], []),(List.replicate i j41, []),(i:Int))=some (.inl (([], []),d6q)):=by
  intro r
  induction r with
  | zero=>
   intro i hi;have:i=97:=by omega
   subst this;rw[s20];rfl
  | succ r ih=>
   intro i hi;have hlt:decide ((i:Int)<97)=true:=by simp;omega
   have hc:Nat.ble ((List.replicate i j41).length+([j41] :Hu Hs).length) z7z=true:=u0w (by simp;omega);rw[s20];simp only[s1t,hlt,Ad,d7q,zOb,hc];rw[y7x (by omega)];have e:List.replicate i j41++ [j41] =List.replicate (i+1) j41:=by rw[List.replicate_succ']
   rw[e];exact ih (i+1) (by omega)
 have e1:u8h ((97:Int),([], []),([], []),0)=_:=key 97 0 rfl;have hs:u9p ()=some 97:=by rw[s5o];rfl
 have hi:u0q ((97:Int),(1:Int),(100:Int))=some true:=by rw[r29];rfl
 rw[p32];unfold r88;simp only[hs,zOb];rw[p0a];unfold r4w;simp only[hi,zOb,Ap,Aa,e1]
theorem d1v:r9l ()=some d6q:=by
 have key:∀(r i:Nat),i+r=97->t4o ((97:Int),([], []),(List.replicate i j41, []),(i:Int))=some (.inl (([], []),d6q)):=by
  intro r
  induction r with
  | zero=>
   intro i hi;have:i=97:=by omega
   subst this;rw[q2t];rfl
  | succ r ih=>
   intro i hi;have hlt:decide ((i:Int)<97)=true:=by simp;omega
   have hc:Nat.ble ((List.replicate i j41).length+([j41] :Hu Hs).length) z7z=true:=u0w (by simp;omega);rw[q2t];simp only[s72,hlt,Ad,c08,zOb,hc];rw[y7x (by omega)];have e:List.replicate i j41++ [j41] =List.replicate (i+1) j41:=by rw[List.replicate_succ']
   rw[e];exact ih (i+1) (by omega)
 have e1:t4o ((97:Int),([], []),([], []),0)=_:=key 97 0 rfl;have hi:u0t ((97:Int),(1:Int),(100:Int))=some true:=by rw[s4h];rfl
 rw[o9p];unfold p2n;rw[o5b];unfold q8j;simp only[hi,zOb,Ap,Aa,e1]
end
theorem sr (t:Hs):z7q t t=true:=by simp[z7q]
theorem o4b (a:Hu WrT) (ha:a.length<=1048576):s5v (a,a)=some true:=by
 rw[p54];unfold r6h
 have L:=s5c t3y a (fun i=>(a,a,i)) (fun _=>false) (.inr false) (.inl ())
  (by rw[r1z];simp only[t3n,u0b,Am,Ah,Aa])
  (fun i hi=>by
   rw[r1z];simp only[t3n,u0b,hi,Ae,Ad,y8h hi,zTn,y9a (t:=u2m) hi,sr,beq_self_eq_true,Cz,Ap,Aa];rw[y7x (by omega)])
 have hn:(a.any fun _=>false)=false:=by simp
 rw[hn] at L;simp only[Ae,Ap,Aa,L,zOb]
theorem p6k (a:Hu u4n) (ha:a.length<=1048576):s26 (a,a)=some true:=by
 rw[p1k];unfold r0g
 have L:=s5c t0u a (fun i=>(a,a,i)) (fun _=>false) (.inr false) (.inl ())
  (by rw[s7y];simp only[t0p,u0b,Am,Ah,Aa])
  (fun i hi=>by
   rw[s7y];simp only[t0p,u0b,hi,Ae,Ad,y8h hi,zTn,y9a (t:=u0g) hi,sr,beq_self_eq_true,Cz,Ap,Aa];rw[y7x (by omega)])
 have hn:(a.any fun _=>false)=false:=by simp
 rw[hn] at L;simp only[Ae,Ap,Aa,L,zOb]
theorem j4g (t:u0e) (h:s71 t):r5l (t,t)=some true:=by
 have h1:=h.1
 have L:=s5c t4t t.2.2.2.2.1 (fun i=>(t,t,i)) (fun _=>false) (.inr false) (.inl ())
  (by rw[q24];simp only[s1m,u0b,Am,Ah,Aa])
  (fun i hi=>by
   rw[q24];simp only[s1m,u0b,hi,Ae,Ad,y8h hi,zTn,y9a (t:=t3e) hi,sr,Cz,Ap,Aa];rw[y7x (by omega)])
 have hn:(t.2.2.2.2.1.any fun _=>false)=false:=by simp
 rw[hn] at L;have L:t4t (t,t,0)=_:=L;rw[o5y];unfold q84;simp only[Ae,Ap,Aa,beq_self_eq_true,sr,o4b _ h.2,L,zOb]
theorem r90 (a:Hu u0e) (h:q7l a):t8a (a,a)=some true:=by
 have h1:=h.1;rw[o2o];unfold q47
 have L:=s5c t9o a (fun i=>(a,a,i)) (fun _=>false) (.inr false) (.inl ())
  (by rw[r8h];simp only[t8y,u0b,Am,Ah,Aa])
  (fun i hi=>by
   rw[r8h];simp only[t8y,u0b,hi,Ae,Ad,y8h hi,zTn,y9a (t:=u01) hi,j4g _ (h.2 _ (Ag hi)),zOb,Ap,Aa];rw[y7x (by omega)])
 have hn:(a.any fun _=>false)=false:=by simp
 rw[hn] at L;simp only[Ae,Ap,Aa,L,zOb]
theorem j05 (b:u0m) (h:tinyB b):r1f (b,b)=some true:=by
 have hf:=h.few;rw[o2l];unfold q44;simp only[p6k b.1 (by have:=h.vl;omega),r90 _ hf.2.1,r90 _ hf.2.2,zOb,Ad,Ae]
theorem o4a (e:u3m) (hb:tinyB e.1) (ho:q7l e.2):s5u (e,e)=some true:=by
 rw[p53];unfold r6g;simp only[j05 _ hb,r90 _ ho,zOb,Ad]
theorem o66 (s:u2k) (hb:tinyB s.1.1) (ho:q7l s.1.2) (hd:c1c.wt s.2<=10000000):u8n (s,s)=some true:=by
 rw[p9h];unfold q0y;simp only[o4a _ hb ho,p4e s.2 (by omega),zOb,Ad]
def d28 (w:c2k.den) (e:EvT):c2k.den:=d5u w.1 w.2.1 w.2.2 e
def w0:c2k.den:=(((d32, []),d6q), [], [], [])
def o4s (l:Hu EvT):c2k.den:=l.foldl d28 w0
structure FitW (k:Nat) (w:c2k.den):Prop where
 fit:Fit k w.2.1 w.1
 codes:w.2.2.1.length=k
 said:w.2.2.2.length=k
theorem FitW.step {k:Nat} {w:c2k.den} (h:FitW k w) {e:EvT} (he:EvR e):FitW (k+1) (d28 w e):=
 ⟨d41 h.fit he,by show(w.2.2.1++ [_]).length=_;rw[Ba,h.codes];rfl,by show(w.2.2.2++ [_]).length=_;rw[Ba,h.said];rfl⟩
theorem d8h:FitW 0 w0:=by
 obtain⟨d,h1,h2,h3⟩:=j5b;have hd:d=d6q:=by rw[j6m] at h1;simpa using h1.symm
 subst hd;have hE:EngR (d32, []):=d7u.mp (by decide);exact⟨(FitS.mk hE h2).fit,rfl,rfl⟩
theorem c07:t78 ()=some w0:=by
 rw[o2b];unfold q4v;rw[o1y];unfold q4t;rw[p8s];unfold q0c;rw[q98];unfold r4u;simp only[zOb,d1v];rfl
theorem c43:r1o ()=some w0:=by
 rw[o23];unfold q5n;rw[o21];unfold q5k;rw[p9m];unfold q03;rw[q99];unfold r4v;simp only[zOb,j6m];rfl
theorem o0g (l:Hu EvT) {i:Nat} (h:i<l.length):o4s (l.take (i+1))=d28 (o4s (l.take i)) l[i] :=by
 unfold o4s;rw[B9 h,List.foldl_append];rfl
theorem j04 {l:Hu EvT} (he:∀e∈l,EvR e):∀i:Nat,i<=l.length->FitW i (o4s (l.take i)):=by
 intro i
 induction i with
 | zero=>intro _;exact d8h | succ i ih=>
  intro hi;rw[o0g l (by omega)];exact(ih (by omega)).step (he _ (Ag (by omega)))
theorem j7j {l:Hu EvT} (he:∀e∈l,EvR e):FitW l.length (o4s l):=by
 have:=j04 he l.length (Au _)
 rwa [List.take_of_length_le (Au _)] at this
theorem j9o {k:Nat} {w:c2k.den} (h:FitW k w) (hk:k<=900) {e:EvT} (he:EvR e):t5l (w,e)=some (d28 w e):=
 c1a h.fit hk (by have:=h.codes;show w.2.2.1.length<=_;omega) (by have:=h.said;show w.2.2.2.length<=_;omega) he
abbrev z0:c2k.den:=(((([],([],([],(0,0)))), []),([], [])),([],([], [])))
theorem d5q {l:Hu EvT} (hn:l.length<=90) (he:∀e∈l,EvR e):∀(d i:Nat),i+d=l.length->t16 (z0,o4s (l.take i),l,(l.length:Int),(i:Int))=some (.inl (z0,o4s l)):=by
 intro d
 induction d with
 | zero=>
  intro i hi;rw[s52];simp only[t12,u0b,show ¬i<l.length by omega,Ah,Aa];rw[List.take_of_length_le (by omega)]
 | succ d ih=>
  intro i hi;have hlt:i<l.length:=by omega
  have hf:=j04 he i (by omega);have e1:=he _ (Ag hlt);rw[s52];simp only[t12,u0b,hlt,Ae,Ad,y8h hlt,zTn,y9a (t:=j2k) hlt,j1q e1,j9o hf (by omega) e1,zOb,Ap,Aa];rw[y7x (by omega),←o0g l hlt];exact ih (i+1) (by omega)
theorem c2i {l:Hu EvT} (hn:l.length<=90) (he:∀e∈l,EvR e):u35 l=some (o4s l,true):=by
 have e1:=d5q hn he l.length 0 (by omega);have e1:t16 (z0,w0,l,(l.length:Int),(0:Int))=_:=e1;have d:decide ((l.length:Int) >90)=false:=A7 (by omega);rw[q51];unfold r0b;simp only[d,Aa,c07,zOb,e1]
theorem c1v {es:Hu EvT} (z:c2k.den) (hn:es.length<=90) (he:∀e∈es,EvR e):∀(d i:Nat),i+d=es.length->t2c (es,z,true,(i:Int))=some (.inl (es,z,true)):=by
 intro d
 induction d with
 | zero=>
  intro i hi;rw[r8p];simp only[t86,u0b,show ¬i<es.length by omega,Ah,Aa,zOb]
 | succ d ih=>
  intro i hi;have hlt:i<es.length:=by omega
  rw[r8p];simp only[t86,u0b,hlt,Ae,Ad,y8h hlt,zTn,y9a (t:=j2k) hlt,j7z (he _ (Ag hlt)),zOb];rw[y7x (by omega)];exact ih (i+1) (by omega)
theorem d5r {l:Hu EvT} (hn:l.length<=90) (he:∀e∈l,EvR e):∀(d i:Nat),i+d=l.length->t0x (l,z0,o4s (l.take i),(i:Int))=some (.inl (z0,o4s l)):=by
 intro d
 induction d with
 | zero=>
  intro i hi;rw[r4o];simp only[t6o,u0b,show ¬i<l.length by omega,Ah,Aa];rw[List.take_of_length_le (by omega)]
 | succ d ih=>
  intro i hi;have hlt:i<l.length:=by omega
  have hf:=j04 he i (by omega);have e1:=he _ (Ag hlt);have e2:r34 (o4s (l.take i),l[i])=_:=DoW hf.fit (by omega) (o4s (l.take i)).2.2 e1;have b1:∀x:Int,Nat.ble ((o4s (l.take i)).2.2.1.length+ [x].length) z7z=true:=fun x=>q7y (by rw[Aw];have:=hf.codes;omega)
  have b2:∀x:Hs,Nat.ble ((o4s (l.take i)).2.2.2.length+ [x].length) z7z=true:=fun x=>q7y (by rw[Aw];have:=hf.said;omega)
  rw[r4o];simp only[t6o,u0b,hlt,Ae,Ad,y8h hlt,zTn,y9a (t:=j2k) hlt,e2,zOb,b1,b2];rw[y7x (by omega)];have nx:=ih (i+1) (by omega);rw[o0g l hlt] at nx;exact nx
theorem c44 {l:Hu EvT} (hn:l.length<=90) (he:∀e∈l,EvR e):s4z l=some (o4s l,true):=by
 have e1:=d5r hn he l.length 0 (by omega);have e1:t0x (l,z0,w0,(0:Int))=_:=e1;have e2:=c1v z0 hn he l.length 0 (by omega);have e2:t2c (l,z0,true,(0:Int))=_:=e2;have d:decide ((l.length:Int)<=90)=true:=Bb (by omega);rw[o2z];unfold q5i;simp only[d,e2,c43,e1,zOb,Ap,Aa]
theorem p4o (l:Hu Int) (hl:l.length<=1000000):t2t (l,l)=some true:=by
 have key:∀(d i:Nat),i+d=l.length-> ∃o,t18 (l,l,(i:Int))=some (.inl o):=by
  intro d
  induction d with
  | zero=>
   intro i hi;rw[r8g];simp only[t8x,u0b,show ¬i<l.length by omega,Ah,Aa];exact⟨(),trivial⟩
  | succ d ih=>
   intro i hi;have hlt:i<l.length:=by omega
   have nx:=ih (i+1) (by omega);rw[r8g];simp only[t8x,u0b,hlt,Ae,Ad,y8h hlt,Ap,Aa];rw[y7x (by omega)];exact nx
 rw[o2n];unfold q46;obtain⟨o,k0⟩:=key l.length 0 (by omega);have k0:t18 (l,l,(0:Int))=_:=k0;simp only[Ae,Ap,Aa,k0,zOb]
theorem p0y (l:Hu Hs) (hl:l.length<=1000000):u6n (l,l)=some true:=by
 have key:∀(d i:Nat),i+d=l.length-> ∃o,u75 (l,l,(i:Int))=some (.inl o):=by
  intro d
  induction d with
  | zero=>
   intro i hi;rw[t7b];simp only[u72,u0b,show ¬i<l.length by omega,Ah,Aa];exact⟨(),trivial⟩
  | succ d ih=>
   intro i hi;have hlt:i<l.length:=by omega
   have nx:=ih (i+1) (by omega);rw[t7b];simp only[u72,u0b,hlt,Ae,Ad,y8h hlt,y6w,Ap,Aa];rw[y7x (by omega)];exact nx
 rw[q1h];unfold s74;obtain⟨o,k0⟩:=key l.length 0 (by omega);have k0:u75 (l,l,(0:Int))=_:=k0;simp only[Ae,Ap,Aa,k0,zOb]
theorem o8a {k:Nat} {w:c2k.den} (h:FitW k w):u8n (w.1,w.1)=some true:=o66 w.1 h.fit.eng.base.tiny h.fit.eng.fewO (u8c h.fit.log)
theorem c1s (a b:Int):decide (a<b)= !decide (a>=b):=by
 by_cases c:a>=b
 .rw[Bb c,A7 (by omega)];rfl
 .rw[A7 c,Bb (by omega)];rfl
theorem d45 (a b:Int):decide (a >b)= !decide (a<=b):=by
 by_cases c:a<=b
 .rw[Bb c,A7 (by omega)];rfl
 .rw[A7 c,Bb (by omega)];rfl
theorem j48 (e:EvT):∃b,u9c e=some b/\t5v e=some b:=by
 rw[r43,p0b];unfold s6n r4x;rw[s4h,r29];unfold s4c r22;refine⟨decide (e.1>=1)&&decide (e.1<=12)&&decide (e.2.1>=0)&&decide ((e.2.2.1.size:Int)<=6)&&decide ((e.2.2.2.1.size:Int)<=20)&&decide ((e.2.2.2.2.length:Int)<=10)&&(decide (e.1=12) || decide ((e.2.2.2.2.length:Int)=0)),?_,?_⟩
 .generalize decide (e.1>=(1:Int))=b1;generalize decide (e.1<=(12:Int))=b2;generalize decide (e.2.1>=(0:Int))=b3;generalize decide ((e.2.2.1.size:Int)<=6)=b4;generalize decide ((e.2.2.2.1.size:Int)<=20)=b5;generalize decide ((e.2.2.2.2.length:Int)<=10)=b6;generalize decide (e.1=(12:Int))=b7;generalize decide ((e.2.2.2.2.length:Int)=0)=b8;cases b1<;>cases b2<;>cases b3<;>cases b4<;>cases b5<;>cases b6<;>cases b7<;>cases b8<;>rfl
 .have d3:decide (e.2.1<0)= !decide (e.2.1>=0):=c1s _ _;have d4:decide ((e.2.2.1.size:Int) >6)= !decide ((e.2.2.1.size:Int)<=6):=d45 _ _;have d5:decide ((e.2.2.2.1.size:Int) >20)= !decide ((e.2.2.2.1.size:Int)<=20):=d45 _ _;have d6:decide ((e.2.2.2.2.length:Int) >10)= !decide ((e.2.2.2.2.length:Int)<=10):=d45 _ _;rw[d3,d4,d5,d6];generalize decide (e.1>=(1:Int))=b1;generalize decide (e.1<=(12:Int))=b2;generalize decide (e.2.1>=(0:Int))=b3;generalize decide ((e.2.2.1.size:Int)<=6)=b4;generalize decide ((e.2.2.2.1.size:Int)<=20)=b5;generalize decide ((e.2.2.2.2.length:Int)<=10)=b6;generalize decide (e.1=(12:Int))=b7;generalize decide ((e.2.2.2.2.length:Int)=0)=b8;cases b1<;>cases b2<;>cases b3<;>cases b4<;>cases b5<;>cases b6<;>cases b7<;>cases b8<;>rfl
theorem d47 {n:Nat} {y:Int} (hn:0<n) (h0:0<=y):y4v (Int.tmod y (n:Int)) n=true:=by
 have e:Int.tmod y (n:Int)=y % (n:Int):=Int.tmod_eq_emod_of_nonneg h0;have h1:=Int.emod_nonneg y (show(n:Int)≠0 by omega);have h2:=Int.emod_lt_of_pos y (show(0:Int)<n by omega);rw[e];unfold y4v;rw[Bb h1,Bb h2];rfl
theorem c5i {y:Int} (h0:0<=y):0<=Int.tmod y 2/\Int.tmod y 2<=1:=by
 rw[Int.tmod_eq_emod_of_nonneg h0];omega
theorem d7c {l:Hu Int} (hl:l.length<=1048576):∃e,t66 l=some e:=by
 obtain⟨c,e1,k1⟩:=d3p hl;obtain⟨y,c2,e2,k2,r2⟩:=s9f k1 (n:=8) (by omega);obtain⟨z,c3,e3,k3,r3⟩:=s9f k2 (n:=60) (by omega);obtain⟨es,e4,n4,n5,_⟩:=o0o hl;have g0:decide ((es.length:Int)=0)=false:=A7 (by omega);have g1:=d47 (n:=es.length) (y:=z) (by omega) (by omega);have m:=c5i (y:=z) (by omega);have L:∀n:Int,0<=n->n<=100-> ∃b,t5w (n,97)=some b:=fun n h0 h1=>by
  obtain⟨m,rfl⟩:∃m:Nat,n=(m:Int):=⟨n.toNat,by omega⟩;obtain⟨t,q,_⟩:=d4q m 97 (by omega);exact⟨t,q⟩
 have w6:i64.wrap (6+Int.tmod z 2)=6+Int.tmod z 2:=y5f (by omega) (by omega);have w20:i64.wrap (20+Int.tmod z 2)=20+Int.tmod z 2:=y5f (by omega) (by omega);have w10:i64.wrap (10+Int.tmod z 2)=10+Int.tmod z 2:=y5f (by omega) (by omega);obtain⟨b6,l6⟩:=L (6+Int.tmod z 2) (by omega) (by omega);obtain⟨b20,l20⟩:=L (20+Int.tmod z 2) (by omega) (by omega);have d1:decide (0<=10+Int.tmod z 2)=true:=Bb (by omega);have d2:decide (10+Int.tmod z 2<=1099511627776)=true:=Bb (by omega);rw[p31];unfold r2y;simp only[e1,e2,e3,e4,g0,g1,w6,w20,w10,l6,l20,d1,d2,zOb,Bh,Ad,Dt];cases decide (y=0) with
 | true=>exact⟨_,rfl⟩ | false=>
 cases decide (y=1) with
 | true=>exact⟨_,rfl⟩ | false=>
 cases decide (y=2) with
 | true=>exact⟨_,rfl⟩ | false=>
 cases decide (y=3) with
 | true=>exact⟨_,rfl⟩ | false=>
 cases decide (y=4) with
 | true=>exact⟨_,rfl⟩ | false=>exact⟨_,rfl⟩
theorem d2g (x:Hu Int) {l:Hu EvT} {n:Nat} (hn:n<=l.length) (h90:n<=90) (he:∀e∈l,EvR e):∀(d i:Nat),i+d=n->t0a (x,l,(n:Int),o4s (l.take i),(i:Int))=some (.inl (x,l,(n:Int),o4s (l.take n))):=by
 intro d
 induction d with
 | zero=>
  intro i hi;have:i=n:=by omega
  subst this;rw[q23];simp only[s1l,u0b,Am,Ah,Aa]
 | succ d ih=>
  intro i hi;have hlt:i<n:=by omega
  have hl:i<l.length:=by omega
  have hf:=j04 he i (by omega);have e1:=he _ (Ag hl);rw[q23];simp only[s1l,u0b,hlt,Ae,Ad,y8h hl,zTn,y9a (t:=j2k) hl,j9o hf (by omega) e1,zOb];rw[y7x (by omega),←o0g l hl];exact ih (i+1) (by omega)
theorem d2o:u35 ([((0:Int),((0:Int),((⟨#[]⟩:Hs),((⟨#[]⟩:Hs),([] :Hu Int)))))] :Hu EvT)=some (z0,false):=by
 have hE:u9c (((0:Int),((0:Int),((⟨#[]⟩:Hs),((⟨#[]⟩:Hs),([] :Hu Int))))))=some false:=by
  rw[r43];unfold s6n;rw[s4h];unfold s4c;rfl
 have hl:([((0:Int),((0:Int),((⟨#[]⟩:Hs),((⟨#[]⟩:Hs),([] :Hu Int)))))] :Hu EvT).length=1:=rfl;rw[q51];unfold r0b;simp only[hl,c07,zOb];rw[s52];simp only[t12];have g:y4v (0:Int) ([((0:Int),((0:Int),((⟨#[]⟩:Hs),((⟨#[]⟩:Hs),([] :Hu Int)))))] :Hu EvT).length=true:=rfl;have r:rdL j2k [((0:Int),((0:Int),((⟨#[]⟩:Hs),((⟨#[]⟩:Hs),([] :Hu Int)))))] ((0:Int)).toNat=((0:Int),((0:Int),((⟨#[]⟩:Hs),((⟨#[]⟩:Hs),([] :Hu Int))))):=rfl;simp only[g,r,hE,show decide ((0:Int)<((1:Nat):Int))=true by decide,show decide (((1:Nat):Int) >90)=false by decide,Ad,Aa,zOb,Bh]
theorem j5z (x:Hu Int) (hx:(Ty.sl (.int .u8)).fine x):p0s x=some true:=by
 rw[o5x];unfold q83;rw[j8d];unfold o7i;simp only[zOb];by_cases hb:(x.length:Int) >1048576
 .simp only[hb,Ae,Ad]
 simp only[hb,Ah,Aa];obtain⟨es,e1,n1,n2,he⟩:=o0o (l:=x) (by omega);have e1:s5w x=some es:=by
  rw[p55];unfold r6i;simp only[e1,zOb]
 obtain⟨ev,e2⟩:=d7c (l:=x) (by omega);obtain⟨b,q1,q2⟩:=j48 ev;have g:=d2g x (l:=es) (n:=12) (by omega) (by omega) he 12 0 (by omega);have g:t0a (x,es,(12:Int),w0,(0:Int))=some (.inl (x,es,(12:Int),o4s (es.take 12))):=g;have c0:decide ((es.length:Int) >12)=true:=Bb (by omega);have c1:decide ((12:Int)<=(es.length:Int))=true:=Bb (by omega);have ht:∀e∈es.take 12,EvR e:=fun e h=>he e (List.mem_of_mem_take h)
 have hl:(es.take 12).length<=90:=by rw[Ec];omega
 have r1:=c2i hl ht;have r2:=c2i (l:=es) (by omega) he;have r3:=c44 (l:=es) (by omega) he;have f1:=j7j ht;have f2:=j7j he;have s1:=p4o (o4s (es.take 12)).2.2.1 (by rw[f1.codes];omega);have s2:=p0y (o4s (es.take 12)).2.2.2 (by rw[f1.said];omega);have s3:=o8a f1;have t1:=p4o (o4s es).2.2.1 (by rw[f2.codes];omega);have t2:=p0y (o4s es).2.2.2 (by rw[f2.said];omega);have t3:=o8a f2;have p1:((12:Int)).toNat=12:=rfl;have p0:((0:Int)).toNat=0:=rfl;simp only[e1,c0,c07,g,c1,p1,p0,Fh,r1,r2,r3,e2,s1,s2,s3,t1,t2,t3,q1,q2,show decide ((0:Int)<=0)=true by decide,show decide ((0:Int)<=12)=true by decide,Dt,Bh,Ad,zOb,beq_self_eq_true];have hno:u35 ([((0:Int),((0:Int),((⟨#[]⟩:Hs),((⟨#[]⟩:Hs),([] :Hu Int)))))] :Hu EvT)=some (z0,false):=d2o;refine(Dj (fun o=>Option.bind o _) hno).trans ?_;rfl
end Go.Proofs.YtkphhjdbdnoekaaGreatDoor.Ab
