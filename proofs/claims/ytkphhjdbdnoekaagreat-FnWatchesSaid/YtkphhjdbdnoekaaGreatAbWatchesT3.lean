import Derived.Test.YtkphhjdbdnoekaaGreatAbWatchesT2
import Derived.Test.YtkphhjdbdnoekaaGreatAbK2
import Derived.Test.YtkphhjdbdnoekaaGreatAbF4
import Derived.Test.YtkphhjdbdnoekaaGreatAbS2
namespace Go.Proofs.YtkphhjdbdnoekaaGreat.Ab
open Go Go.IntKind
set_option linter.unusedVariables false
set_option linter.unusedSimpArgs false
set_option linter.unnecessarySimpa false
set_option linter.unusedSectionVars false
theorem r0m (l:Hu Int):(y7c l).data.toList=u8s l:=by
 unfold y7c u8s;simp
theorem p6a {T t:Hs} {E:Nat} (h0:t.size≠0) (h1:t.size<=3008) (hE:E+(u07 t).size<=T.size) (hb:∀q,q<(u07 t).size->s7g T (E+q)=s7g (u07 t) q):
 u0s T (E:Int)=(t,((E+(u07 t).size:Nat):Int),true):=by
 have hsz:(u07 t).size=(s7y t.size).length+t.size:=by unfold u07;rw[Af,u3z]
 have hlist:(u07 t).data.toList=u8s (s7y t.size)++t.data.toList:=by
  unfold u07;rw[Ft,Ha,r0m]
 have hdrop:∃r,T.data.toList.drop E=u8s (s7y t.size)++r:=by
  refine⟨(T.data.toList.drop E).drop (u8s (s7y t.size)).length,?_⟩;have:(T.data.toList.drop E).take (u8s (s7y t.size)).length=u8s (s7y t.size):=by
   apply Gj;intro q;rw[Ca];split
   .rename_i hq;have hq' :q<(s7y t.size).length:=by simpa[u8s] using hq
    rw[Dg,p30 (by omega),hb q (by omega),←p30 (by omega),hlist,Aj hq]
   .rename_i hq;rw[Be (Fz hq)]
  conv=>lhs;rw[←En (u8s (s7y t.size)).length (T.data.toList.drop E)]
  rw[this]
 obtain⟨r,hr⟩:=hdrop;have hv:=p6g 5 0 0 t.size t.size r (by omega) (by omega) (by simp) (by omega) (by omega);have hread:u0z T (E:Int)=((t.size:Int),(E:Int)+((s7y t.size).length:Int),true):=by
  unfold u0z;rw[Al (by omega),zTn,hr,hv];simp[p4k]
 unfold u0s;rw[hread];simp only;rw[Al (by simp only[true_and];omega)];have e1:((E:Int)+((s7y t.size).length:Int)).toNat=E+(s7y t.size).length:=by omega
 have e2:((E:Int)+((s7y t.size).length:Int)+(t.size:Int)).toNat=E+(s7y t.size).length+t.size:=by omega
 rw[e1,e2];have et:T.extract (E+(s7y t.size).length) (E+(s7y t.size).length+t.size)=t:=by
  apply p3z
  .rw[Bd];omega
  .intro i hi;rw[Bd] at hi;rw[u3m,Al (by omega)];have:=hb ((s7y t.size).length+i) (by omega);rw[show E+(s7y t.size).length+i=E+((s7y t.size).length+i) by omega,this];unfold u07;rw[u7d,Ao (by rw[u3z];omega),u3z];congr 1;omega
 rw[et];congr 2;rw[hsz];omega
def c01 (d:u0k):Prop:= ∀k:Nat,k<97->(u0l d (k:Int)).2=true/\(u0l d (k:Int)).1.size=64
theorem s9j {d:u0k} (hk:u1x d=true) (hl:d.1.length=97):c01 d:=by
 intro k hlt;obtain⟨k1,k2,k3,k4⟩:=o6u.mp hk;have hc:(0:Int)<=(k:Int)/\(k:Int)<(d.1.length:Int):=by omega
 unfold u0l;rw[Al hc];refine⟨rfl,?_⟩;cases hp:t4d d.2 (k:Int) with
 | none=>
  have hlt' :k<d.1.length:=by omega
  have e:rdL Ty.str d.1 k=d.1[k] :=y8f (t:=Ty.str) hlt';simp only[Eo,zTn];rw[e];exact k3 _ (Ag hlt')
 | some s=>
  obtain⟨p,hp1,hp2⟩:=p0y hp;simp only[Eb];rw[←hp2];exact(k4 p hp1).2
theorem o3j {d:u0k} {F:Nat} (h:∀q:Nat,q<47->(u0l d ((F+q:Nat):Int)).2=true/\(u0l d ((F+q:Nat):Int)).1.size=64):∀(m i:Nat) (acc:Hs),i+m<=47->
 ∃T,q68 d (F:Int) m i acc=(T,true)/\T.size=acc.size+64*m/\ ∀j,j<T.size->s7g T j=if j<acc.size then s7g acc j else s7g (u0l d ((F+i+(j - acc.size) / 64:Nat):Int)).1 ((j - acc.size) % 64)
 | 0,i,acc,_=>⟨acc,rfl,by omega,fun j hj=>by rw[Al hj]⟩ | m+1,i,acc,hm=>by
  have hq:=h i (by omega);have e:(F:Int)+(i:Int)=((F+i:Nat):Int):=by omega
  obtain⟨T,t1,t2,t3⟩:=o3j h m (i+1) (acc++(u0l d ((F+i:Nat):Int)).1) (by omega);refine⟨T,?_,?_,fun j hj=> ?_⟩
  .unfold q68;rw[e,Al hq.1];exact t1
  .rw[t2,Af,hq.2];omega
  .rw[t3 j hj,Af,hq.2,u7d];by_cases h1:j<acc.size
   .rw[Al (by omega),Al h1,Al h1]
   .rw[Ao h1,Ao h1];by_cases h2:j<acc.size+64
    .rw[Al h2];have z1:(j - acc.size) / 64=0:=by omega
     have z2:(j - acc.size) % 64=j - acc.size:=by omega
     rw[z1,z2,Df]
    .rw[Ao h2];have z1:F+(i+1)+(j - (acc.size+64)) / 64=F+i+(j - acc.size) / 64:=by omega
     have z2:(j - (acc.size+64)) % 64=(j - acc.size) % 64:=by omega
     rw[z1,z2]
def s7f (a:Int):Nat:=(u0h a+1).toNat
def r7n (d:u0k) (a:Int):Hs:=(u93 d (u0h a+1) 47).1
theorem u61 {d:u0k} (hf:c01 d) {a:Int} (ha:a=0\/a=1):u93 d (u0h a+1) 47=(r7n d a,true)/\(r7n d a).size=3008/\ ∀j,j<3008->s7g (r7n d a) j=s7g (u0l d ((s7f a+j / 64:Nat):Int)).1 (j % 64):=by
 have hfa:u0h a=1+a*48:=by unfold u0h;rw[Al (d2d.mpr ha)]
 have hF:(u0h a+1:Int)=((s7f a:Nat):Int):=by unfold s7f;rcases ha with rfl | rfl<;>omega
 have hb:s7f a+47<=97:=by unfold s7f;rcases ha with rfl | rfl<;>omega
 obtain⟨T,t1,t2,t3⟩:=o3j (d:=d) (F:=s7f a) (fun q hq=>hf (s7f a+q) (by omega)) 47 0 emp (by omega);have he:emp.size=0:=rfl;have hs:u93 d (u0h a+1) 47=(T,true):=by
  unfold u93;rw[Al (by omega),hF];exact t1
 have hT:r7n d a=T:=by unfold r7n;rw[hs]
 rw[hT];rw[he] at t2 t3;refine⟨hs,by omega,fun j hj=> ?_⟩;rw[t3 j (by omega),Ao (by omega),Df,Nat.sub_zero]
theorem t2m {d:u0k} (hf:c01 d) {a:Int} (ha:a=0\/a=1):u0f d a=u76 (r7n d a) (u08 d a).toNat 0 [] :=by
 have h:=(u61 hf ha).1;have hi:o92 a=true:=d2d.mpr ha;unfold u0f;rw[h,hi];rfl
theorem j57 {a b:Hs} (h:a.data.toList=b.data.toList):a=b:=by
 apply Gf;exact Array.toList_inj.mp h
theorem o0t (a b:Hs):(a++b).data.toList=a.data.toList++b.data.toList:=by rw[Ft,Ha]
theorem t0l (a b c:Hs):a++b++c=a++(b++c):=j57 (by simp only[o0t,Bi])
theorem j47 (a:Hs):emp++a=a:=j57 (by rw[o0t];rfl)
theorem j40 (a:Hs):a++emp=a:=j57 (by rw[o0t];simp[emp])
theorem p0i (a:Hs):a.size=a.data.toList.length:=j3t a
def q50 (n:Int):Hs:=y7c (s7y n.toNat)
def j42 (b:Bool):Hs:=y7c [if b then 1 else 0]
def q2b {E:Type} (f:E->Hs) (l:Hu E):Hs:=l.foldl (fun s x=>s++f x) emp
def j4f (r:s6l):Hs:=u07 r.1++u07 r.2
def wrT (w:WrT):Hs:=u07 w.1++(u07 w.2.1++j42 w.2.2)
def j31 (v:u17):Hs:=u07 v.1++(u07 v.2.1++(j42 v.2.2.1++q50 v.2.2.2))
def t1g (t:u0i):Hs:=
 q50 t.1++(q50 t.2.1++(q50 t.2.2.1++(q50 t.2.2.2.1++(q50 (t.2.2.2.2.1.length:Int)++(q2b j4f t.2.2.2.2.1++(q50 (t.2.2.2.2.2.1.length:Int)++(q2b wrT t.2.2.2.2.2.1++(j42 t.2.2.2.2.2.2.1++u07 t.2.2.2.2.2.2.2))))))))
def r6c (l:Hu u0i):Hs:=q50 (l.length:Int)++q2b t1g l
def s5q (b:u0j):Hs:=q50 b.2.2.2.1++(q50 b.2.2.2.2++(q50 (b.1.length:Int)++(q2b j31 b.1++(r6c b.2.1++r6c b.2.2.1))))
theorem p26 {E:Type} (f:E->Hs):∀(l:Hu E) (s:Hs),l.foldl (fun s x=>s++f x) s=s++q2b f l
 | [],s=>(j40 s).symm | x::l,s=>by
  rw[Bs,p26 f l];unfold q2b;rw[Bs,p26 f l (emp++f x),j47,t0l];rfl
theorem s9g {E:Type} (f:E->Hs) (x:E) (l:Hu E):q2b f (x::l)=f x++q2b f l:=by
 unfold q2b;rw[Bs,p26,j47];rfl
theorem o8i {E:Type} (f:E->Hs):q2b f [] =emp:=rfl
def t8n (T:Hs) (a:Nat) (s:Hs):Prop:= ∃r,T.data.toList.drop a=s.data.toList++r
theorem d6w {T:Hs} {a:Nat} {s u:Hs} :t8n T a (s++u)↔t8n T a s/\t8n T (a+s.size) u:=by
 unfold t8n;rw[o0t,p0i s];constructor
 .rintro⟨r,h⟩
  refine⟨⟨u.data.toList++r,by rw[h,Bi]⟩,r,?_⟩;rw[←Gl,h,Bi,Hg]
 .rintro⟨⟨r,h⟩,r',h'⟩
  rw[←Gl,h,Hg] at h';exact⟨r',by rw[h,h',Bi]⟩
theorem p4d {T:Hs} {a:Nat} {s:Hs} (h:t8n T a s) (hs:s.size≠0):a+s.size<=T.size:=by
 obtain⟨r,h⟩:=h;have:=Dj List.length h;rw[F0,Ba,←p0i,←p0i] at this;omega
theorem j8g {a s b:Hs} :t8n (a++s++b) a.size s:=⟨b.data.toList,by rw[o0t,o0t,p0i,Bi,Hg]⟩
theorem r0o (n:Int):(q50 n).size=(s7y n.toNat).length:=u3z _
theorem p4j (n:Nat):0<(s7y n).length:=by
 by_cases h:n<128
 .rw[q5z h];simp
 .rw[p6f h];simp
theorem q92 {T:Hs} {a:Nat} {n:Int} (h0:0<=n) (hn:n<=1000000000) (h:t8n T a (q50 n)):u0z T (a:Int)=(n,((a+(q50 n).size:Nat):Int),true):=by
 have hle:=p4d h (by rw[r0o];have:=p4j n.toNat;omega);obtain⟨r,h⟩:=h;unfold q50 at h;rw[r0m] at h;have hv:=p6g 5 0 0 n.toNat n.toNat r (by omega) (by omega) (by simp) (by omega) (by omega);unfold u0z;rw[Al (by omega),zTn,h,hv];simp only[p4k];rw[r0o];congr 1
 .omega
 .congr 1;omega
theorem p9i {T:Hs} {a:Nat} {s:Hs} (hs:s.size<=20000) (h:t8n T a (u07 s)):u0s T (a:Int)=(s,((a+(u07 s).size:Nat):Int),true):=by
 have e:u07 s=q50 (s.size:Int)++s:=rfl;rw[e] at h;obtain⟨h1,h2⟩:=d6w.mp h;have hv:=q92 (by omega) (by omega) h1;have hle1:=p4d h1 (by rw[r0o];have:=p4j (s.size:Int).toNat;omega);unfold u0s;rw[hv];have hle:a+(q50 (s.size:Int)).size+s.size<=T.size:=by
  by_cases q:s.size=0
  .omega
  .exact p4d h2 q
 rw[Al (by simp only[true_and];omega)];have hx:T.extract (((a+(q50 (s.size:Int)).size:Nat):Int)).toNat ((((a+(q50 (s.size:Int)).size:Nat):Int)+(s.size:Int))).toNat=s:=by
  rw[zTn,show(((a+(q50 (s.size:Int)).size:Nat):Int)+(s.size:Int)).toNat=a+(q50 (s.size:Int)).size+s.size by omega];rw[p7j _ _ _ hle];obtain⟨r,hr⟩:=h2;rw[hr,Nat.add_sub_cancel_left,p0i,List.take_left]
 simp only[hx];rw[e,Af];congr 2;omega
abbrev Cur:=Int×Bool
def u2s (s:Hs) (c:Cur):Int×Cur:=if c.2=true\/(u0z s c.1).2.2=false then(0,c.1,true) else((u0z s c.1).1,(u0z s c.1).2.1,false)
def u20 (s:Hs) (c:Cur):Hs×Cur:=if c.2=true\/(u0s s c.1).2.2=false then(emp,c.1,true) else((u0s s c.1).1,(u0s s c.1).2.1,false)
def u8u (s:Hs) (i:Nat):Nat:=(s.data.toList.getD i 0).toNat
def p4t (s:Hs) (c:Cur):Bool×Cur:=if c.2=true\/ ¬(0<=c.1/\c.1<(s.size:Int))\/1<u8u s c.1.toNat then(false,c.1,true) else(decide (u8u s c.1.toNat=1),c.1+1,false)
def u23 {E:Type} (f:Cur->E×Cur):Nat->Cur->Hu E->Hu E×Cur
 | 0,c,a=>(a,c) | n+1,c,a=>if c.2=true then(a,c) else u23 f n (f c).2 (a++ [(f c).1])
def j0c (s:Hs) (c:Cur):s6l×Cur:=(((u20 s c).1,(u20 s (u20 s c).2).1),(u20 s (u20 s c).2).2)
def rWr (s:Hs) (c:Cur):WrT×Cur:=
 (((u20 s c).1,(u20 s (u20 s c).2).1,(p4t s (u20 s (u20 s c).2).2).1),(p4t s (u20 s (u20 s c).2).2).2)
def j0e (s:Hs) (c:Cur):u17×Cur:=
 let w:=rWr s c
 ((w.1.1,w.1.2.1,w.1.2.2,(u2s s w.2).1),(u2s s w.2).2)
def p9y (m:Nat) (s:Hs) (c:Cur):u0i×Cur:=
 let a:=u2s s c
 let b:=u2s s a.2
 let d:=u2s s b.2
 let e:=u2s s d.2
 let n:=u2s s e.2
 let rs:=u23 (j0c s) (min n.1.toNat m) n.2 []
 let k:=u2s s rs.2
 let ws:=u23 (rWr s) (min k.1.toNat m) k.2 []
 let o:=p4t s ws.2
 let nm:=u20 s o.2
 ((a.1,b.1,d.1,e.1,rs.1,ws.1,o.1,nm.1),nm.2)
theorem t2l {s:Hs} {c:Cur} (h:c.2=true):(u2s s c).2.2=true:=by unfold u2s;rw[Al (.inl h)]
theorem r58 {s:Hs} {c:Cur} (h:c.2=true):(u20 s c).2.2=true:=by unfold u20;rw[Al (.inl h)]
theorem p38 {s:Hs} {c:Cur} (h:c.2=true):(p4t s c).2.2=true:=by unfold p4t;rw[Al (.inl h)]
theorem t89 {E:Type} {f:Cur->E×Cur} {n:Nat} {c:Cur} {a:Hu E} (h:c.2=true):u23 f n c a=(a,c):=by
 cases n with
 | zero=>rfl | succ n=>simp only[u23];rw[Al h]
theorem j3j {E:Type} {f:Cur->E×Cur} :∀ {n:Nat} {c:Cur} {a:Hu E},(u23 f n c a).2.2=false->(u23 f n c a).1.length=a.length+n
 | 0,c,a,_=>rfl | n+1,c,a,h=>by
  simp only[u23] at h ⊢;split at h
  .rename_i q;rw[q] at h;cases h
  .rename_i q;rw[Ao q,j3j h];simp;omega
theorem u8p {s:Hs} {a:Nat} {n:Int} (h0:0<=n) (hn:n<=1000000000) (h:t8n s a (q50 n)):u2s s ((a:Int),false)=(n,((a+(q50 n).size:Nat):Int),false):=by
 unfold u2s;rw[q92 h0 hn h,Ao (by simp)]
theorem s1t {s:Hs} {a:Nat} {x:Hs} (hx:x.size<=20000) (h:t8n s a (u07 x)):u20 s ((a:Int),false)=(x,((a+(u07 x).size:Nat):Int),false):=by
 unfold u20;rw[p9i hx h,Ao (by simp)]
theorem u3s (b:Bool):(j42 b).size=1:=u3z _
theorem p05 {s:Hs} {a:Nat} {b:Bool} (h:t8n s a (j42 b)):p4t s ((a:Int),false)=(b,((a+1:Nat):Int),false):=by
 have hle:=p4d h (by rw[u3s];omega);rw[u3s] at hle;obtain⟨r,hr⟩:=h;unfold j42 at hr;rw[r0m] at hr;have hb:u8u s a=if b then 1 else 0:=by
  unfold u8u;have:s.data.toList.getD a 0=(s.data.toList.drop a).getD 0 0:=by
   rw[A5,A5,Dg,Df]
  rw[this,hr];cases b<;>rfl
 unfold p4t;simp only[zTn,hb];rw[Ao]
 .cases b<;>simp
 .rintro(q | q | q)
  .cases q
  .omega
  .cases b<;>simp at q
theorem s59 {E:Type} {f:Cur->E×Cur} {g:E->Hs} {s:Hs} :∀ {l:Hu E} {a:Nat} {acc:Hu E},(∀x∈l,∀a:Nat,t8n s a (g x)->f ((a:Int),false)=(x,((a+(g x).size:Nat):Int),false))->
 t8n s a (q2b g l)->u23 f l.length ((a:Int),false) acc=(acc++l,((a+(q2b g l).size:Nat):Int),false)
 | [],a,acc,_,_=>by rw[o8i];simp[u23,emp,ByteArray.size]
 | x::l,a,acc,hf,h=>by
  rw[s9g] at h ⊢;obtain⟨h1,h2⟩:=d6w.mp h;have e:=hf x (by simp) a h1;simp only[Bc,u23];rw[Ao (by simp),e];rw[s59 (l:=l) (fun y hy=>hf y (by simp[hy])) h2,Af];simp[D9]
theorem j5l {s:Hs} {a:Nat} {r:s6l} (h1:r.1.size<=20000) (h2:r.2.size<=20000) (h:t8n s a (j4f r)):j0c s ((a:Int),false)=(r,((a+(j4f r).size:Nat):Int),false):=by
 obtain⟨k1,k2⟩:=d6w.mp h;unfold j0c;rw[s1t h1 k1];simp only;rw[s1t h2 k2];unfold j4f;rw[Af,D9]
theorem o7d {s:Hs} {a:Nat} {w:WrT} (h1:w.1.size<=20000) (h2:w.2.1.size<=20000) (h:t8n s a (wrT w)):rWr s ((a:Int),false)=(w,((a+(wrT w).size:Nat):Int),false):=by
 obtain⟨k1,k2⟩:=d6w.mp h;obtain⟨k2,k3⟩:=d6w.mp k2;unfold rWr;rw[s1t h1 k1];simp only;rw[s1t h2 k2];simp only;rw[p05 k3];unfold wrT;rw[Af,Af,u3s,D9,D9]
theorem j5n {s:Hs} {a:Nat} {v:u17} (h1:v.1.size<=20000) (h2:v.2.1.size<=20000) (h3:0<=v.2.2.2/\v.2.2.2<=1000000000) (h:t8n s a (j31 v)):j0e s ((a:Int),false)=(v,((a+(j31 v).size:Nat):Int),false):=by
 have e:j31 v=wrT (v.1,v.2.1,v.2.2.1)++q50 v.2.2.2:=by unfold j31 wrT;simp only[t0l]
 rw[e] at h ⊢;obtain⟨k1,k2⟩:=d6w.mp h;unfold j0e;rw[o7d (w:=(v.1,v.2.1,v.2.2.1)) h1 h2 k1];simp only;rw[u8p h3.1 h3.2 k2,Af,D9]
theorem TxnR.small {t:u0i} (h:TxnR t):(∀r∈t.2.2.2.2.1,r.1.size<=3/\r.2.size<=3)/\(∀w∈t.2.2.2.2.2.1,w.1.size<=3/\w.2.1.size<=12)/\t.2.2.2.2.2.2.2.size<=3/\t.2.2.2.2.2.1.length<=8/\0<=t.2.2.2.1/\t.2.2.2.1<=9999:=by
 obtain⟨w1,w2,w3⟩:=d37.mp h.ws;refine⟨fun r hr=> ?_,fun w hw=> ?_,?_,w3,?_⟩
 .have:=h.rs r hr;unfold u2p at this;rw[Ai,Ai] at this;exact⟨(u27 this.1).2,(u27 this.2.1).2⟩
 .have:=w1 w hw;unfold u3i at this;rw[Ai,Ai,Ar] at this;exact⟨(u27 this.1).2,this.2.1⟩
 .by_cases e:t.2.1=2
  .exact(u27 (h.name e)).2
  .rw[h.noname e];omega
 .by_cases e:t.2.1=3
  .have:=h.done e;have:=h.snap;omega
  .rw[h.nocs e];omega
theorem j5m {s:Hs} {a:Nat} {t:u0i} {m:Nat} (hm:8<=m) (ht:TxnR t) (h:t8n s a (t1g t)):p9y m s ((a:Int),false)=(t,((a+(t1g t).size:Nat):Int),false):=by
 obtain⟨z1,z2,z3,z4,z5⟩:=ht.small;have hi:=ht.id;have hst:=ht.st;have hsn:=ht.snap;have hrl:=ht.rlen;unfold t1g at h ⊢;obtain⟨k1,h⟩:=d6w.mp h;obtain⟨k2,h⟩:=d6w.mp h;obtain⟨k3,h⟩:=d6w.mp h;obtain⟨k4,h⟩:=d6w.mp h;obtain⟨k5,h⟩:=d6w.mp h;obtain⟨k6,h⟩:=d6w.mp h;obtain⟨k7,h⟩:=d6w.mp h;obtain⟨k8,h⟩:=d6w.mp h;obtain⟨k9,k10⟩:=d6w.mp h;unfold p9y;rw[u8p (by omega) (by omega) k1];simp only;rw[u8p (by omega) (by omega) k2];simp only;rw[u8p (by omega) (by omega) k3];simp only;rw[u8p (by omega) (by omega) k4];simp only;rw[u8p (by omega) (by omega) k5];simp only;rw[show min ((t.2.2.2.2.1.length:Int)).toNat m=t.2.2.2.2.1.length by omega,s59 (g:=j4f) (fun r hr a hs=>j5l (by have:=(z1 r hr).1;omega) (by have:=(z1 r hr).2;omega) hs) k6];simp only;rw[u8p (by omega) (by omega) k7];simp only;rw[show min ((t.2.2.2.2.2.1.length:Int)).toNat m=t.2.2.2.2.2.1.length by omega,s59 (g:=wrT) (fun w hw a hs=>o7d (by have:=(z2 w hw).1;omega) (by have:=(z2 w hw).2;omega) hs) k8]
 simp only;rw[p05 k9];simp only;rw[u3s] at k10;rw[s1t (by omega) k10];simp only[Cf,Af,u3s];simp only[D9]
def u7v (m:Nat) (s:Hs) (c:Cur):u0i×Cur:=((p9y m s c).1,(p9y m s c).2.1,(p9y m s c).2.2 || !u71 (p9y m s c).1)
def t3y (m k:Nat) (s:Hs) (c:Cur):Hu u0i×Cur:=u23 (u7v m s) (min (u2s s c).1.toNat k) (u2s s c).2 []
structure Lim where
 t:Nat
 v:Nat
 p:Nat
 r:Nat
def r57 (m:Lim) (s:Hs) (c:Cur):u0j×Cur:=
 let a:=u2s s c
 let b:=u2s s a.2
 let n:=u2s s b.2
 let vs:=u23 (j0e s) (min n.1.toNat m.v) n.2 []
 let ps:=t3y m.t m.p s vs.2
 let rs:=t3y m.t m.r s ps.2
 ((vs.1,ps.1,rs.1,a.1,b.1),rs.2)
theorem d0h {m:Nat} {s:Hs} {c:Cur} (h:c.2=true):(u7v m s c).2.2=true:=by
 have:(p9y m s c).2.2=true:=by
  unfold p9y;have h1:=t2l (s:=s) h;have h2:=t2l (s:=s) h1;have h3:=t2l (s:=s) h2;have h4:=t2l (s:=s) h3;have h5:=t2l (s:=s) h4;simp only;rw[t89 h5];have h6:=t2l (s:=s) h5;simp only;rw[t89 h6];exact r58 (p38 h6)
 unfold u7v;simp only[this,Dx]
theorem q6v {E:Type} {f:Cur->E×Cur} {n k:Nat} {c:Cur} (hk:k<=n):(u23 f n c []).2.2=true\/k<=(u23 f n c []).1.length:=by
 cases h:(u23 f n c []).2.2 with
 | true=>exact .inl rfl | false=>rw[j3j h];exact .inr (by simp;exact hk)
theorem o24 {m m' :Nat} (hm:9<=m) (hm' :9<=m') {s:Hs} {c:Cur} (h:(u7v m s c).2.2=false):u7v m' s c=u7v m s c:=by
 have hb:(p9y m s c).2.2=false/\u71 (p9y m s c).1=true:=by
  unfold u7v at h;simp only[Es,Bool.not_eq_false'] at h;exact h
 have hR:=p4g.mp hb.2;have hw:=(d37.mp hR.ws).2.2
 suffices e:p9y m' s c=p9y m s c by unfold u7v;rw[e]
 have b1:=hb.1;have hr:=hR.rlen;unfold p9y at b1 hr hw ⊢;simp only at b1 hr hw ⊢;generalize hn:u2s s (u2s s (u2s s (u2s s (u2s s c).2).2).2).2=n at b1 hr hw ⊢;have k1:n.1.toNat<=8\/(u23 (j0c s) (min n.1.toNat m) n.2 []).2.2=true:=by
  rcases B8 8 n.1.toNat with q | q
  .rcases q6v (f:=j0c s) (n:=min n.1.toNat m) (k:=9) (c:=n.2) (by omega) with z | z
   .exact .inr z
   .omega
  .exact .inl q
 have k1:n.1.toNat<=8:=k1.resolve_right fun k1=>by
  have h1:=t2l (s:=s) k1;rw[t89 h1] at b1;rw[r58 (p38 h1)] at b1;cases b1
 have e1:min n.1.toNat m=min n.1.toNat m' :=by omega
 rw[e1] at b1 hw ⊢;generalize hk:u2s s (u23 (j0c s) (min n.1.toNat m') n.2 []).2=k at b1 hw ⊢;have k2:k.1.toNat<=8\/(u23 (rWr s) (min k.1.toNat m) k.2 []).2.2=true:=by
  rcases B8 8 k.1.toNat with q | q
  .rcases q6v (f:=rWr s) (n:=min k.1.toNat m) (k:=9) (c:=k.2) (by omega) with z | z
   .exact .inr z
   .omega
  .exact .inl q
 have k2:k.1.toNat<=8:=k2.resolve_right fun k2=>by
  rw[r58 (p38 k2)] at b1;cases b1
 have e2:min k.1.toNat m=min k.1.toNat m' :=by omega
 rw[e2]
theorem o27 {E:Type} {f g:Cur->E×Cur} (hf:∀c,(f c).2.2=false->g c=f c) (hfb:∀c,c.2=true->(f c).2.2=true):∀ {n:Nat} {c:Cur} {a:Hu E},(u23 f n c a).2.2=false->u23 g n c a=u23 f n c a
 | 0,c,a,_=>rfl | n+1,c,a,h=>by
  simp only[u23] at h ⊢;split at h
  .rename_i q;rw[q] at h;cases h
  .rename_i q;rw[Ao q,Ao q];have:(f c).2.2=false:=by
    cases z:(f c).2.2 with
    | false=>rfl | true=>rw[t89 z] at h;rw[z] at h;cases h
   rw[hf c this];exact o27 hf hfb h
def t8b (m:Lim) (s:Hs) (c:Cur):u0j×Cur:=((r57 m s c).1,(r57 m s c).2.1,(r57 m s c).2.2 || !u8t (r57 m s c).1)
def Lim.ok (m:Lim):Prop:=9<=m.t/\121<=m.v/\13<=m.p/\4<=m.r
theorem q5n {m k:Nat} {s:Hs} {c:Cur} (h:c.2=true):(t3y m k s c).2.2=true:=by
 unfold t3y;rw[t89 (t2l h)];exact t2l h
theorem j3k {m m' k k' N:Nat} (hm:9<=m) (hm' :9<=m') (hk:N<k) (hk' :N<k') {s:Hs} {c:Cur} (h:(t3y m k s c).2.2=false) (hl:(t3y m k s c).1.length<=N):t3y m' k' s c=t3y m k s c:=by
 unfold t3y at h hl ⊢;have q:(u2s s c).1.toNat<=N:=by
  rcases B8 N (u2s s c).1.toNat with q | q
  .rcases q6v (f:=u7v m s) (n:=min (u2s s c).1.toNat k) (k:=N+1) (c:=(u2s s c).2) (by omega) with z | z
   .rw[z] at h;cases h
   .omega
  .exact q
 have e:min (u2s s c).1.toNat k=min (u2s s c).1.toNat k' :=by omega
 rw[e] at h ⊢;exact o27 (fun c hc=>o24 hm hm' hc) (fun c hc=>d0h hc) h
theorem o65 {m m' :Lim} (hm:m.ok) (hm' :m'.ok) {s:Hs} {c:Cur} (h:(t8b m s c).2.2=false):t8b m' s c=t8b m s c:=by
 obtain⟨a1,a2,a3,a4⟩:=hm;obtain⟨b1,b2,b3,b4⟩:=hm';have hb:(r57 m s c).2.2=false/\u8t (r57 m s c).1=true:=by
  unfold t8b at h;simp only[Es,Bool.not_eq_false'] at h;exact h
 have hR:=o6q.mp hb.2;have v1:=(d1p.mp hR.vs).2.2;have v2:=hR.plen;have v3:=hR.rlen;have h0:=hb.1
 suffices e:r57 m' s c=r57 m s c by unfold t8b;rw[e]
 unfold r57 at h0 v1 v2 v3 ⊢;simp only at h0 v1 v2 v3 ⊢;generalize hn:u2s s (u2s s (u2s s c).2).2=n at h0 v1 v2 v3 ⊢;have k1:n.1.toNat<=120:=by
  rcases B8 120 n.1.toNat with q | q
  .rcases q6v (f:=j0e s) (n:=min n.1.toNat m.v) (k:=121) (c:=n.2) (by omega) with z | z
   .exfalso;rw[q5n (q5n z)] at h0;cases h0
   .omega
  .exact q
 have e1:min n.1.toNat m.v=min n.1.toNat m'.v:=by omega
 rw[e1] at h0 v2 v3 ⊢;generalize hv:u23 (j0e s) (min n.1.toNat m'.v) n.2 [] =vs at h0 v2 v3 ⊢;have hp:(t3y m.t m.p s vs.2).2.2=false:=by
  cases z:(t3y m.t m.p s vs.2).2.2 with
  | false=>rfl | true=>rw[q5n z] at h0;cases h0
 rw[j3k (N:=12) a1 b1 (by omega) (by omega) hp v2];rw[j3k (N:=3) a1 b1 (by omega) (by omega) h0 v3]
theorem q5f {s:Hs} {a:Nat} {t:u0i} {m:Nat} (hm:8<=m) (ht:TxnR t) (h:t8n s a (t1g t)):u7v m s ((a:Int),false)=(t,((a+(t1g t).size:Nat):Int),false):=by
 unfold u7v;rw[j5m hm ht h];simp only[p4g.mpr ht,Ap,Fp]
theorem p7t {s:Hs} {a:Nat} {l:Hu u0i} {m k:Nat} (hm:8<=m) (hk:l.length<=k) (hl:l.length<=1000000000) (ht:∀t∈l,TxnR t) (h:t8n s a (r6c l)):t3y m k s ((a:Int),false)=(l,((a+(r6c l).size:Nat):Int),false):=by
 unfold r6c at h ⊢;obtain⟨k1,k2⟩:=d6w.mp h;unfold t3y;rw[u8p (by omega) (by omega) k1];simp only;rw[show min ((l.length:Int)).toNat k=l.length by omega,s59 (g:=t1g) (fun t h a hs=>q5f hm (ht t h) hs) k2];rw[Af,Cf,D9]
theorem r0p {v:u17} (h:q51 v=true):v.1.size<=3/\v.2.1.size<=12/\1<=v.2.2.2/\v.2.2.2<=9999:=by
 unfold q51 at h;simp only[Ai,Ar,p52] at h;exact⟨(u27 h.1).2,h.2.1,h.2.2.2⟩
theorem j3i {s:Hs} {a:Nat} {b:u0j} {m:Lim} (hm:m.ok) (hb:BaseR b) (h:t8n s a (s5q b)):r57 m s ((a:Int),false)=(b,((a+(s5q b).size:Nat):Int),false):=by
 obtain⟨a1,a2,a3,a4⟩:=hm;obtain⟨v1,v2,v3⟩:=d1p.mp hb.vs;have hc:=hb.cs;have hx:=hb.next;have hp:=hb.plen;have hr:=hb.rlen;unfold s5q at h ⊢;obtain⟨k1,h⟩:=d6w.mp h;obtain⟨k2,h⟩:=d6w.mp h;obtain⟨k3,h⟩:=d6w.mp h;obtain⟨k4,h⟩:=d6w.mp h;obtain⟨k5,k6⟩:=d6w.mp h;unfold r57;rw[u8p (by omega) (by omega) k1];simp only;rw[u8p (by omega) (by omega) k2];simp only;rw[u8p (by omega) (by omega) k3];simp only;rw[show min ((b.1.length:Int)).toNat m.v=b.1.length by omega,s59 (g:=j31) (fun v hv a hs=>by
  have:=r0p (v1 v hv);exact j5n (by omega) (by omega) (by omega) hs) k4]
 simp only;rw[p7t (by omega) (by omega) (by omega) (fun t ht=>(hb.past t ht).1) k5];simp only;rw[p7t (by omega) (by omega) (by omega) (fun t ht=>(hb.ready t ht).1) k6];simp only[Cf,Af,D9]
theorem j30 {n:Nat} (h:n<16384):(s7y n).length<=2:=by
 by_cases q:n<128
 .rw[q5z q];simp
 .rw[p6f q,q5z (by omega)];simp
theorem u16 {n:Int} (h:n<16384):(q50 n).size<=2:=by rw[r0o];exact j30 (by omega)
theorem u1a {s:Hs} (h:s.size<16384):(u07 s).size<=s.size+2:=by
 unfold u07;rw[Af,u3z];have:=j30 h;omega
theorem s2r {E:Type} {f:E->Hs} {k:Nat} :∀ {l:Hu E},(∀x∈l,(f x).size<=k)->(q2b f l).size<=l.length*k
 | [],_=>by rw[o8i];simp[emp,ByteArray.size]
 | x::l,h=>by
  rw[s9g,Af,Bc,C7];have h1:=h x (by simp);have h2:=s2r (l:=l) (fun y hy=>h y (by simp[hy]));omega
theorem s3m {t:u0i} (h:TxnR t):(t1g t).size<=300:=by
 obtain⟨z1,z2,z3,z4,z5⟩:=h.small;have hi:=h.id;have hst:=h.st;have hsn:=h.snap;have hrl:=h.rlen;have r1:(q2b j4f t.2.2.2.2.1).size<=t.2.2.2.2.1.length*10:=s2r fun r hr=>by
  have:=z1 r hr;have q1:=u1a (s:=r.1) (by omega);have q2:=u1a (s:=r.2) (by omega);unfold j4f;rw[Af];omega
 have r2:(q2b wrT t.2.2.2.2.2.1).size<=t.2.2.2.2.2.1.length*20:=s2r fun w hw=>by
  have:=z2 w hw;have q1:=u1a (s:=w.1) (by omega);have q2:=u1a (s:=w.2.1) (by omega);unfold wrT;rw[Af,Af,u3s];omega
 have v1:=u16 (n:=t.1) (by omega);have v2:=u16 (n:=t.2.1) (by omega);have v3:=u16 (n:=t.2.2.1) (by omega);have v4:=u16 (n:=t.2.2.2.1) (by omega);have v5:=u16 (n:=(t.2.2.2.2.1.length:Int)) (by omega);have v6:=u16 (n:=(t.2.2.2.2.2.1.length:Int)) (by omega);have v7:=u1a (s:=t.2.2.2.2.2.2.2) (by omega);unfold t1g;simp only[Af,u3s];omega
theorem s80 {l:Hu u0i} (hl:l.length<16384) (h:∀t∈l,TxnR t):(r6c l).size<=2+l.length*300:=by
 unfold r6c;rw[Af];have v1:=u16 (n:=(l.length:Int)) (by omega);have v2:=s2r (f:=t1g) (k:=300) (l:=l) (fun t ht=>s3m (h t ht));omega
theorem p4l {v:u17} (h:q51 v=true):(j31 v).size<=22:=by
 have:=r0p h;have q1:=u1a (s:=v.1) (by omega);have q2:=u1a (s:=v.2.1) (by omega);have q3:=u16 (n:=v.2.2.2) (by omega);unfold j31;simp only[Af,u3s];omega
theorem p48 {b:u0j} (hb:BaseR b):(s5q b).size<=10+b.1.length*22+b.2.1.length*300+b.2.2.1.length*300:=by
 obtain⟨v1,v2,v3⟩:=d1p.mp hb.vs;have hc:=hb.cs;have hx:=hb.next;have hp:=hb.plen;have hr:=hb.rlen;have q1:=u16 (n:=b.2.2.2.1) (by omega);have q2:=u16 (n:=b.2.2.2.2) (by omega);have q3:=u16 (n:=(b.1.length:Int)) (by omega);have q4:=s2r (f:=j31) (k:=22) (l:=b.1) (fun v hv=>p4l (v1 v hv));have q5:=s80 (l:=b.2.1) (by omega) (fun t ht=>(hb.past t ht).1);have q6:=s80 (l:=b.2.2.1) (by omega) (fun t ht=>(hb.ready t ht).1);unfold s5q;simp only[Af];omega
def d52 (a b:Int):Int:=u32.wrap ((BitVec.ofInt u32.bits a^^^BitVec.ofInt u32.bits b).toNat:Int)
def d06 (x:Int):Int:=bif decide (Int.tmod x 2=1) then d52 (u32.wrap (Int.tdiv x 2)) 3558460437 else u32.wrap (Int.tdiv x 2)
def o3m:Nat->Int->Int
 | 0,x=>x | n+1,x=>o3m n (d06 x)
def o3n (x:Int) (b:UInt8):Int:=o3m 8 (d52 x (u32.wrap (b.toNat:Int)))
def d5u (t:Hs):Int:=t.data.toList.foldl o3n 4294967295
def d5s (x:Int) (k:Nat):Int:=u8.wrap (Int.fdiv x (2^k))
def d9p (x:Int):Hs:=y7c [d5s x 24,d5s x 16,d5s x 8,u8.wrap x]
def q5w (t:Hs):Hs:=t++d9p (d5u t)
def o3i (t:Hs):Hs×Bool:=if t.size<=20000 then(q5w t,true) else(emp,false)
def t74 (t:Hs):Ht Hs:=if 4<=t.size/\t.size - 4<=20000/\q5w (t.extract 0 (t.size - 4))=t then some (t.extract 0 (t.size - 4)) else none
theorem j95 (x:Int):(d9p x).size=4:=u3z _
theorem o7j (t:Hs):(q5w t).size=t.size+4:=by unfold q5w;rw[Af,j95]
theorem p4h {t:Hs} (h:t.size<=20000):t74 (q5w t)=some t:=by
 have hs:=o7j t;have e:(q5w t).extract 0 ((q5w t).size - 4)=t:=by
  rw[hs,Nat.add_sub_cancel];exact ByteArray.extract_append_eq_left rfl
 unfold t74;rw[e,Al ⟨by omega,by omega,rfl⟩]
abbrev r03:=Int×u0i×Hs×Bool×u0j
def u5u:u0i:=(0,0,0,0, [], [],false,emp)
def u2t:u0j:=([], [], [],0,0)
def noT (t:u0i):Bool:=decide (t.1=0)&&(decide (t.2.1=0)&&(decide (t.2.2.1=0)&&(decide (t.2.2.2.1=0)&&(decide (t.2.2.2.2.1.length=0)&&(decide (t.2.2.2.2.2.1.length=0)&&(!t.2.2.2.2.2.2.1&&decide (t.2.2.2.2.2.2.2.size=0)))))))
def noB (b:u0j):Bool:=decide (b.1.length=0)&&(decide (b.2.1.length=0)&&(decide (b.2.2.1.length=0)&&(decide (b.2.2.2.1=0)&&decide (b.2.2.2.2=0))))
def u70 (r:r03):Bool:=
 if r.1=1 then u71 r.2.1&&(decide (r.2.1.2.1=3)&&(decide (r.2.2.1.size=0)&&(!r.2.2.2.1&&noB r.2.2.2.2)))
 else if r.1=2 then u71 r.2.1&&(decide (r.2.1.2.1=2)&&(decide (r.2.2.1.size=0)&&(!r.2.2.2.1&&noB r.2.2.2.2)))
 else if r.1=3 then noT r.2.1&&(u7u r.2.2.1&&noB r.2.2.2.2)
 else if r.1=4 then noT r.2.1&&(decide (r.2.2.1.size=0)&&(!r.2.2.2.1&&u8t r.2.2.2.2))
 else false
def q5t (r:r03):Hs:=y7c [u8.wrap r.1] ++(if r.1=3 then u07 r.2.2.1++j42 r.2.2.2.1 else if r.1=4 then s5q r.2.2.2.2 else t1g r.2.1)
def u04 (r:r03):Hs×Bool:=if u70 r=true then o3i (q5t r) else(emp,false)
theorem d22 {s:Hs} (h:s.size=0):s=emp:=j57 (by
 rw[p0i] at h;rw[Dk.mp h];rfl)
theorem d0g {t:u0i} :noT t=true↔t=u5u:=by
 unfold noT u5u;simp only[Ai,Ar,Bj];constructor
 .rintro⟨h1,h2,h3,h4,h5,h6,h7,h8⟩
  obtain⟨t1,t2,t3,t4,t5,t6,t7,t8⟩:=t;simp only at h1 h2 h3 h4 h5 h6 h7 h8;rw[h1,h2,h3,h4,Dk.mp h5,Dk.mp h6,h7,d22 h8]
 .rintro rfl
  exact⟨rfl,rfl,rfl,rfl,rfl,rfl,rfl,rfl⟩
theorem j5f {b:u0j} :noB b=true↔b=u2t:=by
 unfold noB u2t;simp only[Ai,Ar];constructor
 .rintro⟨h1,h2,h3,h4,h5⟩
  obtain⟨t1,t2,t3,t4,t5⟩:=b;simp only at h1 h2 h3 h4 h5;rw[h4,h5,Dk.mp h1,Dk.mp h2,Dk.mp h3]
 .rintro rfl
  exact⟨rfl,rfl,rfl,rfl,rfl⟩
inductive RecR:r03->Prop where
 | thr (t:u0i) (h:TxnR t) (hs:t.2.1=3):RecR (1,t,emp,false,u2t) | rdy (t:u0i) (h:TxnR t) (hs:t.2.1=2):RecR (2,t,emp,false,u2t) | fin (n:Hs) (y:Bool) (h:u7u n=true):RecR (3,u5u,n,y,u2t) | bas (b:u0j) (h:BaseR b):RecR (4,u5u,emp,false,b)
theorem d34 {r:r03} :u70 r=true↔RecR r:=by
 obtain⟨k,t,n,y,b⟩:=r;unfold u70;simp only;constructor
 .intro h;split at h
  .rename_i e;simp only[Ai,Ar,Bj,p4g,j5f] at h;obtain⟨h1,h2,h3,h4,h5⟩:=h;rw[e,d22 h3,h4,h5];exact .thr t h1 h2
  .split at h
   .rename_i _ e;simp only[Ai,Ar,Bj,p4g,j5f] at h;obtain⟨h1,h2,h3,h4,h5⟩:=h;rw[e,d22 h3,h4,h5];exact .rdy t h1 h2
   .split at h
    .rename_i _ _ e;simp only[Ai,d0g,j5f] at h;obtain⟨h1,h2,h3⟩:=h;rw[e,h1,h3];exact .fin n y h2
    .split at h
     .rename_i _ _ _ e;simp only[Ai,Ar,Bj,d0g,o6q] at h;obtain⟨h1,h2,h3,h4⟩:=h;rw[e,h1,d22 h2,h3];exact .bas b h4
     .cases h
 .intro h;cases h with
  | thr t h hs=>simp[p4g.mpr h,hs,j5f.mpr rfl,emp,ByteArray.size] | rdy t h hs=>simp[p4g.mpr h,hs,j5f.mpr rfl,emp,ByteArray.size] | fin n y h=>simp[h,j5f.mpr rfl,d0g.mpr rfl] | bas b h=>simp[o6q.mpr h,d0g.mpr rfl,emp,ByteArray.size]
theorem s8z {r:r03} (h:RecR r):2<=(q5t r).size/\(q5t r).size<=10000:=by
 have h1:∀n:Int,(y7c [n]).size=1:=fun n=>u3z _
 cases h with
 | thr t h hs=>
  have:=s3m h;have q:1<=(t1g t).size:=by
   unfold t1g;rw[Af,r0o];have:=p4j t.1.toNat;omega
  show 2<=(y7c _++t1g t).size/\(y7c _++t1g t).size<=10000;rw[Af,h1];omega
 | rdy t h hs=>
  have:=s3m h;have q:1<=(t1g t).size:=by
   unfold t1g;rw[Af,r0o];have:=p4j t.1.toNat;omega
  show 2<=(y7c _++t1g t).size/\(y7c _++t1g t).size<=10000;rw[Af,h1];omega
 | fin n y h=>
  have:=u27 h;have q:=u1a (s:=n) (by omega);show 2<=(y7c _++(u07 n++j42 y)).size/\(y7c _++(u07 n++j42 y)).size<=10000;have:=(r2s n).1;rw[Af,Af,h1,u3s];omega
 | bas b h=>
  have:=p48 h;have a1:=(d1p.mp h.vs).2.2;have a2:=h.plen;have a3:=h.rlen;have q:1<=(s5q b).size:=by
   unfold s5q;rw[Af,r0o];have:=p4j b.2.2.2.1.toNat;omega
  show 2<=(y7c _++s5q b).size/\(y7c _++s5q b).size<=10000;rw[Af,h1];omega
theorem t6c {r:r03} (h:RecR r):u04 r=(q5w (q5t r),true):=by
 unfold u04 o3i;rw[Al (d34.mpr h),Al (by have:=(s8z h).2;omega)]
def c1k:Lim:=⟨9,121,13,4⟩
theorem j5c:c1k.ok:=⟨by decide,by decide,by decide,by decide⟩
def t5c (s:Hs):r03×Bool:=
 if u8u s 0=3 then((3,u5u,(u20 s (1,false)).1,(p4t s (u20 s (1,false)).2).1,u2t),(p4t s (u20 s (1,false)).2).2.2)
 else if u8u s 0=4 then((4,u5u,emp,false,(t8b c1k s (1,false)).1),(t8b c1k s (1,false)).2.2)
 else(((u8u s 0:Int),(u7v 9 s (1,false)).1,emp,false,u2t),(u7v 9 s (1,false)).2.2)
def u5f (t:Hs):Ht r03:=
 match t74 t with
 | none=>none | some s=>if s.size=0 then none else if(t5c s).2=true\/u04 (t5c s).1≠(t,true) then none else some (t5c s).1
theorem o8h {k:Nat} (h:k<256) (s:Hs):u8u (y7c [u8.wrap (k:Int)] ++s) 0=k:=by
 unfold u8u;rw[o0t,r0m];have:u8.wrap (k:Int)=(k:Int):=d3c h;rw[this];show(UInt8.ofNat ((k:Int)).toNat).toNat=k;rw[zTn];simp;omega
theorem s4d {r:r03} (h:RecR r):t5c (q5t r)=(r,false):=by
 have st:∀(x:Int) (s:Hs),t8n (y7c [x] ++s) 1 s:=fun x s=>by
  have:=j8g (a:=y7c [x]) (s:=s) (b:=emp);rw[j40,u3z] at this;exact this
 cases h with
 | thr t h hs=>
  have e:q5t (1,t,emp,false,u2t)=y7c [u8.wrap ((1:Nat):Int)] ++t1g t:=rfl;rw[e];unfold t5c;rw[o8h (by omega),Ao (by omega),Ao (by omega)];have q:=q5f (m:=9) (by omega) h (st (u8.wrap ((1:Nat):Int)) (t1g t));have q:u7v 9 (y7c [u8.wrap ((1:Nat):Int)] ++t1g t) (1,false)=_:=q;rw[q];rfl
 | rdy t h hs=>
  have e:q5t (2,t,emp,false,u2t)=y7c [u8.wrap ((2:Nat):Int)] ++t1g t:=rfl;rw[e];unfold t5c;rw[o8h (by omega),Ao (by omega),Ao (by omega)];have q:=q5f (m:=9) (by omega) h (st (u8.wrap ((2:Nat):Int)) (t1g t));have q:u7v 9 (y7c [u8.wrap ((2:Nat):Int)] ++t1g t) (1,false)=_:=q;rw[q];rfl
 | fin n y h=>
  have e:q5t (3,u5u,n,y,u2t)=y7c [u8.wrap ((3:Nat):Int)] ++(u07 n++j42 y):=rfl;rw[e];unfold t5c;rw[o8h (by omega),Al rfl];obtain⟨k1,k2⟩:=d6w.mp (st (u8.wrap ((3:Nat):Int)) (u07 n++j42 y));have q1:=s1t (by have:=u27 h;omega) k1;have q1:u20 (y7c [u8.wrap ((3:Nat):Int)] ++(u07 n++j42 y)) (1,false)=_:=q1;rw[q1];simp only;rw[p05 k2]
 | bas b h=>
  have e:q5t (4,u5u,emp,false,b)=y7c [u8.wrap ((4:Nat):Int)] ++s5q b:=rfl;rw[e];unfold t5c;rw[o8h (by omega),Ao (by omega),Al rfl];have q:=j3i j5c h (st (u8.wrap ((4:Nat):Int)) (s5q b));have q:r57 c1k (y7c [u8.wrap ((4:Nat):Int)] ++s5q b) (1,false)=_:=q;unfold t8b;rw[q];simp only[o6q.mpr h,Ap,Fp]
theorem q5p {r:r03} (h:RecR r):u5f (q5w (q5t r))=some r:=by
 have hs:=s8z h;unfold u5f;rw[p4h (by omega)];simp only;rw[Ao (by omega),s4d h];simp only;rw[t6c h,Ao (by simp)]
theorem p4b {t:Hs} {r:r03} (h:u5f t=some r):RecR r/\t=q5w (q5t r):=by
 unfold u5f at h;split at h
 .cases h
 .rename_i s hs;split at h
  .cases h
  .split at h
   .cases h
   .rename_i hc;simp only[Hr,ne_eq,Decidable.not_not] at hc;have e:=Ds h;rw[e] at hc;have hr:u70 r=true:=by
     cases q:u70 r with
     | true=>rfl | false=>
      have:=hc.2;unfold u04 at this;rw[Ao (by simp[q])] at this;simp at this
    have hR:=d34.mp hr;refine⟨hR,?_⟩;have:=hc.2;rw[t6c hR] at this;exact(Dv this).1.symm
def u2h (b:u0j) (r:r03):Ht u0j:=
 if r.1=1 then(if r.2.1.2.2.2.1=b.2.2.2.1+1 then some (u1v b r.2.1) else none)
 else if r.1=2 then(if b.2.2.1.length<3/\u0o b r.2.1.2.2.2.2.2.2.2<0 then some (u2y b r.2.1 r.2.1.2.2.2.2.2.2.2) else none)
 else if r.1=3 then(if u0o b r.2.2.1<0 then none else if r.2.2.2.1=true then some (u1v b (rdL u0v b.2.2.1 (u0o b r.2.2.1).toNat)) else some (s1c b r.2.2.1))
 else some r.2.2.2.2
def u8v (b:u0j) (r:r03):Ht u0j:=
 if u8t b=true/\u70 r=true then(match u2h b r with
  | none=>none | some x=>if u8t (u4k x [])=true then some (u4k x []) else none)
 else none
def p35:u0j:=([], [], [],0,1)
def s55:u0j->Hu Hs->Ht u0j
 | b, [] =>some b | b,t::l=>match u5f t with
  | none=>none | some r=>match u8v b r with
   | none=>none | some x=>s55 x l
def t2f (l:Hu Hs):Ht u0j:=s55 p35 l
theorem j8a (b:u0j):∀(l m:Hu Hs),s55 b (l++m)=(s55 b l).bind fun x=>s55 x m:=by
 intro l
 induction l generalizing b with
 | nil=>intro m;rfl | cons t l ih=>
  intro m;simp only[Ef,s55];cases u5f t with
  | none=>rfl | some r=>
   simp only;cases u8v b r with
   | none=>rfl | some x=>exact ih x m
theorem o3l {s:Hu Hs} {p:Int×Hs} {k i:Nat} {b:UInt8} (hk:k<s.length) (hp0:0<=p.1) (h1:s7g (rdL Ty.str s k) i=b) (h2:p.1=(k:Int)->s7g p.2 i=b):s7g (rdL Ty.str (s7x s p) k) i=b:=by
 have:=j3s (s:=s) (p:=p) (j:=(k:Int)) hp0 (by omega) (by simpa using hk);rw[zTn] at this;rw[this];split
 .rename_i e;exact h2 e
 .exact h1
theorem j7v {x:u0k} (hk:u1x x=true) (keep:Hu Int) (tear:Int) {k i:Nat} (hkl:k<x.1.length) (hi:i<64) {b:UInt8} (h1:s7g (rdL Ty.str x.1 k) i=b) (h2:∀p∈x.2,p.1=(k:Int)->s7g p.2 i=b):
 s7g (rdL Ty.str (t19 x keep tear).1 k) i=b:=by
 obtain⟨k1,k2,k3,k4⟩:=o6u.mp hk;have ht:=(p90 tear).1;have e:(t19 x keep tear).1=s7e x keep (u09 keep x.2.length) (t6d tear) x.2.length:=by unfold t19;rw[Al hk];rfl
 rw[e];have key:∀n,n<=x.2.length->s7g (rdL Ty.str (s7e x keep (u09 keep x.2.length) (t6d tear) n) k) i=b:=by
  intro n
  induction n with
  | zero=>intro _;exact h1 | succ n ih=>
   intro hn;have ih:=ih (by omega);obtain⟨i1,i2⟩:=q6q hk keep ht (last:=u09 keep x.2.length) n (by omega);have hp:=k4 x.2[n] (Ag (by omega));have hpb:=h2 x.2[n] (Ag (by omega));rw[r7p];generalize hS:s7e x keep (u09 keep x.2.length) (t6d tear) n=S at*;unfold t3l;rw[y8f (t:=j4b) (show n<x.2.length by omega)];split
   .split
    .refine o3l (by omega) hp.1.1 ih (fun z=> ?_);have z:(x.2[n]).1=(k:Int):=z;have hold:rdL Ty.str S (x.2[n]).1.toNat=rdL Ty.str S k:=by rw[z,zTn]
     have h64:(rdL Ty.str S k).size=64:=by
      have e:rdL Ty.str S k=S[k]'(by omega):=y8f (t:=Ty.str) (by omega);rw[e];exact i2 _ (Ag _)
     simp only[hold];rw[u7d,u3m,u3m,Bd,hp.2,h64];split
     .rw[Co];exact hpb z
     .rw[Al (by omega)];rw[show t6d tear+(i - (min (t6d tear) 64 - 0))=i by omega];exact ih
    .exact o3l (by omega) hp.1.1 ih hpb
   .exact ih
 exact key _ (Au _)
theorem j32:∀ {f:Nat} {d x:u0k} {k at_:Nat} {t:Hs},o7q f d k at_ t=some x->at_<64-> ∀p∈x.2,p∈d.2\/ ∃j:Nat,p.1=(j:Int)/\k<=j/\j*64<k*64+at_+t.size/\ ∀i,i<64->j*64+i<k*64+at_->s7g p.2 i=s7g (u0l d (j:Int)).1 i
 | 0,d,x,k,at_,t,h,_,p,hp=>by cases h;exact .inl hp
 | f+1,d,x,k,at_,t,h,hat,p,hp=>by
  rw[o7q] at h;split at h
  .cases h;exact .inl hp
  .rename_i hz;split at h
   .rename_i hrd;cases hw:u73 d (k:Int) ((u0l d (k:Int)).1.extract 0 at_++t.extract 0 (min t.size (64 - at_))++(u0l d (k:Int)).1.extract (at_+min t.size (64 - at_)) 64) with
    | none=>rw[hw] at h;cases h | some y=>
     rw[hw] at h;simp only[zOb] at h;rcases j32 h (by omega) p hp with q | ⟨j,h1,h2,h3,h4⟩
     .rw[(t6h hw).2] at q;simp only[Ay,Ax] at q;rcases q with q | q
      .exact .inl q
      .refine .inr ⟨k,by rw[q],Au _,by omega,fun i hi hlt=> ?_⟩;rw[q];simp only;rw[u7d,u7d,u3m];simp only[Af,Bd,hrd.2];rw[Al (by omega),Al (by omega),Al (by omega),Co]
     .refine .inr ⟨j,h1,by omega,?_,fun i hi hlt=>by omega⟩;rw[Bd] at h3;omega
   .cases h
def SameLog (d e:u0k):Prop:=u2e e=true/\u0r e=u0r d/\u0f e 0=u0f d 0/\u0f e 1=u0f d 1
theorem u9n {a:Int} (ha:a=0\/a=1):u0h a=1+a*48/\(s7f a:Int)=2+a*48:=by
 have hfa:u0h a=1+a*48:=by unfold u0h;rw[Al (d2d.mpr ha)]
 refine⟨hfa,?_⟩;unfold s7f;rcases ha with rfl | rfl<;>omega
theorem p33 {e:u0k} (h1:u1x e=true) (h2:e.1.length=97) (h3:e.2= []) (h4:(u0f e 0).2.2=true) (h5:(u0f e 1).2.2=true):u2e e=true:=by
 unfold u2e;rw[h1,h4,h5];simp[h2,h3]
theorem r3n {d e:u0k} (h:u0l e 0=u0l d 0):u0r e=u0r d:=by
 unfold u0r u57;rw[h]
theorem d0d {d e:u0k} (hl:u2e d=true) {a:Int} (ha:a=0\/a=1) (h1:u1x e=true) (h2:e.1.length=97) (h3:e.2= [])
 (h4:∀k:Nat,k<97-> ¬(s7f a<=k/\k<s7f a+47)->u0l e (k:Int)=u0l d (k:Int))
 (h5:∀j:Nat,(j:Int)<(u0f d a).2.1->j<3008->s7g (r7n e a) j=s7g (r7n d a) j):SameLog d e:=by
 obtain⟨d1,d2,d3,d4,d5⟩:=u4e hl;have fd:=s9j d1 d2;have fe:=s9j h1 h2;obtain⟨f1,f2⟩:=u9n ha;have hact:u0r e=u0r d:=r3n (h4 0 (by omega) (by omega));have hcnt:u08 e a=u08 d a:=by
  unfold u08 u57;have hk:u0h a=(((u0h a).toNat:Nat):Int):=by rcases ha with rfl | rfl<;>omega
  have:=h4 (u0h a).toNat (by rcases ha with rfl | rfl<;>omega) (by rcases ha with rfl | rfl<;>omega);rw[←hk] at this;rw[this]
 have hra:u0f e a=u0f d a:=by
  have hda:=t2m fd ha;have hok:(u0f d a).2.2=true:=by rcases ha with rfl | rfl<;>assumption
  rw[t2m fe ha,hcnt];obtain⟨l,E,r⟩:∃l E,u0f d a=(l,E,true):=⟨_,_,by rw[←hok]⟩;rw[r] at h5 ⊢;rw[r] at hda;have hsz:(r7n e a).size=(r7n d a).size:=by rw[(u61 fe ha).2.1,(u61 fd ha).2.1]
  have hat:=o0q (r7n d a) (u08 d a).toNat 0 [] (by simp);rw[←hda] at hat;refine q4d hsz hda.symm (fun q hq=>h5 q hq ?_);have:=(u61 fd ha).2.1;simp only at hat;omega
 have hro:u0f e (1 - a)=u0f d (1 - a):=by
  refine t4a (fun q hq=> ?_);have ho:=(u9n (a:=1 - a) (by omega)).1;obtain⟨j,hj⟩:∃j:Nat,u0h (1 - a)+(q:Int)=(j:Int):=⟨(u0h (1 - a)+(q:Int)).toNat,by rcases ha with rfl | rfl<;>omega⟩;rw[hj];exact h4 j (by rcases ha with rfl | rfl<;>omega) (by rcases ha with rfl | rfl<;>omega)
 have both:u0f e 0=u0f d 0/\u0f e 1=u0f d 1:=by
  rcases ha with rfl | rfl
  .exact⟨hra,by simpa using hro⟩
  .exact⟨by simpa using hro,hra⟩
 exact⟨p33 h1 h2 h3 (by rw[both.1];exact d4) (by rw[both.2];exact d5),hact,both.1,both.2⟩
theorem p9t {d x:u0k} {a:Int} {t:Hs} (h:t47 d a t=some x):∃E:Nat,(u0f d a).2.1=(E:Int)/\E+(u07 t).size<=3008/\o7q ((u07 t).size+1) d (s7f a+E / 64) (E % 64) (u07 t)=some x/\t.size≠0/\t.size<=3008/\u08 d a<255:=by
 have hat:=p07 d a;unfold t47 at h;split at h
 .cases h
 .rename_i hc;simp only[Hr] at hc;unfold u4l at h;split at h
  .exact⟨(u0f d a).2.1.toNat,by omega,by omega,h,hc.2.1,by omega,by omega⟩
  .cases h
theorem r8c {d:u0k} (h:d.2= []) {k:Nat} (hk:k<d.1.length):u0l d (k:Int)=(rdL Ty.str d.1 k,true):=by
 unfold u0l;rw[Al (by omega),h,zTn];rfl
theorem j43 {d x:u0k} {a:Int} {t:Hs} (hl:u2e d=true) (ha:a=0\/a=1) (h:t47 d a t=some x) (keep:Hu Int) (tear:Int):SameLog d (t19 x keep tear):=by
 obtain⟨d1,d2,d3,d4,d5⟩:=u4e hl;obtain⟨_,x1,x2,_⟩:=r1p h;obtain⟨E,e1,e2,e3,_⟩:=p9t h;obtain⟨c1,c2,c3⟩:=o8k x1 keep tear;have hxl:x.1.length=97:=by rw[x2];exact d2
 have hcl:(t19 x keep tear).1.length=97:=by rw[c3];exact hxl
 obtain⟨f1,f2⟩:=u9n ha;have fd:=s9j d1 d2;have fe:=s9j c1 hcl;have puts:=fun p hp=>(j32 e3 (Ev _ (by omega)) p hp).resolve_left (by rw[d3];intro z;cases z)
 have byte:∀k i:Nat,k<97->i<64->(k*64+i<s7f a*64+E\/ ¬(s7f a<=k/\k<s7f a+47))->s7g (u0l (t19 x keep tear) (k:Int)).1 i=s7g (u0l d (k:Int)).1 i:=fun k i hk hi hc=>by
  rw[r8c c2 (by omega),r8c d3 (by omega)];simp only;refine j7v x1 keep tear (by omega) hi (by rw[x2]) (fun p hp hpk=> ?_);obtain⟨j,j1,j2,j3,j4⟩:=puts p hp;have hjk:j=k:=by omega
  subst hjk;rcases hc with hc | hc
  .rw[j4 i hi (by omega),r8c d3 (by omega)]
  .exfalso;exact hc ⟨by omega,by omega⟩
 refine d0d hl ha c1 hcl c2 (fun k hk hn=> ?_) (fun j hj hj2=> ?_)
 .have q1:=fe k hk;have q2:=fd k hk;apply Prod.ext
  .exact p3z (by rw[q1.2,q2.2]) (fun i hi=>byte k i hk (by omega) (.inr hn))
  .rw[q1.1,q2.1]
 .rw[(u61 fe ha).2.2 j hj2,(u61 fd ha).2.2 j hj2];have hj' :j<E:=by omega
  refine byte _ _ ?_ (Ev _ (by omega)) (.inl (by omega));rcases ha with rfl | rfl<;>omega
theorem SameLog.tx {d e:u0k} (h:SameLog d e):u0e e=u0e d:=by
 obtain⟨_,h2,h3,h4⟩:=h;unfold u0e;rw[h2];rcases t18 d with q | q<;>rw[q]
 .rw[h3]
 .rw[h4]
theorem o2q {d x:u0k} {a:Int} {t:Hs} (hl:u2e d=true) (ha:a=0\/a=1) (h:t47 d a t=some x):
 SameLog d (flush x)/\ ∀E:Nat,(u0f d a).2.1=(E:Int)-> ∀q,q<(u07 t).size->s7g (r7n (flush x) a) (E+q)=s7g (u07 t) q:=by
 obtain⟨d1,d2,d3,d4,d5⟩:=u4e hl;obtain⟨_,x1,x2,_⟩:=r1p h;obtain⟨E,e1,e2,e3,_⟩:=p9t h;obtain⟨c1,c2,c3⟩:=s0v x1;have hxl:x.1.length=97:=by rw[x2];exact d2
 have hcl:(flush x).1.length=97:=by rw[c3];exact hxl
 obtain⟨f1,f2⟩:=u9n ha;have fd:=s9j d1 d2;have fe:=s9j c1 hcl;have hb97:s7f a+47<=97:=by rcases ha with rfl | rfl<;>omega
 have hbytes:=fun j i (hi:i<64) (hj:j<97)=>o7r e3 (by omega) (Ev _ (by omega)) j i hi (by omega)
 refine⟨d0d hl ha c1 hcl c2 (fun k hk hn=> ?_) (fun j hj hj2=> ?_),fun E' hE' q hq=> ?_⟩
 .rw[t5x x1];exact q60 e3 (Ev _ (by omega)) k (fun z=>hn ⟨by omega,by omega⟩)
 .rw[(u61 fe ha).2.2 j hj2,(u61 fd ha).2.2 j hj2,t5x x1,hbytes _ _ (Ev _ (by omega)) (by omega),Ao (by omega)]
 .have hEE:E' =E:=by omega
  subst hEE;rw[(u61 fe ha).2.2 (E' +q) (by omega),t5x x1,hbytes _ _ (Ev _ (by omega)) (by omega),Al (by omega)];congr 1;omega
theorem p49 (t:Hs):p8a t=((s7g t 0).toNat:Int):=rfl
theorem o0x (n:Int) (r:Hs) (h0:0<=n) (h1:n<256):p8a (t8s n++r)=n:=by
 rw[p49,u7d,Al (by rw[u37];omega)];unfold t8s s7g;rw[r0m];have w:u8.wrap n=n:=by rw[j5w];omega
 rw[w];simp only[u8s,C8,Eh,List.getD_cons_zero];rw[Gg];omega
theorem d0x {d y:u0k} {a:Int} {t:Hs} (hl:u2e d=true) (ha:a=0\/a=1) (h:o30 d a t=some y):
 u2e y=true/\u0r y=u0r d/\u0f y (1 - a)=u0f d (1 - a)/\u08 y a=u08 d a+1/\u0f y a=((u0f d a).1++ [t],(u0f d a).2.1+((u07 t).size:Int),true):=by
 obtain⟨d1,d2,d3,d4,d5⟩:=u4e hl;obtain⟨x,hx,x1,y1,y2,y3,hy⟩:=j6s d2 h;obtain⟨s1,s2⟩:=o2q hl ha hx;obtain⟨E,e1,e2,e3,e4,e5,e6⟩:=p9t hx;obtain⟨c1,c2,c3⟩:=s0v x1;have hxl:(flush x).1.length=97:=(u4e s1.1).2.1;obtain⟨f1,f2⟩:=u9n ha;have hcl:=q6p d a;have hc1:s5r d a=u08 d a+1:=by unfold s5r;exact y4x (by omega) (by omega)
 have hob:=p02 (s:=u0h a) c1 c2 (by omega) (by rw[hxl];rcases ha with rfl | rfl<;>omega) (u37 (s5r d a));have hcz:r44 (flush x) a (s5r d a)=some ((flush x).1, [(u0h a,t8s (s5r d a)++(rdL Ty.str (flush x).1 (u0h a).toNat).extract 1 64)]):=hob;have hz1:=(u72 hob).2.1;rw[hcz] at hy;simp only[orD] at hy;have hrd:∀j:Int,u0l y j=if j=u0h a then(t8s (s5r d a)++(rdL Ty.str (flush x).1 (u0h a).toNat).extract 1 64,true) else u0l (flush x) j:=fun j=>by
  rw[hy,t5x hz1];by_cases e:j=u0h a
  .rw[Al e,e];unfold u0l;rw[Al (by show _/\_<((flush x).1.length:Int);rw[hxl];rcases ha with rfl | rfl<;>omega)];simp[t4d]
  .rw[Ao e];have hne: ¬u0h a=j:=fun z=>e z.symm
   unfold u0l;simp only[t4d,Bs,List.foldl_nil,hne,Bk,c2]
 have fy:=s9j y1 y3;have fx:=s9j c1 hxl;have fd:=s9j d1 d2;have hcnt:u08 y a=u08 d a+1:=by
  unfold u08 at hc1 ⊢;rw[d2d.mpr ha,Al rfl] at*;unfold u57 at*;rw[hrd,Al rfl];simp only;have:u08 d a=p8a (u0l d (u0h a)).1:=by unfold u08 u57;rw[d2d.mpr ha,Al rfl]
  rw[hc1];exact o0x _ _ (by omega) (by omega)
 have hareaT:∀j,j<3008->s7g (r7n y a) j=s7g (r7n (flush x) a) j:=fun j hj=>by
  rw[(u61 fy ha).2.2 j hj,(u61 fx ha).2.2 j hj,hrd,Ao (by rcases ha with rfl | rfl<;>omega)]
 have hother:u0f y (1 - a)=u0f (flush x) (1 - a):=by
  refine t4a (fun q hq=> ?_);have ho:=(u9n (a:=1 - a) (by omega)).1;rw[hrd,Ao (by rcases ha with rfl | rfl<;>omega)]
 have hother2:u0f (flush x) (1 - a)=u0f d (1 - a):=by
  rcases ha with rfl | rfl
  .exact s1.2.2.2
  .exact s1.2.2.1
 have hact:u0r y=u0r d:=by
  rw[←s1.2.1];exact r3n (by rw[hrd,Ao (by rcases ha with rfl | rfl<;>omega)])
 have hok:(u0f d a).2.2=true:=by rcases ha with rfl | rfl<;>assumption
 have hda:u76 (r7n d a) (u08 d a).toNat 0 [] =((u0f d a).1,(E:Int),true):=by
  rw[←t2m fd ha,←e1,←hok]
 have hfx:u76 (r7n (flush x) a) (u08 (flush x) a).toNat 0 [] =((u0f d a).1,(E:Int),true):=by
  have:u0f (flush x) a=u0f d a:=by
   rcases ha with rfl | rfl
   .exact s1.2.2.1
   .exact s1.2.2.2
  rw[←t2m fx ha,this,←e1,←hok]
 have hcx:u08 (flush x) a=u08 d a:=by
  unfold u08 u57;have hk:u0h a=(((u0h a).toNat:Nat):Int):=by rcases ha with rfl | rfl<;>omega
  have h2:=q60 e3 (Ev _ (by omega)) (u0h a).toNat (by rcases ha with rfl | rfl<;>omega);rw[←hk] at h2;rw[t5x x1,h2]
 have hsz:(r7n y a).size=(r7n (flush x) a).size:=by rw[(u61 fy ha).2.1,(u61 fx ha).2.1]
 have hra:u0f y a=((u0f d a).1++ [t],(u0f d a).2.1+((u07 t).size:Int),true):=by
  rw[t2m fy ha,hcnt,e1];have hm:(u08 d a+1).toNat=(u08 d a).toNat+1:=by omega
  rw[hm];have hloc:=q4d hsz hfx (fun q hq=>hareaT q (by omega));rw[hcx] at hloc;have hrs:=p6a (T:=r7n y a) (E:=E) e4 e5 (by rw[(u61 fy ha).2.1];exact e2) (fun q hq=>by rw[hareaT _ (by omega)];exact s2 E e1 q hq);have:=o0r hloc hrs e4;rw[this];congr 2
 have hlog:u2e y=true:=by
  rw[hother2] at hother;refine p33 y1 y3 y2 ?_ ?_
  .rcases ha with rfl | rfl
   .rw[hra]
   .have:u0f y 0=u0f d 0:=by simpa using hother
    rw[this];exact d4
  .rcases ha with rfl | rfl
   .have:u0f y 1=u0f d 1:=by simpa using hother
    rw[this];exact d5
   .rw[hra]
 exact⟨hlog,hact,hother.trans hother2,hcnt,hra⟩
theorem d0y {d:u0k} (hk:u1x d=true) {k:Nat} (hlt:k<d.1.length):(u0l d (k:Int)).2=true/\(u0l d (k:Int)).1.size=64:=by
 obtain⟨k1,k2,k3,k4⟩:=o6u.mp hk;have hc:(0:Int)<=(k:Int)/\(k:Int)<(d.1.length:Int):=by omega
 unfold u0l;rw[Al hc];refine⟨rfl,?_⟩;cases hp:t4d d.2 (k:Int) with
 | none=>
  have e:rdL Ty.str d.1 k=d.1[k] :=y8f (t:=Ty.str) hlt;simp only[Eo,zTn];rw[e];exact k3 _ (Ag hlt)
 | some s=>
  obtain⟨p,hp1,hp2⟩:=p0y hp;simp only[Eb];rw[←hp2];exact(k4 p hp1).2
theorem j34:∀(f:Nat) {d:u0k} {k at_:Nat} {t:Hs},u1x d=true->at_<64->k*64+at_+t.size<=d.1.length*64->d.2.length+(at_+t.size+63) / 64<=60-> ∃x,o7q f d k at_ t=some x
 | 0,d,k,at_,t,_,_,_,_=>⟨d,rfl⟩ | f+1,d,k,at_,t,hk,hat,h1,h2=>by
  rw[o7q];by_cases hz:t.size=0
  .exact⟨d,by rw[Al hz]⟩
  .have hr:=d0y hk (k:=k) (by omega);rw[Ao hz,Al hr];have hsz:((u0l d (k:Int)).1.extract 0 at_++t.extract 0 (min t.size (64 - at_))++(u0l d (k:Int)).1.extract (at_+min t.size (64 - at_)) 64).size=64:=by
    simp only[Af,Bd,hr.2];omega
   have hin:q2f (k:Int) 0 ((d.1.length:Int) - 1)=true:=by simp[q2f];omega
   have hok:u1x (d.1,d.2++ [((k:Int),(u0l d (k:Int)).1.extract 0 at_++t.extract 0 (min t.size (64 - at_))++(u0l d (k:Int)).1.extract (at_+min t.size (64 - at_)) 64)])=true:=by
    rw[p0j,hk,hin,hsz];simp;omega
   have hw:u73 d (k:Int) ((u0l d (k:Int)).1.extract 0 at_++t.extract 0 (min t.size (64 - at_))++(u0l d (k:Int)).1.extract (at_+min t.size (64 - at_)) 64)=some (d.1,d.2++ [((k:Int),(u0l d (k:Int)).1.extract 0 at_++t.extract 0 (min t.size (64 - at_))++(u0l d (k:Int)).1.extract (at_+min t.size (64 - at_)) 64)]):=by
    unfold u73;rw[Al hok]
   rw[hw];simp only[zOb];have hs2:(t.extract (min t.size (64 - at_)) t.size).size=t.size - min t.size (64 - at_):=by rw[Bd];omega
   refine j34 f hok (by omega) ?_ ?_
   .rw[hs2];show _<=d.1.length*64;omega
   .rw[hs2];simp only[Ba,Aw];omega
theorem j7s {d:u0k} {a:Int} {t:Hs} (hl:u2e d=true) (ha:a=0\/a=1) (h0:t.size≠0) (h1:t.size<=3008) (h2:u08 d a<255) (h3:(u0f d a).2.1+((u07 t).size:Int)<=3008):∃x,t47 d a t=some x:=by
 obtain⟨d1,d2,d3,d4,d5⟩:=u4e hl;obtain⟨f1,f2⟩:=u9n ha;have hat:=p07 d a;have hok:(u0f d a).2.2=true:=by rcases ha with rfl | rfl<;>assumption
 have hsp:=r2s t;unfold t47;rw[Ao (by rw[hok];simp only[Fm,false_or];omega)];unfold u4l;have hc:(q2f (u0f d a).2.1 0 6400&&q2f (u0h a+1) 0 ((d.1.length:Int) - 1)&&u1x d)=true:=by
  rw[d1,d2];simp only[q2f,Ai,Ar,and_true];rcases ha with rfl | rfl<;>omega
 rw[Al hc];refine j34 _ d1 (Ev _ (by omega)) ?_ ?_
 .rw[d2];rcases ha with rfl | rfl<;>omega
 .rw[d3];simp only[Cc];omega
theorem d2w {d:u0k} {a:Int} {t:Hs} (hl:u2e d=true) (ha:a=0\/a=1) (h0:t.size≠0) (h1:t.size<=3008) (h2:u08 d a<255) (h3:(u0f d a).2.1+((u07 t).size:Int)<=3008):∃y,o30 d a t=some y:=by
 obtain⟨x,hx⟩:=j7s hl ha h0 h1 h2 h3;unfold o30;rw[hx];exact⟨_,rfl⟩
def j5p (l:Hu Hs):Nat:=(l.map fun t=>(u07 t).size).sum
theorem j2n {a:Int} (ha:a=0\/a=1):∀ {l:Hu Hs} {x:u0k},u2e x=true->u08 x a+(l.length:Int)<=255->(u0f x a).2.1+(j5p l:Int)<=3008->(∀t∈l,t.size≠0/\t.size<=3008)->
 ∃y,q9h a l x=some y/\u2e y=true/\u0r y=u0r x/\u0f y (1 - a)=u0f x (1 - a)/\(u0f y a).1=(u0f x a).1++l
 | [],x,hl,_,_,_=>⟨x,rfl,hl,rfl,rfl,by simp⟩ | t::l,x,hl,hc,hr,ht=>by
  have h0:=ht t (C9 ..);have hs:j5p (t::l)=(u07 t).size+j5p l:=by simp[j5p]
  simp only[Bc] at hc;obtain⟨y,hy⟩:=d2w hl ha h0.1 h0.2 (by omega) (by omega);obtain⟨p1,p2,p3,p4,p5⟩:=d0x hl ha hy;obtain⟨z,z1,z2,z3,z4,z5⟩:=j2n ha (l:=l) p1 (by omega) (by rw[p5];simp only;omega) (fun t h=>ht t (Bm _ h));refine⟨z,?_,z2,z3.trans p2,z4.trans p3,?_⟩
  .unfold q9h;rw[hy];exact z1
  .rw[z5,p5];simp
theorem j7t {d:u0k} (hl:u2e d=true) {a n:Int} (ha:a=0\/a=1):∃z r,r44 d a n=some z/\u1x z=true/\z.1=d.1/\z.2= [(u0h a,t8s n++r)] /\ ∀j:Int,u0l (flush z) j=if j=u0h a then(t8s n++r,true) else u0l d j:=by
 obtain⟨d1,d2,d3,d4,d5⟩:=u4e hl;obtain⟨f1,f2⟩:=u9n ha;have hob:=p02 (s:=u0h a) d1 d3 (by omega) (by rw[d2];rcases ha with rfl | rfl<;>omega) (u37 n);have hz1:=(u72 hob).2.1;refine⟨_,_,hob,hz1,rfl,rfl,fun j=> ?_⟩;rw[t5x hz1];by_cases e:j=u0h a
 .rw[Al e,e];unfold u0l;rw[Al (by show _/\_<(d.1.length:Int);rw[d2];rcases ha with rfl | rfl<;>omega)];simp[t4d]
 .rw[Ao e];have hne: ¬u0h a=j:=fun z=>e z.symm
  unfold u0l;simp only[t4d,Bs,List.foldl_nil,hne,Bk,d3]
theorem o2n {d:u0k} (hl:u2e d=true):u2e (r48 d)=true/\u0r (r48 d)=u0r d/\u0f (r48 d) (u0r d)=u0f d (u0r d)/\u0f (r48 d) (u7w d)=([],0,true)/\u08 (r48 d) (u7w d)=0:=by
 obtain⟨a1,a2⟩:=s33 d;obtain⟨z,r,hz,hz1,hz2,hz3,hrd⟩:=j7t hl (n:=0) a1;obtain⟨d1,d2,d3,d4,d5⟩:=u4e hl;have e:r48 d=flush z:=by unfold r48;rw[hz];rfl
 obtain⟨c1,c2,c3⟩:=s0v hz1;have hlen:(flush z).1.length=97:=by rw[c3,hz2];exact d2
 obtain⟨f1,f2⟩:=u9n a1;rw[e];have hcnt:u08 (flush z) (u7w d)=0:=by
  unfold u08 u57;rw[d2d.mpr a1,Al rfl,hrd,Al rfl];exact o0x 0 r (by omega) (by omega)
 have ho:u0f (flush z) (u7w d)=([],0,true):=by
  rw[t2m (s9j c1 hlen) a1,hcnt];rfl
 have hother:u0f (flush z) (1 - u7w d)=u0f d (1 - u7w d):=by
  refine t4a (fun q hq=> ?_);have ho:=(u9n (a:=1 - u7w d) (by omega)).1;rw[hrd,Ao (by omega)]
 rw[←a2] at hother;have hact:u0r (flush z)=u0r d:=r3n (by rw[hrd,Ao (by omega)]);have hok:(u0f d (u0r d)).2.2=true:=by rcases t18 d with q | q<;>rw[q] <;>assumption
 refine⟨p33 c1 hlen c2 ?_ ?_,hact,hother,ho,hcnt⟩
 .rcases a1 with q | q
  .rw[q] at ho;rw[ho]
  .have q2:u0r d=0:=by omega
   rw[q2] at hother hok;rw[hother];exact hok
 .rcases a1 with q | q
  .have q2:u0r d=1:=by omega
   rw[q2] at hother hok;rw[hother];exact hok
  .rw[q] at ho;rw[ho]
theorem j1u {z:u0k} {s:Int} {b:Hs} (hk:u1x z=true) (hz:z.2= [(s,b++(rdL Ty.str z.1 s.toNat).extract 1 64)]) (hb:b.size=1) (keep:Hu Int) (tear:Int):
 (p4s keep 0=false->t19 z keep tear=(z.1, []))/\(p4s keep 0=true->1<=t6d tear->t19 z keep tear=flush z)/\(t19 z keep tear=(z.1, [])\/t19 z keep tear=flush z):=by
 obtain⟨k1,k2,k3,k4⟩:=o6u.mp hk;have hs:=(k4 (s,b++(rdL Ty.str z.1 s.toNat).extract 1 64) (by rw[hz];simp)).1;have hlt:s.toNat<z.1.length:=by
  have h1:0<=s:=hs.1;have h2:s<(z.1.length:Int):=hs.2;omega
 have ht:=(p90 tear).1;have eo:rdL Ty.str z.1 s.toNat=z.1[s.toNat] :=y8f (t:=Ty.str) hlt;have hold:(rdL Ty.str z.1 s.toNat).size=64:=by rw[eo];exact k3 _ (Ag hlt)
 have hlen:z.2.length=1:=by rw[hz];rfl
 have h0:rdL j4b z.2 0=(s,b++(rdL Ty.str z.1 s.toNat).extract 1 64):=by rw[hz];rfl
 have hc:t19 z keep tear=(t3l z keep (u09 keep 1) (t6d tear) z.1 0, []):=by
  unfold t19;rw[Al hk,hlen];rfl
 have hfl:flush z=(s7x z.1 (s,b++(rdL Ty.str z.1 s.toNat).extract 1 64), []):=by
  unfold flush;rw[Al hk,hz];rfl
 have hno:p4s keep 0=false->t19 z keep tear=(z.1, []):=fun h=>by
  rw[hc];unfold t3l;rw[h,Ao (by simp)]
 have hyes:p4s keep 0=true->t19 z keep tear=(s7x z.1 (s,(b++(rdL Ty.str z.1 s.toNat).extract 1 64).extract 0 (t6d tear)++(rdL Ty.str z.1 s.toNat).extract (t6d tear) 64), []):=fun h=>by
  have hlast:u09 keep 1=0:=by
   show(if p4s keep 0 then((0:Nat):Int) else u09 keep 0)=0;rw[Al h];rfl
  rw[hc];unfold t3l;rw[h,Al rfl,hlast,Al (by rfl),h0];simp only[hold]
 have hfull:p4s keep 0=true->1<=t6d tear->t19 z keep tear=flush z:=fun h h1=>by
  rw[hyes h,hfl];congr 2;congr 1;apply p3z
  .simp only[Af,Bd,hold,hb];omega
  .intro i hi;simp only[Af,Bd,hold,hb] at hi;rw[u7d,u3m,u3m];simp only[Af,Bd,hold,hb];by_cases h2:i<t6d tear
   .rw[Al (by omega),Al (by omega),Co]
   .rw[Ao (by omega),Al (by omega),u7d,Ao (by omega),u3m,hb,hold,Al (by omega)];congr 1;omega
 refine⟨hno,hfull,?_⟩;cases h:p4s keep 0 with
 | false=>exact .inl (hno h) | true=>
  by_cases h1:1<=t6d tear
  .exact .inr (hfull h h1)
  .left;have ht0:t6d tear=0:=by omega
   rw[hyes h,ht0];congr 1;have e1:(b++(rdL Ty.str z.1 s.toNat).extract 1 64).extract 0 0++(rdL Ty.str z.1 s.toNat).extract 0 64=rdL Ty.str z.1 s.toNat:=by
    apply p3z
    .simp only[Af,Bd,hold,hb];omega
    .intro i hi;simp only[Af,Bd,hold,hb] at hi;rw[u7d,Ao (by rw[Bd];omega),u3m,hold,Al (by rw[Bd];omega)];congr 1;rw[Bd];omega
   rw[e1];unfold s7x;show z.1.set s.toNat (rdL Ty.str z.1 s.toNat)=z.1;rw[eo];exact List.set_getElem_self hlt
theorem o0y {d:u0k} (hl:u2e d=true) {a n:Int} (ha:a=0\/a=1) (keep:Hu Int) (tear:Int):∃z,r44 d a n=some z/\
 (p4s keep 0=false->t19 z keep tear=d)/\(p4s keep 0=true->1<=t6d tear->t19 z keep tear=flush z)/\(t19 z keep tear=d\/t19 z keep tear=flush z):=by
 obtain⟨d1,d2,d3,d4,d5⟩:=u4e hl;obtain⟨f1,f2⟩:=u9n ha;have hob:=p02 (s:=u0h a) d1 d3 (by omega) (by rw[d2];rcases ha with rfl | rfl<;>omega) (u37 n);have hz1:=(u72 hob).2.1;have hd:(d.1,([] :Hu (Int×Hs)))=d:=by rw[←d3]
 obtain⟨c1,c2,c3⟩:=j1u hz1 rfl (u37 n) keep tear;rw[hd] at c1 c3;exact⟨_,hob,c1,c2,c3⟩
theorem o6t {x:u0k} (hl:u2e x=true) (keep:Hu Int) (tear:Int):∃z,j8o x=some z/\u1x z=true/\(∀j:Int,u0l (flush z) j=if j=0 then(t8s (i64.wrap (u57 x 0+1))++(rdL Ty.str x.1 0).extract 1 64,true) else u0l x j)/\(flush z).1.length=97/\
 (p4s keep 0=false->t19 z keep tear=x)/\(p4s keep 0=true->1<=t6d tear->t19 z keep tear=flush z)/\(t19 z keep tear=x\/t19 z keep tear=flush z):=by
 obtain⟨d1,d2,d3,d4,d5⟩:=u4e hl;have hob:=p02 (s:=0) d1 d3 (by omega) (by rw[d2];omega) (u37 (i64.wrap (u57 x 0+1)));have hz1:=(u72 hob).2.1;have hd:(x.1,([] :Hu (Int×Hs)))=x:=by rw[←d3]
 obtain⟨c1,c2,c3⟩:=j1u hz1 rfl (u37 (i64.wrap (u57 x 0+1))) keep tear;rw[hd] at c1 c3;refine⟨_,hob,hz1,fun j=> ?_,by rw[(s0v hz1).2.2];exact d2,c1,c2,c3⟩;rw[t5x hz1];by_cases e:j=0
 .rw[Al e,e];unfold u0l;rw[Al (by show _/\_<(x.1.length:Int);rw[d2];omega)];simp[t4d]
 .rw[Ao e];have hne: ¬(0:Int)=j:=fun z=>e z.symm
  unfold u0l;simp only[t4d,Bs,List.foldl_nil,hne,Bk,d3]
theorem d29 {x z:u0k} (hl:u2e x=true) (hz1:u1x z=true) (hlen:(flush z).1.length=97) (hrd:∀j:Int,u0l (flush z) j=if j=0 then(t8s (i64.wrap (u57 x 0+1))++(rdL Ty.str x.1 0).extract 1 64,true) else u0l x j):
 u2e (flush z)=true/\u0r (flush z)=1 - u0r x/\u0f (flush z) 0=u0f x 0/\u0f (flush z) 1=u0f x 1:=by
 obtain⟨d1,d2,d3,d4,d5⟩:=u4e hl;obtain⟨c1,c2,c3⟩:=s0v hz1;have r0:u0f (flush z) 0=u0f x 0:=t4a (fun q hq=>by
  have:=(u9n (a:=0) (.inl rfl)).1;rw[hrd,Ao (by omega)])
 have r1:u0f (flush z) 1=u0f x 1:=t4a (fun q hq=>by
  have:=(u9n (a:=1) (.inr rfl)).1;rw[hrd,Ao (by omega)])
 have hb:=o8g (u0l x 0).1;refine⟨p33 c1 hlen c2 (by rw[r0];exact d4) (by rw[r1];exact d5),?_,r0,r1⟩;unfold u0r u57;rw[hrd,Al rfl];have w:i64.wrap (u57 x 0+1)=u57 x 0+1:=by unfold u57;exact y4x (by omega) (by omega)
 have e:p8a (t8s (i64.wrap (u57 x 0+1))++(rdL Ty.str x.1 0).extract 1 64)=(u57 x 0+1) % 256:=by
  rw[w,p49,u7d,Al (by rw[u37];omega)];unfold t8s s7g;rw[r0m,j5w];simp only[u8s,C8,Eh,List.getD_cons_zero];rw[Gg];omega
 show Int.tmod (p8a _) 2=_;rw[e];have hf:u57 x 0=p8a (u0l x 0).1:=rfl;rw[hf];generalize p8a (u0l x 0).1=n at*;obtain⟨m,rfl⟩:∃m:Nat,n=(m:Int):=⟨n.toNat,by omega⟩;have t1:Int.tmod (m:Int) 2=((m % 2:Nat):Int):=j8j m 2;have t2:Int.tmod (((m:Int)+1) % 256) 2=((((m+1) % 256) % 2:Nat):Int):=by
  have:((m:Int)+1) % 256=(((m+1) % 256:Nat):Int):=by omega
  rw[this];exact j8j ((m+1) % 256) 2
 rw[t1,t2];omega
theorem q6n {d y:u0k} {t:Hs} (h:append_ d t=some y):u2e d=true/\u2e y=true/\u0e y=u0e d++ [t] :=by
 unfold append_ at h;split at h
 .rename_i hl;obtain⟨p1,p2,p3,p4,p5⟩:=d0x hl (t18 d) h;refine⟨hl,p1,?_⟩;unfold u0e;rw[p2,p5]
 .cases h
theorem o4d {d y:u0k} {t:Hs} (h:append_ d t=some y) (step:Int) (keep:Hu Int) (tear:Int):
 (step=0->SameLog d (u7t d t step keep tear))/\(step≠0->step≠1->u7t d t step keep tear=y)/\
 (step=1->(p4s keep 0=false->SameLog d (u7t d t step keep tear))/\(p4s keep 0=true->1<=t6d tear->u7t d t step keep tear=y)/\(SameLog d (u7t d t step keep tear)\/u7t d t step keep tear=y)):=by
 have ha:=t18 d;obtain⟨hl,x,z,hb,k1,k2,hz,k3,k4⟩:=q4c h;have hput:o30 d (u0r d) t=some y:=by unfold append_ at h;rw[hl,Al rfl] at h;exact h
 have hy:y=flush z:=by
  unfold o30 at hput;rw[hb] at hput;simp only[Dc,Ac] at hput;rw[hz] at hput;simp only[orD] at hput;exact hput.symm
 have hs:=(o2q hl ha hb).1;obtain⟨z',hz',c1,c2,c3⟩:=o0y hs.1 (n:=s5r d (u0r d)) ha keep tear;rw[hz] at hz';cases hz';have e0:∀st,u7t d t st keep tear=(if st=0 then t19 x keep tear else if st=1 then t19 z keep tear else y):=fun st=>by
  unfold u7t;rw[h];simp only[hb,orD,hz]
 refine⟨fun s0=> ?_,fun n0 n1=> ?_,fun s1=> ?_⟩
 .rw[e0,Al s0];exact j43 hl ha hb keep tear
 .rw[e0,Ao n0,Ao n1]
 .have e:u7t d t step keep tear=t19 z keep tear:=by rw[e0,Ao (by omega),Al s1]
  rw[e,hy];exact⟨fun q=>by rw[c1 q];exact hs,fun q r=>c2 q r,c3.imp (fun q=>by rw[q];exact hs) id⟩
theorem o4c {d:u0k} {t:Hs} (h:append_ d t=none) (step:Int) (keep:Hu Int) (tear:Int):u7t d t step keep tear=d:=by
 unfold u7t;rw[h]
theorem j6d {d:u0k} {l:Hu Hs} (hl:u2e d=true) (hn:l.length<=255) (hr:j5p l<=3008) (ht:∀t∈l,t.size≠0/\t.size<=3008):
 ∃x,q4m d l=some x/\u2e x=true/\u0r x=u0r d/\u0e x=u0e d/\(u0f x (u7w d)).1=l:=by
 obtain⟨a1,a2⟩:=s33 d;obtain⟨f1,f2,f3,f4,f5⟩:=o2n hl;obtain⟨y,y1,y2,y3,y4,y5⟩:=j2n a1 (l:=l) f1 (by rw[f5];omega) (by rw[f4];simp only;omega) ht;rw[←a2] at y4;refine⟨y,by unfold q4m;rw[hl,Al rfl];exact y1,y2,y3.trans f2,?_,by rw[y5,f4];simp⟩;unfold u0e;rw[y3.trans f2,y4,f3]
theorem o6x {d x:u0k} {l:Hu Hs} (hx:q4m d l=some x) (h1:u2e x=true) (h2:u0r x=u0r d) (h3:u0e x=u0e d) (h4:(u0f x (u7w d)).1=l) (hl:u2e d=true):
 ∃y,r8g d l=some y/\u2e y=true/\u0e y=l/\ ∀(step:Int) (keep:Hu Int) (tear:Int),
  (step=0->u2e (t5w d l step keep tear)=true/\u0e (t5w d l step keep tear)=u0e d)/\(step=1->t5w d l step keep tear=x)/\
  (step≠0->step≠1->step≠2->t5w d l step keep tear=y)/\
  (step=2->(p4s keep 0=false->t5w d l step keep tear=x)/\(p4s keep 0=true->1<=t6d tear->t5w d l step keep tear=y)/\(t5w d l step keep tear=x\/t5w d l step keep tear=y)):=by
 obtain⟨a1,a2⟩:=s33 d;obtain⟨z,hz,hz1,hrd,hlen,_⟩:=o6t h1 [] 0;obtain⟨t1,t2,t3,t4⟩:=d29 h1 hz1 hlen hrd;have hsw:r8g d l=some (flush z):=by unfold r8g;rw[hx];simp only[Dc,hz,orD]
 have htx:u0e (flush z)=l:=by
  have ho:u0r (flush z)=u7w d:=by rw[t2,h2];rfl
  unfold u0e;rw[ho,←h4];rcases a1 with q | q<;>rw[q]
  .rw[t3]
  .rw[t4]
 refine⟨flush z,hsw,t1,htx,fun step keep tear=> ?_⟩;obtain⟨c,hc,c1,c2,c3⟩:=o0y hl (n:=0) a1 keep tear;obtain⟨z',hz',_,_,_,g1,g2,g3⟩:=o6t h1 keep tear;rw[hz] at hz';cases hz';have e0:∀st,t5w d l st keep tear=(if st=0 then t19 c keep tear else if st=1 then x else if st=2 then t19 z keep tear else flush z):=fun st=>by
  unfold t5w;rw[hx];simp only[hc,orD,hz]
 have hf0:flush c=r48 d:=by unfold r48;rw[hc];rfl
 obtain⟨f1,f2,f3,f4,f5⟩:=o2n hl;have htx0:u0e (r48 d)=u0e d:=by unfold u0e;rw[f2,f3]
 refine⟨fun s0=> ?_,fun s1=> ?_,fun n0 n1 n2=> ?_,fun s2=> ?_⟩
 .rw[e0,Al s0];rcases c3 with q | q
  .rw[q];exact⟨hl,rfl⟩
  .rw[q,hf0];exact⟨f1,htx0⟩
 .rw[e0,Ao (by omega),Al s1]
 .rw[e0,Ao n0,Ao n1,Ao n2]
 .have e:t5w d l step keep tear=t19 z keep tear:=by rw[e0,Ao (by omega),Ao (by omega),Al s2]
  rw[e];exact⟨g1,g2,g3⟩
structure Like0 (b e:u0j):Prop where
 vs:b.1=u3h e.1 e.2.2.2.1
 past:b.2.1= []
 ready:b.2.2.1=e.2.2.1
 cs:b.2.2.2.1=e.2.2.2.1
theorem d0i (b:u0j):∀(o:Hu u0i),s3u b o<=b.2.2.2.1:=by
 intro o;have key:∀(o:Hu u0i) (m:Int),o.foldl (fun m t=>if t.2.2.1<m then t.2.2.1 else m) m<=m:=by
  intro o
  induction o with
  | nil=>intro m;exact Bv _ | cons t o ih=>
   intro m;rw[Bs];refine Int.le_trans (ih _) ?_;split<;>omega
 exact key o _
theorem j76 (b:u0j):s3u b [] =b.2.2.2.1:=rfl
theorem Like0.tidy {b e:u0j} (h:Like0 b e) (he:BaseR e) (o:Hu u0i):Like0 b (u4k e o):=
 ⟨by rw[h.vs];exact(p4f (d1p.mp he.vs).2.1 (d0i e o)).symm,h.past,h.ready,h.cs⟩
theorem r6b {x:u0j} (hp:∀t∈x.2.1,t.2.2.2.1<=x.2.2.2.1):u4k x [] =(u3h x.1 x.2.2.2.1, [],x.2.2):=by
 unfold u4k;rw[j76];congr 2;rw[List.filter_eq_nil_iff];intro t ht;simp[hp t ht]
theorem Like0.self {b e:u0j} (h:Like0 b e) (he:BaseR e):u4k b [] =b:=by
 rw[r6b (by rw[h.past];intro t ht;cases ht)];obtain⟨b1,b2,b3⟩:=b;have h1:=h.vs;have h2:=h.past;have h4:=h.cs;simp only at h1 h2 h4;rw[h4,h1,h2,p4f (d1p.mp he.vs).2.1 (Bv _)]
theorem j7y {d d' x:u0i} (h1:d.1=d'.1) (h2:d.2.1=d'.2.1) (h3:d.2.2.1=d'.2.2.1) (h4:d.2.2.2.1=d'.2.2.2.1) (h5:d.2.2.2.2.2.1=d'.2.2.2.2.2.1):p7k d x=p7k d' x:=by
 have:ahead x d=ahead x d' :=by unfold ahead p7d j3f;rw[h1,h2,h3,h4,h5]
 unfold p7k;rw[this]
theorem Like0.vlen {b e:u0j} (h:Like0 b e):b.1.length<=e.1.length:=by rw[h.vs];exact(t2o _ _).length_le
theorem p70 {b e:u0j} {t u:u0i} (h:Like0 b e) (he:BaseR e) (hb:BaseR b) (hc:e.2.2.2.1<9999) (hv:e.1.length<=100) (hu:TxnR u) (h9:u.1<9999) (hs:u.2.2.1<=e.2.2.2.1)
 (h1:u.1=t.1) (h3:u.2.2.1=t.2.2.1) (h5:u.2.2.2.2.2.1=t.2.2.2.2.2.1):
 u8t (u4k (u1v b u) [])=true/\Like0 (u4k (u1v b u) []) (u1v e t):=by
 have hR:BaseR (u1v b u):=j3y hb hu (by rw[h.cs];exact hs) (by rw[h.cs];exact hc) (by rw[h.past];simp) (by have:=h.vlen;omega) (by rw[h.past];intro x hx;cases hx) h9;refine⟨o6q.mpr (s5j hR _),?_⟩;rw[r6b (fun x hx=>(hR.past x hx).2.2)];obtain⟨v1,v2,v3⟩:=d1p.mp he.vs;refine⟨?_,rfl,?_,?_⟩
 .show u3h (s1d b.1 u.2.2.2.2.2.1 (b.2.2.2.1+1)) (b.2.2.2.1+1)=u3h (s1d e.1 t.2.2.2.2.2.1 (e.2.2.2.1+1)) (e.2.2.2.1+1);rw[h.cs,h.vs,h5];exact d28 v2 (h5 ▸ j36 hu.ws) fun x hx=>by have:=he.vcs x hx;unfold vCs;omega
 .show(b.2.2.1.filter fun x=> !decide (x.1=u.1)).map (p7k (s8e b u))=(e.2.2.1.filter fun x=> !decide (x.1=t.1)).map (p7k (s8e e t));rw[h.ready,h1];refine Ff fun x _=>j7y h1 rfl h3 ?_ h5
  show b.2.2.2.1+1=e.2.2.2.1+1;rw[h.cs]
 .show b.2.2.2.1+1=e.2.2.2.1+1;rw[h.cs]
theorem d5p {b:u0j} {n:Hs} :u0o b n<0↔ ∀x∈b.2.2.1,x.2.2.2.2.2.2.2≠n:=by
 unfold u0o;constructor
 .intro h x hx e;obtain⟨i,hi,rfl⟩:=B7 hx;obtain⟨k,hk,hr⟩:=p6b b hi e;unfold u0o at hr;rw[hr] at h;omega
 .intro h;split
  .rename_i q;have:=u9z q;exact absurd (y7b.mp this) (h _ (Ag q))
  .omega
theorem t6b {b:u0j} {n:Hs} (h: ¬u0o b n<0):∃(k:Nat) (hk:k<b.2.2.1.length),u0o b n=(k:Int)/\b.2.2.1[k].2.2.2.2.2.2.2=n:=by
 unfold u0o at h ⊢;split at h
 .rename_i q;rw[Al q];exact⟨_,q,rfl,y7b.mp (u9z q)⟩
 .omega
theorem q5s {b e:u0j} (h:b.2.2.1=e.2.2.1) (n:Hs):u0o b n=u0o e n:=by unfold u0o;rw[h]
theorem o58 {b e:u0j} {t:u0i} (h:Like0 b e) (he:BaseR e) (hb:BaseR b) (hc:e.2.2.2.1<9999) (hv:e.1.length<=100) (ht:TxnR t) (h9:t.1<9999) (hs:t.2.2.1<=e.2.2.2.1):
 ∃x,u8v b (1,s8e e t,emp,false,u2t)=some x/\BaseR x/\Like0 x (u1v e t):=by
 have hD:=j44 (b:=e) ht hs hc;obtain⟨k1,k2⟩:=p70 (t:=t) (u:=s8e e t) h he hb hc hv hD h9 hs rfl rfl rfl;refine⟨_,?_,o6q.mp k1,k2⟩;unfold u8v;rw[Al ⟨o6q.mpr hb,d34.mpr (.thr _ hD rfl)⟩];have e1:u2h b (1,s8e e t,emp,false,u2t)=some (u1v b (s8e e t)):=by
  unfold u2h;rw[Al rfl,Al (by show e.2.2.2.1+1=b.2.2.2.1+1;rw[h.cs])]
 rw[e1];simp only;rw[Al k1]
theorem j8b {b e:u0j} {n:Hs} {k:Nat} (h:Like0 b e) (he:BaseR e) (hb:BaseR b) (hc:e.2.2.2.1<9999) (hv:e.1.length<=100) (hn:u7u n=true) (hk:k<e.2.2.1.length) (hr:u0o e n=(k:Int)):
 ∃x,u8v b (3,u5u,n,true,u2t)=some x/\BaseR x/\Like0 x (u1v e e.2.2.1[k]):=by
 obtain⟨q1,q2,q3⟩:=he.ready _ (Ag hk);have h9:e.2.2.1[k].1<9999:=by
  have:=s9f.mp he.below _ (Az e.2.1 (Ag hk));have:=he.next.2;omega
 obtain⟨k1,k2⟩:=p70 (t:=e.2.2.1[k]) (u:=e.2.2.1[k]) h he hb hc hv q1 h9 q3 rfl rfl rfl;refine⟨_,?_,o6q.mp k1,k2⟩;unfold u8v;rw[Al ⟨o6q.mpr hb,d34.mpr (.fin _ _ hn)⟩];have e1:u2h b (3,u5u,n,true,u2t)=some (u1v b e.2.2.1[k]):=by
  unfold u2h;simp only;rw[Ao (by decide),Ao (by decide),Al trivial,q5s h.ready,hr,Ao (by omega),Al trivial,zTn];congr 2;rw[h.ready];exact y8f (t:=u0v) hk
 rw[e1];simp only;rw[Al k1]
theorem d0s {b e:u0j} {n:Hs} {k:Nat} (h:Like0 b e) (he:BaseR e) (hb:BaseR b) (hn:u7u n=true) (hk:k<e.2.2.1.length) (hr:u0o e n=(k:Int)):
 ∃x,u8v b (3,u5u,n,false,u2t)=some x/\BaseR x/\Like0 x (s1c e n):=by
 have hR:=o2s hb n;refine⟨u4k (s1c b n) [],?_,s5j hR _,?_⟩
 .unfold u8v;rw[Al ⟨o6q.mpr hb,d34.mpr (.fin _ _ hn)⟩];have e1:u2h b (3,u5u,n,false,u2t)=some (s1c b n):=by
   unfold u2h;simp only;rw[Ao (by decide),Ao (by decide),Al trivial,q5s h.ready,hr,Ao (by omega),Ao (by decide)]
  rw[e1];simp only;rw[Al (o6q.mpr (s5j hR _))]
 .rw[r6b (fun x hx=>(hR.past x hx).2.2)];refine⟨?_,rfl,?_,h.cs⟩
  .show u3h b.1 b.2.2.2.1=u3h e.1 e.2.2.2.1;rw[h.cs,h.vs];exact p4f (d1p.mp he.vs).2.1 (Bv _)
  .show b.2.2.1.filter _=e.2.2.1.filter _;rw[h.ready]
theorem j3h {b e:u0j} {t:u0i} {n:Hs} (h:Like0 b e) (he:BaseR e) (hb:BaseR b) (ht:TxnR t) (h3:t.2.1≠3) (hn:u7u n=true) (hs:t.2.2.1<=e.2.2.2.1) (hl:e.2.2.1.length<3)
 (hx:∀x∈e.2.2.1,x.2.2.2.2.2.2.2≠n) (hid:∀x∈e.2.2.1,x.1≠t.1) (h9:t.1<9999):
 ∃x,u8v b (2,u6r e t n,emp,false,u2t)=some x/\BaseR x/\Like0 x (u2y e t n):=by
 have hD:=j0h (b:=e) ht h3 hn;have hrr:u6r b (u6r e t n) n=u6r e t n:=by
  have:p59 (u6r e t n) b.2.1=false:=by rw[h.past];rfl
  unfold u6r at this ⊢;rw[this,Fp]
 have hR:BaseR (u2y b (u6r e t n) n):=p0z hb hD (by show(2:Int)≠3;omega) (by rw[h.cs];exact hs) hn (by rw[h.ready];exact hl) (by rw[h.ready];exact hx) (by
  rw[h.past,h.ready];exact hid) h9
 refine⟨u4k (u2y b (u6r e t n) n) [],?_,s5j hR _,?_⟩
 .unfold u8v;rw[Al ⟨o6q.mpr hb,d34.mpr (.rdy _ hD rfl)⟩];have e1:u2h b (2,u6r e t n,emp,false,u2t)=some (u2y b (u6r e t n) n):=by
   unfold u2h;simp only;have hcond:b.2.2.1.length<3/\u0o b (u6r e t n).2.2.2.2.2.2.2<0:=⟨by rw[h.ready];exact hl,by rw[q5s h.ready];exact d5p.mpr hx⟩;rw[Ao (by decide),Al trivial,Al hcond];rfl
  rw[e1];simp only;rw[Al (o6q.mpr (s5j hR _))]
 .rw[r6b (fun x hx=>(hR.past x hx).2.2)];refine⟨?_,rfl,?_,h.cs⟩
  .show u3h b.1 b.2.2.2.1=u3h e.1 e.2.2.2.1;rw[h.cs,h.vs];exact p4f (d1p.mp he.vs).2.1 (Bv _)
  .show(b.2.2.1.filter _)++ [u6r b (u6r e t n) n] ++(b.2.2.1.filter _)=(e.2.2.1.filter _)++ [u6r e t n] ++(e.2.2.1.filter _);rw[h.ready,hrr]
theorem o64:BaseR p35:=by
 refine⟨rfl,fun v h=>(by cases h),⟨Bv _,by decide⟩,⟨by decide,by decide⟩,by decide,fun t h=>(by cases h),List.Pairwise.nil,by decide,fun t h=>(by cases h),List.Pairwise.nil,fun x h=>(by cases h),List.Pairwise.nil⟩
theorem j5j {b:u0j} (hb:BaseR b) (hs:u4k b [] =b):u8v p35 (4,u5u,emp,false,b)=some b:=by
 unfold u8v;rw[Al ⟨o6q.mpr o64,d34.mpr (.bas b hb)⟩];have e1:u2h p35 (4,u5u,emp,false,b)=some b:=by
  unfold u2h;simp only;rw[Ao (by decide),Ao (by decide),Ao (by decide)]
 rw[e1];simp only;rw[hs,Al (o6q.mpr hb)]
theorem p6d {d y:u0k} {t:Hs} (h:r8g d [t] =some y):u2e d=true/\u2e y=true/\u0e y= [t] :=by
 obtain⟨x,hx⟩:∃x,q4m d [t] =some x:=by
  cases q:q4m d [t] with
  | none=>unfold r8g at h;rw[q] at h;cases h | some x=>exact⟨x,rfl⟩
 have hl:u2e d=true:=by
  unfold q4m at hx;split at hx
  .assumption
  .cases hx
 obtain⟨a1,a2⟩:=s33 d;obtain⟨f1,f2,f3,f4,f5⟩:=o2n hl;have hp:∃z,o30 (r48 d) (u7w d) t=some z:=by
  unfold q4m at hx;rw[Al hl] at hx;cases q:o30 (r48 d) (u7w d) t with
  | none=>simp only[q9h,q] at hx;cases hx | some z=>exact⟨z,rfl⟩
 obtain⟨z,hz⟩:=hp;obtain⟨w,hw,_⟩:=j6s (u4e f1).2.1 hz;obtain⟨E,hE,g1,g2,g3,g4,g5⟩:=p9t hw;obtain⟨x',x1,x2,x3,x4,x5⟩:=j6d (l:= [t]) hl (by simp) (by simp[j5p];omega) (fun u hu=>by simp at hu;subst hu;exact⟨g3,g4⟩);rw[hx] at x1;cases x1;obtain⟨y',y1,y2,y3,_⟩:=o6x hx x2 x3 x4 x5 hl;rw[h] at y1;cases y1;exact⟨hl,y2,y3⟩
def j4z (d:u0k):Ht u0k:=match t2f (u0e d) with
 | none=>none | some b=>if(u04 (4,u5u,emp,false,b)).2=true then r8g d [(u04 (4,u5u,emp,false,b)).1] else none
def u8o (d:u0k) (r:r03):Ht u0k:=
 if(u04 r).2=true then(match append_ d (u04 r).1 with
  | some y=>some y | none=>match j4z d with
   | none=>none | some z=>append_ z (u04 r).1)
 else none
theorem j56 {d y:u0k} {b:u0j} (hp:t2f (u0e d)=some b) (hb:BaseR b) (hs:u4k b [] =b) (h:j4z d=some y):u2e d=true/\u2e y=true/\t2f (u0e y)=some b:=by
 unfold j4z at h;rw[hp] at h;simp only at h;rw[t6c (.bas b hb),Al rfl] at h;obtain⟨h1,h2,h3⟩:=p6d h;refine⟨h1,h2,?_⟩;rw[h3];unfold t2f;simp only[s55];rw[q5p (.bas b hb)];simp only;rw[j5j hb hs]
theorem p9w {d y:u0k} {b x:u0j} {r:r03} (hp:t2f (u0e d)=some b) (hb:BaseR b) (hs:u4k b [] =b) (hr:RecR r) (hx:u8v b r=some x) (h:u8o d r=some y):u2e y=true/\t2f (u0e y)=some x:=by
 have step:∀ {d y:u0k},t2f (u0e d)=some b->append_ d (q5w (q5t r))=some y->u2e y=true/\t2f (u0e y)=some x:=by
  intro d y hp h;obtain⟨h1,h2,h3⟩:=q6n h;refine⟨h2,?_⟩;rw[h3];unfold t2f at hp ⊢;rw[j8a,hp];simp only[zOb,s55];rw[q5p hr];simp only;rw[hx]
 unfold u8o at h;rw[t6c hr,Al rfl] at h;simp only at h;cases q:append_ d (q5w (q5t r)) with
 | some z=>
  rw[q] at h;cases h;exact step hp q
 | none=>
  rw[q] at h;simp only at h;cases a:j4z d with
  | none=>rw[a] at h;cases h | some z=>
   rw[a] at h;obtain⟨_,_,z3⟩:=j56 hp hb hs a;exact step z3 h
abbrev u0u:=u21×u0k
def j0u:r03:=(0,u5u,emp,false,u2t)
def u9o (o:Hu u0i) (id:Int):Int:=if u0y (fun x:u0i=>decide (x.1=id)) o<o.length then((u0y (fun x:u0i=>decide (x.1=id)) o:Nat):Int) else -1
def u25 (e:u21) (id:Int):u0i:=rdL u0v e.2 (u9o e.2 id).toNat
def s9v (e:u21):Hu u0i:=e.1.2.1++e.1.2.2.1
def q4p (e:u21) (id:Int):Int:=
 if u9o e.2 id<0 then 1 else if o0u (u25 e id) (s9v e)=true then 4 else if p7h (u25 e id) (s9v e)=true then 5 else if r49 e.1=true then 3 else 0
def u5t (e:u21) (id:Int):u21×r03×Int:=
 if q4p e id=1 then(e,j0u,1) else if q4p e id=0 then(p5a e (u25 e id),(1,s8e e.1 (u25 e id),emp,false,u2t),0) else(leaveE e id,j0u,q4p e id)
def r7t (e:u21) (id:Int):Int:=
 if q4p e id≠0 then q4p e id else if r0k (u25 e id) (s9v e)=true then 5 else if 3<=e.1.2.2.1.length then 3 else 0
def s2v (e:u21) (id:Int) (n:Hs):u21×r03×Int:=
 if u9o e.2 id<0 then(e,j0u,1) else if u7u n=false then(e,j0u,2) else if 0<=u0o e.1 n then(e,j0u,6)
 else if r7t e id=0 then(d0t e (u25 e id) n,(2,u6r e.1 (u25 e id) n,emp,false,u2t),0) else(leaveE e id,j0u,r7t e id)
def p0p (e:u21) (n:Hs) (yes:Bool):u21×r03×Int:=
 if u0o e.1 n<0 then(e,j0u,1) else if yes=true/\r49 e.1=true then(e,j0u,3)
 else if yes=true then(d9w e (rdL u0v e.1.2.2.1 (u0o e.1 n).toNat),(3,u5u,n,true,u2t),0) else(noE e n,(3,u5u,n,false,u2t),0)
def q5e (e:u21) (id:Int):u21×Int:=if u9o e.2 id<0 then(e,1) else(leaveE e id,0)
def s2q (e:u21):u21×Int×Int:=if e.2.length<4/\e.1.2.2.2.2<9999 then(d3u e,e.1.2.2.2.2,0) else(e,0,3)
def d9r (l:Hu s6l) (r:s6l):Bool:=l.any fun x=>z7n x.1 r.1&&z7n x.2 r.2
def c49 (t:u0i) (r:s6l):u0i:=(t.1,t.2.1,t.2.2.1,t.2.2.2.1,t.2.2.2.2.1++ [r],t.2.2.2.2.2)
def r06 (t:u0i) (r:s6l):u0i×Bool:=if d9r t.2.2.2.2.1 r=true then(t,true) else if t.2.2.2.2.1.length<8 then(c49 t r,true) else(t,false)
def c1n (t:u0i) (l:Hu WrT):u0i:=(t.1,t.2.1,t.2.2.1,t.2.2.2.1,t.2.2.2.2.1,l,t.2.2.2.2.2.2)
def q19 (t:u0i) (w:WrT):u0i×Bool:=if(o3z t.2.2.2.2.2.1 w).length<=8 then(c1n t (o3z t.2.2.2.2.2.1 w),true) else(t,false)
def s3q (e:u21) (id:Int) (r:s6l) (right:Bool):u21×Int:=
 if u9o e.2 id<0 then(e,1) else if right=false then(e,2) else if(r06 (u25 e id) r).2=true then(j5o e (u9o e.2 id).toNat (r06 (u25 e id) r).1,0) else(e,3)
def j4e (e:u21) (id:Int) (w:WrT):u21×Int:=
 if u9o e.2 id<0 then(e,1) else if u3i w=false then(e,2) else if(q19 (u25 e id) w).2=true then(j5o e (u9o e.2 id).toNat (q19 (u25 e id) w).1,0) else(e,3)
theorem u2c {e:u21} {id:Int} (h: ¬u9o e.2 id<0):∃(k:Nat) (hk:k<e.2.length),u9o e.2 id=(k:Int)/\u25 e id=e.2[k] /\e.2[k].1=id:=by
 unfold u25;unfold u9o at h ⊢;split at h
 .rename_i q;rw[Al q];refine⟨_,q,rfl,?_,?_⟩
  .rw[zTn];exact y8f (t:=u0v) q
  .simpa using u9z q
 .omega
theorem p0v {e:u21} {id:Int} (h:q4p e id=0): ¬u9o e.2 id<0/\o0u (u25 e id) (s9v e)=false/\p7h (u25 e id) (s9v e)=false/\r49 e.1=false:=by
 unfold q4p at h;split at h
 .omega
 .rename_i h1;split at h
  .omega
  .rename_i h2;split at h
   .omega
   .rename_i h3;split at h
    .omega
    .rename_i h4;exact⟨h1,by simpa using h2,by simpa using h3,by simpa using h4⟩
theorem d7s {t:u0i} {r:s6l} (h:TxnR t) (hr:u2p r=true) (hl:t.2.2.2.2.1.length<8):TxnR (c49 t r):=
 ⟨h.id,h.st,h.snap,by show(t.2.2.2.2.1++ [r]).length<=8;simp only[Ba,Aw];omega,h.ws,fun x hx=>by
   rcases Ay.mp hx with hx | hx
   .exact h.rs x hx
   .rw[Ax] at hx;subst hx;exact hr,h.done,h.nocs,h.name,h.noname,h.out⟩
theorem d5o {t:u0i} {r:s6l} (h:TxnR t) (hr:u2p r=true):TxnR (r06 t r).1/\(r06 t r).1.1=t.1/\(r06 t r).1.2.1=t.2.1/\(r06 t r).1.2.2.1=t.2.2.1/\(r06 t r).1.2.2.2.2.2.1=t.2.2.2.2.2.1:=by
 unfold r06;split
 .exact⟨h,rfl,rfl,rfl,rfl⟩
 .split
  .rename_i q;exact⟨d7s h hr q,rfl,rfl,rfl,rfl⟩
  .exact⟨h,rfl,rfl,rfl,rfl⟩
theorem j5k {l:Hu WrT} {w:WrT} (h:u5b l=true) (hw:u3i w=true) (hl:(o3z l w).length<=8):u5b (o3z l w)=true:=by
 obtain⟨h1,h2,h3⟩:=d37.mp h;refine d37.mpr ⟨fun x hx=> ?_,?_,hl⟩
 .rcases p37 hx with hx | rfl
  .exact h1 x hx
  .exact hw
 .unfold o3z;rw[Bi,Cg];refine⟨Dz _ h2,?_,?_⟩
  .rw[Fs,Ch];refine⟨fun y hy=> ?_,Dz _ h2⟩;have:=(A6.mp hy).2;rw[j2r] at this;exact this
  .intro x hx y hy;have h4:=(A6.mp hx).2;rcases Ay.mp hy with hy | hy
   .rw[Ax] at hy;subst hy;exact h4
   .have h5:=(A6.mp hy).2;rw[j2r] at h5;exact p4c h4 h5
theorem d78 {t:u0i} {l:Hu WrT} (h:TxnR t) (hl:u5b l=true):TxnR (c1n t l):=
 ⟨h.id,h.st,h.snap,h.rlen,hl,h.rs,h.done,h.nocs,h.name,h.noname,h.out⟩
theorem d3d {t:u0i} {w:WrT} (h:TxnR t) (hw:u3i w=true):TxnR (q19 t w).1/\(q19 t w).1.1=t.1/\(q19 t w).1.2.1=t.2.1/\(q19 t w).1.2.2.1=t.2.2.1/\(q19 t w).1.2.2.2.2.1=t.2.2.2.2.1:=by
 unfold q19;split
 .rename_i q;exact⟨d78 h (j5k h.ws hw q),rfl,rfl,rfl,rfl⟩
 .exact⟨h,rfl,rfl,rfl,rfl⟩
theorem d3x {e:u21} (h:EngR e) {id:Int} {r:s6l} {right:Bool} (hr:right=true->u2p r=true):EngR (s3q e id r right).1:=by
 unfold s3q;split
 .exact h
 .rename_i q;split
  .exact h
  .rename_i hb;split
   .obtain⟨k,hk,e1,e2,e3⟩:=u2c q;obtain⟨o1,o2,o3⟩:=h.open_ _ (Ag hk);rw[e1,zTn,e2];obtain⟨r1,r2,r3,r4,r5⟩:=d5o o1 (hr (by simpa using hb));exact j3r h hk r1 r2 (r3.trans o2) r4
   .exact h
theorem d76 {e:u21} (h:EngR e) {id:Int} {w:WrT} :EngR (j4e e id w).1:=by
 unfold j4e;split
 .exact h
 .rename_i q;split
  .exact h
  .rename_i hb;split
   .obtain⟨k,hk,e1,e2,e3⟩:=u2c q;obtain⟨o1,o2,o3⟩:=h.open_ _ (Ag hk);rw[e1,zTn,e2];obtain⟨r1,r2,r3,r4,r5⟩:=d3d (w:=w) o1 (by simpa using hb);exact j3r h hk r1 r2 (r3.trans o2) r4
   .exact h
theorem o8f {e:u21} (h:EngR e):EngR (s2q e).1:=by
 unfold s2q;split
 .rename_i q;exact d47 h q.1 q.2
 .exact h
theorem d2f {e:u21} (h:EngR e) (id:Int):EngR (q5e e id).1:=by
 unfold q5e;split
 .exact h
 .exact p55 h id
structure Sync (s:u0u) (b:u0j):Prop where
 eng:EngR s.1
 log:u2e s.2=true
 play:t2f (u0e s.2)=some b
 right:BaseR b
 like:Like0 b s.1.1
theorem Like0.of {b e e' :u0j} (h:Like0 b e) (h1:e'.1=e.1) (h2:e'.2.2.1=e.2.2.1) (h3:e'.2.2.2.1=e.2.2.2.1):Like0 b e' :=
 ⟨by rw[h1,h3];exact h.vs,h.past,by rw[h2];exact h.ready,by rw[h3];exact h.cs⟩
theorem Sync.opens {s:u0u} {b:u0j} {e:u21} (h:Sync s b) (he:EngR e) (h1:e.1.1=s.1.1.1) (h2:e.1.2.2.1=s.1.1.2.2.1) (h3:e.1.2.2.2.1=s.1.1.2.2.2.1):Sync (e,s.2) b:=
 ⟨he,h.log,h.play,h.right,h.like.of h1 h2 h3⟩
theorem Sync.leave {s:u0u} {b:u0j} (h:Sync s b) (id:Int):Sync (leaveE s.1 id,s.2) b:=
 ⟨p55 h.eng id,h.log,h.play,h.right,h.like.tidy h.eng.base _⟩
theorem Sync.own {s:u0u} {b:u0j} (h:Sync s b):u4k b [] =b:=h.like.self h.eng.base
def u8q (s:u0u) (id:Int):u0u×Int:=
 if(u5t s.1 id).2.2=0 then(match u8o s.2 (u5t s.1 id).2.1 with
  | some d=>(((u5t s.1 id).1,d),0) | none=>((leaveE s.1 id,s.2),3))
 else(((u5t s.1 id).1,s.2),(u5t s.1 id).2.2)
def s6a (s:u0u) (id:Int) (n:Hs):u0u×Int:=
 if(s2v s.1 id n).2.2=0 then(match u8o s.2 (s2v s.1 id n).2.1 with
  | some d=>(((s2v s.1 id n).1,d),0) | none=>((leaveE s.1 id,s.2),3))
 else(((s2v s.1 id n).1,s.2),(s2v s.1 id n).2.2)
def q2g (s:u0u) (n:Hs) (yes:Bool):u0u×Int:=
 if(p0p s.1 n yes).2.2=0 then(match u8o s.2 (p0p s.1 n yes).2.1 with
  | some d=>(((p0p s.1 n yes).1,d),0) | none=>(s,3))
 else(s,(p0p s.1 n yes).2.2)
def j7x (s:u0u):u0u×Bool:=match j4z s.2 with
 | some d=>((s.1,d),true) | none=>(s,false)
theorem Sync.commit {s:u0u} {b:u0j} (h:Sync s b) (id:Int):∃b',Sync (u8q s id).1 b' /\(b' =b\/((u8q s id).2=0/\q4p s.1 id=0/\u8v b (1,s8e s.1.1 (u25 s.1 id),emp,false,u2t)=some b')):=by
 have hE:=h.eng;unfold u8q;by_cases c0:(u5t s.1 id).2.2=0
 .rw[Al c0];have j0:q4p s.1 id=0:=by
   unfold u5t at c0;split at c0
   .cases c0
   .split at c0
    .assumption
    .exact c0
  have ec:u5t s.1 id=(p5a s.1 (u25 s.1 id),(1,s8e s.1.1 (u25 s.1 id),emp,false,u2t),0):=by
   unfold u5t;rw[Ao (by omega),Al j0]
  obtain⟨h1,h2,h3,h4⟩:=p0v j0;obtain⟨k,hk,e1,e2,e3⟩:=u2c h1;have ht:u25 s.1 id∈s.1.2:=by rw[e2];exact Ag hk
  obtain⟨f1,f2,f3⟩:=p3y h4;obtain⟨tR,t1,ts⟩:=hE.open_ _ ht;have h9:(u25 s.1 id).1<9999:=by have:=hE.bel _ (Az _ ht);have:=hE.base.next.2;omega
  obtain⟨x,p1,p2,p3⟩:=o58 (t:=u25 s.1 id) h.like hE.base h.right f3 f2 tR h9 ts;rw[ec];simp only;cases hk2:u8o s.2 (1,s8e s.1.1 (u25 s.1 id),emp,false,u2t) with
  | none=>exact⟨b,h.leave id, .inl rfl⟩ | some d=>
   obtain⟨l1,l2⟩:=p9w h.play h.right h.own (.thr _ (j44 tR ts f3) rfl) p1 hk2;have hR:=j6b hE ht h4;exact⟨x,⟨hR,l1,l2,p2,p3.tidy (q6w hE (.inl ht) h4) _⟩, .inr ⟨rfl,j0,p1⟩⟩
 .rw[Ao c0];refine⟨b,?_, .inl rfl⟩;unfold u5t;split
  .exact h
  .split
   .rename_i q1 q2;exfalso;apply c0;unfold u5t;rw[Ao q1,Al q2]
   .exact h.leave id
theorem d31 {e:u21} {id:Int} (h:r7t e id=0):q4p e id=0/\r0k (u25 e id) (s9v e)=false/\e.1.2.2.1.length<3:=by
 unfold r7t at h;split at h
 .rename_i q;exact absurd h q
 .rename_i q;split at h
  .omega
  .rename_i q2;split at h
   .omega
   .exact⟨by omega,by simpa using q2,by omega⟩
theorem d0u {e:u21} {id:Int} {n:Hs} (h:(s2v e id n).2.2=0): ¬u9o e.2 id<0/\u7u n=true/\u0o e.1 n<0/\r7t e id=0/\s2v e id n=(d0t e (u25 e id) n,(2,u6r e.1 (u25 e id) n,emp,false,u2t),0):=by
 unfold s2v at h ⊢;split at h
 .cases h
 .rename_i q1;split at h
  .cases h
  .rename_i q2;split at h
   .cases h
   .rename_i q3;split at h
    .rename_i q4;exact⟨q1,by simpa using q2,by omega,q4,by rw[Ao q1,Ao q2,Ao q3,Al q4]⟩
    .rename_i q4;exact absurd h q4
theorem Sync.prep {s:u0u} {b:u0j} (h:Sync s b) (id:Int) (n:Hs):∃b',Sync (s6a s id n).1 b' /\(b' =b\/((s6a s id n).2=0/\(s2v s.1 id n).2.2=0/\u8v b (2,u6r s.1.1 (u25 s.1 id) n,emp,false,u2t)=some b')):=by
 have hE:=h.eng;unfold s6a;by_cases c0:(s2v s.1 id n).2.2=0
 .rw[Al c0];obtain⟨h1,hn,hr,hc,ec⟩:=d0u c0;obtain⟨j0,rd,rl⟩:=d31 hc;obtain⟨k,hk,e1,e2,e3⟩:=u2c h1;have ht:u25 s.1 id∈s.1.2:=by rw[e2];exact Ag hk
  obtain⟨tR,t1,ts⟩:=hE.open_ _ ht;have h9:(u25 s.1 id).1<9999:=by have:=hE.bel _ (Az _ ht);have:=hE.base.next.2;omega
  have hnn:=d5p.mp hr;obtain⟨x,p1,p2,p3⟩:=j3h (t:=u25 s.1 id) (n:=n) h.like hE.base h.right tR (by omega) hn ts rl hnn (fun x hx=>hE.apart x (Az _ hx) _ ht) h9;rw[ec];simp only;cases hk2:u8o s.2 (2,u6r s.1.1 (u25 s.1 id) n,emp,false,u2t) with
  | none=>exact⟨b,h.leave id, .inl rfl⟩ | some d=>
   obtain⟨l1,l2⟩:=p9w h.play h.right h.own (.rdy _ (j0h tR (by omega) hn) rfl) p1 hk2;have hB:BaseR (u2y s.1.1 (u25 s.1 id) n):=p0z hE.base tR (by omega) ts hn rl hnn (fun x hx=>hE.apart x hx _ ht) h9;exact⟨x,⟨d32 hE ht hn rl hnn,l1,l2,p2,p3.tidy hB _⟩, .inr ⟨by trivial,by trivial,p1⟩⟩
 .rw[Ao c0];refine⟨b,?_, .inl rfl⟩;unfold s2v;split
  .exact h
  .split
   .exact h
   .split
    .exact h
    .split
     .rename_i q1 q2 q3 q4;exfalso;apply c0;unfold s2v;rw[Ao q1,Ao q2,Ao q3,Al q4]
     .exact h.leave id
theorem Sync.fin {s:u0u} {b:u0j} (h:Sync s b) (n:Hs) (yes:Bool):∃b',Sync (q2g s n yes).1 b' /\(b' =b\/((q2g s n yes).2=0/\(p0p s.1 n yes).2.2=0/\u8v b (3,u5u,n,yes,u2t)=some b')):=by
 have hE:=h.eng;unfold q2g;by_cases c0:(p0p s.1 n yes).2.2=0
 .rw[Al c0];unfold p0p at c0;split at c0
  .cases c0
  .rename_i q1;split at c0
   .cases c0
   .rename_i q2;obtain⟨k,hk,r1,r2⟩:=t6b q1;obtain⟨tR,t2,ts⟩:=hE.base.ready _ (Ag hk);have hn:u7u n=true:=by rw[←r2];exact tR.name t2
    cases yes with
    | true=>
     have hf:r49 s.1.1=false:=by simpa using q2
     obtain⟨f1,f2,f3⟩:=p3y hf;have ec:p0p s.1 n true=(d9w s.1 s.1.1.2.2.1[k],(3,u5u,n,true,u2t),0):=by
      unfold p0p;rw[Ao q1,Ao q2,Al rfl,r1,zTn,y8f (t:=u0v) hk]
     obtain⟨x,p1,p2,p3⟩:=j8b h.like hE.base h.right f3 f2 hn hk r1;rw[ec];simp only;cases hk2:u8o s.2 (3,u5u,n,true,u2t) with
     | none=>exact⟨b,h, .inl rfl⟩ | some d=>
      obtain⟨l1,l2⟩:=p9w h.play h.right h.own (.fin n true hn) p1 hk2;exact⟨x,⟨d8f hE (Ag hk) hf,l1,l2,p2,p3.tidy (q6w hE (.inr (Ag hk)) hf) _⟩, .inr ⟨by trivial,by trivial,p1⟩⟩
    | false=>
     have ec:p0p s.1 n false=(noE s.1 n,(3,u5u,n,false,u2t),0):=by
      unfold p0p;rw[Ao q1,Ao q2,Ao (by decide)]
     obtain⟨x,p1,p2,p3⟩:=d0s h.like hE.base h.right hn hk r1;rw[ec];simp only;cases hk2:u8o s.2 (3,u5u,n,false,u2t) with
     | none=>exact⟨b,h, .inl rfl⟩ | some d=>
      obtain⟨l1,l2⟩:=p9w h.play h.right h.own (.fin n false hn) p1 hk2;exact⟨x,⟨c5d hE n,l1,l2,p2,p3.tidy (o2s hE.base n) _⟩, .inr ⟨by trivial,by trivial,p1⟩⟩
 .rw[Ao c0];exact⟨b,h, .inl rfl⟩
theorem Sync.fix {s:u0u} {b:u0j} (h:Sync s b):Sync (j7x s).1 b:=by
 unfold j7x;cases ha:j4z s.2 with
 | none=>exact h | some d=>
  obtain⟨_,l1,l2⟩:=j56 h.play h.right h.own ha;exact⟨h.eng,l1,l2,h.right,h.like⟩
def K5:Hu Hs:= [⟨#[97]⟩,⟨#[98]⟩,⟨#[99]⟩,⟨#[100]⟩,⟨#[97,98]⟩]
structure DomT (t:u0i):Prop where
 ws:∀w∈t.2.2.2.2.2.1,w.1∈K5
 rs:∀r∈t.2.2.2.2.1,r.1∈K5/\r.2∈K5
structure DomB (b:u0j):Prop where
 vs:∀v∈b.1,v.1∈K5
 ready:∀t∈b.2.2.1,DomT t
structure DomE (e:u21):Prop where
 base:DomB e.1
 open_:∀t∈e.2,DomT t
theorem DomB.tidy {b:u0j} (h:DomB b) (o:Hu u0i):DomB (u4k b o):=⟨fun v hv=>h.vs v ((t2o _ _).subset hv),h.ready⟩
theorem DomB.through {b:u0j} {t:u0i} (h:DomB b) (ht:DomT t):DomB (u1v b t):=by
 refine⟨fun v hv=> ?_,fun x hx=> ?_⟩
 .rcases(s2t _ _ _).mp hv with hv | ⟨w,hw,rfl⟩
  .exact h.vs v hv
  .exact ht.ws w hw
 .obtain⟨q,hq,rfl⟩:=Bx.mp hx;have:=h.ready q (A6.mp hq).1;exact⟨this.ws,this.rs⟩
theorem DomB.made {b:u0j} {t:u0i} {n:Hs} (h:DomB b) (ht:DomT t):DomB (u2y b t n):=by
 refine⟨h.vs,fun x hx=> ?_⟩;rcases Ay.mp hx with hx | hx
 .rcases Ay.mp hx with hx | hx
  .exact h.ready x (A6.mp hx).1
  .rw[Ax] at hx;subst hx;exact⟨ht.ws,ht.rs⟩
 .exact h.ready x (A6.mp hx).1
theorem DomB.given {b:u0j} (h:DomB b) (n:Hs):DomB (s1c b n):=⟨h.vs,fun x hx=>h.ready x (A6.mp hx).1⟩
theorem DomE.rest {e:u21} (h:DomE e) (id:Int):∀t∈q5v e id,DomT t:=fun t ht=>h.open_ t ((r8d e id).subset ht)
theorem DomE.leave {e:u21} (h:DomE e) (id:Int):DomE (leaveE e id):=⟨h.base.tidy _,h.rest id⟩
theorem DomE.begin {e:u21} (h:DomE e):DomE (s2q e).1:=by
 unfold s2q;split
 .refine⟨⟨h.base.vs,h.base.ready⟩,fun t ht=> ?_⟩;rcases Ay.mp ht with ht | ht
  .exact h.open_ t ht
  .rw[Ax] at ht;subst ht;exact⟨fun w hw=>(by cases hw),fun r hr=>(by cases hr)⟩
 .exact h
theorem DomE.commit {e:u21} (h:DomE e) (id:Int):DomE (u5t e id).1:=by
 unfold u5t;split
 .exact h
 .split
  .rename_i _ q;obtain⟨k,hk,e1,e2,e3⟩:=u2c (p0v q).1;rw[e2];exact⟨(h.base.through (h.open_ _ (Ag hk))).tidy _,h.rest _⟩
  .exact h.leave id
theorem DomE.prep {e:u21} (h:DomE e) (id:Int) (n:Hs):DomE (s2v e id n).1:=by
 unfold s2v;split
 .exact h
 .rename_i q;split
  .exact h
  .split
   .exact h
   .split
    .obtain⟨k,hk,e1,e2,e3⟩:=u2c q;rw[e2];exact⟨(h.base.made (h.open_ _ (Ag hk))).tidy _,h.rest _⟩
    .exact h.leave id
theorem DomE.fin {e:u21} (h:DomE e) (n:Hs) (y:Bool):DomE (p0p e n y).1:=by
 unfold p0p;split
 .exact h
 .rename_i q;split
  .exact h
  .split
   .obtain⟨k,hk,r1,r2⟩:=t6b q;rw[r1,zTn,y8f (t:=u0v) hk];exact⟨(h.base.through (h.base.ready _ (Ag hk))).tidy _,h.open_⟩
   .exact⟨(h.base.given n).tidy _,h.open_⟩
theorem DomE.look {e:u21} (h:DomE e) {id:Int} {r:s6l} {right:Bool} (hr:r.1∈K5/\r.2∈K5):DomE (s3q e id r right).1:=by
 unfold s3q;split
 .exact h
 .rename_i q;split
  .exact h
  .split
   .obtain⟨k,hk,e1,e2,e3⟩:=u2c q;rw[e2];have ho:=h.open_ _ (Ag hk);refine⟨h.base,fun t ht=> ?_⟩;rcases j0k ht with ht | rfl
    .exact h.open_ t ht
    .unfold r06;split
     .exact ho
     .split
      .refine⟨ho.ws,fun x hx=> ?_⟩;rcases Ay.mp hx with hx | hx
       .exact ho.rs x hx
       .rw[Ax] at hx;subst hx;exact hr
      .exact ho
   .exact h
theorem DomE.put {e:u21} (h:DomE e) {id:Int} {w:WrT} (hw:w.1∈K5):DomE (j4e e id w).1:=by
 unfold j4e;split
 .exact h
 .rename_i q;split
  .exact h
  .split
   .obtain⟨k,hk,e1,e2,e3⟩:=u2c q;rw[e2];have ho:=h.open_ _ (Ag hk);refine⟨h.base,fun t ht=> ?_⟩;rcases j0k ht with ht | rfl
    .exact h.open_ t ht
    .unfold q19;split
     .refine⟨fun x hx=> ?_,ho.rs⟩;rcases p37 hx with hx | rfl
      .exact ho.ws x hx
      .exact hw
     .exact ho
   .exact h
def Num (k:Nat) (e:u21):Prop:=e.1.2.2.2.1<=(k:Int)/\e.1.2.2.2.2<=(k:Int)+1
theorem Num.mono {k m:Nat} {e:u21} (h:Num k e) (hk:k<=m):Num m e:=⟨by have:=h.1;omega,by have:=h.2;omega⟩
theorem p58 {e:u21} (h:EngR e) {t:u0i} (ht:t∈e.2\/t∈e.1.2.2.1):u14 e.1.2.2.2.2 t.1=e.1.2.2.2.2:=by
 refine j26 ?_;rcases ht with ht | ht
 .exact h.bel t (Az _ ht)
 .exact h.bel t (Bf _ (Az _ ht))
theorem Num.begin {k:Nat} {e:u21} (h:Num k e):Num (k+1) (s2q e).1:=by
 unfold s2q;split
 .exact⟨by show e.1.2.2.2.1<=_;have:=h.1;omega,by show e.1.2.2.2.2+1<=_;have:=h.2;omega⟩
 .exact h.mono (by omega)
theorem Num.commit {k:Nat} {e:u21} (hE:EngR e) (h:Num k e) (id:Int):Num (k+1) (u5t e id).1:=by
 unfold u5t;split
 .exact h.mono (by omega)
 .split
  .rename_i _ q;obtain⟨j,hj,e1,e2,e3⟩:=u2c (p0v q).1;refine⟨by show e.1.2.2.2.1+1<=_;have:=h.1;omega,?_⟩;show u14 e.1.2.2.2.2 (u25 e id).1<=_;rw[e2,p58 hE (.inl (Ag hj))];have:=h.2;omega
  .exact h.mono (by omega)
theorem Num.prep {k:Nat} {e:u21} (hE:EngR e) (h:Num k e) (id:Int) (n:Hs):Num (k+1) (s2v e id n).1:=by
 unfold s2v;split
 .exact h.mono (by omega)
 .rename_i q;split
  .exact h.mono (by omega)
  .split
   .exact h.mono (by omega)
   .split
    .obtain⟨j,hj,e1,e2,e3⟩:=u2c q;refine⟨by show e.1.2.2.2.1<=_;have:=h.1;omega,?_⟩;show u14 e.1.2.2.2.2 (u25 e id).1<=_;rw[e2,p58 hE (.inl (Ag hj))];have:=h.2;omega
    .exact h.mono (by omega)
theorem Num.fin {k:Nat} {e:u21} (hE:EngR e) (h:Num k e) (n:Hs) (y:Bool):Num (k+1) (p0p e n y).1:=by
 unfold p0p;split
 .exact h.mono (by omega)
 .rename_i q;split
  .exact h.mono (by omega)
  .split
   .obtain⟨j,hj,r1,r2⟩:=t6b q;rw[r1,zTn,y8f (t:=u0v) hj];refine⟨by show e.1.2.2.2.1+1<=_;have:=h.1;omega,?_⟩;show u14 e.1.2.2.2.2 e.1.2.2.1[j].1<=_;rw[p58 hE (.inr (Ag hj))];have:=h.2;omega
   .exact h.mono (by omega)
theorem Num.look {k:Nat} {e:u21} (h:Num k e) {id:Int} {r:s6l} {right:Bool} :Num k (s3q e id r right).1:=by
 unfold s3q;split
 .exact h
 .split
  .exact h
  .split<;>exact h
theorem Num.put {k:Nat} {e:u21} (h:Num k e) {id:Int} {w:WrT} :Num k (j4e e id w).1:=by
 unfold j4e;split
 .exact h
 .split
  .exact h
  .split<;>exact h
structure Stt (k:Nat) (s:u0u):Prop where
 sync:∃b,Sync s b/\b.2.2.2.2<=(k:Int)+1
 dom:DomE s.1
 num:Num k s.1
theorem Stt.eng {k:Nat} {s:u0u} (h:Stt k s):EngR s.1:=by obtain⟨b,h1,_⟩:=h.sync;exact h1.eng
theorem p03 {b x:u0j} {r:r03} (h:u8v b r=some x):∃y,u2h b r=some y/\x=u4k y [] :=by
 unfold u8v at h;split at h
 .cases q:u2h b r with
  | none=>rw[q] at h;cases h | some y=>
   rw[q] at h;simp only at h;split at h
   .exact⟨y,rfl,(Ds h).symm⟩
   .cases h
 .cases h
theorem j5e {n i m:Int} (h1:n<=m) (h2:i<m):u14 n i<=m:=by unfold u14;split<;>omega
theorem Stt.commit {k:Nat} {s:u0u} (h:Stt k s) (id:Int):Stt (k+1) (u8q s id).1:=by
 obtain⟨b,hs,hb⟩:=h.sync;obtain⟨b',hs',hd⟩:=hs.commit id;have hE:=hs.eng;have h1:=h.num.commit hE id;have hl:=h.dom.leave id;refine⟨⟨b',hs',?_⟩,?_,?_⟩
 .rcases hd with rfl | ⟨_,j0,hp⟩
  .omega
  .obtain⟨y,hy,rfl⟩:=p03 hp;unfold u2h at hy;rw[Al rfl] at hy;split at hy
   .cases hy;show u14 b.2.2.2.2 (u25 s.1 id).1<=_;obtain⟨j,hj,e1,e2,e3⟩:=u2c (p0v j0).1;have:=hE.bel _ (Az _ (Ag hj));rw[e2];have:=h.num.2;exact j5e (by omega) (by omega)
   .cases hy
 .have h2:=h.dom.commit id;unfold u8q;split
  .split
   .exact h2
   .exact hl
  .exact h2
 .unfold u8q;split
  .split
   .exact h1
   .exact h.num.mono (by omega)
  .exact h1
theorem Stt.prep {k:Nat} {s:u0u} (h:Stt k s) (id:Int) (n:Hs):Stt (k+1) (s6a s id n).1:=by
 obtain⟨b,hs,hb⟩:=h.sync;obtain⟨b',hs',hd⟩:=hs.prep id n;have hE:=hs.eng;have h1:=h.num.prep hE id n;have hl:=h.dom.leave id;refine⟨⟨b',hs',?_⟩,?_,?_⟩
 .rcases hd with rfl | ⟨_,j0,hp⟩
  .omega
  .obtain⟨y,hy,rfl⟩:=p03 hp;unfold u2h at hy;simp only at hy;rw[Ao (by decide),Al trivial] at hy;split at hy
   .cases hy;show u14 b.2.2.2.2 (u25 s.1 id).1<=_;obtain⟨j,hj,e1,e2,e3⟩:=u2c (d0u j0).1;have:=hE.bel _ (Az _ (Ag hj));rw[e2];have:=h.num.2;exact j5e (by omega) (by omega)
   .cases hy
 .have h2:=h.dom.prep id n;unfold s6a;split
  .split
   .exact h2
   .exact hl
  .exact h2
 .unfold s6a;split
  .split
   .exact h1
   .exact h.num.mono (by omega)
  .exact h1
theorem Stt.fin {k:Nat} {s:u0u} (h:Stt k s) (n:Hs) (y:Bool):Stt (k+1) (q2g s n y).1:=by
 obtain⟨b,hs,hb⟩:=h.sync;obtain⟨b',hs',hd⟩:=hs.fin n y;have hE:=hs.eng;have h1:=h.num.fin hE n y;refine⟨⟨b',hs',?_⟩,?_,?_⟩
 .rcases hd with rfl | ⟨_,j0,hp⟩
  .omega
  .obtain⟨z,hz,rfl⟩:=p03 hp;unfold u2h at hz;simp only at hz;rw[Ao (by decide),Ao (by decide),Al trivial] at hz;split at hz
   .cases hz
   .rename_i q;obtain⟨j,hj,r1,r2⟩:=t6b q;split at hz
    .cases hz;show u14 b.2.2.2.2 (rdL u0v b.2.2.1 (u0o b n).toNat).1<=_;rw[r1,zTn,y8f (t:=u0v) hj];have:b.2.2.1[j] ∈s.1.1.2.2.1:=by rw[←hs.like.ready];exact Ag hj
     have:=hE.bel _ (Bf _ (Az _ this));have:=h.num.2;exact j5e (by omega) (by omega)
    .cases hz;show b.2.2.2.2<=_;omega
 .have h2:=h.dom.fin n y;unfold q2g;split
  .split
   .exact h2
   .exact h.dom
  .exact h.dom
 .unfold q2g;split
  .split
   .exact h1
   .exact h.num.mono (by omega)
  .exact h.num.mono (by omega)
theorem Stt.fix {k:Nat} {s:u0u} (h:Stt k s):Stt (k+1) (j7x s).1:=by
 obtain⟨b,hs,hb⟩:=h.sync;refine⟨⟨b,hs.fix,by omega⟩,?_,?_⟩
 .unfold j7x;split<;>exact h.dom
 .unfold j7x;split<;>exact h.num.mono (by omega)
theorem Stt.leave {k:Nat} {s:u0u} (h:Stt k s) (id:Int):Stt (k+1) ((q5e s.1 id).1,s.2):=by
 obtain⟨b,hs,hb⟩:=h.sync;unfold q5e;split
 .exact⟨⟨b,hs,by omega⟩,h.dom,h.num.mono (by omega)⟩
 .exact⟨⟨b,hs.leave id,by omega⟩,h.dom.leave id,h.num.mono (by omega)⟩
theorem Stt.begin {k:Nat} {s:u0u} (h:Stt k s):Stt (k+1) ((s2q s.1).1,s.2):=by
 obtain⟨b,hs,hb⟩:=h.sync;refine⟨⟨b,hs.opens (o8f hs.eng) ?_ ?_ ?_,by omega⟩,h.dom.begin,h.num.begin⟩<;>(unfold s2q;split<;>rfl)
theorem Stt.look {k:Nat} {s:u0u} (h:Stt k s) {id:Int} {r:s6l} {right:Bool} (hr:right=true->u2p r=true) (hk:r.1∈K5/\r.2∈K5):Stt (k+1) ((s3q s.1 id r right).1,s.2):=by
 obtain⟨b,hs,hb⟩:=h.sync;have e:(s3q s.1 id r right).1.1=s.1.1:=by
  unfold s3q;split
  .rfl
  .split
   .rfl
   .split<;>rfl
 exact⟨⟨b,hs.opens (d3x hs.eng hr) (by rw[e]) (by rw[e]) (by rw[e]),by omega⟩,h.dom.look hk,h.num.look.mono (by omega)⟩
theorem Stt.put {k:Nat} {s:u0u} (h:Stt k s) {id:Int} {w:WrT} (hk:w.1∈K5):Stt (k+1) ((j4e s.1 id w).1,s.2):=by
 obtain⟨b,hs,hb⟩:=h.sync;have e:(j4e s.1 id w).1.1=s.1.1:=by
  unfold j4e;split
  .rfl
  .split
   .rfl
   .split<;>rfl
 exact⟨⟨b,hs.opens (d76 hs.eng) (by rw[e]) (by rw[e]) (by rw[e]),by omega⟩,h.dom.put hk,h.num.put.mono (by omega)⟩
def d07 (H:Hu u0i) (e' :u21) (r1o:Int) (t:u0i):Hu u0i:=
 if e'.1.2.2.2.1=i64.wrap (r1o+1) then H++ [d5q e'.1.2.2.2.1 t] else H
theorem d5v {H:Hu u0i} {e' :u21} {c:Int} (t:u0i) (hc:j80 c) (h:e'.1.2.2.2.1=c):d07 H e' c t=H:=by
 unfold d07;rw[s3o hc,Ao (by omega)]
theorem d26 {H:Hu u0i} {e' :u21} {c:Int} (t:u0i) (hc:j80 c) (h:e'.1.2.2.2.1=c+1):d07 H e' c t=H++ [d5q (c+1) t] :=by
 unfold d07;rw[s3o hc,Al h,h]
def HB (H:Hu u0i) (s:u0u):Prop:= ∃b,Sync s b/\ ∀x∈H,x.1<b.2.2.2.2
theorem j9w (v:Nat):(bif decide ((v:Int)<97) then some true else some (decide ((v:Int) >122)))=some (!(decide (97<=v)&&decide (v<=122))):=by
 have e1:decide ((v:Int)<97)= !decide (97<=v):=by by_cases h:97<=v<;>simp[h] <;>omega
 have e2:decide ((v:Int) >122)= !decide (v<=122):=by by_cases h:v<=122<;>simp[h] <;>omega
 rw[e1,e2];cases decide (97<=v)<;>cases decide (v<=122)<;>rfl
theorem q61 (a b c:Int):u1c (a,b,c)=some (inB a b c):=s6j a b c
theorem r5a (a b c:Int):u0t (a,b,c)=some (inB a b c):=s40 a b c
theorem t2v {X R:Type} (W:X->Ht R) (n:Nat) (mk:Int->X) (ok:Nat->Bool) (yes no:R) (hend:W (mk (n:Int))=some yes)
 (hstep:∀(i:Nat),i<n->W (mk (i:Int))=bif ok i then W (mk ((i+1:Nat):Int)) else some no):W (mk 0)=some (bif (List.range n).all ok then yes else no):=by
 have key:∀d i:Nat,i+d=n->W (mk (i:Int))=some (bif (List.range d).all (fun j=>ok (i+j)) then yes else no):=by
  intro d
  induction d with
  | zero=>intro i hi;have:i=n:=by omega
          subst this;simpa using hend
  | succ d ih=>
   intro i hi;rw[hstep i (by omega),ih (i+1) (by omega),List.range_succ_eq_map,Gc,List.all_map,Df];have e:((fun j=>ok (i+j)) ∘Nat.succ)=fun j=>ok (i+1+j):=by funext j;simp only[Function.comp];congr 1;omega
   rw[e];cases ok i<;>rfl
 have:=key n 0 (by omega);simpa using this
theorem s2p {t:Ty} (l:Hu t.den) (f:t.den->Bool):((List.range l.length).all fun i=>f (rdL t l i))=l.all f:=by
 rw[Cd,Bg,Bg];constructor
 .intro h x hx;obtain⟨i,hi,rfl⟩:=B7 hx;have:=h i (Bq.mpr hi)
  rwa [y8f hi] at this
 .intro h i hi;rw[y8f (Bq.mp hi)];exact h _ (Ag _)
theorem j9r {α:Type} (l:Hu α) (f g:α->Bool):(l.all fun i=>f i&&g i)=(l.all f&&l.all g):=by
 induction l with
 | nil=>rfl | cons x l ih=>simp only[Gc,ih];cases f x<;>cases g x<;>simp
theorem r3o {t:Ty} (l:Hu t.den) (f:t.den->Bool) (lt:t.den->t.den->Bool):
 ((List.range l.length).all fun i=>f (rdL t l i)&&(decide (i=0) || lt (rdL t l (i - 1)) (rdL t l i)))=(l.all f&&o4a t lt l):=by
 rw[j9r (List.range l.length) (fun i=>f (rdL t l i)) (fun i=>decide (i=0) || lt (rdL t l (i - 1)) (rdL t l i)),s2p];rfl
theorem s41 (i:Nat):decide ((i:Int) >0)= !decide (i=0):=by by_cases h:i=0<;>simp[h] <;>omega
theorem t9c {i:Nat} (h:i<4611686018427387904) (h0:i≠0):i64.wrap ((i:Int) - (1:Int))=((i - 1:Nat):Int):=by
 rw[y4x (by omega) (by omega)];omega
theorem o93 (s:Hs) {i:Nat} (h:i<s.size):s.data.toList.getD i 0=s.data.toList[i]'h:=by
 rw[A5,A4 h];rfl
theorem s8x (s:Hs) (hs:s.size<=u0m):t1n s=some (u7u s):=by
 have hb:u0m=1099511627776:=rfl
 have L:=t2v s4q s.size (fun i=>(s,i)) (fun i=>(fun b:UInt8=>decide (97<=b.toNat)&&decide (b.toNat<=122)) (s.data.toList.getD i 0)) (.inl s) (.inr false)
  (by rw[q93];simp only[s4g,u0b,Am,Ah,Aa])
  (fun i hi=>by
   rw[q93];simp only[s4g,u0b,hi,Ae,Ad,y7p hi,zTn,y7h (show i<4611686018427387904 by omega)];rw[j9w];simp only[zOb];cases (decide (97<=(s.data.toList.getD i 0).toNat)&&decide ((s.data.toList.getD i 0).toNat<=122))<;>rfl)
 have hA:((List.range s.size).all fun i=>(fun b:UInt8=>decide (97<=b.toNat)&&decide (b.toNat<=122)) (s.data.toList.getD i 0))=s.data.toList.all (fun b=>decide (97<=b.toNat)&&decide (b.toNat<=122)):=by
  rw[Cd,Bg,Bg];constructor
  .intro h x hx;obtain⟨i,hi,rfl⟩:=B7 hx;have:=h i (Bq.mpr hi)
   rwa [o93 s hi] at this
  .intro h i hi;rw[o93 s (Bq.mp hi)];exact h _ (Ag _)
 rw[hA] at L;rw[j1x];unfold p6u;simp only[L,zOb];unfold u7u;cases s.data.toList.all (fun b=>decide (97<=b.toNat)&&decide (b.toNat<=122))
 .rfl
 .simp only[Ad,q61,zOb,Bz];unfold inB;congr 1;have e1:decide ((1:Int)<=(s.size:Int))=decide (1<=s.size):=by simp;omega
  have e2:decide ((s.size:Int)<=3)=decide (s.size<=3):=by simp;omega
  rw[e1,e2]
theorem s1h (s:Hs) (hs:s.size<=u0m):u79 s=some (u7u s):=by
 have hb:u0m=1099511627776:=rfl
 have L:=t2v s4t s.size (fun i=>(s,i)) (fun i=>(fun b:UInt8=>decide (97<=b.toNat)&&decide (b.toNat<=122)) (s.data.toList.getD i 0)) (.inl s) (.inr false)
  (by rw[q97];simp only[s4k,u0b,Am,Ah,Aa])
  (fun i hi=>by
   rw[q97];simp only[s4k,u0b,hi,Ae,Ad,y7p hi,zTn,y7h (show i<4611686018427387904 by omega)];rw[j9w];simp only[zOb];cases (decide (97<=(s.data.toList.getD i 0).toNat)&&decide ((s.data.toList.getD i 0).toNat<=122))<;>rfl)
 have hA:((List.range s.size).all fun i=>(fun b:UInt8=>decide (97<=b.toNat)&&decide (b.toNat<=122)) (s.data.toList.getD i 0))=s.data.toList.all (fun b=>decide (97<=b.toNat)&&decide (b.toNat<=122)):=by
  rw[Cd,Bg,Bg];constructor
  .intro h x hx;obtain⟨i,hi,rfl⟩:=B7 hx;have:=h i (Bq.mpr hi)
   rwa [o93 s hi] at this
  .intro h i hi;rw[o93 s (Bq.mp hi)];exact h _ (Ag _)
 rw[hA] at L;rw[j2e];unfold p63;simp only[L,zOb];unfold u7u;cases s.data.toList.all (fun b=>decide (97<=b.toNat)&&decide (b.toNat<=122))
 .rfl
 .simp only[Ad,r5a,zOb,Bz];unfold inB;congr 1;have e1:decide ((1:Int)<=(s.size:Int))=decide (1<=s.size):=by simp;omega
  have e2:decide ((s.size:Int)<=3)=decide (s.size<=3):=by simp;omega
  rw[e1,e2]
theorem j1d (r:s6l) (h1:r.1.size<=u0m) (h2:r.2.size<=u0m):r3w r=some (u2p r):=by
 rw[o4l];unfold q7o u2p;simp only[s8x _ h1,s8x _ h2,zOb];cases u7u r.1<;>cases u7u r.2<;>rfl
theorem q2n (r:s6l) (h1:r.1.size<=u0m) (h2:r.2.size<=u0m):t83 r=some (u2p r):=by
 rw[o48];unfold q8b u2p;simp only[s1h _ h1,s1h _ h2,zOb];cases u7u r.1<;>cases u7u r.2<;>rfl
theorem t7t (s:Hs):z7n s (⟨#[]⟩:Hs)=decide (s.size=0):=by
 rw[Cd,y7b,Ar];constructor
 .intro h;subst h;rfl
 .intro h;exact Gf (Fi h)
theorem c5c (s:Hs):decide ((s.size:Int)<=12)=decide (s.size<=12):=by simp;omega
theorem j1n (w:WrT) (h1:w.1.size<=u0m):r30 w=some (u3i w):=by
 rw[o4v];unfold q7y u3i;simp only[s8x _ h1,zOb,t7t,c5c];cases u7u w.1<;>cases decide (w.2.1.size<=12)<;>cases w.2.2<;>rfl
theorem q2w (w:WrT) (h1:w.1.size<=u0m):t85 w=some (u3i w):=by
 rw[o5i];unfold q8l u3i;simp only[s1h _ h1,zOb,t7t,c5c];cases u7u w.1<;>cases decide (w.2.1.size<=12)<;>cases w.2.2<;>rfl
theorem o7s {l:Hu WrT} {w:WrT} (h:w∈l):w.1.size<=(Ty.sl u2l).wt l/\w.2.1.size<=(Ty.sl u2l).wt l:=by
 have h1:(Ty.sl u2l).wt l=l.length+(l.map u2l.wt).sum:=rfl;have h2:=o7t (f:=u2l.wt) h;have h3:u2l.wt w=w.1.size+(w.2.1.size+0):=rfl;omega
theorem o7e {l:Hu s6l} {w:s6l} (h:w∈l):w.1.size<=(Ty.sl t3k).wt l/\w.2.size<=(Ty.sl t3k).wt l:=by
 have h1:(Ty.sl t3k).wt l=l.length+(l.map t3k.wt).sum:=rfl;have h2:=o7t (f:=t3k.wt) h;have h3:t3k.wt w=w.1.size+w.2.size:=rfl;omega
theorem s3x {t:Ty} (l:Hu t.den):l.length<=(Ty.sl t).wt l:=by
 have h1:(Ty.sl t).wt l=l.length+(l.map t.wt).sum:=rfl;omega
theorem le8 (n:Nat):decide ((n:Int)<=8)=decide (n<=8):=by simp;omega
theorem gt8 (n:Nat):decide ((n:Int) >8)= !decide (n<=8):=by by_cases h:n<=8<;>simp[h] <;>omega
theorem o8c (l:Hu WrT) (hl:(Ty.sl u2l).wt l<=u0m):s95 l=some (u5b l):=by
 have hb:u0m=1099511627776:=rfl;have hn:=s3x (t:=u2l) l
 have L:=t2v t7i l.length (fun i=>(l,l,(l.length:Int),i)) (fun i=>u3i (rdL u2l l i)&&(decide (i=0) || (fun a b:WrT=>y3b a.1 b.1) (rdL u2l l (i - 1)) (rdL u2l l i))) (.inl l) (.inr false)
  (by rw[r6m];simp only[t6r,u0b,Am,Ah,Aa])
  (fun i hi=>by
   have hm:rdL u2l l i∈l:=by rw[y8f hi];exact Ag hi
   rw[r6m];simp only[t6r,u0b,hi,Ae,Ad,y7p hi,zTn,y7h (show i<4611686018427387904 by omega),j1n _ (A9 (o7s hm).1 hl),zOb,s41];by_cases h0:i=0
   .subst h0;simp only[Ae,Ap,Aa,Dx,Cz];cases u3i (rdL u2l l 0)<;>rfl
   .simp only[h0,Ah,Bh,Ad,Ci,t9c (show i<4611686018427387904 by omega) h0,y7p (show i - 1<l.length by omega),zTn];cases u3i (rdL u2l l i)
    .rfl
    .simp only[Ap,Aa,zOb,Bz];cases y3b (rdL u2l l (i - 1)).1 (rdL u2l l i).1<;>rfl)
 rw[r3o (t:=u2l) l u3i (fun a b=>y3b a.1 b.1)] at L;rw[o1e];unfold q3b;simp only[L,zOb];unfold u5b;cases l.all u3i
 .rfl
 .cases o4a u2l (fun a b=>y3b a.1 b.1) l
  .rfl
  .simp only[Bz,Ad];rw[le8]
theorem p1l (l:Hu WrT) (hl:(Ty.sl u2l).wt l<=u0m):s3f l=some (u5b l):=by
 have hb:u0m=1099511627776:=rfl;have hn:=s3x (t:=u2l) l
 have L:=t2v t7q l.length (fun i=>(l,i)) (fun i=>u3i (rdL u2l l i)&&(decide (i=0) || (fun a b:WrT=>y3b a.1 b.1) (rdL u2l l (i - 1)) (rdL u2l l i))) (.inl l) (.inr false)
  (by rw[r63];simp only[t68,u0b,Am,Ah,Aa])
  (fun i hi=>by
   have hm:rdL u2l l i∈l:=by rw[y8f hi];exact Ag hi
   rw[r63];simp only[t68,u0b,hi,Ae,Ad,y7p hi,zTn,y7h (show i<4611686018427387904 by omega),q2w _ (A9 (o7s hm).1 hl),zOb,s41];by_cases h0:i=0
   .subst h0;simp only[Ae,Ap,Aa,Dx,Cz];cases u3i (rdL u2l l 0)<;>rfl
   .simp only[h0,Ah,Bh,Ad,Ci,t9c (show i<4611686018427387904 by omega) h0,y7p (show i - 1<l.length by omega),zTn];cases u3i (rdL u2l l i)
    .rfl
    .simp only[Ap,Aa,zOb,Bz];cases y3b (rdL u2l l (i - 1)).1 (rdL u2l l i).1<;>rfl)
 rw[r3o (t:=u2l) l u3i (fun a b=>y3b a.1 b.1)] at L;rw[o2c];unfold q30;simp only[L,zOb];unfold u5b;cases l.all u3i
 .rfl
 .cases o4a u2l (fun a b=>y3b a.1 b.1) l
  .rfl
  .simp only[Bz,Ad];rw[le8]
theorem d09 (t:u0i):u0v.wt t=0+(0+(0+(0+((Ty.sl t3k).wt t.2.2.2.2.1+((Ty.sl u2l).wt t.2.2.2.2.2.1+(0+t.2.2.2.2.2.2.2.size)))))):=rfl
theorem s8y (t:u0i) (ht:u0v.wt t<=u0m):u9q t=some (u71 t):=by
 have hb:u0m=1099511627776:=rfl;have hw:=d09 t;have hn:=s3x (t:=t3k) t.2.2.2.2.1
 have L:=t2v s4s t.2.2.2.2.1.length (fun i=>(t,t.2.2.2.2.1,(t.2.2.2.2.1.length:Int),i)) (fun i=>u2p (rdL t3k t.2.2.2.2.1 i)) (.inl t) (.inr false)
  (by rw[q96];simp only[s4j,u0b,Am,Ah,Aa])
  (fun i hi=>by
   have hm:rdL t3k t.2.2.2.2.1 i∈t.2.2.2.2.1:=by rw[y8f hi];exact Ag hi
   have hz:=o7e hm;rw[q96];simp only[s4j,u0b,hi,Ae,Ad,y7p hi,zTn,y7h (show i<4611686018427387904 by omega),j1d (rdL t3k t.2.2.2.2.1 i) (A9 hz.1 (by omega)) (A9 hz.2 (by omega)),zOb];cases u2p (rdL t3k t.2.2.2.2.1 i)<;>rfl)
 rw[s2p (t:=t3k) t.2.2.2.2.1 u2p] at L;rw[j2a];unfold p6z;have k1:=o8c t.2.2.2.2.2.1 (by omega);have k2:=s8x t.2.2.2.2.2.2.2 (by omega);simp only[L,zOb];unfold u71;cases t.2.2.2.2.1.all u2p
 .simp only[Aa,Fx,Fy]
 .simp only[Ad,q61,k1,k2,zOb,t7t,gt8,Bz];cases h3:inB t.2.2.1 0 9999
  .cases inB t.1 1 9999<;>cases inB t.2.1 1 3<;>simp
  .have h3' :=p52.mp h3;rw[y4x (n:=t.2.2.1+1) (by omega) (by omega)];cases inB t.1 1 9999<;>cases inB t.2.1 1 3<;>cases decide (t.2.2.2.2.1.length<=8)<;>cases u5b t.2.2.2.2.2.1<;>simp
   generalize inB t.2.2.2.1 (t.2.2.1+1) 9999=b1;generalize u7u t.2.2.2.2.2.2.2=b2;by_cases e3:t.2.1=3
   .cases t.2.2.2.2.2.2.1<;>cases b1<;>simp[e3]
   .by_cases e2:t.2.1=2
    .cases t.2.2.2.2.2.2.1<;>cases b2<;>by_cases e5:t.2.2.2.1=0<;>simp[e2,e5]
    .by_cases e1:t.2.1=1<;>cases t.2.2.2.2.2.2.1<;>by_cases e5:t.2.2.2.1=0<;>simp[e1,e2,e3,e5]
theorem s1j (t:u0i) (ht:u0v.wt t<=u0m):u8b t=some (u71 t):=by
 have hb:u0m=1099511627776:=rfl;have hw:=d09 t;have hn:=s3x (t:=t3k) t.2.2.2.2.1
 have L:=t2v s4w t.2.2.2.2.1.length (fun i=>(t,i)) (fun i=>u2p (rdL t3k t.2.2.2.2.1 i)) (.inl t) (.inr false)
  (by rw[p0b];simp only[s4o,u0b,Am,Ah,Aa])
  (fun i hi=>by
   have hm:rdL t3k t.2.2.2.2.1 i∈t.2.2.2.2.1:=by rw[y8f hi];exact Ag hi
   have hz:=o7e hm;rw[p0b];simp only[s4o,u0b,hi,Ae,Ad,y7p hi,zTn,y7h (show i<4611686018427387904 by omega),q2n (rdL t3k t.2.2.2.2.1 i) (A9 hz.1 (by omega)) (A9 hz.2 (by omega)),zOb];cases u2p (rdL t3k t.2.2.2.2.1 i)<;>rfl)
 rw[s2p (t:=t3k) t.2.2.2.2.1 u2p] at L;rw[j2j];unfold p68;have k1:=p1l t.2.2.2.2.2.1 (by omega);have k2:=s1h t.2.2.2.2.2.2.2 (by omega);simp only[L,r5a,k1,k2,zOb,t7t,gt8];unfold u71;cases t.2.2.2.2.1.all u2p
 .cases inB t.1 1 9999<;>cases inB t.2.1 1 3<;>cases inB t.2.2.1 0 9999<;>cases decide (t.2.2.2.2.1.length<=8)<;>cases u5b t.2.2.2.2.2.1<;>simp
 .simp only[Ad,Bz,r5a,k2,zOb,t7t];cases h3:inB t.2.2.1 0 9999
  .cases inB t.1 1 9999<;>cases inB t.2.1 1 3<;>simp
  .have h3' :=p52.mp h3;rw[y4x (n:=t.2.2.1+1) (by omega) (by omega)];cases inB t.1 1 9999<;>cases inB t.2.1 1 3<;>cases decide (t.2.2.2.2.1.length<=8)<;>cases u5b t.2.2.2.2.2.1<;>try rfl
   generalize decide (t.2.2.2.2.2.2.2.size=0)=b4;generalize inB t.2.2.2.1 (t.2.2.1+1) 9999=b1;generalize u7u t.2.2.2.2.2.2.2=b2;by_cases e3:t.2.1=3
   .cases t.2.2.2.2.2.2.1<;>cases b1<;>cases b4<;>simp[e3]
   .by_cases e2:t.2.1=2
    .cases t.2.2.2.2.2.2.1<;>cases b2<;>by_cases e5:t.2.2.2.1=0<;>simp[e2,e5]
    .by_cases e1:t.2.1=1<;>cases t.2.2.2.2.2.2.1<;>cases b4<;>by_cases e5:t.2.2.2.1=0<;>simp[e1,e2,e3,e5]
theorem d23 (l:Hu Int):(y7c l).size=l.length:=by
 simp[y7c,ByteArray.size]
theorem j4s (n:Nat) (b:Int) (hn:n<=1000000):∃t,u8d ((n:Int),b)=some t/\t.size=n:=by
 have key:∀(r i:Nat) (a:Hu Int),a.length=n->i+r=n-> ∃a' :Hu Int,u30 ((n:Int),b,a,(i:Int))=some (.inl a')/\a'.length=n:=by
  intro r
  induction r with
  | zero=>
   intro i a ha hi;have:i=n:=by omega
   subst this;rw[u88];simp only[u8x,u0b,Am,Ah,Aa];exact⟨a,rfl,ha⟩
  | succ r ih=>
   intro i a ha hi;have hlt:i<n:=by omega
   rw[u88];simp only[u8x,u0b,hlt,Ae,Ad,y7p (show i<a.length by omega)];rw[y7h (by omega)];exact ih (i+1) _ (by simp[ha]) (by omega)
 obtain⟨a',e1,h1⟩:=key n 0 (List.replicate n (Ty.int .u8).zero) (by simp) (by omega);have e1:u30 ((n:Int),b,List.replicate n (Ty.int .u8).zero,0)=_:=e1;have hc:(decide (0<=(n:Int))&&decide ((n:Int)<=1099511627776))=true:=by simp;omega
 rw[r3r];unfold s4x;rw[hc,Ad];simp only[zTn,e1,zOb];exact⟨_,rfl,by rw[d23];exact h1⟩
def d9t (w:u2l.den):Prop:=w.1.size<=4/\w.2.1.size<=13
theorem d7b {s:Src} (h:s.ok):Dr (r76 s) d9t:=by
 rw[o9p];unfold p2r;obtain⟨w,s1,e1,k1,r1⟩:=j54 h;obtain⟨y2,s2,e2,k2,r2⟩:=u1m k1 (n:=8) (by omega);simp only[e1,e2,zOb];by_cases c0:y2=0
 .obtain⟨y3,s3,e3,k3,r3⟩:=s30 k2 (l:= [(⟨#[]⟩:Hs),(⟨#[65]⟩:Hs),(⟨#[97,98,99,100]⟩:Hs),(⟨#[97,98,99]⟩:Hs)]) (by decide);simp only[c0,Ae,Ad,e3,zOb];have hz:y3.size<=4:=by
   simp only[A8,Ep,Em] at r3;rcases r3 with rfl | rfl | rfl | rfl<;>decide
  exact⟨_,_,rfl,k3,hz,by show w.2.1.size<=13;omega⟩
 .simp only[c0,Ah,Aa];by_cases c1:y2=1
  .obtain⟨y4,s4,e4,k4,r4⟩:=u1m k2 (n:=2) (by omega);have hw:i64.wrap (12+y4)=(((12+y4).toNat:Nat):Int):=by rw[y4x (by omega) (by omega)];omega
   obtain⟨t,e5,h5⟩:=j4s (12+y4).toNat 97 (by omega);simp only[c1,Ae,Ad,e4,zOb,hw,e5];exact⟨_,_,rfl,k4,by show w.1.size<=4;omega,by show t.size<=13;omega⟩
  .simp only[c1,Ah,Aa];by_cases c2:y2=2
   .simp only[c2,Ae,Ad];exact⟨_,_,rfl,k2,by show w.1.size<=4;omega,by show w.2.1.size<=13;omega⟩
   .simp only[c2,Ah,Aa];exact⟨_,_,rfl,k2,by show w.1.size<=4;omega,by show w.2.1.size<=13;omega⟩
def midTx (n:Nat) (t:u0v.den):Prop:=t.2.2.2.2.1.length<=n/\(∀r∈t.2.2.2.2.1,r.1.size<=2/\r.2.size<=2)/\t.2.2.2.2.2.1.length<=n/\(∀r∈t.2.2.2.2.2.1,d9t r)/\t.2.2.2.2.2.2.2.size<=16
theorem d7h {s:Src} (h:s.ok):Dr (r78 s) (midTx 3):=by
 rw[o9t];unfold p2v;obtain⟨y1,s1,e1,k1,r1⟩:=u1m h (n:=6) (by omega);obtain⟨y2,s2,e2,k2,r2⟩:=u1m k1 (n:=3) (by omega);obtain⟨y3,s3,e3,k3,r3⟩:=u1m k2 (n:=6) (by omega);obtain⟨y4,s4,e4,k4,r4⟩:=j1e k3;obtain⟨y5,s5,e5,k5,r5⟩:=o0m k4;have hw:∀r∈y5,d9t r:=fun r hr=>by have:=r5.2.1 r hr;exact⟨by omega,by omega⟩
 simp only[e1,e2,e3,e4,e5,zOb];cases decide (i64.wrap (1+y2)=2) with
 | true=>
  obtain⟨y6,s6,e6,k6,r6⟩:=j5z k5;obtain⟨y7,s7,e7,k7,r7⟩:=s6m k6 (n:=2) (by omega);simp only[Ad,e6,e7,zOb];exact⟨_,_,rfl,k7,r4.1,r4.2,r5.1,hw,by show y6.size<=16;omega⟩
 | false=>
  simp only[Aa];cases decide (i64.wrap (1+y2)=3) with
  | true=>
   obtain⟨y8,s8,e8,k8,r8⟩:=u1m k5 (n:=4) (by omega);obtain⟨y9,s9,e9,k9,r9⟩:=s6m k8 (n:=2) (by omega);simp only[Ad,e8,e9,zOb];exact⟨_,_,rfl,k9,r4.1,r4.2,r5.1,hw,by show ByteArray.size ⟨#[]⟩<=16;decide⟩
  | false=>
   exact⟨_,_,rfl,k5,r4.1,r4.2,r5.1,hw,by show ByteArray.size ⟨#[]⟩<=16;decide⟩
theorem d4q (t:u0v.den) (h1:t.2.2.2.2.1.length<=1000000) (h2:t.2.2.2.2.2.1.length<=1000000):u00 t=some t:=by
 rw[r3s];unfold s4y;simp only[Cc,Co,Cf,u0q (show t.2.2.2.2.1.length<=1099511627776 by omega),u0q (show t.2.2.2.2.2.1.length<=1099511627776 by omega),Ad]
theorem j98 {y:Int} (h:0<=y):y4o (Int.tmod y 3) 3=true:=by
 have:=q6y h (n:=3) (by omega);exact y7o.mpr ⟨this.1,by simpa using this.2⟩
theorem o76 {s:Src} (h:s.ok):Dr (s3i s) (midTx 4):=by
 rw[o9r];unfold p2t;obtain⟨y1,s1,e1,k1,r1⟩:=u1m h (n:=12) (by omega);obtain⟨y2,s2,e2,k2,r2⟩:=u1m k1 (n:=60) (by omega);obtain⟨t,s3,e3,k3,m1,m2,m3,m4,m5⟩:=d7h k2;have hc:=d4q t (by omega) (by omega);have hi:=j98 r2.1;simp only[e1,e2,e3,hc,zOb,Bc,Cc,Co,Nat.reduceAdd,hi,Ad];have base:midTx 4 t:=⟨by omega,m2,by omega,m4,m5⟩;obtain⟨b1,b2,b3,b4,b5⟩:=base;cases decide (y1=0) with
 | true=>exact⟨_,_,rfl,k3,b1,b2,b3,b4,b5⟩ | false=>
  simp only[Aa];cases decide (y1=1) with
  | true=>exact⟨_,_,rfl,k3,b1,b2,b3,b4,b5⟩ | false=>
   simp only[Aa];cases decide (y1=2) with
   | true=>exact⟨_,_,rfl,k3,b1,b2,b3,b4,b5⟩ | false=>
    simp only[Aa];cases decide (y1=3) with
    | true=>
     refine⟨_,_,rfl,k3,b1,b2,b3,b4,?_⟩;show(rdL Ty.str _ _).size<=16;have hr:=q6y r2.1 (n:=3) (by omega);have:(Int.tmod y2 3).toNat=0\/(Int.tmod y2 3).toNat=1\/(Int.tmod y2 3).toNat=2:=by omega
     rcases this with q | q | q<;>rw[q] <;>decide
    | false=>
     simp only[Aa];cases decide (y1=4) with
     | true=>
      simp only[Ad,u0q (show t.2.2.2.2.1.length+1<=1099511627776 by omega)];refine⟨_,_,rfl,k3,by show(t.2.2.2.2.1++ [_]).length<=4;simp;omega,?_,b3,b4,b5⟩;intro r hr;rcases Ay.mp hr with q | q
      .exact b2 r q
      .simp only[Ax] at q;subst q;exact⟨by decide,by decide⟩
     | false=>
      simp only[Aa];cases decide (y1=5) with
      | true=>
       obtain⟨w,s4,e4,k4,r4⟩:=d7b k3;simp only[Ad,e4,zOb,u0q (show t.2.2.2.2.2.1.length+1<=1099511627776 by omega)];refine⟨_,_,rfl,k4,b1,b2,by show(t.2.2.2.2.2.1++ [_]).length<=4;simp;omega,?_,b5⟩;intro r hr;rcases Ay.mp hr with q | q
       .exact b4 r q
       .simp only[Ax] at q;subst q;exact r4
      | false=>
       simp only[Aa];cases decide (y1=6) with
       | true=>exact⟨_,_,rfl,k3,b1,b2,b3,b4,b5⟩ | false=>exact⟨_,_,rfl,k3,b1,b2,b3,b4,b5⟩
theorem j6z {l:Hu u17} {w:u17} (h:w∈l):w.1.size<=(Ty.sl u0c).wt l/\w.2.1.size<=(Ty.sl u0c).wt l:=by
 have h1:(Ty.sl u0c).wt l=l.length+(l.map u0c.wt).sum:=rfl;have h2:=o7t (f:=u0c.wt) h;have h3:u0c.wt w=w.1.size+(w.2.1.size+(0+0)):=rfl;omega
theorem d9q (n:Nat):decide ((n:Int) >12)= !decide (n<=12):=by by_cases h:n<=12<;>simp[h] <;>omega
theorem d7y (n:Nat):decide ((n:Int)<=120)=decide (n<=120):=by simp;omega
theorem p7l (a b:Int):decide (a>=b)= !decide (a<b):=by
 by_cases h:a<b
 .have: ¬a>=b:=by omega
  simp[h,this]
 .have:a>=b:=by omega
  simp[h,this]
theorem q4n (a b:Int):decide (a >b)= !decide (a<=b):=by
 by_cases h:a<=b
 .have: ¬a >b:=by omega
  simp[h,this]
 .have:a >b:=by omega
  simp[h,this]
theorem d48 (a b:u17):∃r,u6o (a,b)=some r/\decide (r>=0)= !r2u a b:=by
 rw[s5t];unfold t5v r2u;simp only[o6c,zOb];rcases p08 a.1 b.1 with h | h | h
 .exact⟨-1,by simp[h],by simp[h]⟩
 .simp only[h,t4f,y6k,Br,Bk,Bl,Ae,Ap,Aa,j86,zOb,Ci,Bz];refine⟨_,rfl,?_⟩;by_cases h3:a.2.2.2<b.2.2.2
  .simp[h3]
  .by_cases h4:a.2.2.2 >b.2.2.2<;>simp[h3,h4]
 .have e1:=r8e h;have e2:z7n a.1 b.1=false:=j5q.mpr (fun e=>by rw[e,t4f] at h;cases h);exact⟨1,by simp[e1,e2],by simp[e1,e2]⟩
theorem o0h (l:Hu u17) (hl:(Ty.sl u0c).wt l<=u0m):s37 l=some (u59 l):=by
 have hb:u0m=1099511627776:=rfl;have hn:=s3x (t:=u0c) l
 have L:=t2v t14 l.length (fun i=>(l,l,(l.length:Int),i)) (fun i=>q51 (rdL u0c l i)&&(decide (i=0) || r2u (rdL u0c l (i - 1)) (rdL u0c l i))) (.inl l) (.inr false)
  (by rw[r0s];simp only[t1t,u0b,Am,Ah,Aa])
  (fun i hi=>by
   have hm:rdL u0c l i∈l:=by rw[y8f hi];exact Ag hi
   rw[r0s];simp only[t1t,u0b,hi,Ae,Ad,y7p hi,zTn,y7h (show i<4611686018427387904 by omega),s8x _ (A9 (j6z hm).1 hl),q61,zOb,s41,t7t,d9q];unfold q51;generalize u7u (rdL u0c l i).1=b1;generalize decide ((rdL u0c l i).2.1.size<=12)=b2;generalize decide ((rdL u0c l i).2.1.size=0)=b3;generalize (rdL u0c l i).2.2.1=b4;generalize inB (rdL u0c l i).2.2.2 1 9999=b5;by_cases h0:i=0
   .subst h0;simp only[Ae,Ap,Aa,Dx,Cz];cases b1<;>cases b2<;>cases b3<;>cases b4<;>cases b5<;>rfl
   .obtain⟨r,hr,hr2⟩:=d48 (rdL u0c l (i - 1)) (rdL u0c l i);simp only[h0,Ah,Bh,Ad,Ci,t9c (show i<4611686018427387904 by omega) h0,y7p (show i - 1<l.length by omega),zTn,hr,hr2,zOb];cases r2u (rdL u0c l (i - 1)) (rdL u0c l i)<;>cases b1<;>cases b2<;>cases b3<;>cases b4<;>cases b5<;>rfl)
 rw[r3o (t:=u0c) l q51 r2u] at L;rw[p5l];unfold r4o;simp only[L,zOb];unfold u59;cases l.all q51
 .rfl
 .cases o4a u0c r2u l
  .rfl
  .simp only[Bz,Ad];rw[d7y]
theorem o0i (l:Hu u17) (hl:(Ty.sl u0c).wt l<=u0m):s4c l=some (u59 l):=by
 have hb:u0m=1099511627776:=rfl;have hn:=s3x (t:=u0c) l
 have L:=t2v t17 l.length (fun i=>(l,i)) (fun i=>q51 (rdL u0c l i)&&(decide (i=0) || r2u (rdL u0c l (i - 1)) (rdL u0c l i))) (.inl l) (.inr false)
  (by rw[r0y];simp only[t1z,u0b,Am,Ah,Aa])
  (fun i hi=>by
   have hm:rdL u0c l i∈l:=by rw[y8f hi];exact Ag hi
   rw[r0y];simp only[t1z,u0b,hi,Ae,Ad,y7p hi,zTn,y7h (show i<4611686018427387904 by omega),s1h _ (A9 (j6z hm).1 hl),r5a,zOb,s41,t7t,d9q];unfold q51 r2u;generalize u7u (rdL u0c l i).1=b1;generalize decide ((rdL u0c l i).2.1.size<=12)=b2;generalize decide ((rdL u0c l i).2.1.size=0)=b3;generalize (rdL u0c l i).2.2.1=b4;generalize inB (rdL u0c l i).2.2.2 1 9999=b5;by_cases h0:i=0
   .subst h0;simp only[Ae,Ap,Aa,Dx,Cz];cases b1<;>cases b2<;>cases b3<;>cases b4<;>cases b5<;>rfl
   .simp only[h0,Ah,Bh,Ad,Ci,t9c (show i<4611686018427387904 by omega) h0,y7p (show i - 1<l.length by omega),zTn,zOb];rcases p08 (rdL u0c l (i - 1)).1 (rdL u0c l i).1 with h | h | h
    .have e2:z7n (rdL u0c l (i - 1)).1 (rdL u0c l i).1=false:=j5q.mpr (fun e=>by rw[e,t4f] at h;cases h);rw[h,e2];cases b1<;>cases b2<;>cases b3<;>cases b4<;>cases b5<;>rfl
    .rw[h,t4f,y6k];rw[p7l];cases decide ((rdL u0c l (i - 1)).2.2.2<(rdL u0c l i).2.2.2)<;>cases b1<;>cases b2<;>cases b3<;>cases b4<;>cases b5<;>rfl
    .have e1:=r8e h;have e2:z7n (rdL u0c l (i - 1)).1 (rdL u0c l i).1=false:=j5q.mpr (fun e=>by rw[e,t4f] at h;cases h);rw[e1,e2];cases b1<;>cases b2<;>cases b3<;>cases b4<;>cases b5<;>rfl)
 rw[r3o (t:=u0c) l q51 r2u] at L;rw[p5v];unfold r4y;simp only[L,zOb];unfold u59;cases l.all q51
 .rfl
 .cases o4a u0c r2u l
  .rfl
  .simp only[Bz,Ad];rw[d7y]
theorem d1v (n:Nat) (hn:n<=1099511627776):t4e ((),(n:Int))=some [] :=by
 rw[q2c];unfold s3s;have e0:i64.wrap ((0:Int) - (0:Int))=0:=by rw[y4x (by omega) (by omega)];rfl
 have e1:i64.wrap ((n:Int) - 0)=(n:Int):=by rw[y4x (by omega) (by omega)];omega
 have e2:decide ((n:Int)<0)=false:=A7 (by omega);simp only[e0,e1,e2,Aa];by_cases h:n=0
 .subst h;simp
 .have e3:decide ((n:Int) >0)=true:=by simp;omega
  have e4:(decide ((1:Int)<=(n:Int))&&decide ((n:Int)<=1099511627776))=true:=by simp;omega
  simp only[e3,e4,Ad];simp
theorem o6d (ls:Hu (Hu u0i)) (h:ls.flatten.length<=1099511627776) (hn:ls.length<=1099511627776):u4f ls=some ls.flatten:=by
 have fl:∀(i:Nat),i<=ls.length->(ls.take i).flatten.length<=ls.flatten.length:=fun i _=>by
  have:=En i ls;have h2:ls.flatten=(ls.take i).flatten++(ls.drop i).flatten:=by rw[←Ga,this]
  rw[h2,Ba];omega
 have st:∀(i:Nat) (hi:i<ls.length),(ls.take (i+1)).flatten=(ls.take i).flatten++ls[i] :=fun i hi=>by
  rw[Gm,A4 hi,Ga];simp
 have L1:=s86 u3c ls.length (fun(n:Nat) i=>(ls,(n:Int),ls,(ls.length:Int),i)) (fun _ _=> .inl (ls,(ls.flatten.length:Int))) (fun i n=>n=(ls.take i).flatten.length)
  (fun n hP=>by
   rw[Cq] at hP;subst hP;rw[t8c];simp only[u5v,u0b,Am,Ah,Aa])
  (fun i n hi hP=> .inr ⟨(ls.take (i+1)).flatten.length,rfl,rfl,by
   have h1:=fl (i+1) (by omega);have h2:(ls.take (i+1)).flatten.length=n+ls[i].length:=by rw[st i hi,Ba,hP]
   have e1:i64.wrap ((n:Int)+((ls[i].length:Nat):Int))=((n+ls[i].length:Nat):Int):=by rw[y4x (by omega) (by omega)];omega
   have e2:decide (((n+ls[i].length:Nat):Int)<0)=false:=by simp;omega
   rw[t8c];simp only[u5v,u0b,hi,Ae,Ad,y7p hi,zTn,y8f (t:=Ty.sl u0v) hi,y7h (show i<4611686018427387904 by omega),h2];rw[e1,e2];rfl⟩) 0 0 (by omega) rfl
 have L2:=s86 u2x ls.length (fun(a:Hu u0i) i=>(a,ls,(ls.length:Int),i)) (fun _ _=> .inl ls.flatten) (fun i a=>a=(ls.take i).flatten)
  (fun a hP=>by
   rw[Cq] at hP;subst hP;rw[t6e];simp only[u4x,u0b,Am,Ah,Aa])
  (fun i a hi hP=> .inr ⟨(ls.take (i+1)).flatten,rfl,rfl,by
   have h1:=fl (i+1) (by omega);have h2:(ls.take (i+1)).flatten.length=a.length+ls[i].length:=by rw[st i hi,Ba,hP]
   rw[t6e];simp only[u4x,u0b,hi,Ae,Ad,y7p hi,zTn,y8f (t:=Ty.sl u0v) hi,y7h (show i<4611686018427387904 by omega)];rw[u0q (show a.length+ls[i].length<=1099511627776 by omega),st i hi,hP];rfl⟩) 0 [] (by omega) rfl
 rw[r46];unfold s1m;have L1' :u3c (ls,(0:Int),ls,(ls.length:Int),0)=some (.inl (ls,(ls.flatten.length:Int))):=L1;have L2' :u2x ([],ls,(ls.length:Int),0)=some (.inl ls.flatten):=L2;simp only[L1',zOb,d1v _ h,L2']
end Go.Proofs.YtkphhjdbdnoekaaGreat.Ab
