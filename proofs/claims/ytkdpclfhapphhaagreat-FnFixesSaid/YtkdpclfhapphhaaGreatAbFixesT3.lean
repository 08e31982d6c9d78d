import Derived.Test.YtkdpclfhapphhaaGreatAbFixesT2
import Derived.Test.YtkdpclfhapphhaaGreatAbK2
import Derived.Test.YtkdpclfhapphhaaGreatAbF4
import Derived.Test.YtkdpclfhapphhaaGreatAbS2
namespace Go.Proofs.YtkdpclfhapphhaaGreat.Ab
open Go
set_option linter.unusedVariables false
set_option linter.unusedSimpArgs false
set_option linter.unnecessarySimpa false
section
section
theorem o2b (a:Hs):a.size=a.data.toList.length:=by simp only[B6];rfl
theorem q40 {a:Hs} {i:Nat} (h:i<a.size):a.data.toList[i]? =some (r1d a i):=by
 unfold r1d
 rw[o2b] at h
 rw[A5,A4 h]
 rfl
theorem p3k:∀ {f i n:Nat} {l l' :Hu UInt8} {v k:Nat},r1z f i n l=some (v,k)→(∀q,q<k - i→l'[q]? =l[q]?)→r1z f i n l' =some (v,k)
 | 0,_,_,_,_,_,_,h,_=>by cases h
 | _+1,_,_, [],_,_,_,h,_=>by cases h
 | f+1,i,n,b::l,l',v,k,h,hl=>by
  have hk:=(p9l _ _ _ _ _ _ h).2.2
  have h0:=hl 0 (by omega)
  cases l' with
  | nil=>simp at h0
  | cons b' l' =>
   simp only[Bt,Ac] at h0
   subst h0
   simp only[r1z] at h ⊢
   split at h
   ·rename_i h1
    rw[Al h1]
    exact h
   ·rename_i h1
    rw[Ao h1]
    exact p3k h (fun q hq=>by have:=hl (q+1) (by omega);simpa using this)
theorem p9c {T T' :Hs} {at_:Int} (h:(u0t T at_).2.2=true) (hs:T'.size=T.size) (hb:∀q:Nat,(q:Int)<(u0t T at_).2.1→r1d T' q=r1d T q):u0t T' at_=u0t T at_:=by
 have hok:=t78 h
 unfold u0t at h hb hok ⊢
 split at h
 ·rename_i hc
  rw[Al hc] at hb hok
  rw[Al (by rw[hs];exact hc),Al hc]
  cases hv:r1z 5 0 0 (T.data.toList.drop at_.toNat) with
  | none=>rw[hv] at h;cases h
  | some r=>
   obtain⟨v,k⟩:=r
   rw[hv] at hb hok
   simp only[q5n] at hb hok
   rw[p3k hv (fun q hq=>by
    have hlt:at_.toNat+q<T.size:=by omega
    rw[Dg,Dg,q40 (by omega),q40 hlt,hb (at_.toNat+q) (by omega)])]
 ·cases h
theorem q1s {T:Hs} {at_:Int} (h:(u0o T at_).2.2=true):0≤at_∧at_<(u0o T at_).2.1∧(u0o T at_).2.1≤T.size:=by
 have h2:=r72 h
 unfold u0o at h h2 ⊢
 split at h
 ·rename_i hc
  rw[Al hc] at h2
  rw[Al hc]
  have:=t78 hc.1
  simp only at h2 ⊢
  omega
 ·cases h
theorem p26 {T T' :Hs} {at_:Int} (h:(u0o T at_).2.2=true) (hs:T'.size=T.size) (hb:∀q:Nat,(q:Int)<(u0o T at_).2.1→r1d T' q=r1d T q):u0o T' at_=u0o T at_:=by
 have hn:=q1s h
 unfold u0o at h hb hn ⊢
 split at h
 ·rename_i hc
  rw[Al hc] at hb hn
  simp only at hb hn
  have hok:=t78 hc.1
  have e:u0t T' at_=u0t T at_:=p9c hc.1 hs (fun q hq=>hb q (by omega))
  rw[e,Al (by rw[hs];exact hc),Al hc]
  congr 1
  apply p0b
  ·rw[Bd,Bd,hs]
  ·intro i hi
   rw[Bd] at hi
   rw[u5e,u5e,hs]
   split
   ·exact hb _ (by omega)
   ·rfl
 ·cases h
theorem p57 {T:Hs} :∀ {m:Nat} {at_:Int} {acc l:Hu Hs} {E:Int},u6n T m at_ acc=(l,E,true)→at_≤E
 | 0,at_,acc,l,E,h=>by unfold u6n at h;cases h;exact Bv _
 | m+1,at_,acc,l,E,h=>by
  unfold u6n at h
  split at h
  ·rename_i hc
   simp only[Ai] at hc
   have h1:=(q1s hc.1).2.1
   have h2:=p57 h
   omega
  ·cases h
theorem r63 {T T' :Hs} (hs:T'.size=T.size):∀ {m:Nat} {at_:Int} {acc l:Hu Hs} {E:Int},u6n T m at_ acc=(l,E,true)→(∀q:Nat,(q:Int)<E→r1d T' q=r1d T q)→u6n T' m at_ acc=(l,E,true)
 | 0,at_,acc,l,E,h,_=>by unfold u6n at h ⊢;exact h
 | m+1,at_,acc,l,E,h,hb=>by
  unfold u6n at h ⊢
  split at h
  ·rename_i hc
   have hc' :=hc
   simp only[Ai] at hc'
   have h2:=p57 h
   rw[p26 hc'.1 hs (fun q hq=>hb q (by omega)),Al hc]
   exact r63 hs h hb
  ·cases h
theorem p00 {T:Hs} {s:Hs} {nx:Int} :∀ {m:Nat} {at_:Int} {acc l:Hu Hs} {E:Int},u6n T m at_ acc=(l,E,true)→u0o T E=(s,nx,true)→s.size≠0→u6n T (m+1) at_ acc=(l++ [s],nx,true)
 | 0,at_,acc,l,E,h,hr,hne=>by
  unfold u6n at h
  cases h
  unfold u6n
  have:z7o s emp=false:=by
   have:=s60 (t:=s)
   rw[o7s] at this
   rw[this]
   simpa using hne
  rw[hr]
  simp only[this,Bh,Dt,Bl]
  rfl
 | m+1,at_,acc,l,E,h,hr,hne=>by
  unfold u6n at h
  split at h
  ·rename_i hc
   unfold u6n
   rw[Al hc]
   exact p00 h hr hne
  ·cases h
def u8s (l:Hu Int):Hu UInt8:=l.map fun n=>UInt8.ofNat n.toNat
theorem q68:∀(f i acc n N:Nat) (r:Hu UInt8),0<f→n<128^f→acc+n*128^i=N→N≤1000000000→(s24 N).length=i+(s24 n).length→r1z f i acc (u8s (s24 n)++r)=some (N,i+(s24 n).length)
 | 0,i,acc,n,N,r,hf,_,_,_,_=>by omega
 | f+1,i,acc,n,N,r,_,hn,hN,hb,hl=>by
  by_cases h:n<128
  ·rw[r79 h] at hl ⊢
   have e:(UInt8.ofNat ((n:Int)).toNat).toNat=n:=by
    rw[zTn,Gg]
    omega
   simp only[u8s,C8,Eh,Ef,Cf,r1z,e,h,Bl,Aw] at hl ⊢
   rw[Nat.mod_eq_of_lt h,hN,Al ⟨hb,hl⟩]
  ·rw[q67 h] at hl ⊢
   have e:(UInt8.ofNat (((n % 128+128:Nat):Int)).toNat).toNat=n % 128+128:=by
    rw[zTn,Gg]
    omega
   have hh: ¬n % 128+128<128:=by omega
   simp only[u8s,C8,Ef,r1z,e,hh,Bk,Bc] at hl ⊢
   have e2:(n % 128+128) % 128=n % 128:=by omega
   rw[e2]
   have:=q68 f (i+1) (acc+n % 128*128^i) (n / 128) N r (by rcases f with _ | f<;>simp at hn ⊢;omega) (by rw[Gr] at hn;omega) (by
    rw[←hN,Gr]
    have:n=n % 128+128*(n / 128):=by omega
    conv=>rhs;rw[this]
    rw[Cl]
    have:n / 128*(128^i*128)=128*(n / 128)*128^i:=by rw[Fk (128^i) 128,←Nat.mul_assoc,Fk (n / 128) 128]
    omega) hb (by omega)
   show r1z f (i+1) (acc+n % 128*128^i) (u8s (s24 (n / 128))++r)=_
   rw[this]
   congr 2
   omega
end
section
theorem s49 (l:Hu Int):(y7g l).data.toList=u8s l:=by
 unfold y7g u8s
 simp
theorem q62 {T t:Hs} {E:Nat} (h0:t.size≠0) (h1:t.size≤3008) (hE:E+(u0q t).size≤T.size) (hb:∀q,q<(u0q t).size→r1d T (E+q)=r1d (u0q t) q):
 u0o T (E:Int)=(t,((E+(u0q t).size:Nat):Int),true):=by
 have hsz:(u0q t).size=(s24 t.size).length+t.size:=by unfold u0q;rw[Af,u3q]
 have hlist:(u0q t).data.toList=u8s (s24 t.size)++t.data.toList:=by
  unfold u0q
  rw[Ft,Ha,s49]
 have hdrop:∃r,T.data.toList.drop E=u8s (s24 t.size)++r:=by
  refine⟨(T.data.toList.drop E).drop (u8s (s24 t.size)).length,?_⟩
  have:(T.data.toList.drop E).take (u8s (s24 t.size)).length=u8s (s24 t.size):=by
   apply Gj
   intro q
   rw[Ca]
   split
   ·rename_i hq
    have hq' :q<(s24 t.size).length:=by simpa[u8s] using hq
    rw[Dg,q40 (by omega),hb q (by omega),←q40 (by omega),hlist,Aj hq]
   ·rename_i hq
    rw[Be (Fz hq)]
  conv=>lhs;rw[←En (u8s (s24 t.size)).length (T.data.toList.drop E)]
  rw[this]
 obtain⟨r,hr⟩:=hdrop
 have hv:=q68 5 0 0 t.size t.size r (by omega) (by omega) (by simp) (by omega) (by omega)
 have hread:u0t T (E:Int)=((t.size:Int),(E:Int)+((s24 t.size).length:Int),true):=by
  unfold u0t
  rw[Al (by omega),zTn,hr,hv]
  simp[q5n]
 unfold u0o
 rw[hread]
 simp only
 rw[Al (by simp only[true_and];omega)]
 have e1:((E:Int)+((s24 t.size).length:Int)).toNat=E+(s24 t.size).length:=by omega
 have e2:((E:Int)+((s24 t.size).length:Int)+(t.size:Int)).toNat=E+(s24 t.size).length+t.size:=by omega
 rw[e1,e2]
 have et:T.extract (E+(s24 t.size).length) (E+(s24 t.size).length+t.size)=t:=by
  apply p0b
  ·rw[Bd];omega
  ·intro i hi
   rw[Bd] at hi
   rw[u5e,Al (by omega)]
   have:=hb ((s24 t.size).length+i) (by omega)
   rw[show E+(s24 t.size).length+i=E+((s24 t.size).length+i) by omega,this]
   unfold u0q
   rw[u92,Ao (by rw[u3q];omega),u3q]
   congr 1
   omega
 rw[et]
 congr 2
 rw[hsz]
 omega
def j62 (d:u0i):Prop:= ∀k:Nat,k<97→(u0l d (k:Int)).2=true∧(u0l d (k:Int)).1.size=64
theorem r1c {d:u0i} (hk:u1y d=true) (hl:d.1.length=97):j62 d:=by
 intro k hlt
 obtain⟨k1,k2,k3,k4⟩:=p6e.mp hk
 have hc:(0:Int)≤(k:Int)∧(k:Int)<(d.1.length:Int):=by omega
 unfold u0l
 rw[Al hc]
 refine⟨rfl,?_⟩
 cases hp:t1o d.2 (k:Int) with
 | none=>
  have hlt' :k<d.1.length:=by omega
  have e:rdL Ty.str d.1 k=d.1[k] :=y8k (t:=Ty.str) hlt'
  simp only[Eo,zTn]
  rw[e]
  exact k3 _ (Ag hlt')
 | some s=>
  obtain⟨p,hp1,hp2⟩:=q2i hp
  simp only[Eb]
  rw[←hp2]
  exact(k4 p hp1).2
theorem p3b {d:u0i} {F:Nat} (h:∀q:Nat,q<47→(u0l d ((F+q:Nat):Int)).2=true∧(u0l d ((F+q:Nat):Int)).1.size=64):∀(m i:Nat) (acc:Hs),i+m≤47→
 ∃T,r89 d (F:Int) m i acc=(T,true)∧T.size=acc.size+64*m∧ ∀j,j<T.size→r1d T j=if j<acc.size then r1d acc j else r1d (u0l d ((F+i+(j - acc.size) / 64:Nat):Int)).1 ((j - acc.size) % 64)
 | 0,i,acc,_=>⟨acc,rfl,by omega,fun j hj=>by rw[Al hj]⟩
 | m+1,i,acc,hm=>by
  have hq:=h i (by omega)
  have e:(F:Int)+(i:Int)=((F+i:Nat):Int):=by omega
  obtain⟨T,t1,t2,t3⟩:=p3b h m (i+1) (acc++(u0l d ((F+i:Nat):Int)).1) (by omega)
  refine⟨T,?_,?_,fun j hj=> ?_⟩
  ·unfold r89
   rw[e,Al hq.1]
   exact t1
  ·rw[t2,Af,hq.2];omega
  ·rw[t3 j hj,Af,hq.2,u92]
   by_cases h1:j<acc.size
   ·rw[Al (by omega),Al h1,Al h1]
   ·rw[Ao h1,Ao h1]
    by_cases h2:j<acc.size+64
    ·rw[Al h2]
     have z1:(j - acc.size) / 64=0:=by omega
     have z2:(j - acc.size) % 64=j - acc.size:=by omega
     rw[z1,z2,Df]
    ·rw[Ao h2]
     have z1:F+(i+1)+(j - (acc.size+64)) / 64=F+i+(j - acc.size) / 64:=by omega
     have z2:(j - (acc.size+64)) % 64=(j - acc.size) % 64:=by omega
     rw[z1,z2]
def s86 (a:Int):Nat:=(u0f a+1).toNat
def r08 (d:u0i) (a:Int):Hs:=(u74 d (u0f a+1) 47).1
theorem u7e {d:u0i} (hf:j62 d) {a:Int} (ha:a=0∨a=1):u74 d (u0f a+1) 47=(r08 d a,true)∧(r08 d a).size=3008∧ ∀j,j<3008→r1d (r08 d a) j=r1d (u0l d ((s86 a+j / 64:Nat):Int)).1 (j % 64):=by
 have hfa:u0f a=1+a*48:=by unfold u0f;rw[Al (o9r.mpr ha)]
 have hF:(u0f a+1:Int)=((s86 a:Nat):Int):=by unfold s86;rcases ha with rfl | rfl<;>omega
 have hb:s86 a+47≤97:=by unfold s86;rcases ha with rfl | rfl<;>omega
 obtain⟨T,t1,t2,t3⟩:=p3b (d:=d) (F:=s86 a) (fun q hq=>hf (s86 a+q) (by omega)) 47 0 emp (by omega)
 have he:emp.size=0:=rfl
 have hs:u74 d (u0f a+1) 47=(T,true):=by
  unfold u74
  rw[Al (by omega),hF]
  exact t1
 have hT:r08 d a=T:=by unfold r08;rw[hs]
 rw[hT]
 rw[he] at t2 t3
 refine⟨hs,by omega,fun j hj=> ?_⟩
 rw[t3 j (by omega),Ao (by omega),Df,Nat.sub_zero]
theorem u97 {d:u0i} (hf:j62 d) {a:Int} (ha:a=0∨a=1):u0c d a=u6n (r08 d a) (u0x d a).toNat 0 [] :=by
 have h:=(u7e hf ha).1
 have hi:p82 a=true:=o9r.mpr ha
 unfold u0c
 rw[h,hi]
 rfl
end
section
theorem o4n {a b:Hs} (h:a.data.toList=b.data.toList):a=b:=by
 apply Gf
 exact Array.toList_inj.mp h
theorem p01 (a b:Hs):(a++b).data.toList=a.data.toList++b.data.toList:=by rw[Ft,Ha]
theorem u8e (a b c:Hs):a++b++c=a++(b++c):=o4n (by simp only[p01,Bi])
theorem o3g (a:Hs):emp++a=a:=o4n (by rw[p01];rfl)
theorem o3a (a:Hs):a++emp=a:=o4n (by rw[p01];simp[emp])
theorem q18 (a:Hs):a.size=a.data.toList.length:=o2b a
def r8a (n:Int):Hs:=y7g (s24 n.toNat)
def o3b (b:Bool):Hs:=y7g [if b then 1 else 0]
def r5l {E:Type} (f:E→Hs) (l:Hu E):Hs:=l.foldl (fun s x=>s++f x) emp
def o2q (r:s5p):Hs:=u0q r.1++u0q r.2
def wrT (w:WrT):Hs:=u0q w.1++(u0q w.2.1++o3b w.2.2)
def o2k (v:u2b):Hs:=u0q v.1++(u0q v.2.1++(o3b v.2.2.1++r8a v.2.2.2))
def t1c (t:u0h):Hs:=
 r8a t.1++(r8a t.2.1++(r8a t.2.2.1++(r8a t.2.2.2.1++(r8a (t.2.2.2.2.1.length:Int)++(r5l o2q t.2.2.2.2.1++(r8a (t.2.2.2.2.2.1.length:Int)++(r5l wrT t.2.2.2.2.2.1++(o3b t.2.2.2.2.2.2.1++u0q t.2.2.2.2.2.2.2))))))))
def s95 (l:Hu u0h):Hs:=r8a (l.length:Int)++r5l t1c l
def t9v (b:u0j):Hs:=r8a b.2.2.2.1++(r8a b.2.2.2.2++(r8a (b.1.length:Int)++(r5l o2k b.1++(s95 b.2.1++s95 b.2.2.1))))
theorem q4h {E:Type} (f:E→Hs):∀(l:Hu E) (s:Hs),l.foldl (fun s x=>s++f x) s=s++r5l f l
 | [],s=>(o3a s).symm
 | x::l,s=>by
  rw[Bs,q4h f l]
  unfold r5l
  rw[Bs,q4h f l (emp++f x),o3g,u8e]
  rfl
theorem s39 {E:Type} (f:E→Hs) (x:E) (l:Hu E):r5l f (x::l)=f x++r5l f l:=by
 unfold r5l
 rw[Bs,q4h,o3g]
 rfl
theorem p7o {E:Type} (f:E→Hs):r5l f [] =emp:=rfl
def t5e (T:Hs) (a:Nat) (s:Hs):Prop:= ∃r,T.data.toList.drop a=s.data.toList++r
theorem j3i {T:Hs} {a:Nat} {s u:Hs} :t5e T a (s++u)↔t5e T a s∧t5e T (a+s.size) u:=by
 unfold t5e
 rw[p01,q18 s]
 constructor
 ·rintro⟨r,h⟩
  refine⟨⟨u.data.toList++r,by rw[h,Bi]⟩,r,?_⟩
  rw[←Gl,h,Bi,Hg]
 ·rintro⟨⟨r,h⟩,r',h'⟩
  rw[←Gl,h,Hg] at h'
  exact⟨r',by rw[h,h',Bi]⟩
theorem q5f {T:Hs} {a:Nat} {s:Hs} (h:t5e T a s) (hs:s.size≠0):a+s.size≤T.size:=by
 obtain⟨r,h⟩:=h
 have:=Dj List.length h
 rw[F0,Ba,←q18,←q18] at this
 omega
theorem o6g {a s b:Hs} :t5e (a++s++b) a.size s:=⟨b.data.toList,by rw[p01,p01,q18,Bi,Hg]⟩
theorem s5b (n:Int):(r8a n).size=(s24 n.toNat).length:=u3q _
theorem q5m (n:Nat):0<(s24 n).length:=by
 by_cases h:n<128
 ·rw[r79 h];simp
 ·rw[q67 h];simp
theorem q1t {T:Hs} {a:Nat} {n:Int} (h0:0≤n) (hn:n≤1000000000) (h:t5e T a (r8a n)):u0t T (a:Int)=(n,((a+(r8a n).size:Nat):Int),true):=by
 have hle:=q5f h (by rw[s5b];have:=q5m n.toNat;omega)
 obtain⟨r,h⟩:=h
 unfold r8a at h
 rw[s49] at h
 have hv:=q68 5 0 0 n.toNat n.toNat r (by omega) (by omega) (by simp) (by omega) (by omega)
 unfold u0t
 rw[Al (by omega),zTn,h,hv]
 simp only[q5n]
 rw[s5b]
 congr 1
 ·omega
 ·congr 1
  omega
theorem q90 {T:Hs} {a:Nat} {s:Hs} (hs:s.size≤20000) (h:t5e T a (u0q s)):u0o T (a:Int)=(s,((a+(u0q s).size:Nat):Int),true):=by
 have e:u0q s=r8a (s.size:Int)++s:=rfl
 rw[e] at h
 obtain⟨h1,h2⟩:=j3i.mp h
 have hv:=q1t (by omega) (by omega) h1
 have hle1:=q5f h1 (by rw[s5b];have:=q5m (s.size:Int).toNat;omega)
 unfold u0o
 rw[hv]
 have hle:a+(r8a (s.size:Int)).size+s.size≤T.size:=by
  by_cases q:s.size=0
  ·omega
  ·exact q5f h2 q
 rw[Al (by simp only[true_and];omega)]
 have hx:T.extract (((a+(r8a (s.size:Int)).size:Nat):Int)).toNat ((((a+(r8a (s.size:Int)).size:Nat):Int)+(s.size:Int))).toNat=s:=by
  rw[zTn,show(((a+(r8a (s.size:Int)).size:Nat):Int)+(s.size:Int)).toNat=a+(r8a (s.size:Int)).size+s.size by omega]
  rw[q8c _ _ _ hle]
  obtain⟨r,hr⟩:=h2
  rw[hr,Nat.add_sub_cancel_left,q18,List.take_left]
 simp only[hx]
 rw[e,Af]
 congr 2
 omega
abbrev Cur:=Int×Bool
def u2l (s:Hs) (c:Cur):Int×Cur:=if c.2=true∨(u0t s c.1).2.2=false then(0,c.1,true) else((u0t s c.1).1,(u0t s c.1).2.1,false)
def u2s (s:Hs) (c:Cur):Hs×Cur:=if c.2=true∨(u0o s c.1).2.2=false then(emp,c.1,true) else((u0o s c.1).1,(u0o s c.1).2.1,false)
def u64 (s:Hs) (i:Nat):Nat:=(s.data.toList.getD i 0).toNat
def q5v (s:Hs) (c:Cur):Bool×Cur:=if c.2=true∨ ¬(0≤c.1∧c.1<(s.size:Int))∨1<u64 s c.1.toNat then(false,c.1,true) else(decide (u64 s c.1.toNat=1),c.1+1,false)
def u2v {E:Type} (f:Cur→E×Cur):Nat→Cur→Hu E→Hu E×Cur
 | 0,c,a=>(a,c)
 | n+1,c,a=>if c.2=true then(a,c) else u2v f n (f c).2 (a++ [(f c).1])
def p89 (s:Hs) (c:Cur):s5p×Cur:=(((u2s s c).1,(u2s s (u2s s c).2).1),(u2s s (u2s s c).2).2)
def rWr (s:Hs) (c:Cur):WrT×Cur:=
 (((u2s s c).1,(u2s s (u2s s c).2).1,(q5v s (u2s s (u2s s c).2).2).1),(q5v s (u2s s (u2s s c).2).2).2)
def p9b (s:Hs) (c:Cur):u2b×Cur:=
 let w:=rWr s c
 ((w.1.1,w.1.2.1,w.1.2.2,(u2l s w.2).1),(u2l s w.2).2)
def p0d (m:Nat) (s:Hs) (c:Cur):u0h×Cur:=
 let a:=u2l s c
 let b:=u2l s a.2
 let d:=u2l s b.2
 let e:=u2l s d.2
 let n:=u2l s e.2
 let rs:=u2v (p89 s) (min n.1.toNat m) n.2 []
 let k:=u2l s rs.2
 let ws:=u2v (rWr s) (min k.1.toNat m) k.2 []
 let o:=q5v s ws.2
 let nm:=u2s s o.2
 ((a.1,b.1,d.1,e.1,rs.1,ws.1,o.1,nm.1),nm.2)
theorem u96 {s:Hs} {c:Cur} (h:c.2=true):(u2l s c).2.2=true:=by unfold u2l;rw[Al (.inl h)]
theorem s90 {s:Hs} {c:Cur} (h:c.2=true):(u2s s c).2.2=true:=by unfold u2s;rw[Al (.inl h)]
theorem q49 {s:Hs} {c:Cur} (h:c.2=true):(q5v s c).2.2=true:=by unfold q5v;rw[Al (.inl h)]
theorem t5v {E:Type} {f:Cur→E×Cur} {n:Nat} {c:Cur} {a:Hu E} (h:c.2=true):u2v f n c a=(a,c):=by
 cases n with
 | zero=>rfl
 | succ n=>simp only[u2v];rw[Al h]
theorem o1r {E:Type} {f:Cur→E×Cur} :∀ {n:Nat} {c:Cur} {a:Hu E},(u2v f n c a).2.2=false→(u2v f n c a).1.length=a.length+n
 | 0,c,a,_=>rfl
 | n+1,c,a,h=>by
  simp only[u2v] at h ⊢
  split at h
  ·rename_i q;rw[q] at h;cases h
  ·rename_i q
   rw[Ao q,o1r h]
   simp;omega
theorem u6z {s:Hs} {a:Nat} {n:Int} (h0:0≤n) (hn:n≤1000000000) (h:t5e s a (r8a n)):u2l s ((a:Int),false)=(n,((a+(r8a n).size:Nat):Int),false):=by
 unfold u2l
 rw[q1t h0 hn h,Ao (by simp)]
theorem t77 {s:Hs} {a:Nat} {x:Hs} (hx:x.size≤20000) (h:t5e s a (u0q x)):u2s s ((a:Int),false)=(x,((a+(u0q x).size:Nat):Int),false):=by
 unfold u2s
 rw[q90 hx h,Ao (by simp)]
theorem u3c (b:Bool):(o3b b).size=1:=u3q _
theorem q2p {s:Hs} {a:Nat} {b:Bool} (h:t5e s a (o3b b)):q5v s ((a:Int),false)=(b,((a+1:Nat):Int),false):=by
 have hle:=q5f h (by rw[u3c];omega)
 rw[u3c] at hle
 obtain⟨r,hr⟩:=h
 unfold o3b at hr
 rw[s49] at hr
 have hb:u64 s a=if b then 1 else 0:=by
  unfold u64
  have:s.data.toList.getD a 0=(s.data.toList.drop a).getD 0 0:=by
   rw[A5,A5,Dg,Df]
  rw[this,hr]
  cases b<;>rfl
 unfold q5v
 simp only[zTn,hb]
 rw[Ao]
 ·cases b<;>simp
 ·rintro(q | q | q)
  ·cases q
  ·omega
  ·cases b<;>simp at q
theorem s1t {E:Type} {f:Cur→E×Cur} {g:E→Hs} {s:Hs} :∀ {l:Hu E} {a:Nat} {acc:Hu E},(∀x∈l,∀a:Nat,t5e s a (g x)→f ((a:Int),false)=(x,((a+(g x).size:Nat):Int),false))→
 t5e s a (r5l g l)→u2v f l.length ((a:Int),false) acc=(acc++l,((a+(r5l g l).size:Nat):Int),false)
 | [],a,acc,_,_=>by rw[p7o];simp[u2v,emp,ByteArray.size]
 | x::l,a,acc,hf,h=>by
  rw[s39] at h ⊢
  obtain⟨h1,h2⟩:=j3i.mp h
  have e:=hf x (by simp) a h1
  simp only[Bc,u2v]
  rw[Ao (by simp),e]
  rw[s1t (l:=l) (fun y hy=>hf y (by simp[hy])) h2,Af]
  simp[D9]
theorem o3v {s:Hs} {a:Nat} {r:s5p} (h1:r.1.size≤20000) (h2:r.2.size≤20000) (h:t5e s a (o2q r)):p89 s ((a:Int),false)=(r,((a+(o2q r).size:Nat):Int),false):=by
 obtain⟨k1,k2⟩:=j3i.mp h
 unfold p89
 rw[t77 h1 k1]
 simp only
 rw[t77 h2 k2]
 unfold o2q
 rw[Af,D9]
theorem p6p {s:Hs} {a:Nat} {w:WrT} (h1:w.1.size≤20000) (h2:w.2.1.size≤20000) (h:t5e s a (wrT w)):rWr s ((a:Int),false)=(w,((a+(wrT w).size:Nat):Int),false):=by
 obtain⟨k1,k2⟩:=j3i.mp h
 obtain⟨k2,k3⟩:=j3i.mp k2
 unfold rWr
 rw[t77 h1 k1]
 simp only
 rw[t77 h2 k2]
 simp only
 rw[q2p k3]
 unfold wrT
 rw[Af,Af,u3c,D9,D9]
theorem o3x {s:Hs} {a:Nat} {v:u2b} (h1:v.1.size≤20000) (h2:v.2.1.size≤20000) (h3:0≤v.2.2.2∧v.2.2.2≤1000000000) (h:t5e s a (o2k v)):p9b s ((a:Int),false)=(v,((a+(o2k v).size:Nat):Int),false):=by
 have e:o2k v=wrT (v.1,v.2.1,v.2.2.1)++r8a v.2.2.2:=by unfold o2k wrT;simp only[u8e]
 rw[e] at h ⊢
 obtain⟨k1,k2⟩:=j3i.mp h
 unfold p9b
 rw[p6p (w:=(v.1,v.2.1,v.2.2.1)) h1 h2 k1]
 simp only
 rw[u6z h3.1 h3.2 k2,Af,D9]
theorem TxnR.small {t:u0h} (h:TxnR t):(∀r∈t.2.2.2.2.1,r.1.size≤3∧r.2.size≤3)∧(∀w∈t.2.2.2.2.2.1,w.1.size≤3∧w.2.1.size≤12)∧t.2.2.2.2.2.2.2.size≤3∧t.2.2.2.2.2.1.length≤8∧0≤t.2.2.2.1∧t.2.2.2.1≤9999:=by
 obtain⟨w1,w2,w3⟩:=j08.mp h.ws
 refine⟨fun r hr=> ?_,fun w hw=> ?_,?_,w3,?_⟩
 ·have:=h.rs r hr
  unfold u25 at this
  rw[Ai,Ai] at this
  exact⟨(u29 this.1).2,(u29 this.2.1).2⟩
 ·have:=w1 w hw
  unfold u26 at this
  rw[Ai,Ai,Ar] at this
  exact⟨(u29 this.1).2,this.2.1⟩
 ·by_cases e:t.2.1=2
  ·exact(u29 (h.name e)).2
  ·rw[h.noname e];omega
 ·by_cases e:t.2.1=3
  ·have:=h.done e;have:=h.snap;omega
  ·rw[h.nocs e];omega
theorem o3w {s:Hs} {a:Nat} {t:u0h} {m:Nat} (hm:8≤m) (ht:TxnR t) (h:t5e s a (t1c t)):p0d m s ((a:Int),false)=(t,((a+(t1c t).size:Nat):Int),false):=by
 obtain⟨z1,z2,z3,z4,z5⟩:=ht.small
 have hi:=ht.id;have hst:=ht.st;have hsn:=ht.snap;have hrl:=ht.rlen
 unfold t1c at h ⊢
 obtain⟨k1,h⟩:=j3i.mp h
 obtain⟨k2,h⟩:=j3i.mp h
 obtain⟨k3,h⟩:=j3i.mp h
 obtain⟨k4,h⟩:=j3i.mp h
 obtain⟨k5,h⟩:=j3i.mp h
 obtain⟨k6,h⟩:=j3i.mp h
 obtain⟨k7,h⟩:=j3i.mp h
 obtain⟨k8,h⟩:=j3i.mp h
 obtain⟨k9,k10⟩:=j3i.mp h
 unfold p0d
 rw[u6z (by omega) (by omega) k1]
 simp only
 rw[u6z (by omega) (by omega) k2]
 simp only
 rw[u6z (by omega) (by omega) k3]
 simp only
 rw[u6z (by omega) (by omega) k4]
 simp only
 rw[u6z (by omega) (by omega) k5]
 simp only
 rw[show min ((t.2.2.2.2.1.length:Int)).toNat m=t.2.2.2.2.1.length by omega,s1t (g:=o2q) (fun r hr a hs=>o3v (by have:=(z1 r hr).1;omega) (by have:=(z1 r hr).2;omega) hs) k6]
 simp only
 rw[u6z (by omega) (by omega) k7]
 simp only
 rw[show min ((t.2.2.2.2.2.1.length:Int)).toNat m=t.2.2.2.2.2.1.length by omega,s1t (g:=wrT) (fun w hw a hs=>p6p (by have:=(z2 w hw).1;omega) (by have:=(z2 w hw).2;omega) hs) k8]
 simp only
 rw[q2p k9]
 simp only
 rw[u3c] at k10
 rw[t77 (by omega) k10]
 simp only[Cf,Af,u3c]
 simp only[D9]
end
section
def u6e (m:Nat) (s:Hs) (c:Cur):u0h×Cur:=((p0d m s c).1,(p0d m s c).2.1,(p0d m s c).2.2 || !u60 (p0d m s c).1)
def t1b (m k:Nat) (s:Hs) (c:Cur):Hu u0h×Cur:=u2v (u6e m s) (min (u2l s c).1.toNat k) (u2l s c).2 []
structure Lim where
 t:Nat
 v:Nat
 p:Nat
 r:Nat
def s9z (m:Lim) (s:Hs) (c:Cur):u0j×Cur:=
 let a:=u2l s c
 let b:=u2l s a.2
 let n:=u2l s b.2
 let vs:=u2v (p9b s) (min n.1.toNat m.v) n.2 []
 let ps:=t1b m.t m.p s vs.2
 let rs:=t1b m.t m.r s ps.2
 ((vs.1,ps.1,rs.1,a.1,b.1),rs.2)
theorem o71 {m:Nat} {s:Hs} {c:Cur} (h:c.2=true):(u6e m s c).2.2=true:=by
 have:(p0d m s c).2.2=true:=by
  unfold p0d
  have h1:=u96 (s:=s) h
  have h2:=u96 (s:=s) h1
  have h3:=u96 (s:=s) h2
  have h4:=u96 (s:=s) h3
  have h5:=u96 (s:=s) h4
  simp only
  rw[t5v h5]
  have h6:=u96 (s:=s) h5
  simp only
  rw[t5v h6]
  exact s90 (q49 h6)
 unfold u6e
 simp only[this,Dx]
theorem r8v {E:Type} {f:Cur→E×Cur} {n k:Nat} {c:Cur} (hk:k≤n):(u2v f n c []).2.2=true∨k≤(u2v f n c []).1.length:=by
 cases h:(u2v f n c []).2.2 with
 | true=>exact .inl rfl
 | false=>rw[o1r h];exact .inr (by simp;exact hk)
theorem p2z {m m' :Nat} (hm:9≤m) (hm' :9≤m') {s:Hs} {c:Cur} (h:(u6e m s c).2.2=false):u6e m' s c=u6e m s c:=by
 have hb:(p0d m s c).2.2=false∧u60 (p0d m s c).1=true:=by
  unfold u6e at h
  simp only[Es,Bool.not_eq_false'] at h
  exact h
 have hR:=q5j.mp hb.2
 have hw:=(j08.mp hR.ws).2.2
 suffices e:p0d m' s c=p0d m s c by unfold u6e;rw[e]
 have b1:=hb.1
 have hr:=hR.rlen
 unfold p0d at b1 hr hw ⊢
 simp only at b1 hr hw ⊢
 generalize hn:u2l s (u2l s (u2l s (u2l s (u2l s c).2).2).2).2=n at b1 hr hw ⊢
 have k1:n.1.toNat≤8∨(u2v (p89 s) (min n.1.toNat m) n.2 []).2.2=true:=by
  rcases B8 8 n.1.toNat with q | q
  ·rcases r8v (f:=p89 s) (n:=min n.1.toNat m) (k:=9) (c:=n.2) (by omega) with z | z
   ·exact .inr z
   ·omega
  ·exact .inl q
 have k1:n.1.toNat≤8:=k1.resolve_right fun k1=>by
  have h1:=u96 (s:=s) k1
  rw[t5v h1] at b1
  rw[s90 (q49 h1)] at b1
  cases b1
 have e1:min n.1.toNat m=min n.1.toNat m' :=by omega
 rw[e1] at b1 hw ⊢
 generalize hk:u2l s (u2v (p89 s) (min n.1.toNat m') n.2 []).2=k at b1 hw ⊢
 have k2:k.1.toNat≤8∨(u2v (rWr s) (min k.1.toNat m) k.2 []).2.2=true:=by
  rcases B8 8 k.1.toNat with q | q
  ·rcases r8v (f:=rWr s) (n:=min k.1.toNat m) (k:=9) (c:=k.2) (by omega) with z | z
   ·exact .inr z
   ·omega
  ·exact .inl q
 have k2:k.1.toNat≤8:=k2.resolve_right fun k2=>by
  rw[s90 (q49 k2)] at b1
  cases b1
 have e2:min k.1.toNat m=min k.1.toNat m' :=by omega
 rw[e2]
theorem p23 {E:Type} {f g:Cur→E×Cur} (hf:∀c,(f c).2.2=false→g c=f c) (hfb:∀c,c.2=true→(f c).2.2=true):∀ {n:Nat} {c:Cur} {a:Hu E},(u2v f n c a).2.2=false→u2v g n c a=u2v f n c a
 | 0,c,a,_=>rfl
 | n+1,c,a,h=>by
  simp only[u2v] at h ⊢
  split at h
  ·rename_i q;rw[q] at h;cases h
  ·rename_i q
   rw[Ao q,Ao q]
   have:(f c).2.2=false:=by
    cases z:(f c).2.2 with
    | false=>rfl
    | true=>rw[t5v z] at h;rw[z] at h;cases h
   rw[hf c this]
   exact p23 hf hfb h
def t43 (m:Lim) (s:Hs) (c:Cur):u0j×Cur:=((s9z m s c).1,(s9z m s c).2.1,(s9z m s c).2.2 || !u63 (s9z m s c).1)
def Lim.ok (m:Lim):Prop:=9≤m.t∧121≤m.v∧13≤m.p∧4≤m.r
theorem r7y {m k:Nat} {s:Hs} {c:Cur} (h:c.2=true):(t1b m k s c).2.2=true:=by
 unfold t1b;rw[t5v (u96 h)];exact u96 h
theorem o1s {m m' k k' N:Nat} (hm:9≤m) (hm' :9≤m') (hk:N<k) (hk' :N<k') {s:Hs} {c:Cur} (h:(t1b m k s c).2.2=false) (hl:(t1b m k s c).1.length≤N):t1b m' k' s c=t1b m k s c:=by
 unfold t1b at h hl ⊢
 have q:(u2l s c).1.toNat≤N:=by
  rcases B8 N (u2l s c).1.toNat with q | q
  ·rcases r8v (f:=u6e m s) (n:=min (u2l s c).1.toNat k) (k:=N+1) (c:=(u2l s c).2) (by omega) with z | z
   ·rw[z] at h;cases h
   ·omega
  ·exact q
 have e:min (u2l s c).1.toNat k=min (u2l s c).1.toNat k' :=by omega
 rw[e] at h ⊢
 exact p23 (fun c hc=>p2z hm hm' hc) (fun c hc=>o71 hc) h
theorem p6n {m m' :Lim} (hm:m.ok) (hm' :m'.ok) {s:Hs} {c:Cur} (h:(t43 m s c).2.2=false):t43 m' s c=t43 m s c:=by
 obtain⟨a1,a2,a3,a4⟩:=hm
 obtain⟨b1,b2,b3,b4⟩:=hm'
 have hb:(s9z m s c).2.2=false∧u63 (s9z m s c).1=true:=by
  unfold t43 at h
  simp only[Es,Bool.not_eq_false'] at h
  exact h
 have hR:=p6a.mp hb.2
 have v1:=(o85.mp hR.vs).2.2
 have v2:=hR.plen
 have v3:=hR.rlen
 have h0:=hb.1
 suffices e:s9z m' s c=s9z m s c by unfold t43;rw[e]
 unfold s9z at h0 v1 v2 v3 ⊢
 simp only at h0 v1 v2 v3 ⊢
 generalize hn:u2l s (u2l s (u2l s c).2).2=n at h0 v1 v2 v3 ⊢
 have k1:n.1.toNat≤120:=by
  rcases B8 120 n.1.toNat with q | q
  ·rcases r8v (f:=p9b s) (n:=min n.1.toNat m.v) (k:=121) (c:=n.2) (by omega) with z | z
   ·exfalso
    rw[r7y (r7y z)] at h0
    cases h0
   ·omega
  ·exact q
 have e1:min n.1.toNat m.v=min n.1.toNat m'.v:=by omega
 rw[e1] at h0 v2 v3 ⊢
 generalize hv:u2v (p9b s) (min n.1.toNat m'.v) n.2 [] =vs at h0 v2 v3 ⊢
 have hp:(t1b m.t m.p s vs.2).2.2=false:=by
  cases z:(t1b m.t m.p s vs.2).2.2 with
  | false=>rfl
  | true=>rw[r7y z] at h0;cases h0
 rw[o1s (N:=12) a1 b1 (by omega) (by omega) hp v2]
 rw[o1s (N:=3) a1 b1 (by omega) (by omega) h0 v3]
theorem r7u {s:Hs} {a:Nat} {t:u0h} {m:Nat} (hm:8≤m) (ht:TxnR t) (h:t5e s a (t1c t)):u6e m s ((a:Int),false)=(t,((a+(t1c t).size:Nat):Int),false):=by
 unfold u6e
 rw[o3w hm ht h]
 simp only[q5j.mpr ht,Ap,Fp]
theorem q8i {s:Hs} {a:Nat} {l:Hu u0h} {m k:Nat} (hm:8≤m) (hk:l.length≤k) (hl:l.length≤1000000000) (ht:∀t∈l,TxnR t) (h:t5e s a (s95 l)):t1b m k s ((a:Int),false)=(l,((a+(s95 l).size:Nat):Int),false):=by
 unfold s95 at h ⊢
 obtain⟨k1,k2⟩:=j3i.mp h
 unfold t1b
 rw[u6z (by omega) (by omega) k1]
 simp only
 rw[show min ((l.length:Int)).toNat k=l.length by omega,s1t (g:=t1c) (fun t h a hs=>r7u hm (ht t h) hs) k2]
 rw[Af,Cf,D9]
theorem s5c {v:u2b} (h:q2t v=true):v.1.size≤3∧v.2.1.size≤12∧1≤v.2.2.2∧v.2.2.2≤9999:=by
 unfold q2t at h
 simp only[Ai,Ar,q6v] at h
 exact⟨(u29 h.1).2,h.2.1,h.2.2.2⟩
theorem o1q {s:Hs} {a:Nat} {b:u0j} {m:Lim} (hm:m.ok) (hb:BaseR b) (h:t5e s a (t9v b)):s9z m s ((a:Int),false)=(b,((a+(t9v b).size:Nat):Int),false):=by
 obtain⟨a1,a2,a3,a4⟩:=hm
 obtain⟨v1,v2,v3⟩:=o85.mp hb.vs
 have hc:=hb.cs;have hx:=hb.next;have hp:=hb.plen;have hr:=hb.rlen
 unfold t9v at h ⊢
 obtain⟨k1,h⟩:=j3i.mp h
 obtain⟨k2,h⟩:=j3i.mp h
 obtain⟨k3,h⟩:=j3i.mp h
 obtain⟨k4,h⟩:=j3i.mp h
 obtain⟨k5,k6⟩:=j3i.mp h
 unfold s9z
 rw[u6z (by omega) (by omega) k1]
 simp only
 rw[u6z (by omega) (by omega) k2]
 simp only
 rw[u6z (by omega) (by omega) k3]
 simp only
 rw[show min ((b.1.length:Int)).toNat m.v=b.1.length by omega,s1t (g:=o2k) (fun v hv a hs=>by
  have:=s5c (v1 v hv)
  exact o3x (by omega) (by omega) (by omega) hs) k4]
 simp only
 rw[q8i (by omega) (by omega) (by omega) (fun t ht=>(hb.past t ht).1) k5]
 simp only
 rw[q8i (by omega) (by omega) (by omega) (fun t ht=>(hb.ready t ht).1) k6]
 simp only[Cf,Af,D9]
theorem o2j {n:Nat} (h:n<16384):(s24 n).length≤2:=by
 by_cases q:n<128
 ·rw[r79 q];simp
 ·rw[q67 q,r79 (by omega)];simp
theorem u11 {n:Int} (h:n<16384):(r8a n).size≤2:=by rw[s5b];exact o2j (by omega)
theorem u0y {s:Hs} (h:s.size<16384):(u0q s).size≤s.size+2:=by
 unfold u0q
 rw[Af,u3q]
 have:=o2j h
 omega
theorem t8z {E:Type} {f:E→Hs} {k:Nat} :∀ {l:Hu E},(∀x∈l,(f x).size≤k)→(r5l f l).size≤l.length*k
 | [],_=>by rw[p7o];simp[emp,ByteArray.size]
 | x::l,h=>by
  rw[s39,Af,Bc,C7]
  have h1:=h x (by simp)
  have h2:=t8z (l:=l) (fun y hy=>h y (by simp[hy]))
  omega
theorem t9r {t:u0h} (h:TxnR t):(t1c t).size≤300:=by
 obtain⟨z1,z2,z3,z4,z5⟩:=h.small
 have hi:=h.id;have hst:=h.st;have hsn:=h.snap;have hrl:=h.rlen
 have r1:(r5l o2q t.2.2.2.2.1).size≤t.2.2.2.2.1.length*10:=t8z fun r hr=>by
  have:=z1 r hr
  have q1:=u0y (s:=r.1) (by omega)
  have q2:=u0y (s:=r.2) (by omega)
  unfold o2q;rw[Af];omega
 have r2:(r5l wrT t.2.2.2.2.2.1).size≤t.2.2.2.2.2.1.length*20:=t8z fun w hw=>by
  have:=z2 w hw
  have q1:=u0y (s:=w.1) (by omega)
  have q2:=u0y (s:=w.2.1) (by omega)
  unfold wrT;rw[Af,Af,u3c];omega
 have v1:=u11 (n:=t.1) (by omega)
 have v2:=u11 (n:=t.2.1) (by omega)
 have v3:=u11 (n:=t.2.2.1) (by omega)
 have v4:=u11 (n:=t.2.2.2.1) (by omega)
 have v5:=u11 (n:=(t.2.2.2.2.1.length:Int)) (by omega)
 have v6:=u11 (n:=(t.2.2.2.2.2.1.length:Int)) (by omega)
 have v7:=u0y (s:=t.2.2.2.2.2.2.2) (by omega)
 unfold t1c
 simp only[Af,u3c]
 omega
theorem s3t {l:Hu u0h} (hl:l.length<16384) (h:∀t∈l,TxnR t):(s95 l).size≤2+l.length*300:=by
 unfold s95
 rw[Af]
 have v1:=u11 (n:=(l.length:Int)) (by omega)
 have v2:=t8z (f:=t1c) (k:=300) (l:=l) (fun t ht=>t9r (h t ht))
 omega
theorem q5o {v:u2b} (h:q2t v=true):(o2k v).size≤22:=by
 have:=s5c h
 have q1:=u0y (s:=v.1) (by omega)
 have q2:=u0y (s:=v.2.1) (by omega)
 have q3:=u11 (n:=v.2.2.2) (by omega)
 unfold o2k
 simp only[Af,u3c]
 omega
theorem r8p {b:u0j} (hb:BaseR b):(t9v b).size≤10+b.1.length*22+b.2.1.length*300+b.2.2.1.length*300:=by
 obtain⟨v1,v2,v3⟩:=o85.mp hb.vs
 have hc:=hb.cs;have hx:=hb.next;have hp:=hb.plen;have hr:=hb.rlen
 have q1:=u11 (n:=b.2.2.2.1) (by omega)
 have q2:=u11 (n:=b.2.2.2.2) (by omega)
 have q3:=u11 (n:=(b.1.length:Int)) (by omega)
 have q4:=t8z (f:=o2k) (k:=22) (l:=b.1) (fun v hv=>q5o (v1 v hv))
 have q5:=s3t (l:=b.2.1) (by omega) (fun t ht=>(hb.past t ht).1)
 have q6:=s3t (l:=b.2.2.1) (by omega) (fun t ht=>(hb.ready t ht).1)
 unfold t9v
 simp only[Af]
 omega
end
section
def j2s (a b:Int):Int:=IntKind.u32.wrap ((BitVec.ofInt IntKind.u32.bits a^^^BitVec.ofInt IntKind.u32.bits b).toNat:Int)
def o8l (x:Int):Int:=bif decide (Int.tmod x 2=1) then j2s (IntKind.u32.wrap (Int.tdiv x 2)) 3558460437 else IntKind.u32.wrap (Int.tdiv x 2)
def p3e:Nat→Int→Int
 | 0,x=>x
 | n+1,x=>p3e n (o8l x)
def p3f (x:Int) (b:UInt8):Int:=p3e 8 (j2s x (IntKind.u32.wrap (b.toNat:Int)))
def j2m (t:Hs):Int:=t.data.toList.foldl p3f 4294967295
def j2k (x:Int) (k:Nat):Int:=IntKind.u8.wrap (Int.fdiv x (2^k))
def j5z (x:Int):Hs:=y7g [j2k x 24,j2k x 16,j2k x 8,IntKind.u8.wrap x]
def s91 (t:Hs):Hs:=t++j5z (j2m t)
def p3a (t:Hs):Hs×Bool:=if t.size≤20000 then(s91 t,true) else(emp,false)
def t4z (t:Hs):Ht Hs:=if 4≤t.size∧t.size - 4≤20000∧s91 (t.extract 0 (t.size - 4))=t then some (t.extract 0 (t.size - 4)) else none
theorem o7v (x:Int):(j5z x).size=4:=u3q _
theorem r8w (t:Hs):(s91 t).size=t.size+4:=by unfold s91;rw[Af,o7v]
theorem q5k {t:Hs} (h:t.size≤20000):t4z (s91 t)=some t:=by
 have hs:=r8w t
 have e:(s91 t).extract 0 ((s91 t).size - 4)=t:=by
  rw[hs,Nat.add_sub_cancel]
  exact ByteArray.extract_append_eq_left rfl
 unfold t4z
 rw[e,Al ⟨by omega,by omega,rfl⟩]
abbrev s5w:=Int×u0h×Hs×Bool×u0j
def u4n:u0h:=(0,0,0,0, [], [],false,emp)
def u2t:u0j:=([], [], [],0,0)
def noT (t:u0h):Bool:=decide (t.1=0)&&(decide (t.2.1=0)&&(decide (t.2.2.1=0)&&(decide (t.2.2.2.1=0)&&(decide (t.2.2.2.2.1.length=0)&&(decide (t.2.2.2.2.2.1.length=0)&&(!t.2.2.2.2.2.2.1&&decide (t.2.2.2.2.2.2.2.size=0)))))))
def noB (b:u0j):Bool:=decide (b.1.length=0)&&(decide (b.2.1.length=0)&&(decide (b.2.2.1.length=0)&&(decide (b.2.2.2.1=0)&&decide (b.2.2.2.2=0))))
def u6j (r:s5w):Bool:=
 if r.1=1 then u60 r.2.1&&(decide (r.2.1.2.1=3)&&(decide (r.2.2.1.size=0)&&(!r.2.2.2.1&&noB r.2.2.2.2)))
 else if r.1=2 then u60 r.2.1&&(decide (r.2.1.2.1=2)&&(decide (r.2.2.1.size=0)&&(!r.2.2.2.1&&noB r.2.2.2.2)))
 else if r.1=3 then noT r.2.1&&(u66 r.2.2.1&&noB r.2.2.2.2)
 else if r.1=4 then noT r.2.1&&(decide (r.2.2.1.size=0)&&(!r.2.2.2.1&&u63 r.2.2.2.2))
 else false
def s8b (r:s5w):Hs:=y7g [IntKind.u8.wrap r.1] ++(if r.1=3 then u0q r.2.2.1++o3b r.2.2.2.1 else if r.1=4 then t9v r.2.2.2.2 else t1c r.2.1)
def u01 (r:s5w):Hs×Bool:=if u6j r=true then p3a (s8b r) else(emp,false)
theorem j0d {s:Hs} (h:s.size=0):s=emp:=o4n (by
 rw[q18] at h
 rw[Dk.mp h];rfl)
theorem o70 {t:u0h} :noT t=true↔t=u4n:=by
 unfold noT u4n
 simp only[Ai,Ar,Bj]
 constructor
 ·rintro⟨h1,h2,h3,h4,h5,h6,h7,h8⟩
  obtain⟨t1,t2,t3,t4,t5,t6,t7,t8⟩:=t
  simp only at h1 h2 h3 h4 h5 h6 h7 h8
  rw[h1,h2,h3,h4,Dk.mp h5,Dk.mp h6,h7,j0d h8]
 ·rintro rfl
  exact⟨rfl,rfl,rfl,rfl,rfl,rfl,rfl,rfl⟩
theorem o3r {b:u0j} :noB b=true↔b=u2t:=by
 unfold noB u2t
 simp only[Ai,Ar]
 constructor
 ·rintro⟨h1,h2,h3,h4,h5⟩
  obtain⟨t1,t2,t3,t4,t5⟩:=b
  simp only at h1 h2 h3 h4 h5
  rw[h4,h5,Dk.mp h1,Dk.mp h2,Dk.mp h3]
 ·rintro rfl
  exact⟨rfl,rfl,rfl,rfl,rfl⟩
inductive RecR:s5w→Prop where
 | thr (t:u0h) (h:TxnR t) (hs:t.2.1=3):RecR (1,t,emp,false,u2t)
 | rdy (t:u0h) (h:TxnR t) (hs:t.2.1=2):RecR (2,t,emp,false,u2t)
 | fin (n:Hs) (y:Bool) (h:u66 n=true):RecR (3,u4n,n,y,u2t)
 | bas (b:u0j) (h:BaseR b):RecR (4,u4n,emp,false,b)
theorem j06 {r:s5w} :u6j r=true↔RecR r:=by
 obtain⟨k,t,n,y,b⟩:=r
 unfold u6j
 simp only
 constructor
 ·intro h
  split at h
  ·rename_i e
   simp only[Ai,Ar,Bj,q5j,o3r] at h
   obtain⟨h1,h2,h3,h4,h5⟩:=h
   rw[e,j0d h3,h4,h5];exact .thr t h1 h2
  ·split at h
   ·rename_i _ e
    simp only[Ai,Ar,Bj,q5j,o3r] at h
    obtain⟨h1,h2,h3,h4,h5⟩:=h
    rw[e,j0d h3,h4,h5];exact .rdy t h1 h2
   ·split at h
    ·rename_i _ _ e
     simp only[Ai,o70,o3r] at h
     obtain⟨h1,h2,h3⟩:=h
     rw[e,h1,h3];exact .fin n y h2
    ·split at h
     ·rename_i _ _ _ e
      simp only[Ai,Ar,Bj,o70,p6a] at h
      obtain⟨h1,h2,h3,h4⟩:=h
      rw[e,h1,j0d h2,h3];exact .bas b h4
     ·cases h
 ·intro h
  cases h with
  | thr t h hs=>simp[q5j.mpr h,hs,o3r.mpr rfl,emp,ByteArray.size]
  | rdy t h hs=>simp[q5j.mpr h,hs,o3r.mpr rfl,emp,ByteArray.size]
  | fin n y h=>simp[h,o3r.mpr rfl,o70.mpr rfl]
  | bas b h=>simp[p6a.mpr h,o70.mpr rfl,emp,ByteArray.size]
theorem s3s {r:s5w} (h:RecR r):2≤(s8b r).size∧(s8b r).size≤10000:=by
 have h1:∀n:Int,(y7g [n]).size=1:=fun n=>u3q _
 cases h with
 | thr t h hs=>
  have:=t9r h
  have q:1≤(t1c t).size:=by
   unfold t1c;rw[Af,s5b];have:=q5m t.1.toNat;omega
  show 2≤(y7g _++t1c t).size∧(y7g _++t1c t).size≤10000
  rw[Af,h1];omega
 | rdy t h hs=>
  have:=t9r h
  have q:1≤(t1c t).size:=by
   unfold t1c;rw[Af,s5b];have:=q5m t.1.toNat;omega
  show 2≤(y7g _++t1c t).size∧(y7g _++t1c t).size≤10000
  rw[Af,h1];omega
 | fin n y h=>
  have:=u29 h
  have q:=u0y (s:=n) (by omega)
  show 2≤(y7g _++(u0q n++o3b y)).size∧(y7g _++(u0q n++o3b y)).size≤10000
  have:=(t3f n).1
  rw[Af,Af,h1,u3c];omega
 | bas b h=>
  have:=r8p h
  have a1:=(o85.mp h.vs).2.2
  have a2:=h.plen
  have a3:=h.rlen
  have q:1≤(t9v b).size:=by
   unfold t9v;rw[Af,s5b];have:=q5m b.2.2.2.1.toNat;omega
  show 2≤(y7g _++t9v b).size∧(y7g _++t9v b).size≤10000
  rw[Af,h1];omega
theorem u9e {r:s5w} (h:RecR r):u01 r=(s91 (s8b r),true):=by
 unfold u01 p3a
 rw[Al (j06.mpr h),Al (by have:=(s3s h).2;omega)]
def j7e:Lim:=⟨9,121,13,4⟩
theorem o3p:j7e.ok:=⟨by decide,by decide,by decide,by decide⟩
def t2m (s:Hs):s5w×Bool:=
 if u64 s 0=3 then((3,u4n,(u2s s (1,false)).1,(q5v s (u2s s (1,false)).2).1,u2t),(q5v s (u2s s (1,false)).2).2.2)
 else if u64 s 0=4 then((4,u4n,emp,false,(t43 j7e s (1,false)).1),(t43 j7e s (1,false)).2.2)
 else(((u64 s 0:Int),(u6e 9 s (1,false)).1,emp,false,u2t),(u6e 9 s (1,false)).2.2)
def u4m (t:Hs):Ht s5w:=
 match t4z t with
 | none=>none
 | some s=>if s.size=0 then none else if(t2m s).2=true∨u01 (t2m s).1≠(t,true) then none else some (t2m s).1
theorem p7n {k:Nat} (h:k<256) (s:Hs):u64 (y7g [IntKind.u8.wrap (k:Int)] ++s) 0=k:=by
 unfold u64
 rw[p01,s49]
 have:IntKind.u8.wrap (k:Int)=(k:Int):=j0o h
 rw[this]
 show(UInt8.ofNat ((k:Int)).toNat).toNat=k
 rw[zTn]
 simp
 omega
theorem s0a {r:s5w} (h:RecR r):t2m (s8b r)=(r,false):=by
 have st:∀(x:Int) (s:Hs),t5e (y7g [x] ++s) 1 s:=fun x s=>by
  have:=o6g (a:=y7g [x]) (s:=s) (b:=emp)
  rw[o3a,u3q] at this
  exact this
 cases h with
 | thr t h hs=>
  have e:s8b (1,t,emp,false,u2t)=y7g [IntKind.u8.wrap ((1:Nat):Int)] ++t1c t:=rfl
  rw[e]
  unfold t2m
  rw[p7n (by omega),Ao (by omega),Ao (by omega)]
  have q:=r7u (m:=9) (by omega) h (st (IntKind.u8.wrap ((1:Nat):Int)) (t1c t))
  have q:u6e 9 (y7g [IntKind.u8.wrap ((1:Nat):Int)] ++t1c t) (1,false)=_:=q
  rw[q];rfl
 | rdy t h hs=>
  have e:s8b (2,t,emp,false,u2t)=y7g [IntKind.u8.wrap ((2:Nat):Int)] ++t1c t:=rfl
  rw[e]
  unfold t2m
  rw[p7n (by omega),Ao (by omega),Ao (by omega)]
  have q:=r7u (m:=9) (by omega) h (st (IntKind.u8.wrap ((2:Nat):Int)) (t1c t))
  have q:u6e 9 (y7g [IntKind.u8.wrap ((2:Nat):Int)] ++t1c t) (1,false)=_:=q
  rw[q];rfl
 | fin n y h=>
  have e:s8b (3,u4n,n,y,u2t)=y7g [IntKind.u8.wrap ((3:Nat):Int)] ++(u0q n++o3b y):=rfl
  rw[e]
  unfold t2m
  rw[p7n (by omega),Al rfl]
  obtain⟨k1,k2⟩:=j3i.mp (st (IntKind.u8.wrap ((3:Nat):Int)) (u0q n++o3b y))
  have q1:=t77 (by have:=u29 h;omega) k1
  have q1:u2s (y7g [IntKind.u8.wrap ((3:Nat):Int)] ++(u0q n++o3b y)) (1,false)=_:=q1
  rw[q1]
  simp only
  rw[q2p k2]
 | bas b h=>
  have e:s8b (4,u4n,emp,false,b)=y7g [IntKind.u8.wrap ((4:Nat):Int)] ++t9v b:=rfl
  rw[e]
  unfold t2m
  rw[p7n (by omega),Ao (by omega),Al rfl]
  have q:=o1q o3p h (st (IntKind.u8.wrap ((4:Nat):Int)) (t9v b))
  have q:s9z j7e (y7g [IntKind.u8.wrap ((4:Nat):Int)] ++t9v b) (1,false)=_:=q
  unfold t43
  rw[q]
  simp only[p6a.mpr h,Ap,Fp]
theorem r70 {r:s5w} (h:RecR r):u4m (s91 (s8b r))=some r:=by
 have hs:=s3s h
 unfold u4m
 rw[q5k (by omega)]
 simp only
 rw[Ao (by omega),s0a h]
 simp only
 rw[u9e h,Ao (by simp)]
theorem q5c {t:Hs} {r:s5w} (h:u4m t=some r):RecR r∧t=s91 (s8b r):=by
 unfold u4m at h
 split at h
 ·cases h
 ·rename_i s hs
  split at h
  ·cases h
  ·split at h
   ·cases h
   ·rename_i hc
    simp only[Hr,ne_eq,Decidable.not_not] at hc
    have e:=Ds h
    rw[e] at hc
    have hr:u6j r=true:=by
     cases q:u6j r with
     | true=>rfl
     | false=>
      have:=hc.2
      unfold u01 at this
      rw[Ao (by simp[q])] at this
      simp at this
    have hR:=j06.mp hr
    refine⟨hR,?_⟩
    have:=hc.2
    rw[u9e hR] at this
    exact(Dv this).1.symm
def u18 (b:u0j) (r:s5w):Ht u0j:=
 if r.1=1 then(if r.2.1.2.2.2.1=b.2.2.2.1+1 then some (u1n b r.2.1) else none)
 else if r.1=2 then(if b.2.2.1.length<3∧u0p b r.2.1.2.2.2.2.2.2.2<0 then some (u2r b r.2.1 r.2.1.2.2.2.2.2.2.2) else none)
 else if r.1=3 then(if u0p b r.2.2.1<0 then none else if r.2.2.2.1=true then some (u1n b (rdL u00 b.2.2.1 (u0p b r.2.2.1).toNat)) else some (t7n b r.2.2.1))
 else some r.2.2.2.2
def u65 (b:u0j) (r:s5w):Ht u0j:=
 if u63 b=true∧u6j r=true then(match u18 b r with
  | none=>none
  | some x=>if u63 (u34 x [])=true then some (u34 x []) else none)
 else none
def p9t:u0j:=([], [], [],0,1)
def s1q:u0j→Hu Hs→Ht u0j
 | b, [] =>some b
 | b,t::l=>match u4m t with
  | none=>none
  | some r=>match u65 b r with
   | none=>none
   | some x=>s1q x l
def t1p (l:Hu Hs):Ht u0j:=s1q p9t l
theorem o58 (b:u0j):∀(l m:Hu Hs),s1q b (l++m)=(s1q b l).bind fun x=>s1q x m:=by
 intro l
 induction l generalizing b with
 | nil=>intro m;rfl
 | cons t l ih=>
  intro m
  simp only[Ef,s1q]
  cases u4m t with
  | none=>rfl
  | some r=>
   simp only
   cases u65 b r with
   | none=>rfl
   | some x=>exact ih x m
end
section
theorem j52 (n:Nat):decide ((n:Int)=0)=decide (n=0):=by simp
theorem o9z (t:u0h):s4v t=some (noT t):=by
 rw[p1r];unfold r6b noT
 simp only[j52,t4o]
 cases decide (t.1=0)<;>cases decide (t.2.1=0)<;>cases decide (t.2.2.1=0)<;>cases decide (t.2.2.2.1=0)<;>cases decide (t.2.2.2.2.1.length=0)<;>cases decide (t.2.2.2.2.2.1.length=0)<;>cases t.2.2.2.2.2.2.1<;>rfl
theorem o90 (t:u0h):t9o t=some (noT t):=by
 rw[p2g];unfold r61 noT
 simp only[j52,t4o]
 cases decide (t.1=0)<;>cases decide (t.2.1=0)<;>cases decide (t.2.2.1=0)<;>cases decide (t.2.2.2.1=0)<;>cases decide (t.2.2.2.2.1.length=0)<;>cases decide (t.2.2.2.2.2.1.length=0)<;>cases t.2.2.2.2.2.2.1<;>rfl
theorem o9w (b:u0j):s2a b=some (noB b):=by
 rw[q9a];unfold r2n noB
 simp only[j52]
 cases decide (b.1.length=0)<;>cases decide (b.2.1.length=0)<;>cases decide (b.2.2.1.length=0)<;>cases decide (b.2.2.2.1=0)<;>rfl
theorem o9x (b:u0j):s2j b=some (noB b):=by
 rw[q9u];unfold r27 noB
 simp only[j52]
 cases decide (b.1.length=0)<;>cases decide (b.2.1.length=0)<;>cases decide (b.2.2.1.length=0)<;>cases decide (b.2.2.2.1=0)<;>cases decide (b.2.2.2.2=0)<;>rfl
theorem r74 (r:s5w):j64.wt r=0+(u00.wt r.2.1+(r.2.2.1.size+(0+j35.wt r.2.2.2.2))):=rfl
theorem q2z (r:s5w) (hw:j64.wt r≤549755813888):t87 r=some (u6j r):=by
 have hb:u0k=1099511627776:=rfl
 have hr:=r74 r
 have k1:=s3r r.2.1 (by omega)
 have k2:=u9g r.2.2.2.2 (by omega)
 have k3:=s3q r.2.2.1 (by omega)
 rw[p1j];unfold r54
 rw[o9z,o9w]
 simp only[k1,k2,k3,p2o,q8e,zOb,t4o]
 unfold u6j
 generalize u60 r.2.1=c1
 generalize u63 r.2.2.2.2=c2
 generalize u66 r.2.2.1=c3
 generalize noT r.2.1=c4
 generalize noB r.2.2.2.2=c5
 generalize decide (r.2.2.1.size=0)=c6
 generalize decide (r.2.1.2.1=3)=c7
 generalize decide (r.2.1.2.1=2)=c8
 generalize r.2.2.2.1=c9
 by_cases h1:r.1=1
 ·simp only[h1,Ae,Ad,Bl]
  cases c1<;>cases c5<;>cases c6<;>cases c7<;>cases c9<;>rfl
 ·by_cases h2:r.1=2
  ·simp only[h2,Ae,Ad,Bl]
   cases c1<;>cases c5<;>cases c6<;>cases c8<;>cases c9<;>rfl
  ·by_cases h3:r.1=3
   ·simp only[h3,Ae,Ad,Bl]
    cases c3<;>cases c4<;>cases c5<;>cases c9<;>rfl
   ·by_cases h4:r.1=4
    ·simp only[h4,Ae,Ad,Bl]
     cases c2<;>cases c4<;>cases c6<;>cases c9<;>rfl
    ·simp only[h1,h2,h3,h4,Ah,Aa,Bk]
theorem q20 (r:s5w) (hw:j64.wt r≤549755813888):t9i r=some (u6j r):=by
 have hb:u0k=1099511627776:=rfl
 have hr:=r74 r
 have k1:=t7w r.2.1 (by omega)
 have k2:=t9y r.2.2.2.2 (by omega)
 have k3:=t7u r.2.2.1 (by omega)
 rw[p16];unfold r6q
 simp only[k1,k2,k3,s87,o90,o9x,zOb,t4o]
 unfold u6j
 generalize u60 r.2.1=c1
 generalize u63 r.2.2.2.2=c2
 generalize u66 r.2.2.1=c3
 generalize noT r.2.1=c4
 generalize noB r.2.2.2.2=c5
 generalize decide (r.2.2.1.size=0)=c6
 generalize r.2.2.2.1=c9
 by_cases h1:r.1=1
 ·simp only[h1,show inB 1 1 4=true from rfl,Ae,Ad,Bl]
  generalize decide (r.2.1.2.1=3)=c7
  generalize decide (r.2.1.2.1=2)=c8
  cases c1<;>cases c5<;>cases c6<;>cases c7<;>cases c8<;>cases c9<;>rfl
 ·by_cases h2:r.1=2
  ·simp only[h2,show inB 2 1 4=true from rfl,Ae,Ad,Bl]
   generalize decide (r.2.1.2.1=3)=c7
   generalize decide (r.2.1.2.1=2)=c8
   cases c1<;>cases c5<;>cases c6<;>cases c7<;>cases c8<;>cases c9<;>rfl
  ·by_cases h3:r.1=3
   ·simp only[h3,show inB 3 1 4=true from rfl,Ae,Ad,Bl]
    cases c3<;>cases c4<;>cases c5<;>cases c9<;>rfl
   ·by_cases h4:r.1=4
    ·simp only[h4,show inB 4 1 4=true from rfl,Ae,Ad,Bl]
     cases c2<;>cases c4<;>cases c6<;>cases c9<;>rfl
    ·have:inB r.1 1 4=false:=by
      cases h:inB r.1 1 4
      ·rfl
      ·have:=q6v.mp h;omega
     simp only[h1,h2,h3,h4,this,Ah,Aa,Bk,Bh,Ad]
end
section
theorem q09 {α:Type} {P:Prop} [Decidable P] {a b:α} (h:P):(bif decide P then a else b)=a:=by rw[Bb h];rfl
theorem q5t {α:Type} {n:Nat} {a b:α} (h:n≤1099511627776):(bif Nat.ble n z7w then a else b)=a:=by rw[u0r h];rfl
theorem u55 {n:Int} (h0:0≤n) (h1:n≤1000000000):u10 n=some (r8a n):=by
 obtain⟨m,rfl⟩:∃m:Nat,n=m:=⟨n.toNat,by omega⟩
 rw[p2q m (by omega)];rfl
theorem o38 {n:Int} (h0:0≤n) (h1:n≤1000000000):t1i n=some (r8a n,true):=by
 rw[r5s,Al ⟨h0,h1⟩];rfl
theorem t7v {s:Hs} (h:s.size≤10000):u3h s=some (u0q s):=by
 rw[p2f];unfold r60
 rw[u55 (by omega) (by omega)]
 simp only[zOb]
 have:=u11 (n:=(s.size:Int)) (by omega)
 rw[q09 (by omega)];rfl
theorem o5q {s:Hs} (h:s.size≤10000):t06 s=some (u0q s,true):=by
 rw[q7j s (by omega),Ao (by omega)]
theorem q97 (b:Bool):t4x b=some (o3b b):=by
 rw[p8r];unfold q36
 cases b<;>rfl
theorem q5b {r:s5p} (h:r.1.size≤100∧r.2.size≤100):(o2q r).size≤204:=by
 have q1:=u0y (s:=r.1) (by omega)
 have q2:=u0y (s:=r.2) (by omega)
 unfold o2q;rw[Af];omega
theorem s0u {E:Type} (f:E→Hs) (l:Hu E) (s:Hs):l.foldl (fun s x=>s++f x) s=s++r5l f l:=q4h f l s
theorem r5r (t:u0h) (ht:u00.wt t≤549755813888):s08 t=some (if u60 t=true then(t1c t,true) else(emp,false)):=by
 have hb:u0k=1099511627776:=rfl
 rw[p41];unfold q0m
 rw[t7w t (by omega)]
 simp only[zOb]
 cases hc:u60 t
 ·rfl
 ·have h:=q5j.mp hc
  obtain⟨z1,z2,z3,z4,z5⟩:=h.small
  have hi:=h.id;have hst:=h.st;have hsn:=h.snap;have hrl:=h.rlen
  have v1:=u11 (n:=t.1) (by omega)
  have v2:=u11 (n:=t.2.1) (by omega)
  have v3:=u11 (n:=t.2.2.1) (by omega)
  have v4:=u11 (n:=t.2.2.2.1) (by omega)
  have v5:=u11 (n:=(t.2.2.2.2.1.length:Int)) (by omega)
  have v6:=u11 (n:=(t.2.2.2.2.2.1.length:Int)) (by omega)
  have v7:=u0y (s:=t.2.2.2.2.2.2.2) (by omega)
  have L1:∀A:Hs,A.size≤1000→t0v (t,A,0)=some (.inl (t,A++r5l o2q t.2.2.2.2.1)):=fun A hA=>by
   have:=u9a t0v t.2.2.2.2.1 (fun(A:Hs) i=>(t,A,i)) (fun A r=>A++o2q r) (fun A=> .inl (t,A)) (fun i A=>A.size≤1000+i*204)
    (fun A _=>by rw[r5b];simp only[t6s,u0b,Am,Ah,Aa])
    (fun i hi A hP=>by
     have hr:=z1 _ (Ag hi)
     have hs:=q5b (r:=t.2.2.2.2.1[i]) (by omega)
     have hs' :=hs
     unfold o2q at hs'
     rw[Af] at hs'
     refine⟨by rw[Af,C7];omega,?_⟩
     rw[r5b];simp only[t6s,u0b,hi,Ae,Ad,y7t hi,zTn,y8k (t:=t2h) hi,y7l (show i<4611686018427387904 by omega)]
     rw[t7v (by omega),t7v (by omega)]
     simp only[zOb]
     rw[q09 (by omega),q09 (by rw[Af];omega),u8e];rfl) A (by omega)
   rw[s0u] at this
   exact this
  have L2:∀A:Hs,A.size≤10000→u8n (t,A,0)=some (.inl (t,A++r5l wrT t.2.2.2.2.2.1)):=fun A hA=>by
   have:=u9a u8n t.2.2.2.2.2.1 (fun(A:Hs) i=>(t,A,i)) (fun A r=>A++wrT r) (fun A=> .inl (t,A)) (fun i A=>A.size≤10000+i*304)
    (fun A _=>by rw[r0s];simp only[t36,u0b,Am,Ah,Aa])
    (fun i hi A hP=>by
     have hr:=z2 _ (Ag hi)
     have q1:=u0y (s:=(t.2.2.2.2.2.1[i]).1) (by omega)
     have q2:=u0y (s:=(t.2.2.2.2.2.1[i]).2.1) (by omega)
     have q3:=u3c (t.2.2.2.2.2.1[i]).2.2
     refine⟨by unfold wrT;simp only[Af,C7];omega,?_⟩
     rw[r0s];simp only[t36,u0b,hi,Ae,Ad,y7t hi,zTn,y8k (t:=u2m) hi,y7l (show i<4611686018427387904 by omega)]
     rw[t7v (by omega),t7v (by omega),q97]
     simp only[zOb]
     rw[q09 (by omega),q09 (by rw[Af];omega),q09 (by simp only[Af];omega),u8e,u8e];rfl) A (by omega)
   rw[s0u] at this
   exact this
  have n1:(r5l o2q t.2.2.2.2.1).size≤t.2.2.2.2.1.length*204:=t8z fun r hr=>q5b (by have:=z1 r hr;omega)
  have n2:(r5l wrT t.2.2.2.2.2.1).size≤t.2.2.2.2.2.1.length*304:=t8z fun w hw=>by
   have:=z2 w hw
   have q1:=u0y (s:=w.1) (by omega)
   have q2:=u0y (s:=w.2.1) (by omega)
   unfold wrT;rw[Af,Af,u3c];omega
  simp only[Ap,Aa,Bl]
  rw[u55 (n:=t.1) (by omega) (by omega),u55 (n:=t.2.1) (by omega) (by omega),u55 (n:=t.2.2.1) (by omega) (by omega),u55 (n:=t.2.2.2.1) (by omega) (by omega),u55 (n:=(t.2.2.2.2.1.length:Int)) (by omega) (by omega)]
  simp only[zOb]
  rw[q09 (by omega),q09 (by simp only[Af];omega),q09 (by simp only[Af];omega),q09 (by simp only[Af];omega),L1 _ (by simp only[Af];omega)]
  simp only[zOb]
  rw[u55 (n:=(t.2.2.2.2.2.1.length:Int)) (by omega) (by omega)]
  simp only[zOb]
  rw[q09 (by simp only[Af];omega),L2 _ (by simp only[Af];omega)]
  simp only[zOb]
  rw[q97,t7v (by omega)]
  simp only[zOb]
  rw[q09 (by simp only[Af,u3c];omega),q09 (by simp only[Af,u3c];omega)]
  unfold t1c
  simp only[u8e]
theorem o8n {l:Hu u0h} {t:u0h} (h:t∈l) (hl:(Ty.sl u00).wt l≤549755813888):u00.wt t≤549755813888:=A9 (q2s h) hl
theorem o0f (l:Hu u0h) (hl:(Ty.sl u00).wt l≤549755813888) (hn:l.length≤10000) (h:∀t∈l,TxnR t):s1c l=some (s95 l):=by
 have v1:=u11 (n:=(l.length:Int)) (by omega)
 have L:t0y (l,r8a (l.length:Int),0)=some (.inl (r8a (l.length:Int)++r5l t1c l)):=by
  have:=u9a t0y l (fun(A:Hs) i=>(l,A,i)) (fun A r=>A++t1c r) (fun A=> .inl A) (fun i A=>A.size≤2+i*300)
   (fun A _=>by rw[r5g];simp only[t6x,u0b,Am,Ah,Aa])
   (fun i hi A hP=>by
    have hm:=Ag hi
    have hr:=t9r (h _ hm)
    refine⟨by rw[Af,C7];omega,?_⟩
    rw[r5g];simp only[t6x,u0b,hi,Ae,Ad,y7t hi,zTn,y8k (t:=u00) hi,y7l (show i<4611686018427387904 by omega)]
    rw[r5r _ (o8n hm hl),Al (q5j.mpr (h _ hm))]
    simp only[zOb]
    rw[q09 (by omega)]) (r8a (l.length:Int)) (by omega)
  rw[s0u] at this
  exact this
 rw[p5h];unfold q03
 rw[u55 (by omega) (by omega)]
 simp only[zOb]
 rw[L];rfl
theorem p65 (b:u0j) (hw:j35.wt b≤549755813888):s40 b=some (if u63 b=true then(t9v b,true) else(emp,false)):=by
 have hbw:=r64 b
 rw[p1z];unfold r6j
 rw[t9y b hw]
 simp only[zOb]
 cases hc:u63 b
 ·rfl
 ·have h:=p6a.mp hc
  obtain⟨w1,w2,w3⟩:=o85.mp h.vs
  have hcs:=h.cs;have hx:=h.next;have hp:=h.plen;have hr:=h.rlen
  have q1:=u11 (n:=b.2.2.2.1) (by omega)
  have q2:=u11 (n:=b.2.2.2.2) (by omega)
  have q3:=u11 (n:=(b.1.length:Int)) (by omega)
  have q4:=t8z (f:=o2k) (k:=22) (l:=b.1) (fun v hv=>q5o (w1 v hv))
  have q5:=s3t (l:=b.2.1) (by omega) (fun t ht=>(h.past t ht).1)
  have q6:=s3t (l:=b.2.2.1) (by omega) (fun t ht=>(h.ready t ht).1)
  have L:∀A:Hs,A.size≤1000→u8j (b,A,0)=some (.inl (b,A++r5l o2k b.1)):=fun A hA=>by
   have:=u9a u8j b.1 (fun(A:Hs) i=>(b,A,i)) (fun A r=>A++o2k r) (fun A=> .inl (b,A)) (fun i A=>A.size≤1000+i*22)
    (fun A _=>by rw[r0i];simp only[t3v,u0b,Am,Ah,Aa])
    (fun i hi A hP=>by
     have hm:=w1 _ (Ag hi)
     have hr:=q5o hm
     have hv:=s5c hm
     have s1:=u0y (s:=(b.1[i]).1) (by omega)
     have s2:=u0y (s:=(b.1[i]).2.1) (by omega)
     have s3:=u3c (b.1[i]).2.2.1
     have s4:=u11 (n:=(b.1[i]).2.2.2) (by omega)
     refine⟨by rw[Af,C7];omega,?_⟩
     rw[r0i];simp only[t3v,u0b,hi,Ae,Ad,y7t hi,zTn,y8k (t:=u0e) hi,y7l (show i<4611686018427387904 by omega)]
     rw[t7v (by omega),t7v (by omega),q97,u55 (by omega) (by omega)]
     simp only[zOb]
     rw[q09 (by omega),q09 (by simp only[Af];omega),q09 (by simp only[Af];omega),q09 (by simp only[Af];omega)]
     unfold o2k
     simp only[u8e]) A (by omega)
   rw[s0u] at this
   exact this
  simp only[Ap,Aa,Bl]
  rw[u55 (n:=b.2.2.2.1) (by omega) (by omega),u55 (n:=b.2.2.2.2) (by omega) (by omega),u55 (n:=(b.1.length:Int)) (by omega) (by omega)]
  simp only[zOb]
  rw[q09 (by omega),q09 (by simp only[Af];omega),L _ (by simp only[Af];omega)]
  simp only[zOb]
  rw[o0f b.2.1 (by omega) (by omega) (fun t ht=>(h.past t ht).1),o0f b.2.2.1 (by omega) (by omega) (fun t ht=>(h.ready t ht).1)]
  simp only[zOb]
  rw[q09 (by simp only[Af];omega),q09 (by simp only[Af];omega)]
  unfold t9v
  simp only[u8e]
end
section
theorem s4m (A:Hs) (ns:Hu Int) (hn:∀n∈ns,0≤n∧n<16384) (hl:ns.length≤10) (hA:A.size≤1000000):u5j (z7t A,ns)=some (z7t (A++r5l r8a ns)):=by
 have:=u9a t4g ns (fun(A:Hs) i=>(z7t A,ns,(ns.length:Int),i)) (fun A n=>A++r8a n) (fun A=> .inl (z7t A)) (fun i A=>A.size≤1000000+i*2)
  (fun A _=>by rw[r0f];simp only[t3s,u0b,Am,Ah,Aa])
  (fun i hi A hP=>by
   have hm:=hn _ (Ag hi)
   have hv:=u11 (n:=ns[i]) hm.2
   refine⟨by rw[Af,C7];omega,?_⟩
   rw[r0f];simp only[t3s,u0b,hi,Ae,Ad,y7t hi,zTn,y8k (t:=Ty.int .i64) hi,y7l (show i<4611686018427387904 by omega)]
   rw[o38 hm.1 (by omega)]
   simp only[zOb]
   rw[q5t (by rw[u7f,u7f];omega),t71]) A (by omega)
 rw[s0u] at this
 rw[p1s];unfold r6c
 simp only
 rw[this];rfl
theorem s1p (A:Hs) (ns:Hu Hs) (hn:∀n∈ns,n.size≤100) (hl:ns.length≤10) (hA:A.size≤1000000):u52 (z7t A,ns)=some (z7t (A++r5l u0q ns)):=by
 have:=u9a t2b ns (fun(A:Hs) i=>(z7t A,ns,(ns.length:Int),i)) (fun A n=>A++u0q n) (fun A=> .inl (z7t A)) (fun i A=>A.size≤1000000+i*102)
  (fun A _=>by rw[s69];simp only[t1y,u0b,Am,Ah,Aa])
  (fun i hi A hP=>by
   have hm:=hn _ (Ag hi)
   have hv:=u0y (s:=ns[i]) (by omega)
   refine⟨by rw[Af,C7];omega,?_⟩
   rw[s69];simp only[t1y,u0b,hi,Ae,Ad,y7t hi,zTn,y8k (t:=Ty.str) hi,y7l (show i<4611686018427387904 by omega)]
   rw[o5q (by omega)]
   simp only[zOb]
   rw[q5t (by rw[u7f,u7f];omega),t71]) A (by omega)
 rw[s0u] at this
 rw[q9f];unfold r2s
 simp only
 rw[this];rfl
theorem s6s (A:Hs) (b:Bool) (hA:A.size≤1000000):u7k (z7t A,b)=some (z7t (A++o3b b)):=by
 rw[q9e];unfold r2r
 have e:z7t (o3b b)= [if b then 1 else 0] :=by cases b<;>rfl
 rw[t71,e]
 cases b
 ·simp only[Aa]
  rw[q5t (by rw[u7f];simp;omega)];rfl
 ·simp only[Ad]
  rw[q5t (by rw[u7f];simp;omega)];rfl
theorem q8g (ns:Hu Int) (hn:∀n∈ns,0≤n∧n<16384) (hl:ns.length≤10):u5j (([] :Hu Int),ns)=some (z7t (r5l r8a ns)):=by
 have:=s4m emp ns hn hl (by simp[emp,ByteArray.size])
 rw[o3g] at this
 exact this
theorem r09 {E:Type} (f:E→Hs) (a:E):r5l f [a] =f a:=by rw[s39,p7o,o3a]
theorem q99 {E:Type} (f:E→Hs) (a b:E):r5l f [a,b] =f a++f b:=by rw[s39,r09]
theorem p6b {E:Type} (f:E→Hs) (a b c:E):r5l f [a,b,c] =f a++(f b++f c):=by rw[s39,q99]
theorem o7q {E:Type} (f:E→Hs) (a b c d e:E):r5l f [a,b,c,d,e] =f a++(f b++(f c++(f d++f e))):=by rw[s39,s39,p6b]
theorem s1h (t:u0h) (ht:u00.wt t≤549755813888):t1h t=some (if u60 t=true then(t1c t,true) else(emp,false)):=by
 have hb:u0k=1099511627776:=rfl
 rw[p4c];unfold r9x
 rw[s3r t (by omega)]
 simp only[zOb]
 cases hc:u60 t
 ·rfl
 ·have h:=q5j.mp hc
  obtain⟨z1,z2,z3,z4,z5⟩:=h.small
  have hi:=h.id;have hst:=h.st;have hsn:=h.snap;have hrl:=h.rlen
  have v1:=u11 (n:=t.1) (by omega)
  have v2:=u11 (n:=t.2.1) (by omega)
  have v3:=u11 (n:=t.2.2.1) (by omega)
  have v4:=u11 (n:=t.2.2.2.1) (by omega)
  have v5:=u11 (n:=(t.2.2.2.2.1.length:Int)) (by omega)
  have v6:=u11 (n:=(t.2.2.2.2.2.1.length:Int)) (by omega)
  have v7:=u0y (s:=t.2.2.2.2.2.2.2) (by omega)
  have L1:∀A:Hs,A.size≤1000→t0j (t,z7t A,t.2.2.2.2.1,(t.2.2.2.2.1.length:Int),0)=some (.inl (t,z7t (A++r5l o2q t.2.2.2.2.1))):=fun A hA=>by
   have:=u9a t0j t.2.2.2.2.1 (fun(A:Hs) i=>(t,z7t A,t.2.2.2.2.1,(t.2.2.2.2.1.length:Int),i)) (fun A r=>A++o2q r) (fun A=> .inl (t,z7t A)) (fun i A=>A.size≤1000+i*204)
    (fun A _=>by rw[r4s];simp only[t6b,u0b,Am,Ah,Aa])
    (fun i hi A hP=>by
     have hr:=z1 _ (Ag hi)
     have hs:=q5b (r:=t.2.2.2.2.1[i]) (by omega)
     refine⟨by rw[Af,C7];omega,?_⟩
     rw[r4s];simp only[t6b,u0b,hi,Ae,Ad,y7t hi,zTn,y8k (t:=t2h) hi,y7l (show i<4611686018427387904 by omega)]
     rw[s1p A [(t.2.2.2.2.1[i]).1,(t.2.2.2.2.1[i]).2] (by intro n hn;simp only[A8,Du,Em] at hn;rcases hn with rfl | rfl<;>omega) (by simp) (by omega)]
     simp only[zOb]
     rw[q99];rfl) A (by omega)
   rw[s0u] at this
   exact this
  have L2:∀A:Hs,A.size≤10000→u8i (t,z7t A,t.2.2.2.2.2.1,(t.2.2.2.2.2.1.length:Int),0)=some (.inl (t,z7t (A++r5l wrT t.2.2.2.2.2.1))):=fun A hA=>by
   have:=u9a u8i t.2.2.2.2.2.1 (fun(A:Hs) i=>(t,z7t A,t.2.2.2.2.2.1,(t.2.2.2.2.2.1.length:Int),i)) (fun A r=>A++wrT r) (fun A=> .inl (t,z7t A)) (fun i A=>A.size≤10000+i*304)
    (fun A _=>by rw[r0c];simp only[t3p,u0b,Am,Ah,Aa])
    (fun i hi A hP=>by
     have hr:=z2 _ (Ag hi)
     have q1:=u0y (s:=(t.2.2.2.2.2.1[i]).1) (by omega)
     have q2:=u0y (s:=(t.2.2.2.2.2.1[i]).2.1) (by omega)
     have q3:=u3c (t.2.2.2.2.2.1[i]).2.2
     refine⟨by unfold wrT;simp only[Af,C7];omega,?_⟩
     rw[r0c];simp only[t3p,u0b,hi,Ae,Ad,y7t hi,zTn,y8k (t:=u2m) hi,y7l (show i<4611686018427387904 by omega)]
     rw[s1p A [(t.2.2.2.2.2.1[i]).1,(t.2.2.2.2.2.1[i]).2.1] (by intro n hn;simp only[A8,Du,Em] at hn;rcases hn with rfl | rfl<;>omega) (by simp) (by omega)]
     simp only[zOb]
     rw[q99,s6s _ _ (by simp only[Af];omega)]
     simp only[zOb]
     unfold wrT
     simp only[u8e]) A (by omega)
   rw[s0u] at this
   exact this
  have n1:(r5l o2q t.2.2.2.2.1).size≤t.2.2.2.2.1.length*204:=t8z fun r hr=>q5b (by have:=z1 r hr;omega)
  have n2:(r5l wrT t.2.2.2.2.2.1).size≤t.2.2.2.2.2.1.length*304:=t8z fun w hw=>by
   have:=z2 w hw
   have q1:=u0y (s:=w.1) (by omega)
   have q2:=u0y (s:=w.2.1) (by omega)
   unfold wrT;rw[Af,Af,u3c];omega
  simp only[Ap,Aa,Bl]
  rw[q8g [t.1,t.2.1,t.2.2.1,t.2.2.2.1,(t.2.2.2.2.1.length:Int)] (by intro n hn;simp only[A8,Du,Em] at hn;rcases hn with rfl | rfl | rfl | rfl | rfl<;>omega) (by simp)]
  simp only[zOb]
  rw[o7q,L1 _ (by simp only[Af];omega)]
  simp only[zOb]
  rw[s4m _ [(t.2.2.2.2.2.1.length:Int)] (by intro n hn;simp only[A8,Du,Em] at hn;subst hn;omega) (by simp) (by simp only[Af];omega)]
  simp only[zOb]
  rw[r09,L2 _ (by simp only[Af];omega)]
  simp only[zOb]
  rw[s6s _ _ (by simp only[Af];omega)]
  simp only[zOb]
  rw[s1p _ [t.2.2.2.2.2.2.2] (by intro n hn;simp only[A8,Du,Em] at hn;subst hn;omega) (by simp) (by simp only[Af,u3c];omega)]
  simp only[zOb]
  rw[r09,t7r]
  unfold t1c
  simp only[u8e]
theorem p64 (b:u0j) (hw:j35.wt b≤549755813888):s4n b=some (if u63 b=true then(t9v b,true) else(emp,false)):=by
 have hb:u0k=1099511627776:=rfl
 have hbw:=r64 b
 rw[p1b];unfold r5w
 rw[u9g b (by omega)]
 simp only[zOb]
 cases hc:u63 b
 ·rfl
 ·have h:=p6a.mp hc
  obtain⟨w1,w2,w3⟩:=o85.mp h.vs
  have hcs:=h.cs;have hx:=h.next;have hp:=h.plen;have hr:=h.rlen
  have q1:=u11 (n:=b.2.2.2.1) (by omega)
  have q2:=u11 (n:=b.2.2.2.2) (by omega)
  have q3:=u11 (n:=(b.1.length:Int)) (by omega)
  have q4:=t8z (f:=o2k) (k:=22) (l:=b.1) (fun v hv=>q5o (w1 v hv))
  have q5:=s3t (l:=b.2.1) (by omega) (fun t ht=>(h.past t ht).1)
  have q6:=s3t (l:=b.2.2.1) (by omega) (fun t ht=>(h.ready t ht).1)
  have L:∀A:Hs,A.size≤1000→u8h (b,z7t A,b.1,(b.1.length:Int),0)=some (.inl (b,z7t (A++r5l o2k b.1))):=fun A hA=>by
   have:=u9a u8h b.1 (fun(A:Hs) i=>(b,z7t A,b.1,(b.1.length:Int),i)) (fun A r=>A++o2k r) (fun A=> .inl (b,z7t A)) (fun i A=>A.size≤1000+i*22)
    (fun A _=>by rw[s96];simp only[t3j,u0b,Am,Ah,Aa])
    (fun i hi A hP=>by
     have hm:=w1 _ (Ag hi)
     have hr:=q5o hm
     have hv:=s5c hm
     have s1:=u0y (s:=(b.1[i]).1) (by omega)
     have s2:=u0y (s:=(b.1[i]).2.1) (by omega)
     have s3:=u3c (b.1[i]).2.2.1
     refine⟨by rw[Af,C7];omega,?_⟩
     rw[s96];simp only[t3j,u0b,hi,Ae,Ad,y7t hi,zTn,y8k (t:=u0e) hi,y7l (show i<4611686018427387904 by omega)]
     rw[s1p A [(b.1[i]).1,(b.1[i]).2.1] (by intro n hn;simp only[A8,Du,Em] at hn;rcases hn with rfl | rfl<;>omega) (by simp) (by omega)]
     simp only[zOb]
     rw[q99,s6s _ _ (by simp only[Af];omega)]
     simp only[zOb]
     rw[s4m _ [(b.1[i]).2.2.2] (by intro n hn;simp only[A8,Du,Em] at hn;subst hn;omega) (by simp) (by simp only[Af];omega)]
     simp only[zOb]
     rw[r09]
     unfold o2k
     simp only[u8e]) A (by omega)
   rw[s0u] at this
   exact this
  have IN:∀(A:Hs) (g:Hu (Hu u0h)) (n k:Int) (l:Hu u0h),A.size≤100000→l.length≤100→(Ty.sl u00).wt l≤549755813888→(∀t∈l,TxnR t)→
   u7r (z7t A,g,n,k,l,(l.length:Int),0)=some (.inl (z7t (A++r5l t1c l),g,n,k)):=fun A g n k l hA hl hlw hok=>by
   have:=u9a u7r l (fun(A:Hs) i=>(z7t A,g,n,k,l,(l.length:Int),i)) (fun A r=>A++t1c r) (fun A=> .inl (z7t A,g,n,k)) (fun i A=>A.size≤100000+i*300)
    (fun A _=>by rw[s63];simp only[t1s,u0b,Am,Ah,Aa])
    (fun i hi A hP=>by
     have hm:=Ag hi
     have hr:=t9r (hok _ hm)
     refine⟨by rw[Af,C7];omega,?_⟩
     rw[s63];simp only[t1s,u0b,hi,Ae,Ad,y7t hi,zTn,y8k (t:=u00) hi,y7l (show i<4611686018427387904 by omega)]
     rw[s1h _ (o8n hm hlw),Al (q5j.mpr (hok _ hm))]
     simp only[zOb]
     rw[q5t (by rw[u7f,u7f];omega),t71]) A (by omega)
   rw[s0u] at this
   exact this
  have O:∀A:Hs,A.size≤10000→t18 (z7t A, [b.2.1,b.2.2.1],2,0)=some (.inl (z7t (A++s95 b.2.1++s95 b.2.2.1))):=fun A hA=>by
   have v1:=u11 (n:=(b.2.1.length:Int)) (by omega)
   have v2:=u11 (n:=(b.2.2.1.length:Int)) (by omega)
   have e0:y4q 0 [b.2.1,b.2.2.1].length=true:=rfl
   have e1:y4q 1 [b.2.1,b.2.2.1].length=true:=rfl
   have r0:rdL (Ty.sl u00) [b.2.1,b.2.2.1] (0:Int).toNat=b.2.1:=rfl
   have r1:rdL (Ty.sl u00) [b.2.1,b.2.2.1] (1:Int).toNat=b.2.2.1:=rfl
   have w0:IntKind.i64.wrap ((0:Int)+1)=1:=rfl
   have w1:IntKind.i64.wrap ((1:Int)+1)=2:=rfl
   rw[t9s];simp only[u7o]
   rw[q09 (by omega),e0,r0,s4m A [(b.2.1.length:Int)] (by intro n hn;simp only[A8,Du,Em] at hn;subst hn;omega) (by simp) (by omega)]
   simp only[Ad,zOb]
   rw[r09,IN _ _ _ _ b.2.1 (by simp only[Af];omega) (by omega) (by omega) (fun t ht=>(h.past t ht).1)]
   simp only[zOb]
   rw[w0,t9s];simp only[u7o]
   have n1:(A++r8a (b.2.1.length:Int)++r5l t1c b.2.1).size≤20000:=by
    have:A++r8a (b.2.1.length:Int)++r5l t1c b.2.1=A++s95 b.2.1:=by unfold s95;rw[u8e]
    rw[this,Af];omega
   rw[q09 (by omega),e1,r1,s4m _ [(b.2.2.1.length:Int)] (by intro n hn;simp only[A8,Du,Em] at hn;subst hn;omega) (by simp) (by omega)]
   simp only[Ad,zOb]
   rw[r09,IN _ _ _ _ b.2.2.1 (by rw[Af];omega) (by omega) (by omega) (fun t ht=>(h.ready t ht).1)]
   simp only[zOb]
   rw[w1,t9s];simp only[u7o]
   unfold s95
   simp[u8e]
  simp only[Ap,Aa,Bl]
  rw[q8g [b.2.2.2.1,b.2.2.2.2,(b.1.length:Int)] (by intro n hn;simp only[A8,Du,Em] at hn;rcases hn with rfl | rfl | rfl<;>omega) (by simp)]
  simp only[zOb]
  rw[p6b,L _ (by simp only[Af];omega)]
  simp only[zOb]
  have e2:(([b.2.1,b.2.2.1] :Hu (Hu u0h)).length:Int)=2:=rfl
  rw[e2,O _ (by simp only[Af];omega)]
  simp only[zOb]
  rw[t7r]
  unfold t9v
  simp only[u8e]
end
section
theorem o48 {W:Int×Hs×Int×Int→Ht ((Int×Hs×Int)⊕Unit)}
 (hW:∀x,W x=(bif decide (x.2.2.2<(8:Int)) then(bif decide (Int.tmod x.1 (2:Int)=(1:Int)) then W (IntKind.u32.wrap ((BitVec.ofInt IntKind.u32.bits (IntKind.u32.wrap (Int.tdiv x.1 (2:Int)))^^^BitVec.ofInt IntKind.u32.bits (3558460437:Int)).toNat:Int),x.2.1,x.2.2.1,IntKind.i64.wrap (x.2.2.2+(1:Int)))
  else W (IntKind.u32.wrap (Int.tdiv x.1 (2:Int)),x.2.1,x.2.2.1,IntKind.i64.wrap (x.2.2.2+(1:Int)))) else some (.inl (x.1,x.2.1,x.2.2.1)))) (t:Hs) (k:Int):
 ∀(n:Nat) (x:Int) (i:Nat),i+n=8→W (x,t,k,(i:Int))=some (.inl (p3e n x,t,k)):=by
 intro n
 induction n with
 | zero=>
  intro x i hi
  have:i=8:=by omega
  subst this
  rw[hW];rfl
 | succ n ih=>
  intro x i hi
  rw[hW]
  simp only
  rw[q09 (by omega),y7l (by omega),ih _ (i+1) (by omega),ih _ (i+1) (by omega)]
  rw[show p3e (n+1) x=p3e n (o8l x) from rfl]
  unfold o8l j2s
  cases decide (Int.tmod x 2=1)<;>rfl
theorem o49 (f:Int→UInt8→Int) (t:Hs) {W:Int×Hs×Int→Ht (Int⊕Unit)} (ht:t.size≤1099511627776)
 (hend:∀x,W (x,t,(t.size:Int))=some (.inl x))
 (hstep:∀(i:Nat),i<t.size→ ∀x,W (x,t,(i:Int))=W (f x (t.data.toList.getD i 0),t,((i+1:Nat):Int))) (x:Int):W (x,t,0)=some (.inl (t.data.toList.foldl f x)):=by
 have e:t.size=t.data.toList.length:=q18 t
 exact u9a W t.data.toList (fun x i=>(x,t,i)) f (fun x=> .inl x) (fun _ _=>True) (fun x _=>by rw[←e];exact hend x)
  (fun i hi x _=>⟨trivial,by
   rw[hstep i (by rw[e];exact hi) x]
   congr 2
   rw[A5,A4 hi];rfl⟩) x trivial
theorem p98 (x:Int) (t:Hs) (ht:t.size≤1099511627776):s7r (x,t)=some (t.data.toList.foldl p3f x):=by
 have L:=o49 p3f t (W:=t60) ht
  (fun x=>by rw[r4n];simp only[t56,u0b,Am,Ah,Aa])
  (fun i hi x=>by
   rw[r4n];simp only[t56,u0b,hi,Ae,Ad,y7t hi,zTn]
   have:=o48 (W:=t61) (fun x=>q91 x) t (i:Int) 8 (j2s x (IntKind.u32.wrap ((t.data.toList.getD i 0).toNat:Int))) 0 rfl
   unfold j2s at this
   rw[show((0:Nat):Int)=0 from rfl] at this
   rw[this]
   simp only[zOb,y7l (show i<4611686018427387904 by omega)]
   rfl) x
 rw[p38];unfold r9t
 simp only[L,zOb]
theorem q7k (x:Int) (t:Hs) (ht:t.size≤1099511627776):s72 (x,t)=some (t.data.toList.foldl p3f x):=by
 have L:=o49 p3f t (W:=t66) ht
  (fun x=>by rw[r47];simp only[t6o,u0b,Am,Ah,Aa])
  (fun i hi x=>by
   rw[r47];simp only[t6o,u0b,hi,Ae,Ad,y7t hi,zTn]
   have:=o48 (W:=t67) (fun x=>q93 x) t (i:Int) 8 (j2s x (IntKind.u32.wrap ((t.data.toList.getD i 0).toNat:Int))) 0 rfl
   unfold j2s at this
   rw[show((0:Nat):Int)=0 from rfl] at this
   rw[this]
   simp only[zOb,y7l (show i<4611686018427387904 by omega)]
   rfl) x
 rw[p4x];unfold q0i
 simp only[L,zOb]
theorem s3x (t:Hs) (ht:t.size≤1099511627776):t4q t=some (p3a t):=by
 rw[p7x];unfold q29 p3a
 have e1:decide ((t.size:Int) >20000)= !decide (t.size≤20000):=by by_cases h:t.size≤20000<;>simp[h] <;>omega
 rw[e1,o0r];unfold q7r
 rw[p98 _ _ ht]
 simp only[zOb]
 by_cases h:t.size≤20000
 ·rw[Bb h,Al h]
  simp only[Ap,Aa]
  rw[q09 (by rw[u3q];simp;omega)]
  rfl
 ·rw[A7 h,Ao h];rfl
theorem r05 (t:Hs) (ht:t.size≤1099511627776):t9j t=some (p3a t):=by
 rw[p8g];unfold q3u p3a
 have e1:decide ((t.size:Int) >20000)= !decide (t.size≤20000):=by by_cases h:t.size≤20000<;>simp[h] <;>omega
 rw[e1,q8b];unfold r6t
 rw[q7k _ _ ht]
 simp only[zOb]
 rw[q1c];unfold q0s
 simp only[zOb]
 by_cases h:t.size≤20000
 ·rw[Bb h,Al h]
  simp only[Ap,Aa]
  rw[q09 (by rw[u3q];simp;omega)]
  rfl
 ·rw[A7 h,Ao h];rfl
theorem u94 (k:Int):(y7g [k]).size=1:=u3q _
theorem r8q {k:Int} (h0:0≤k) (h1:k≤255): [IntKind.u8.wrap k] =z7t (y7g [IntKind.u8.wrap k]):=by
 obtain⟨n,rfl⟩:∃n:Nat,k=n:=⟨k.toNat,by omega⟩
 rw[o39,show((n:Int) % 256)=n by omega]
 unfold z7t y7g
 simp
 omega
theorem t2o (r:s5w) (hw:j64.wt r≤549755813888):u3p r=some (u01 r):=by
 have hr:=r74 r
 rw[q6l];unfold s8t u01
 rw[q20 r hw]
 simp only[zOb]
 cases hc:u6j r
 ·rfl
 ·have h:=j06.mp hc
  have hz:=s3s h
  simp only[Ap,Aa,Bl]
  cases h with
  | thr t h hs=>
   have:=t9r h
   have ht:=r5r t (by have:u00.wt t≤j64.wt (1,t,emp,false,u2t):=by rw[hr];simp only;omega
                      omega)
   rw[Al (q5j.mpr h)] at ht
   simp only[Int.reduceEq,Ae,Ah,Ad,Aa]
   rw[ht]
   simp only[zOb]
   rw[q09 (by rw[u94];omega),r05 _ (by rw[Af,u94];omega)]
   rfl
  | rdy t h hs=>
   have:=t9r h
   have ht:=r5r t (by have:u00.wt t≤j64.wt (2,t,emp,false,u2t):=by rw[hr];simp only;omega
                      omega)
   rw[Al (q5j.mpr h)] at ht
   simp only[Int.reduceEq,Ae,Ah,Ad,Aa]
   rw[ht]
   simp only[zOb]
   rw[q09 (by rw[u94];omega),r05 _ (by rw[Af,u94];omega)]
   rfl
  | fin n y h=>
   have:=u29 h
   have q:=u0y (s:=n) (by omega)
   simp only[Int.reduceEq,Ae,Ah,Ad,Aa]
   rw[t7v (by omega)]
   simp only[zOb]
   rw[q09 (by rw[u94];omega),q97]
   simp only[zOb]
   rw[q09 (by simp only[Af,u94,u3c];omega),r05 _ (by simp only[Af,u94,u3c];omega),u8e]
   rfl
  | bas b h=>
   have:=r8p h
   have a1:=(o85.mp h.vs).2.2
   have a2:=h.plen
   have a3:=h.rlen
   have ht:=p65 b (by have:j35.wt b≤j64.wt (4,u4n,emp,false,b):=by rw[hr];simp only;omega
                      omega)
   rw[Al (p6a.mpr h)] at ht
   simp only[Int.reduceEq,Ae,Ah,Ad,Aa]
   rw[ht]
   simp only[zOb]
   rw[q09 (by rw[u94];omega),r05 _ (by rw[Af,u94];omega)]
   rfl
theorem t8c (r:s5w) (hw:j64.wt r≤549755813888):u49 r=some (u01 r):=by
 have hr:=r74 r
 rw[q59];unfold s8h u01
 rw[q2z r hw]
 simp only[zOb]
 cases hc:u6j r
 ·rfl
 ·have h:=j06.mp hc
  have hz:=s3s h
  simp only[Ap,Aa,Bl]
  cases h with
  | thr t h hs=>
   have:=t9r h
   have ht:=s1h t (by have:u00.wt t≤j64.wt (1,t,emp,false,u2t):=by rw[hr];simp only;omega
                      omega)
   rw[Al (q5j.mpr h)] at ht
   simp only[Int.reduceEq,Ae,Ah,Ad,Aa]
   rw[ht]
   simp only[zOb]
   rw[q5t (by rw[u7f];simp;omega),r8q (k:=1) (by omega) (by omega),←t71,t7r,s3x _ (by rw[Af,u94];omega)]
   rfl
  | rdy t h hs=>
   have:=t9r h
   have ht:=s1h t (by have:u00.wt t≤j64.wt (2,t,emp,false,u2t):=by rw[hr];simp only;omega
                      omega)
   rw[Al (q5j.mpr h)] at ht
   simp only[Int.reduceEq,Ae,Ah,Ad,Aa]
   rw[ht]
   simp only[zOb]
   rw[q5t (by rw[u7f];simp;omega),r8q (k:=2) (by omega) (by omega),←t71,t7r,s3x _ (by rw[Af,u94];omega)]
   rfl
  | fin n y h=>
   have:=u29 h
   have q:=u0y (s:=n) (by omega)
   simp only[Int.reduceEq,Ae,Ah,Ad,Aa]
   rw[r8q (k:=3) (by omega) (by omega),s1p _ [n] (by intro m hm;simp only[A8,Du,Em] at hm;subst hm;omega) (by simp) (by rw[u94];omega)]
   simp only[zOb]
   rw[r09,s6s _ _ (by rw[Af,u94];omega)]
   simp only[zOb]
   rw[t7r,s3x _ (by simp only[Af,u94,u3c];omega),u8e]
   rfl
  | bas b h=>
   have:=r8p h
   have a1:=(o85.mp h.vs).2.2
   have a2:=h.plen
   have a3:=h.rlen
   have ht:=p64 b (by have:j35.wt b≤j64.wt (4,u4n,emp,false,b):=by rw[hr];simp only;omega
                      omega)
   rw[Al (p6a.mpr h)] at ht
   simp only[Int.reduceEq,Ae,Ah,Ad,Aa]
   rw[ht]
   simp only[zOb]
   rw[q5t (by rw[u7f];simp;omega),r8q (k:=4) (by omega) (by omega),←t71,t7r,s3x _ (by rw[Af,u94];omega)]
   rfl
end
section
def inT (s:Hs) (c:Cur):Prop:=0≤c.1∧c.1≤(s.size:Int)
def bad (c:Cur) (k:Int):Int:=if c.2=true then k else 0
theorem u16 {s:Hs} {c:Cur} (h:inT s c):inT s (u2l s c).2∧0≤(u2l s c).1∧(u2l s c).1≤1000000000∧c.1+1≤(u2l s c).2.1+bad (u2l s c).2 1:=by
 unfold u2l
 split
 ·refine⟨h,by simp,by simp,?_⟩
  simp only[bad,Bl];omega
 ·rename_i q
  simp only[Hr,Ey,Bool.not_eq_false] at q
  have:=t78 q.2
  refine⟨⟨?_,?_⟩,?_,?_,?_⟩
  ·simp only;omega
  ·simp only;omega
  ·simp only;omega
  ·simp only;omega
  ·simp only[bad,Br,Bk];omega
theorem p5t {t:Hs} {a:Int} (h:(u0o t a).2.2=true):a+1+((u0o t a).1.size:Int)≤(u0o t a).2.1∧0≤a:=by
 unfold u0o at h ⊢
 split at h
 ·rename_i hc
  rw[Al hc]
  have:=t78 hc.1
  simp only[Bd]
  omega
 ·cases h
theorem u72 {s:Hs} {c:Cur} (h:inT s c):inT s (u2s s c).2∧c.1+1+((u2s s c).1.size:Int)≤(u2s s c).2.1+bad (u2s s c).2 1:=by
 unfold u2s
 split
 ·refine⟨h,?_⟩
  simp only[bad,Bl,emp,ByteArray.size];simp
 ·rename_i q
  simp only[Hr,Ey,Bool.not_eq_false] at q
  have h1:=r72 q.2
  have h2:=p5t q.2
  refine⟨⟨?_,?_⟩,?_⟩
  ·simp only;omega
  ·simp only;omega
  ·simp only[bad,Br,Bk];omega
theorem o45 {s:Hs} {c:Cur} (h:inT s c):inT s (q5v s c).2∧c.1+1≤(q5v s c).2.1+bad (q5v s c).2 1:=by
 unfold q5v
 split
 ·refine⟨h,?_⟩
  simp only[bad,Bl];omega
 ·rename_i q
  simp only[Hr,Decidable.not_not] at q
  unfold inT
  simp only[bad,Br,Bk];omega
theorem u8p (c:Cur) {k:Int} (hk:0≤k):0≤bad c k∧bad c k≤k:=by unfold bad;split<;>omega
theorem q4g {c c' :Cur} (h:c.2=true→c'.2=true) {k:Int} (hk:0≤k):bad c k≤bad c' k:=by
 unfold bad
 by_cases q:c.2=true
 ·rw[Al q,Al (h q)];omega
 ·rw[Ao q];split<;>omega
def j1q {E:Type} (w:E→Nat) (k:Int) (s:Hs) (f:Cur→E×Cur):Prop:= ∀c,inT s c→inT s (f c).2∧c.1+1+(w (f c).1:Int)≤(f c).2.1+bad (f c).2 k
theorem t5w {E:Type} {w:E→Nat} {k:Int} {s:Hs} {f:Cur→E×Cur} (hk:0≤k) (hf:j1q w k s f):∀(n:Nat) (c:Cur) (a:Hu E),inT s c→
 inT s (u2v f n c a).2∧c.1+((u2v f n c a).1.length+((u2v f n c a).1.map w).sum:Nat)≤(u2v f n c a).2.1+(a.length+(a.map w).sum:Nat)+bad (u2v f n c a).2 k
 | 0,c,a,h=>⟨h,by have:=u8p (u2v f 0 c a).2 hk;simp only[u2v] at*;omega⟩
 | n+1,c,a,h=>by
  simp only[u2v]
  split
  ·exact⟨h,by have:=u8p c hk;simp only;omega⟩
  ·obtain⟨h1,h2⟩:=hf c h
   obtain⟨h3,h4⟩:=t5w hk hf n (f c).2 (a++ [(f c).1]) h1
   refine⟨h3,?_⟩
   have e1:(a++ [(f c).1]).length=a.length+1:=by simp
   have e2:((a++ [(f c).1]).map w).sum=(a.map w).sum+w (f c).1:=by simp
   rw[e1,e2] at h4
   have hm:bad (f c).2 k≤bad (u2v f n (f c).2 (a++ [(f c).1])).2 k∧(bad (f c).2 k≠0→u2v f n (f c).2 (a++ [(f c).1])=(a++ [(f c).1],(f c).2)):=by
    by_cases q:(f c).2.2=true
    ·rw[t5v q];exact⟨Bv _,fun _=>rfl⟩
    ·have:bad (f c).2 k=0:=by unfold bad;rw[Ao q]
     rw[this];exact⟨(u8p _ hk).1,fun h=>absurd rfl h⟩
   by_cases z:bad (f c).2 k=0
   ·omega
   ·have e:=hm.2 z
    rw[e]
    simp only[e1,e2]
    omega
theorem r7x (s:Hs):j1q t2h.wt 2 s (p89 s):=fun c h=>by
 obtain⟨h1,h2⟩:=u72 h
 obtain⟨h3,h4⟩:=u72 h1
 have b1:=q4g (c:=(u2s s c).2) (c' :=(u2s s (u2s s c).2).2) s90 (k:=1) (by omega)
 have b2:bad (u2s s (u2s s c).2).2 2=2*bad (u2s s (u2s s c).2).2 1:=by unfold bad;split<;>omega
 refine⟨h3,?_⟩
 have e:t2h.wt (p89 s c).1=(u2s s c).1.size+(u2s s (u2s s c).2).1.size:=rfl
 have e2:(p89 s c).2=(u2s s (u2s s c).2).2:=rfl
 rw[e,e2];omega
theorem q5a (s:Hs):j1q u2m.wt 3 s (rWr s):=fun c h=>by
 obtain⟨h1,h2⟩:=u72 h
 obtain⟨h3,h4⟩:=u72 h1
 obtain⟨h5,h6⟩:=o45 h3
 have b1:=q4g (c:=(u2s s c).2) (c' :=(u2s s (u2s s c).2).2) s90 (k:=1) (by omega)
 have b2:=q4g (c:=(u2s s (u2s s c).2).2) (c' :=(q5v s (u2s s (u2s s c).2).2).2) q49 (k:=1) (by omega)
 have b3:bad (q5v s (u2s s (u2s s c).2).2).2 3=3*bad (q5v s (u2s s (u2s s c).2).2).2 1:=by unfold bad;split<;>omega
 refine⟨h5,?_⟩
 have e:u2m.wt (rWr s c).1=(u2s s c).1.size+((u2s s (u2s s c).2).1.size+0):=rfl
 have e2:(rWr s c).2=(q5v s (u2s s (u2s s c).2).2).2:=rfl
 rw[e,e2];omega
theorem r7z (s:Hs):j1q u0e.wt 4 s (p9b s):=fun c h=>by
 obtain⟨h1,h2⟩:=q5a s c h
 obtain⟨h3,h4,h5,h6⟩:=u16 h1
 have b1:=q4g (c:=(rWr s c).2) (c' :=(u2l s (rWr s c).2).2) u96 (k:=3) (by omega)
 have b3:bad (u2l s (rWr s c).2).2 4=bad (u2l s (rWr s c).2).2 1+bad (u2l s (rWr s c).2).2 3:=by unfold bad;split<;>omega
 refine⟨h3,?_⟩
 have e:u0e.wt (p9b s c).1=u2m.wt (rWr s c).1:=rfl
 have e2:(p9b s c).2=(u2l s (rWr s c).2).2:=rfl
 rw[e,e2];omega
theorem p24 (m:Nat) (s:Hs):j1q u00.wt 20 s (p0d m s):=fun c h=>by
 unfold p0d
 simp only
 obtain⟨a1,a2,a3,a4⟩:=u16 h
 generalize hA:u2l s c=A at a1 a2 a3 a4 ⊢
 obtain⟨b1,b2,b3,b4⟩:=u16 a1
 have mB:A.2.2=true→(u2l s A.2).2.2=true:=u96
 generalize hB:u2l s A.2=B at b1 b2 b3 b4 mB ⊢
 obtain⟨d1,d2,d3,d4⟩:=u16 b1
 have mD:B.2.2=true→(u2l s B.2).2.2=true:=u96
 generalize hD:u2l s B.2=D at d1 d2 d3 d4 mD ⊢
 obtain⟨e1,e2,e3,e4⟩:=u16 d1
 have mE:D.2.2=true→(u2l s D.2).2.2=true:=u96
 generalize hE:u2l s D.2=E at e1 e2 e3 e4 mE ⊢
 obtain⟨f1,f2,f3,f4⟩:=u16 e1
 have mF:E.2.2=true→(u2l s E.2).2.2=true:=u96
 generalize hF:u2l s E.2=F at f1 f2 f3 f4 mF ⊢
 obtain⟨g1,g2⟩:=t5w (by omega) (r7x s) (min F.1.toNat m) F.2 [] f1
 have mG:F.2.2=true→(u2v (p89 s) (min F.1.toNat m) F.2 []).2.2=true:=fun q=>by rw[t5v q];exact q
 generalize hG:u2v (p89 s) (min F.1.toNat m) F.2 [] =G at g1 g2 mG ⊢
 obtain⟨k1,k2,k3,k4⟩:=u16 g1
 have mK:G.2.2=true→(u2l s G.2).2.2=true:=u96
 generalize hK:u2l s G.2=K at k1 k2 k3 k4 mK ⊢
 obtain⟨l1,l2⟩:=t5w (by omega) (q5a s) (min K.1.toNat m) K.2 [] k1
 have mL:K.2.2=true→(u2v (rWr s) (min K.1.toNat m) K.2 []).2.2=true:=fun q=>by rw[t5v q];exact q
 generalize hL:u2v (rWr s) (min K.1.toNat m) K.2 [] =L at l1 l2 mL ⊢
 obtain⟨o1,o2⟩:=o45 l1
 have mO:L.2.2=true→(q5v s L.2).2.2=true:=q49
 generalize hO:q5v s L.2=O at o1 o2 mO ⊢
 obtain⟨p1,p2⟩:=u72 o1
 have mP:O.2.2=true→(u2s s O.2).2.2=true:=s90
 generalize hP:u2s s O.2=P at p1 p2 mP ⊢
 refine⟨p1,?_⟩
 have e:u00.wt (A.1,B.1,D.1,E.1,G.1,L.1,O.1,P.1)=0+(0+(0+(0+((Ty.sl t2h).wt G.1+((Ty.sl u2m).wt L.1+(0+P.1.size)))))):=rfl
 have eG:(Ty.sl t2h).wt G.1=G.1.length+(G.1.map t2h.wt).sum:=rfl
 have eL:(Ty.sl u2m).wt L.1=L.1.length+(L.1.map u2m.wt).sum:=rfl
 simp only[Cc,Eh,Gq] at g2 l2
 rw[e,eG,eL]
 by_cases q:P.2.2=true
 ·have:bad P.2 20=20:=by unfold bad;rw[Al q]
  rw[this]
  have t1:=(u8p A.2 (k:=1) (by omega)).2
  have t2:=(u8p B.2 (k:=1) (by omega)).2
  have t3:=(u8p D.2 (k:=1) (by omega)).2
  have t4:=(u8p E.2 (k:=1) (by omega)).2
  have t5:=(u8p F.2 (k:=1) (by omega)).2
  have t6:=(u8p G.2 (k:=2) (by omega)).2
  have t7:=(u8p K.2 (k:=1) (by omega)).2
  have t8:=(u8p L.2 (k:=3) (by omega)).2
  have t9:=(u8p O.2 (k:=1) (by omega)).2
  have t10:=(u8p P.2 (k:=1) (by omega)).2
  omega
 ·have zP:P.2.2=false:=by simpa using q
  have z:∀ {x y:Cur},(x.2=true→y.2=true)→y.2=false→x.2=false:=fun {x y} i j=>by
   cases w:x.2
   ·rfl
   ·rw[i w] at j;cases j
  have zO:=z mP zP
  have zL:=z mO zO
  have zK:=z mL zL
  have zG:=z mK zK
  have zF:=z mG zG
  have zE:=z mF zF
  have zD:=z mE zE
  have zB:=z mD zD
  have zA:=z mB zB
  simp only[bad,zP,zO,zL,zK,zG,zF,zE,zD,zB,zA,Br,Bk] at*
  omega
theorem s9y (m:Nat) (s:Hs):j1q u00.wt 20 s (u6e m s):=fun c h=>by
 obtain⟨h1,h2⟩:=p24 m s c h
 refine⟨h1,?_⟩
 have:bad (p0d m s c).2 20≤bad (u6e m s c).2 20:=q4g (fun q=>by unfold u6e;simp only[q,Dx]) (by omega)
 have e1:(u6e m s c).1=(p0d m s c).1:=rfl
 have e2:(u6e m s c).2.1=(p0d m s c).2.1:=rfl
 rw[e1,e2];omega
end
section
theorem t7c {s:Hs} (c:Cur) (hs:s.size≤u0k):u1d (s,c)=some ((u2l s c).1,s,(u2l s c).2):=by
 rw[q6f];unfold s8n u2l
 simp only[q7g s c.1 hs,zOb]
 cases h1:c.2
 ·cases h2:(u0t s c.1).2.2<;>simp
 ·simp
theorem s1u {s:Hs} (c:Cur) (hs:s.size≤u0k):u19 (s,c)=some ((u2s s c).1,s,(u2s s c).2):=by
 rw[q4r];unfold s52 u2s
 simp only[r9g s c.1 hs,zOb]
 cases h1:c.2
 ·cases h2:(u0o s c.1).2.2
  ·simp[emp]
  ·simp
 ·simp[emp]
theorem gt1 (n:Nat):decide ((n:Int) >1)=decide (1<n):=by simp;omega
theorem eq1 (n:Nat):decide ((n:Int)=1)=decide (n=1):=by simp;omega
theorem q4y {s:Hs} (c:Cur) (hs:s.size≤u0k):u5v (s,c)=some ((q5v s c).1,s,(q5v s c).2):=by
 have hb:u0k=1099511627776:=rfl
 rw[q4q];unfold s51 q5v
 simp only[t9t]
 rw[y4y (n:=(s.size:Int) - 1) (by omega) (by omega)]
 cases h1:c.2
 ·by_cases h2:0≤c.1∧c.1<(s.size:Int)
  ·obtain⟨k,hk⟩:∃k:Nat,c.1=k:=⟨c.1.toNat,by omega⟩
   have e1:r0x c.1 0 ((s.size:Int) - 1)=true:=by rw[s7p];exact Bb (by omega)
   have e2:IntKind.i64.wrap (IntKind.i64.wrap (c.1+1) - 1)=c.1:=by rw[y4y (n:=c.1+1) (by omega) (by omega),y4y (by omega) (by omega)];omega
   have e3:IntKind.i64.wrap (c.1+1)=c.1+1:=y4y (by omega) (by omega)
   rw[hk] at e1 e2 e3 ⊢
   have e4:IntKind.i64.wrap (k:Int)=k:=y4y (by omega) (by omega)
   have e5:IntKind.i64.wrap ((k:Int)+1 - 1)=k:=by rw[y4y (by omega) (by omega)];omega
   simp only[e1,e2,e3,e5,Aa,zOb,Ap,y7t (show k<s.size by omega),Ad,zTn,gt1,eq1]
   rw[show(s.data.toList.getD k 0).toNat=u64 s k from rfl]
   by_cases h3:1<u64 s k
   ·simp[h3]
   ·have h3' :u64 s k≤1:=by omega
    have h4:((k:Int)<(s.size:Int)):=by omega
    simp[h3,h3',show k<s.size by omega,e4,y7t (show k<s.size by omega)]
  ·have e1:r0x c.1 0 ((s.size:Int) - 1)=false:=by rw[s7p];exact A7 (by omega)
   simp only[e1,Aa,zOb,Bh,Ad]
   rw[Al (.inr (.inl h2))]
 ·simp
theorem s1l {E X R U:Type} {s:Hs} (W:X→Ht (R⊕U)) (mk:Cur→Hu E→Int→X) (res:Cur→Hu E→R) (f:Cur→E×Cur) (N:Nat)
 (hf:∀c,inT s c→inT s (f c).2)
 (hend:∀c a (i:Nat),(N≤i∨c.2=true)→W (mk c a (i:Int))=some (.inl (res c a)))
 (hstep:∀c a (i:Nat),i<N→c.2=false→inT s c→a.length≤i→W (mk c a (i:Int))=W (mk (f c).2 (a++ [(f c).1]) ((i+1:Nat):Int))):
 ∀(k i:Nat) c a,i+k=N→inT s c→a.length≤i→W (mk c a (i:Int))=some (.inl (res (u2v f k c a).2 (u2v f k c a).1)):=by
 intro k
 induction k with
 | zero=>intro i c a hi hc ha;exact hend c a i (.inl (by omega))
 | succ k ih=>
  intro i c a hi hc ha
  simp only[u2v]
  split
  ·rename_i q;exact hend c a i (.inr q)
  ·rename_i q
   rw[hstep c a i (by omega) (by simpa using q) hc ha,ih (i+1) _ _ (by omega) (hf c hc) (by simp;omega)]
theorem q4i {n:Int} {i:Nat} {c:Cur} (h:n.toNat≤i∨c.2=true):((bif decide ((i:Int)<n) then some (!c.2) else some false:Ht Bool))=some false:=by
 rcases h with h | h
 ·rw[A7 (by omega)];rfl
 ·rw[h];cases decide ((i:Int)<n)<;>rfl
theorem r65 {n:Int} {i:Nat} {c:Cur} (h:i<n.toNat) (hc:c.2=false):((bif decide ((i:Int)<n) then some (!c.2) else some false:Ht Bool))=some true:=by
 rw[Bb (by omega),hc];rfl
theorem r69 {E:Type} {w:E→Nat} {k:Int} {s:Hs} {f:Cur→E×Cur} (h:j1q w k s f):∀c,inT s c→inT s (f c).2:=fun c hc=>(h c hc).1
theorem o8g {s:Hs} (hs:s.size≤u0k) (t:u0h) (ht:t.2.2.2.2.1= []) {c:Cur} (hc:inT s c):
 u3e ((s,c),t,())=some ((s,(u2v (p89 s) (min (u2l s c).1.toNat 1000000000) (u2l s c).2 []).2),
  (t.1,t.2.1,t.2.2.1,t.2.2.2.1,(u2v (p89 s) (min (u2l s c).1.toNat 1000000000) (u2l s c).2 []).1,t.2.2.2.2.2),()):=by
 obtain⟨h1,h2,h3,h4⟩:=u16 hc
 rw[t5h];unfold u6l
 simp only
 rw[t7c c hs]
 simp only[zOb]
 generalize u2l s c=y at h1 h2 h3 h4 ⊢
 have L:=s1l (s:=s) u09 (fun(c:Cur) (a:Hu s5p) i=>((s,c),(((t.1,t.2.1,t.2.2.1,t.2.2.2.1,a,t.2.2.2.2.2):u0h),()),y.1,i))
  (fun(c:Cur) (a:Hu s5p)=>((s,c),((t.1,t.2.1,t.2.2.1,t.2.2.2.1,a,t.2.2.2.2.2):u0h),())) (p89 s) y.1.toNat (r69 (r7x s))
  (fun c a i h=>by rw[u5w];simp only[u14];rw[q4i h];rfl)
  (fun c a i h hc2 hin ha=>by
   rw[u5w];simp only[u14];rw[r65 h hc2]
   simp only[zOb,Ad]
   rw[q19];unfold s30
   simp only
   rw[s1u c hs]
   simp only[zOb]
   rw[s1u _ hs]
   simp only[zOb]
   rw[q5t (by simp;omega),y7l (by omega)]
   rfl) y.1.toNat 0 y.2 [] (by omega) h1 (by simp)
 rw[show min y.1.toNat 1000000000=y.1.toNat by omega]
 obtain⟨t1,t2,t3,t4,t5,t6⟩:=t
 simp only at ht
 subst ht
 have L' :u09 ((s,y.2),(((t1,t2,t3,t4, [],t6):u0h),()),y.1,0)=some (.inl ((s,(u2v (p89 s) y.1.toNat y.2 []).2),((t1,t2,t3,t4,(u2v (p89 s) y.1.toNat y.2 []).1,t6):u0h),())):=L
 rw[L'];rfl
theorem j0q {s:Hs} (hs:s.size≤u0k) (t:u0h) (ht:t.2.2.2.2.2.1= []) {c:Cur} (hc:inT s c):
 u3f ((s,c),(),t)=some ((s,(u2v (rWr s) (min (u2l s c).1.toNat 1000000000) (u2l s c).2 []).2),(),
  (t.1,t.2.1,t.2.2.1,t.2.2.2.1,t.2.2.2.2.1,(u2v (rWr s) (min (u2l s c).1.toNat 1000000000) (u2l s c).2 []).1,t.2.2.2.2.2.2)):=by
 obtain⟨h1,h2,h3,h4⟩:=u16 hc
 rw[t5i];unfold u6m
 simp only
 rw[t7c c hs]
 simp only[zOb]
 generalize u2l s c=y at h1 h2 h3 h4 ⊢
 have L:=s1l (s:=s) u1a (fun(c:Cur) (a:Hu WrT) i=>((s,c),((),((t.1,t.2.1,t.2.2.1,t.2.2.2.1,t.2.2.2.2.1,a,t.2.2.2.2.2.2):u0h)),y.1,i))
  (fun(c:Cur) (a:Hu WrT)=>((s,c),(),((t.1,t.2.1,t.2.2.1,t.2.2.2.1,t.2.2.2.2.1,a,t.2.2.2.2.2.2):u0h))) (rWr s) y.1.toNat (r69 (q5a s))
  (fun c a i h=>by rw[u5x];simp only[u15];rw[q4i h];rfl)
  (fun c a i h hc2 hin ha=>by
   rw[u5x];simp only[u15];rw[r65 h hc2]
   simp only[zOb,Ad]
   rw[q2a];unfold s31
   simp only
   rw[s1u c hs]
   simp only[zOb]
   rw[s1u _ hs]
   simp only[zOb]
   rw[q4y _ hs]
   simp only[zOb]
   rw[q5t (by simp;omega),y7l (by omega)]
   rfl) y.1.toNat 0 y.2 [] (by omega) h1 (by simp)
 rw[show min y.1.toNat 1000000000=y.1.toNat by omega]
 obtain⟨t1,t2,t3,t4,t5,t6,t7⟩:=t
 simp only at ht
 subst ht
 have L' :u1a ((s,y.2),((),((t1,t2,t3,t4,t5, [],t7):u0h)),y.1,0)=some (.inl ((s,(u2v (rWr s) y.1.toNat y.2 []).2),(),((t1,t2,t3,t4,t5,(u2v (rWr s) y.1.toNat y.2 []).1,t7):u0h))):=L
 rw[L'];rfl
theorem p9j {s:Hs} (hs:s.size≤1048576) {c:Cur} (hc:inT s c):u8x (s,c)=some ((u6e 1000000000 s c).1,s,(u6e 1000000000 s c).2):=by
 have hb:u0k=1099511627776:=rfl
 have hs' :s.size≤u0k:=by omega
 have hw:=p24 1000000000 s c hc
 have hin:=hc
 unfold inT at hin
 have hwt:u00.wt (p0d 1000000000 s c).1≤u0k:=by
  have h1:=hw.1
  unfold inT at h1
  have:=(u8p (p0d 1000000000 s c).2 (k:=20) (by omega)).2
  have:=hw.2
  omega
 have hk:=s3r _ hwt
 rw[q6g];unfold s8o
 unfold u6e
 unfold p0d at hk ⊢
 simp only at hk ⊢
 rw[t7c c hs']
 simp only[zOb]
 have i1:=(u16 hc).1
 rw[t7c _ hs']
 simp only[zOb]
 have i2:=(u16 i1).1
 rw[t7c _ hs']
 simp only[zOb]
 have i3:=(u16 i2).1
 rw[t7c _ hs']
 simp only[zOb]
 have i4:=(u16 i3).1
 rw[o8g hs' _ rfl i4]
 simp only[zOb]
 have i5:=(t5w (by omega) (r7x s) (min (u2l s (u2l s (u2l s (u2l s (u2l s c).2).2).2).2).1.toNat 1000000000) (u2l s (u2l s (u2l s (u2l s (u2l s c).2).2).2).2).2 [] (u16 i4).1).1
 rw[j0q hs' _ rfl i5]
 simp only[zOb]
 rw[q4y _ hs']
 simp only[zOb]
 rw[s1u _ hs']
 simp only[zOb]
 rw[hk]
 simp only[zOb]
 generalize u2s s _=z
 cases h:z.2.2
 ·simp
 ·simp
end
section
def j2c:Lim:=⟨1000000000,1000000000,1000000000,1000000000⟩
theorem j2d:j2c.ok:=⟨by decide,by decide,by decide,by decide⟩
theorem p9a {m k:Nat} {s:Hs} {c:Cur} (h:inT s c):inT s (t1b m k s c).2∧c.1+((Ty.sl u00).wt (t1b m k s c).1:Nat)≤(t1b m k s c).2.1+20+1:=by
 obtain⟨h1,h2,h3,h4⟩:=u16 h
 obtain⟨g1,g2⟩:=t5w (by omega) (s9y m s) (min (u2l s c).1.toNat k) (u2l s c).2 [] h1
 refine⟨g1,?_⟩
 have e:(Ty.sl u00).wt (t1b m k s c).1=(t1b m k s c).1.length+((t1b m k s c).1.map u00.wt).sum:=rfl
 rw[e]
 have t1:=(u8p (u2l s c).2 (k:=1) (by omega)).2
 have t2:=(u8p (u2v (u6e m s) (min (u2l s c).1.toNat k) (u2l s c).2 []).2 (k:=20) (by omega)).2
 unfold t1b
 simp only[Cc,Eh,Gq] at g2
 omega
theorem p88 (m:Lim) {s:Hs} {c:Cur} (h:inT s c):inT s (s9z m s c).2∧(j35.wt (s9z m s c).1:Int)≤(s.size:Int)+100:=by
 unfold s9z
 simp only
 obtain⟨a1,a2,a3,a4⟩:=u16 h
 obtain⟨b1,b2,b3,b4⟩:=u16 a1
 obtain⟨d1,d2,d3,d4⟩:=u16 b1
 obtain⟨g1,g2⟩:=t5w (by omega) (r7z s) (min (u2l s (u2l s (u2l s c).2).2).1.toNat m.v) (u2l s (u2l s (u2l s c).2).2).2 [] d1
 obtain⟨p1,p2⟩:=p9a (m:=m.t) (k:=m.p) g1
 obtain⟨q1,q2⟩:=p9a (m:=m.t) (k:=m.r) p1
 refine⟨q1,?_⟩
 have t1:=(u8p (u2v (p9b s) (min (u2l s (u2l s (u2l s c).2).2).1.toNat m.v) (u2l s (u2l s (u2l s c).2).2).2 []).2 (k:=4) (by omega)).2
 have u1:=(u8p (u2l s c).2 (k:=1) (by omega)).2
 have u2:=(u8p (u2l s (u2l s c).2).2 (k:=1) (by omega)).2
 have u3:=(u8p (u2l s (u2l s (u2l s c).2).2).2 (k:=1) (by omega)).2
 generalize u2v (p9b s) (min (u2l s (u2l s (u2l s c).2).2).1.toNat m.v) (u2l s (u2l s (u2l s c).2).2).2 [] =vs at*
 simp only[Cc,Eh,Gq] at g2
 have e:=r64 (vs.1,(t1b m.t m.p s vs.2).1,(t1b m.t m.r s (t1b m.t m.p s vs.2).2).1,(u2l s c).1,(u2l s (u2l s c).2).1)
 simp only at e
 have eV:(Ty.sl u0e).wt vs.1=vs.1.length+(vs.1.map u0e.wt).sum:=rfl
 unfold inT at q1 h
 rw[e,eV]
 omega
theorem o8q {s:Hs} (hs:s.size≤u0k) (b:u0j) (ht:b.1= []) {c:Cur} (hc:inT s c):
 u22 ((s,c),(),b)=some ((s,(u2v (p9b s) (min (u2l s c).1.toNat 1000000000) (u2l s c).2 []).2),(),
  ((u2v (p9b s) (min (u2l s c).1.toNat 1000000000) (u2l s c).2 []).1,b.2)):=by
 obtain⟨h1,h2,h3,h4⟩:=u16 hc
 rw[t48];unfold u6a
 simp only
 rw[t7c c hs]
 simp only[zOb]
 generalize u2l s c=y at h1 h2 h3 h4 ⊢
 have L:=s1l (s:=s) u05 (fun(c:Cur) (a:Hu u2b) i=>((s,c),((),((a,b.2):u0j)),y.1,i))
  (fun(c:Cur) (a:Hu u2b)=>((s,c),(),((a,b.2):u0j))) (p9b s) y.1.toNat (r69 (r7z s))
  (fun c a i h=>by rw[u5n];simp only[u1v];rw[q4i h];rfl)
  (fun c a i h hc2 hin ha=>by
   rw[u5n];simp only[u1v];rw[r65 h hc2]
   simp only[zOb,Ad]
   rw[r86];unfold s2r
   simp only
   rw[s1u c hs]
   simp only[zOb]
   rw[s1u _ hs]
   simp only[zOb]
   rw[q4y _ hs]
   simp only[zOb]
   rw[t7c _ hs]
   simp only[zOb]
   rw[q5t (by simp;omega),y7l (by omega)]
   rfl) y.1.toNat 0 y.2 [] (by omega) h1 (by simp)
 rw[show min y.1.toNat 1000000000=y.1.toNat by omega]
 obtain⟨b1,b2⟩:=b
 simp only at ht
 subst ht
 have L' :u05 ((s,y.2),((),(([],b2):u0j)),y.1,0)=some (.inl ((s,(u2v (p9b s) y.1.toNat y.2 []).2),(),(((u2v (p9b s) y.1.toNat y.2 []).1,b2):u0j))):=L
 rw[L'];rfl
theorem o75 {s:Hs} (hs:s.size≤1048576) (b:u0j) (ht:b.2.1= []) {c:Cur} (hc:inT s c):
 u23 ((s,c),b,())=some ((s,(t1b 1000000000 1000000000 s c).2),(b.1,(t1b 1000000000 1000000000 s c).1,b.2.2),()):=by
 have hb:u0k=1099511627776:=rfl
 obtain⟨h1,h2,h3,h4⟩:=u16 hc
 rw[t49];unfold u6b t1b
 simp only
 rw[t7c c (by omega)]
 simp only[zOb]
 generalize u2l s c=y at h1 h2 h3 h4 ⊢
 have L:=s1l (s:=s) u06 (fun(c:Cur) (a:Hu u0h) i=>((s,c),(((b.1,a,b.2.2):u0j),()),y.1,i))
  (fun(c:Cur) (a:Hu u0h)=>((s,c),((b.1,a,b.2.2):u0j),())) (u6e 1000000000 s) y.1.toNat (r69 (s9y _ s))
  (fun c a i h=>by rw[u5o];simp only[u1w];rw[q4i h];rfl)
  (fun c a i h hc2 hin ha=>by
   rw[u5o];simp only[u1w];rw[r65 h hc2]
   simp only[zOb,Ad]
   rw[r87];unfold s2s
   simp only
   rw[p9j hs hin]
   simp only[zOb]
   rw[q5t (by simp;omega),y7l (by omega)];rfl) y.1.toNat 0 y.2 [] (by omega) h1 (by simp)
 rw[show min y.1.toNat 1000000000=y.1.toNat by omega]
 obtain⟨b1,b2,b3⟩:=b
 simp only at ht
 subst ht
 have L' :u06 ((s,y.2),(((b1, [],b3):u0j),()),y.1,0)=some (.inl ((s,(u2v (u6e 1000000000 s) y.1.toNat y.2 []).2),((b1,(u2v (u6e 1000000000 s) y.1.toNat y.2 []).1,b3):u0j),())):=L
 rw[L'];rfl
theorem o6e {s:Hs} (hs:s.size≤1048576) (b:u0j) (ht:b.2.2.1= []) {c:Cur} (hc:inT s c):
 u24 ((s,c),b,())=some ((s,(t1b 1000000000 1000000000 s c).2),(b.1,b.2.1,(t1b 1000000000 1000000000 s c).1,b.2.2.2),()):=by
 have hb:u0k=1099511627776:=rfl
 obtain⟨h1,h2,h3,h4⟩:=u16 hc
 rw[t5a];unfold u6c t1b
 simp only
 rw[t7c c (by omega)]
 simp only[zOb]
 generalize u2l s c=y at h1 h2 h3 h4 ⊢
 have L:=s1l (s:=s) u07 (fun(c:Cur) (a:Hu u0h) i=>((s,c),(((b.1,b.2.1,a,b.2.2.2):u0j),()),y.1,i))
  (fun(c:Cur) (a:Hu u0h)=>((s,c),((b.1,b.2.1,a,b.2.2.2):u0j),())) (u6e 1000000000 s) y.1.toNat (r69 (s9y _ s))
  (fun c a i h=>by rw[u5p];simp only[u1x];rw[q4i h];rfl)
  (fun c a i h hc2 hin ha=>by
   rw[u5p];simp only[u1x];rw[r65 h hc2]
   simp only[zOb,Ad]
   rw[r88];unfold s2t
   simp only
   rw[p9j hs hin]
   simp only[zOb]
   rw[q5t (by simp;omega),y7l (by omega)];rfl) y.1.toNat 0 y.2 [] (by omega) h1 (by simp)
 rw[show min y.1.toNat 1000000000=y.1.toNat by omega]
 obtain⟨b1,b2,b3,b4⟩:=b
 simp only at ht
 subst ht
 have L' :u07 ((s,y.2),(((b1,b2, [],b4):u0j),()),y.1,0)=some (.inl ((s,(u2v (u6e 1000000000 s) y.1.toNat y.2 []).2),((b1,b2,(u2v (u6e 1000000000 s) y.1.toNat y.2 []).1,b4):u0j),())):=L
 rw[L'];rfl
theorem o7m {s:Hs} (hs:s.size≤1048576) {c:Cur} (hc:inT s c):t9d (s,c)=some ((t43 j2c s c).1,s,(t43 j2c s c).2):=by
 have hb:u0k=1099511627776:=rfl
 have hs' :s.size≤u0k:=by omega
 have hw:=p88 j2c (s:=s) hc
 have hk:=u9g (s9z j2c s c).1 (by have:=hw.2;omega)
 rw[q4p];unfold s50
 unfold t43
 unfold s9z at hk ⊢
 simp only at hk ⊢
 rw[t7c c hs']
 simp only[zOb]
 have i1:=(u16 hc).1
 rw[t7c _ hs']
 simp only[zOb]
 have i2:=(u16 i1).1
 rw[o8q hs' _ rfl i2]
 simp only[zOb]
 have i3:=(t5w (by omega) (r7z s) (min (u2l s (u2l s (u2l s c).2).2).1.toNat 1000000000) (u2l s (u2l s (u2l s c).2).2).2 [] (u16 i2).1).1
 rw[o75 hs _ rfl i3]
 simp only[zOb]
 have i4:=(p9a (m:=1000000000) (k:=1000000000) i3).1
 rw[o6e hs _ rfl i4]
 simp only[zOb]
 rw[show j2c.v=1000000000 from rfl,show j2c.t=1000000000 from rfl,show j2c.p=1000000000 from rfl,show j2c.r=1000000000 from rfl] at hk ⊢
 rw[hk]
 simp only[zOb]
 generalize t1b 1000000000 1000000000 s (t1b 1000000000 1000000000 s _).2=z
 cases h:z.2.2
 ·simp
 ·simp
end
section
theorem t81 {s:Hs} (c:Cur) (hs:s.size≤u0k):u2z (s,c)=some ((u2l s c).1,s,(u2l s c).2):=by
 rw[p8t];unfold q38 u2l
 simp only[q7h s c.1 hs,zOb]
 cases h1:c.2
 ·cases h2:(u0t s c.1).2.2<;>simp
 ·simp
theorem s1v {s:Hs} (c:Cur) (hs:s.size≤u0k):u13 (s,c)=some ((u2s s c).1,s,(u2s s c).2):=by
 rw[q2d];unfold s37 u2s
 simp only[r9h s c.1 hs,zOb]
 cases h1:c.2
 ·cases h2:(u0o s c.1).2.2
  ·simp[emp]
  ·simp
 ·simp[emp]
theorem q4z {s:Hs} {c:Cur} (hc:inT s c) (hs:s.size≤u0k):u6x (s,c)=some ((q5v s c).1,s,(q5v s c).2):=by
 have hb:u0k=1099511627776:=rfl
 unfold inT at hc
 obtain⟨k,hk⟩:∃k:Nat,c.1=k:=⟨c.1.toNat,by omega⟩
 rw[q6p];unfold s8x q5v
 simp only[hk]
 cases h1:c.2
 ·by_cases h2:k<s.size
  ·have e1:decide ((k:Int)≥(s.size:Int))=false:=A7 (by omega)
   have e3:IntKind.i64.wrap ((k:Int)+1)=(k:Int)+1:=y4y (by omega) (by omega)
   have e5:IntKind.i64.wrap ((k:Int)+1 - 1)=k:=by rw[y4y (by omega) (by omega)];omega
   rw[e1,e3,e5]
   simp only[Aa,zOb,y7t h2,Ad,zTn,gt1,eq1]
   rw[show(s.data.toList.getD k 0).toNat=u64 s k from rfl]
   by_cases h3:1<u64 s k
   ·simp[h3]
   ·have h3' :u64 s k≤1:=by omega
    simp[h3,h3',h2]
  ·have e1:decide ((k:Int)≥(s.size:Int))=true:=Bb (by omega)
   rw[e1]
   simp only[Aa,zOb,Ad]
   rw[Al (.inr (.inl (by omega)))]
 ·simp
theorem p06 {n k:Int} {i:Nat} {c:Cur} (h:min n.toNat k.toNat≤i∨c.2=true):((bif decide ((i:Int)<n) then(bif decide ((i:Int)<k) then some (!c.2) else some false) else some false:Ht Bool))=some false:=by
 rcases h with h | h
 ·by_cases q:(i:Int)<n
  ·rw[Bb q,A7 (show ¬(i:Int)<k by omega)];rfl
  ·rw[A7 q];rfl
 ·rw[h];cases decide ((i:Int)<n)<;>cases decide ((i:Int)<k)<;>rfl
theorem q54 {n k:Int} {i:Nat} {c:Cur} (h:i<min n.toNat k.toNat) (hc:c.2=false):((bif decide ((i:Int)<n) then(bif decide ((i:Int)<k) then some (!c.2) else some false) else some false:Ht Bool))=some true:=by
 rw[Bb (show(i:Int)<n by omega),Bb (show(i:Int)<k by omega),hc];rfl
theorem o8h {s:Hs} (hs:s.size≤u0k) (z t:u0h) (n:Int) {c:Cur} (hc:inT s c) (ht:t.2.2.2.2.1= []):
 t0r (z,(s,c),t,n,0)=some (.inl (z,(s,(u2v (p89 s) (min n.toNat 10) c []).2),(t.1,t.2.1,t.2.2.1,t.2.2.2.1,(u2v (p89 s) (min n.toNat 10) c []).1,t.2.2.2.2.2))):=by
 have L:=s1l (s:=s) t0r (fun(c:Cur) (a:Hu s5p) i=>(z,(s,c),((t.1,t.2.1,t.2.2.1,t.2.2.2.1,a,t.2.2.2.2.2):u0h),n,i))
  (fun(c:Cur) (a:Hu s5p)=>(z,(s,c),((t.1,t.2.1,t.2.2.1,t.2.2.2.1,a,t.2.2.2.2.2):u0h))) (p89 s) (min n.toNat 10) (r69 (r7x s))
  (fun c a i h=>by rw[r44];simp only[t6m];rw[p06 (k:=10) h];rfl)
  (fun c a i h hc2 hin ha=>by
   rw[r44];simp only[t6m];rw[q54 (k:=10) h hc2]
   simp only[zOb,Ad]
   rw[s1v c hs]
   simp only[zOb]
   rw[s1v _ hs]
   simp only[zOb]
   rw[q5t (by simp;omega),y7l (by omega)]
   rfl) (min n.toNat 10) 0 c [] (by omega) hc (by simp)
 obtain⟨t1,t2,t3,t4,t5,t6⟩:=t
 simp only at ht
 subst ht
 exact L
theorem j0r {s:Hs} (hs:s.size≤u0k) (z t:u0h) (n:Int) {c:Cur} (hc:inT s c) (ht:t.2.2.2.2.2.1= []):
 u8l (z,(s,c),t,n,0)=some (.inl (z,(s,(u2v (rWr s) (min n.toNat 10) c []).2),(t.1,t.2.1,t.2.2.1,t.2.2.2.1,t.2.2.2.2.1,(u2v (rWr s) (min n.toNat 10) c []).1,t.2.2.2.2.2.2))):=by
 have L:=s1l (s:=s) u8l (fun(c:Cur) (a:Hu WrT) i=>(z,(s,c),((t.1,t.2.1,t.2.2.1,t.2.2.2.1,t.2.2.2.2.1,a,t.2.2.2.2.2.2):u0h),n,i))
  (fun(c:Cur) (a:Hu WrT)=>(z,(s,c),((t.1,t.2.1,t.2.2.1,t.2.2.2.1,t.2.2.2.2.1,a,t.2.2.2.2.2.2):u0h))) (rWr s) (min n.toNat 10) (r69 (q5a s))
  (fun c a i h=>by rw[r0o];simp only[t32];rw[p06 (k:=10) h];rfl)
  (fun c a i h hc2 hin ha=>by
   rw[r0o];simp only[t32];rw[q54 (k:=10) h hc2]
   simp only[zOb,Ad]
   rw[s1v c hs]
   simp only[zOb]
   rw[s1v _ hs]
   simp only[zOb]
   rw[q4z (u72 (u72 hin).1).1 hs]
   simp only[zOb]
   rw[q5t (by simp;omega),y7l (by omega)]
   rfl) (min n.toNat 10) 0 c [] (by omega) hc (by simp)
 obtain⟨t1,t2,t3,t4,t5,t6,t7⟩:=t
 simp only at ht
 subst ht
 exact L
theorem o5a {s:Hs} (hs:s.size≤1048576) {a:Int} (hc:inT s (a,false)):
 s06 (s,a)=some (if(u6e 10 s (a,false)).2.2=true then(u4n,0,false) else((u6e 10 s (a,false)).1,(u6e 10 s (a,false)).2.1,true)):=by
 have hb:u0k=1099511627776:=rfl
 have hs' :s.size≤u0k:=by omega
 have hw:=p24 10 s (a,false) hc
 have hin:=hc
 unfold inT at hin
 simp only at hin
 have hwt:u00.wt (p0d 10 s (a,false)).1≤u0k:=by
  have h1:=hw.1
  unfold inT at h1
  have:=(u8p (p0d 10 s (a,false)).2 (k:=20) (by omega)).2
  have:=hw.2
  simp only at this
  omega
 have hk:=t7w _ hwt
 rw[p4u];unfold q0f
 unfold u6e
 unfold p0d at hk ⊢
 simp only at hk ⊢
 rw[t81 _ hs']
 simp only[zOb]
 have i1:=(u16 hc).1
 rw[t81 _ hs']
 simp only[zOb]
 have i2:=(u16 i1).1
 rw[t81 _ hs']
 simp only[zOb]
 have i3:=(u16 i2).1
 rw[t81 _ hs']
 simp only[zOb]
 have i4:=(u16 i3).1
 rw[t81 _ hs']
 simp only[zOb]
 have i5:=(u16 i4).1
 rw[o8h hs' _ _ _ i5 rfl]
 simp only[zOb]
 have i6:=(t5w (by omega) (r7x s) (min (u2l s (u2l s (u2l s (u2l s (u2l s (a,false)).2).2).2).2).1.toNat 10) (u2l s (u2l s (u2l s (u2l s (u2l s (a,false)).2).2).2).2).2 [] i5).1
 rw[t81 _ hs']
 simp only[zOb]
 have i7:=(u16 i6).1
 rw[j0r hs' _ _ _ i7 rfl]
 simp only[zOb]
 rw[q4z (t5w (by omega) (q5a s) _ _ [] i7).1 hs']
 simp only[zOb]
 rw[s1v _ hs']
 simp only[zOb]
 rw[hk]
 simp only[zOb]
 generalize u2s s _=z
 generalize u60 _=o
 cases h:z.2.2<;>cases o<;>simp[u4n,emp]
theorem o2i {s:Hs} (hs:s.size≤1048576) (m:Nat) (hm:m≤1000) {c:Cur} (hc:inT s c):
 ∃(l:Hu u0h) (c' :Cur),t2l ((s,c),(m:Int))=some (l,s,c')∧inT s c' ∧c'.2=(t1b 10 (m+1) s c).2.2∧c.1+((Ty.sl u00).wt l:Nat)≤c'.1+22∧(c'.2=false→(l,c')=t1b 10 (m+1) s c):=by
 have hb:u0k=1099511627776:=rfl
 obtain⟨h1,h2,h3,h4⟩:=u16 hc
 rw[q4x];unfold s57 t1b
 simp only
 rw[t81 c (by omega)]
 simp only[zOb]
 generalize u2l s c=y at h1 h2 h3 h4 ⊢
 have key:∀(k i:Nat) (d:Cur) (a:Hu u0h),i+k=min y.1.toNat (m+1)→inT s d→a.length≤i→y.2.1+((a.length+(a.map u00.wt).sum:Nat):Int)≤d.1+bad d 20→
  ∃(r:((Hs×Cur)×Hu u0h)⊕((Hs×Cur)×Hu u0h)) (l:Hu u0h) (c' :Cur),u59 ((s,d),(m:Int),a,y.1,(i:Int))=some r∧(r= .inl ((s,c'),l)∨r= .inr ((s,c'),l))∧inT s c' ∧c'.2=(u2v (u6e 10 s) k d a).2.2∧
   y.2.1+((l.length+(l.map u00.wt).sum:Nat):Int)≤c'.1+bad c' 20∧(c'.2=false→(l,c')=u2v (u6e 10 s) k d a):=by
  intro k
  induction k with
  | zero=>
   intro i d a hi hd ha hw
   refine⟨_,a,d,?_, .inl rfl,hd,rfl,hw,fun _=>rfl⟩
   rw[u8f];simp only[u4l]
   have:(bif decide ((i:Int)<y.1) then(bif decide ((i:Int)≤(m:Int)) then some (!d.2) else some false) else some false:Ht Bool)=some false:=by
    by_cases q:(i:Int)<y.1
    ·rw[Bb q,A7 (show ¬(i:Int)≤m by omega)];rfl
    ·rw[A7 q];rfl
   rw[this];rfl
  | succ k ih=>
   intro i d a hi hd ha hw
   by_cases q:d.2=true
   ·refine⟨_,a,d,?_, .inl rfl,hd,by rw[t5v q],hw,fun z=>by rw[q] at z;cases z⟩
    rw[u8f];simp only[u4l]
    have:(bif decide ((i:Int)<y.1) then(bif decide ((i:Int)≤(m:Int)) then some (!d.2) else some false) else some false:Ht Bool)=some false:=by
     rw[q];cases decide ((i:Int)<y.1)<;>cases decide ((i:Int)≤(m:Int))<;>rfl
    rw[this];rfl
   ·have q' :d.2=false:=by simpa using q
    have ed:d=(d.1,false):=by rw[←q']
    have hx:=o5a hs (a:=d.1) (by rw[←ed];exact hd)
    rw[←ed] at hx
    have he:=s9y 10 s d hd
    have hbd:bad d 20=0:=by unfold bad;rw[Ao q]
    have c1:(bif decide ((i:Int)<y.1) then(bif decide ((i:Int)≤(m:Int)) then some (!d.2) else some false) else some false:Ht Bool)=some true:=by
     rw[Bb (show(i:Int)<y.1 by omega),Bb (show(i:Int)≤m by omega),q'];rfl
    simp only[u2v]
    rw[Ao q]
    cases z:(u6e 10 s d).2.2
    ·rw[Ao (by rw[z];simp)] at hx
     have hbz:bad (u6e 10 s d).2 20=0:=by unfold bad;rw[Ao (by rw[z];simp)]
     obtain⟨r,l,c',e1,e2,e3,e4,e5,e6⟩:=ih (i+1) (u6e 10 s d).2 (a++ [(u6e 10 s d).1]) (by omega) he.1 (by simp;omega) (by
      have:=he.2
      rw[hbd] at hw
      rw[hbz] at this ⊢
      simp only[Ba,Aw,Dh,C8,Eh,Fn,Ge,Gq]
      omega)
     refine⟨r,l,c',?_,e2,e3,e4,e5,e6⟩
     rw[←e1,u8f];simp only[u4l]
     rw[c1]
     simp only[zOb,Ad]
     rw[hx]
     simp only[zOb,Ap,Aa]
     rw[q5t (by simp;omega),y7l (by omega),q']
     have:(u6e 10 s d).2=((u6e 10 s d).2.1,false):=by rw[←z]
     rw[this]
    ·rw[Al z] at hx
     refine⟨_,a,(d.1,true),?_, .inr rfl,hd,by rw[t5v z,z],?_,fun w=>by cases w⟩
     ·rw[u8f];simp only[u4l]
      rw[c1]
      simp only[zOb,Ad]
      rw[hx]
      rfl
     ·rw[hbd] at hw
      have:bad ((d.1,true):Cur) 20=20:=rfl
      rw[this];simp only;omega
 have hb0:0≤bad y.2 20:=(u8p _ (by omega)).1
 obtain⟨r,l,c',e1,e2,e3,e4,e5,e6⟩:=key (min y.1.toNat (m+1)) 0 y.2 [] (by omega) h1 (by simp) (by simp only[Cc,Eh,Gq];omega)
 have e1' :u59 ((s,y.2),(m:Int), [],y.1,0)=some r:=e1
 refine⟨l,c',?_,e3,e4,?_,e6⟩
 ·rw[e1']
  rcases e2 with e2 | e2<;>rw[e2] <;>rfl
 ·have e:(Ty.sl u00).wt l=l.length+(l.map u00.wt).sum:=rfl
  rw[e]
  have t1:=(u8p y.2 (k:=1) (by omega)).2
  have t2:=(u8p c' (k:=20) (by omega)).2
  omega
def o9t:Lim:=⟨10,130,13,4⟩
theorem j2e:o9t.ok:=⟨by decide,by decide,by decide,by decide⟩
theorem o8r {s:Hs} (hs:s.size≤u0k) (z b:u0j) (n:Int) {c:Cur} (hc:inT s c) (ht:b.1= []):
 u8k (z,(s,c),b,n,0)=some (.inl (z,(s,(u2v (p9b s) (min n.toNat 130) c []).2),((u2v (p9b s) (min n.toNat 130) c []).1,b.2))):=by
 have L:=s1l (s:=s) u8k (fun(c:Cur) (a:Hu u2b) i=>(z,(s,c),((a,b.2):u0j),n,i))
  (fun(c:Cur) (a:Hu u2b)=>(z,(s,c),((a,b.2):u0j))) (p9b s) (min n.toNat 130) (r69 (r7z s))
  (fun c a i h=>by rw[r0n];simp only[t30];rw[p06 (k:=130) h];rfl)
  (fun c a i h hc2 hin ha=>by
   rw[r0n];simp only[t30];rw[q54 (k:=130) h hc2]
   simp only[zOb,Ad]
   rw[s1v c hs]
   simp only[zOb]
   rw[s1v _ hs]
   simp only[zOb]
   rw[q4z (u72 (u72 hin).1).1 hs]
   simp only[zOb]
   rw[t81 _ hs]
   simp only[zOb]
   rw[q5t (by simp;omega),y7l (by omega)]
   rfl) (min n.toNat 130) 0 c [] (by omega) hc (by simp)
 obtain⟨b1,b2⟩:=b
 simp only at ht
 subst ht
 exact L
theorem o7n {s:Hs} (hs:s.size≤1048576) {a:Int} (hc:inT s (a,false)):
 s43 (s,a)=some (if(t43 o9t s (a,false)).2.2=true then(u2t,0,false) else((t43 o9t s (a,false)).1,(t43 o9t s (a,false)).2.1,true)):=by
 have hb:u0k=1099511627776:=rfl
 have hs' :s.size≤u0k:=by omega
 have hw:=p88 o9t (s:=s) hc
 have hk:=t9y (s9z o9t s (a,false)).1 (by have:=hw.2;omega)
 rw[p15];unfold r6p
 unfold t43
 unfold s9z at hk ⊢
 simp only at hk ⊢
 rw[t81 _ hs']
 simp only[zOb]
 have i1:=(u16 hc).1
 rw[t81 _ hs']
 simp only[zOb]
 have i2:=(u16 i1).1
 rw[t81 _ hs']
 simp only[zOb]
 have i3:=(u16 i2).1
 rw[o8r hs' _ _ _ i3 rfl]
 simp only[zOb]
 have i4f:=t5w (by omega) (r7z s) (min (u2l s (u2l s (u2l s (a,false)).2).2).1.toNat 130) (u2l s (u2l s (u2l s (a,false)).2).2).2 [] i3
 rw[show o9t.v=130 from rfl,show o9t.t=10 from rfl,show o9t.p=12+1 from rfl,show o9t.r=3+1 from rfl] at hk ⊢
 generalize hvs:u2v (p9b s) (min (u2l s (u2l s (u2l s (a,false)).2).2).1.toNat 130) (u2l s (u2l s (u2l s (a,false)).2).2).2 [] =vs at hk i4f ⊢
 obtain⟨i4,i4w⟩:=i4f
 obtain⟨l1,d1,e1,e2,e3,e4,e5⟩:=o2i hs 12 (by omega) i4
 obtain⟨l2,d2,f1,f2,f3,f4,f5⟩:=o2i hs 3 (by omega) e2
 rw[show((12:Nat):Int)=12 from rfl] at e1
 rw[show((3:Nat):Int)=3 from rfl] at f1
 rw[e1]
 simp only[zOb]
 rw[f1]
 simp only[zOb]
 cases z:d2.2
 ·have z1:d1.2=false:=by
   cases w:d1.2
   ·rfl
   ·have:(t1b 10 (3+1) s d1).2.2=true:=r7y w
    rw[←f3,z] at this;cases this
  have g1:=e5 z1
  have g2:=f5 z
  rw[←g1]
  rw[←g1] at hk
  simp only at hk ⊢
  rw[←g2]
  rw[←g2] at hk
  simp only at hk ⊢
  rw[hk]
  simp only[zOb,z,Aa,Ci]
  generalize u63 _=o
  cases o<;>simp[u2t]
 ·have zz:(t1b 10 (3+1) s (t1b 10 (12+1) s vs.2).2).2.2=true:=by
   cases w:d1.2
   ·have g1:=e5 w
    rw[←g1]
    show(t1b 10 (3+1) s d1).2.2=true
    rw[←f3];exact z
   ·exact r7y (by rw[←e3];exact w)
  rw[zz]
  simp[u2t]
theorem p7f (t:Hs) (ht:t.size≤u0k):s4t t=some (match t4z t with
 | some s=>(s,true)
 | none=>(emp,false)):=by
 have hb:u0k=1099511627776:=rfl
 rw[p1m];unfold r56 t4z
 by_cases h4:t.size<4
 ·rw[Bb (by omega),Ao (by omega)];rfl
 ·rw[A7 (by omega),y4y (n:=(t.size:Int) - 4) (by omega) (by omega)]
  have c1:(decide ((0:Int)≤0)&&decide ((0:Int)≤(t.size:Int) - 4)&&decide ((t.size:Int) - 4≤(t.size:Int)))=true:=by simp;omega
  have e1:((t.size:Int) - 4).toNat=t.size - 4:=by omega
  rw[c1,e1,show((0:Int)).toNat=0 from rfl]
  have hz:(t.extract 0 (t.size - 4)).size=t.size - 4:=by simp
  simp only[Aa,Ad]
  rw[s3x _ (by rw[hz];omega)]
  simp only[zOb]
  unfold p3a
  rw[hz]
  by_cases h5:t.size - 4≤20000
  ·rw[Al h5]
   simp only[Ap,Aa,zOb]
   by_cases h6:s91 (t.extract 0 (t.size - 4))=t
   ·rw[Al ⟨by omega,h5,h6⟩,y7f.mpr h6];rfl
   ·rw[Ao (fun q=>h6 q.2.2),o32.mpr h6];rfl
  ·rw[Ao h5,Ao (fun q=>h5 q.2.1)];rfl
theorem o1z {t:Hs} (h:4≤t.size):s91 (t.extract 0 (t.size - 4))=t↔t.extract (t.size - 4) t.size=j5z (j2m (t.extract 0 (t.size - 4))):=by
 have e:t.extract 0 (t.size - 4)++t.extract (t.size - 4) t.size=t:=by
  rw[ByteArray.extract_append_extract,Nat.zero_min,Nat.max_eq_right (by omega)]
  exact Fu
 unfold s91
 constructor
 ·intro q
  have:=e.trans q.symm
  exact ByteArray.append_right_inj (t.extract 0 (t.size - 4)) |>.mp this
 ·intro q;rw[←q,e]
theorem o5r (t:Hs) (ht:t.size≤1099511627776):s6y t=some (j2m t):=by
 rw[q8b];unfold r6t
 rw[q7k _ _ ht];rfl
theorem o61 (x:Int):s1a x=some (j5z x):=by
 rw[q1c];rfl
theorem p7g (t:Hs) (ht:t.size≤u0k):s45 t=some (match t4z t with
 | some s=>(s,true)
 | none=>(emp,false)):=by
 have hb:u0k=1099511627776:=rfl
 rw[p19];unfold r6u t4z
 rw[y4y (n:=(t.size:Int) - 4) (by omega) (by omega)]
 by_cases h4:t.size<4
 ·rw[Bb (show(t.size:Int) - 4<0 by omega),Ao (by omega)];rfl
 ·rw[A7 (show ¬(t.size:Int) - 4<0 by omega)]
  have c1:(decide ((0:Int)≤0)&&decide ((0:Int)≤(t.size:Int) - 4)&&decide ((t.size:Int) - 4≤(t.size:Int)))=true:=by simp;omega
  have c2:(decide ((0:Int)≤(t.size:Int) - 4)&&decide ((t.size:Int) - 4≤(t.size:Int))&&decide ((t.size:Int)≤(t.size:Int)))=true:=by simp;omega
  have e1:((t.size:Int) - 4).toNat=t.size - 4:=by omega
  rw[c1,c2,e1,show((0:Int)).toNat=0 from rfl,zTn]
  have hz:(t.extract 0 (t.size - 4)).size=t.size - 4:=by simp
  simp only[Aa,Ad]
  by_cases h5:t.size - 4≤20000
  ·rw[A7 (show ¬(t.size:Int) - 4 >20000 by omega),o5r _ (by rw[hz];omega)]
   simp only[zOb,Aa]
   rw[o61]
   simp only[zOb]
   by_cases h6:s91 (t.extract 0 (t.size - 4))=t
   ·rw[Al ⟨by omega,h5,h6⟩,(o1z (by omega)).mp h6,y6l];rfl
   ·rw[Ao (fun q=>h6 q.2.2),o32.mpr (mt (o1z (t:=t) (by omega)).mpr h6)];rfl
  ·rw[Bb (show(t.size:Int) - 4 >20000 by omega),Ao (fun q=>h5 q.2.1)];rfl
end
section
def noR:s5w:=(0,u4n,emp,false,u2t)
def t5x (t:Hs):s5w×Bool:=match u4m t with
 | some r=>(r,true)
 | none=>(noR,false)
theorem j0a {t:Hs} {r:s5w} (h:u01 r=(t,true)):u4m t=some r:=by
 have hr:u6j r=true:=by
  cases q:u6j r with
  | true=>rfl
  | false=>
   unfold u01 at h
   rw[Ao (by simp[q])] at h
   simp at h
 have hR:=j06.mp hr
 rw[u9e hR] at h
 rw[←(Dv h).1]
 exact r70 hR
theorem o99 {t s:Hs} {r:s5w} (hu:t4z t=some s) (h:u4m t=some r):RecR r∧s=s8b r∧u01 r=(t,true):=by
 obtain⟨h1,h2⟩:=q5c h
 have hs:=s3s h1
 have:=q5k (t:=s8b r) (by omega)
 rw[←h2,hu] at this
 exact⟨h1,Ds this,by rw[u9e h1,←h2]⟩
theorem r8r {t s:Hs} {r' :s5w} {b:Bool} (hu:t4z t=some s) (hr:∀r,RecR r→s=s8b r→r' =r∧b=false):
 (((bif b then some true else(bif (!(u01 r').2) then some true else some (!z7o (u01 r').1 t))):Ht Bool).bind fun j=>bif j then some (noR,false) else some (r',true))=some (t5x t):=by
 unfold t5x
 cases h:u4m t with
 | some r=>
  obtain⟨h1,h2,h3⟩:=o99 hu h
  obtain⟨e1,e2⟩:=hr r h1 h2
  subst e1
  rw[e2,h3]
  simp only[Aa,Ap,y6l,zOb]
 | none=>
  cases b
  ·cases h2:(u01 r').2
   ·rfl
   ·have:z7o (u01 r').1 t=false:=by
     rw[o32]
     intro e
     have:=j0a (t:=t) (r:=r') (by rw[←e,←h2])
     rw[h] at this;cases this
    rw[this];rfl
  ·rfl
theorem o4p (s:Hs):((s.data.toList.getD 0 0).toNat:Int)=(u64 s 0:Int):=rfl
theorem o0k (s:Hs) (i:Nat):u64 s i<256:=by unfold u64;exact Fw _
theorem q5l {t s:Hs} (h:t4z t=some s):s.size≤20000:=by
 unfold t4z at h
 split at h
 ·rename_i q
  have:=Ds h
  rw[←this];simp;omega
 ·cases h
theorem j97 (k:Nat):decide ((k:Int)=3)=decide (k=3):=by simp;omega
theorem j98 (k:Nat):decide ((k:Int)=4)=decide (k=4):=by simp;omega
theorem q5s:u00.wt u4n=0:=rfl
theorem q5r:j35.wt u2t=0:=rfl
theorem o4y (m:Nat) {s:Hs} (hs:s.size≤20000) (h1:1≤s.size):u00.wt (u6e m s (1,false)).1≤30000:=by
 have h:=s9y m s (1,false) ⟨by simp,by simp;omega⟩
 have h2:=h.1
 unfold inT at h2
 have:=(u8p (u6e m s (1,false)).2 (k:=20) (by omega)).2
 have:=h.2
 simp only at this
 omega
theorem o1l (m:Lim) {s:Hs} (hs:s.size≤20000) (h1:1≤s.size):j35.wt (t43 m s (1,false)).1≤30000:=by
 have h:=p88 m (s:=s) (c:=(1,false)) ⟨by simp,by simp;omega⟩
 have e:(t43 m s (1,false)).1=(s9z m s (1,false)).1:=rfl
 rw[e];have:=h.2;omega
theorem p0o (t:Hs) (ht:t.size≤u0k):t92 t=some (t5x t):=by
 have hb:u0k=1099511627776:=rfl
 rw[q57];unfold s8f
 rw[p7f t ht]
 simp only[zOb]
 cases hu:t4z t with
 | none=>
  unfold t5x u4m
  rw[hu];rfl
 | some s=>
  have hs:=q5l hu
  simp only[t4o]
  by_cases h0:s.size=0
  ·unfold t5x u4m
   rw[hu]
   simp only
   rw[Al h0,Bb h0];rfl
  ·have hin:inT s (1,false):=⟨by simp,by simp;omega⟩
   rw[A7 h0]
   simp only[Ap,Aa,zOb]
   rw[show y4q (0:Int) s.size=true from y7t (i:=0) (by omega)]
   simp only[Ad,show((0:Int)).toNat=0 from rfl,o4p]
   rw[y4y (n:=(u64 s 0:Int)) (by omega) (by have:=o0k s 0;omega),j97,j98]
   by_cases h3:u64 s 0=3
   ·rw[Bb h3,s1u _ (by omega)]
    simp only[Ad,zOb]
    rw[q4y _ (by omega)]
    simp only[zOb]
    have hf:=(u72 hin).2
    have hg:=(u72 hin).1
    unfold inT at hg
    have:=(u8p (u2s s (1,false)).2 (k:=1) (by omega)).2
    simp only at hf
    have hk:=t8c ((u64 s 0:Int),u4n,(u2s s (1,false)).1,(q5v s (u2s s (1,false)).2).1,u2t) (by rw[r74];simp only[q5s,q5r];omega)
    rw[show((0:Int),(0:Int),(0:Int),(0:Int),([] :Hu s5p),([] :Hu WrT),false,(⟨#[]⟩:Hs))=u4n from rfl]
    rw[show(([] :Hu u2b),([] :Hu u0h),([] :Hu u0h),(0:Int),(0:Int))=u2t from rfl]
    rw[hk]
    simp only[zOb]
    refine r8r hu (b:=(q5v s (u2s s (1,false)).2).2.2) fun r h1 h2=> ?_
    have:=s0a h1
    rw[←h2] at this
    unfold t2m at this
    rw[Al h3] at this
    rw[h3]
    exact⟨(Dv this).1,(Dv this).2⟩
   ·rw[A7 h3]
    by_cases h4:u64 s 0=4
    ·rw[Bb h4,o7m (by omega) hin]
     simp only[Ad,Aa,zOb]
     have hk:=t8c ((u64 s 0:Int),u4n,emp,false,(t43 j2c s (1,false)).1) (by rw[r74];simp only[q5s];have:=o1l j2c hs (by omega);simp only[emp,ByteArray.size];simp;omega)
     rw[show((0:Int),(0:Int),(0:Int),(0:Int),([] :Hu s5p),([] :Hu WrT),false,(⟨#[]⟩:Hs))=u4n from rfl]
     rw[show(([] :Hu u2b),([] :Hu u0h),([] :Hu u0h),(0:Int),(0:Int))=u2t from rfl]
     rw[show((⟨#[]⟩:Hs))=emp from rfl]
     rw[hk]
     simp only[zOb]
     refine r8r hu (b:=(t43 j2c s (1,false)).2.2) fun r h1 h2=> ?_
     have:=s0a h1
     rw[←h2] at this
     unfold t2m at this
     rw[Ao h3,Al h4] at this
     have hl:=p6n o3p j2d (Dv this).2
     rw[h4,hl]
     exact⟨(Dv this).1,(Dv this).2⟩
    ·rw[A7 h4,p9j (by omega) hin]
     simp only[Ad,Aa,zOb]
     have hk:=t8c ((u64 s 0:Int),(u6e 1000000000 s (1,false)).1,emp,false,u2t) (by rw[r74];simp only[q5r];have:=o4y 1000000000 hs (by omega);simp only[emp,ByteArray.size];simp;omega)
     rw[show((0:Int),(0:Int),(0:Int),(0:Int),([] :Hu s5p),([] :Hu WrT),false,(⟨#[]⟩:Hs))=u4n from rfl]
     rw[show(([] :Hu u2b),([] :Hu u0h),([] :Hu u0h),(0:Int),(0:Int))=u2t from rfl]
     rw[show((⟨#[]⟩:Hs))=emp from rfl]
     rw[hk]
     simp only[zOb]
     refine r8r hu (b:=(u6e 1000000000 s (1,false)).2.2) fun r h1 h2=> ?_
     have:=s0a h1
     rw[←h2] at this
     unfold t2m at this
     rw[Ao h3,Ao h4] at this
     have hl:=p2z (m:=9) (m' :=1000000000) (by omega) (by omega) (Dv this).2
     rw[hl]
     exact⟨(Dv this).1,(Dv this).2⟩
theorem p0p (t:Hs) (ht:t.size≤u0k):t96 t=some (t5x t):=by
 have hb:u0k=1099511627776:=rfl
 rw[q6j];unfold s8r
 rw[p7g t ht]
 simp only[zOb]
 cases hu:t4z t with
 | none=>
  unfold t5x u4m
  rw[hu];rfl
 | some s=>
  have hs:=q5l hu
  simp only[t4o]
  by_cases h0:s.size=0
  ·unfold t5x u4m
   rw[hu]
   simp only
   rw[Al h0,Bb h0];rfl
  ·have hin:inT s (1,false):=⟨by simp,by simp;omega⟩
   rw[A7 h0]
   simp only[Ap,Aa,zOb]
   rw[show y4q (0:Int) s.size=true from y7t (i:=0) (by omega)]
   simp only[Ad,show((0:Int)).toNat=0 from rfl,o4p]
   rw[y4y (n:=(u64 s 0:Int)) (by omega) (by have:=o0k s 0;omega),j97,j98]
   by_cases h3:u64 s 0=3
   ·rw[Bb h3,s1v _ (by omega)]
    simp only[Ad,zOb]
    rw[q4z (u72 hin).1 (by omega)]
    simp only[zOb]
    have hf:=(u72 hin).2
    have hg:=(u72 hin).1
    unfold inT at hg
    have:=(u8p (u2s s (1,false)).2 (k:=1) (by omega)).2
    simp only at hf
    have hk:=t2o ((u64 s 0:Int),u4n,(u2s s (1,false)).1,(q5v s (u2s s (1,false)).2).1,u2t) (by rw[r74];simp only[q5s,q5r];omega)
    rw[show((0:Int),(0:Int),(0:Int),(0:Int),([] :Hu s5p),([] :Hu WrT),false,(⟨#[]⟩:Hs))=u4n from rfl]
    rw[show(([] :Hu u2b),([] :Hu u0h),([] :Hu u0h),(0:Int),(0:Int))=u2t from rfl]
    rw[hk]
    simp only[zOb]
    refine r8r hu (b:=false) fun r h1 h2=> ?_
    have:=s0a h1
    rw[←h2] at this
    unfold t2m at this
    rw[Al h3] at this
    rw[h3]
    exact⟨(Dv this).1,rfl⟩
   ·rw[A7 h3]
    by_cases h4:u64 s 0=4
    ·rw[Bb h4,o7n (by omega) hin]
     simp only[Ad,Aa,zOb]
     generalize hy:(if(t43 o9t s (1,false)).2.2=true then(u2t,(0:Int),false) else((t43 o9t s (1,false)).1,(t43 o9t s (1,false)).2.1,true))=y
     have hyw:j35.wt y.1≤30000:=by
      rw[←hy]
      split
      ·rw[q5r];omega
      ·exact o1l o9t hs (by omega)
     have hk:=t2o ((u64 s 0:Int),u4n,emp,false,y.1) (by rw[r74];simp only[q5s];simp only[emp,ByteArray.size];simp;omega)
     rw[show((0:Int),(0:Int),(0:Int),(0:Int),([] :Hu s5p),([] :Hu WrT),false,(⟨#[]⟩:Hs))=u4n from rfl]
     rw[show(([] :Hu u2b),([] :Hu u0h),([] :Hu u0h),(0:Int),(0:Int))=u2t from rfl]
     rw[show((⟨#[]⟩:Hs))=emp from rfl]
     rw[hk]
     simp only[zOb]
     refine r8r hu (b:=false) fun r h1 h2=> ?_
     have:=s0a h1
     rw[←h2] at this
     unfold t2m at this
     rw[Ao h3,Al h4] at this
     have hl:=p6n o3p j2e (Dv this).2
     rw[hl,Ao (by rw[(Dv this).2];simp)] at hy
     rw[h4,←hy]
     exact⟨(Dv this).1,rfl⟩
    ·rw[A7 h4,o5a (by omega) hin]
     simp only[Ad,Aa,zOb]
     generalize hy:(if(u6e 10 s (1,false)).2.2=true then(u4n,(0:Int),false) else((u6e 10 s (1,false)).1,(u6e 10 s (1,false)).2.1,true))=y
     have hyw:u00.wt y.1≤30000:=by
      rw[←hy]
      split
      ·rw[q5s];omega
      ·exact o4y 10 hs (by omega)
     have hk:=t2o ((u64 s 0:Int),y.1,emp,false,u2t) (by rw[r74];simp only[q5r];simp only[emp,ByteArray.size];simp;omega)
     rw[show((0:Int),(0:Int),(0:Int),(0:Int),([] :Hu s5p),([] :Hu WrT),false,(⟨#[]⟩:Hs))=u4n from rfl]
     rw[show(([] :Hu u2b),([] :Hu u0h),([] :Hu u0h),(0:Int),(0:Int))=u2t from rfl]
     rw[show((⟨#[]⟩:Hs))=emp from rfl]
     rw[hk]
     simp only[zOb]
     refine r8r hu (b:=false) fun r h1 h2=> ?_
     have:=s0a h1
     rw[←h2] at this
     unfold t2m at this
     rw[Ao h3,Ao h4] at this
     have hl:=p2z (m:=9) (m' :=10) (by omega) (by omega) (Dv this).2
     rw[hl,Ao (by rw[(Dv this).2];simp)] at hy
     rw[←hy]
     exact⟨(Dv this).1,rfl⟩
end
section
theorem o2w (l:Hu u0h) (c:Hs) (hl:l.length≤8388608):u2e (l,c)=some (l.filter fun x=> !z7o x.2.2.2.2.2.2.2 c):=by
 have hq:∀x∈l,u7i (x,c)=some (z7o x.2.2.2.2.2.2.2 c):=fun x _=>by rw[q80];rfl
 have L:=Q.first (T:=u00) (c:=Hs) (W:=u1g) (q:=u7i) (p:=fun x:u0h=>z7o x.2.2.2.2.2.2.2 c) (fun x=>u87 x) l c (by omega) hq
 rw[u9z];unfold u4a
 simp only[t03,u4q,L,zOb]
 by_cases hk:u0s (fun x:u0h=>z7o x.2.2.2.2.2.2.2 c) l<l.length
 ·obtain⟨a,e1,e2,e3⟩:=Q.delete (T:=u00) (c:=Hs) (W:=u1b) (q:=u7i) (p:=fun x:u0h=>z7o x.2.2.2.2.2.2.2 c) (fun x=>u83 x) l c (by omega) hq hk
  have hn:=t27 (fun x:u0h=> !z7o x.2.2.2.2.2.2.2 c) l
  obtain⟨n,hne⟩:∃n,n=(l.filter fun x:u0h=> !z7o x.2.2.2.2.2.2.2 c).length:=⟨_,rfl⟩
  rw[←hne] at e1 e3 hn
  have c1:decide (((u0s (fun x:u0h=>z7o x.2.2.2.2.2.2.2 c) l:Nat):Int)= -1)=false:=by simp
  have c2:decide ((0:Int)≤(n:Int))=true:=by simp
  have c3:decide ((n:Int)≤(a.length:Int))=true:=by simp;omega
  have c4:decide ((a.length:Int)≤(a.length:Int))=true:=by simp
  have hw:=y7l (i:=u0s (fun x:u0h=>z7o x.2.2.2.2.2.2.2 c) l) (by omega)
  simp only[Al hk,zOb,c1,Aa,hw,e1,c2,c3,c4,Dt,Ad,zTn,Ae,Bv]
  have c5:decide ((n:Int)≤((a.take n++List.replicate (a.length - n) u00.zero++a.drop (n+(a.length - n))).length:Int))=true:=by simp;omega
  have c6:(a.take n++List.replicate (a.length - n) u00.zero++a.drop (n+(a.length - n))).take (n - (0:Int).toNat)=l.filter fun x:u0h=> !z7o x.2.2.2.2.2.2.2 c:=by
   rw[Bi,Ho,Nat.sub_zero,q55 a n (by omega),e3]
  simp only[c5,Dt,Ad,c6]
 ·have hall:(l.filter fun x:u0h=> !z7o x.2.2.2.2.2.2.2 c)=l:=by
   rw[F9]
   intro x hx
   obtain⟨i,hi,rfl⟩:=B7 hx
   rw[t1g (p:=fun x:u0h=>z7o x.2.2.2.2.2.2.2 c) hi (by omega)]
   rfl
  simp only[Ao hk,zOb,Ae,Ad,hall]
theorem p9y (b:u0j) (n:Hs) (hb:fewB b):s0x (b,n)=some (t7n b n):=by
 rw[p30];unfold r9l
 simp only
 rw[t9z b hb]
 simp only[zOb]
 rw[o2w _ _ (by have:=hb.2.2.1;omega)]
 rfl
theorem q7d (b:u0j) (n:Hs) (hb:fewB b):s04 (b,n)=some (t7n b n):=by
 obtain⟨hb1,hb2,hb3⟩:=hb
 have L:=s3y t0p b.2.2.1 (fun(a:Hu u0h) i=>(n,b,u2t,((b.1,b.2.1,a,b.2.2.2):u0j),i)) (fun x:u0h=> !z7o x.2.2.2.2.2.2.2 n) (fun x=>x) (fun a=> .inl (u2t,((b.1,b.2.1,a,b.2.2.2):u0j))) (by have:=hb3.1;omega)
  (fun a _=>by rw[r40];simp only[t6i,u0b,Am,Ah,Aa])
  (fun i hi a ha=>by
   have hm:=Ag hi
   have:=hb3.1
   rw[r40];simp only[t6i,u0b,hi,Ae,Ad,y7t hi,zTn,y8k (t:=u00) hi,y7l (show i<4611686018427387904 by omega)]
   rw[t0a _ (hb3.2 _ hm)]
   simp only[zOb]
   rw[q5t (by simp;omega)])
 rw[Er] at L
 rw[p4o];unfold r99
 simp only
 rw[t7t b ⟨hb1,hb2,hb3⟩]
 simp only[zOb]
 have L' :t0p (n,b,(([], [], [],0,0):u0j),((b.1,b.2.1, [],b.2.2.2):u0j),0)=_:=L
 rw[L']
 rfl
theorem o7y {n i:Int} :y8h n (i+1)=u1z n i:=by
 unfold y8h u1z
 by_cases h:i<n
 ·rw[Al h,Ao (by omega)]
 ·rw[Ao h,Al (by omega)]
theorem o74 (p:u0h→Bool) (l:Hu u0h):∀(a:Hu u0h×Hu u0h),l.foldl (fun a x=>if p x=true then(a.1++ [x],a.2) else(a.1,a.2++ [x])) a=(a.1++l.filter p,a.2++l.filter fun x=> !p x):=by
 induction l with
 | nil=>intro a;simp
 | cons x l ih=>
  intro a
  rw[Bs,ih]
  cases h:p x<;>simp[h]
theorem o40 (p q:u0h→Bool) (l:Hu u0h) (d:u0h) (hl:l.length≤4194304):(l.filter p).length+ [d].length≤1099511627776∧(l.filter p++ [d]).length+(l.filter q).length≤1099511627776∧(l.filter p++ [d]).length≤8000000:=by
 have f1:=t27 p l
 have f2:=t27 q l
 rw[Ba,Aw]
 omega
theorem p6s (b z:u0j) (t d:u0h) (n:Hs) (hb:fewB b):u5q (n,t,z,b,d, [], [],(),(b.2.2.1.length:Int),0)=
 some (.inl (t,z,b,d,b.2.2.1.filter (fun x=>y3c x.2.2.2.2.2.2.2 n),b.2.2.1.filter fun x=> !y3c x.2.2.2.2.2.2.2 n)):=by
 have hl:=hb.2.2.1
 have L:=u9a u5q b.2.2.1 (fun(a:Hu u0h×Hu u0h) i=>(n,t,z,b,d,a.1,a.2,(),(b.2.2.1.length:Int),i)) (fun a x=>if y3c x.2.2.2.2.2.2.2 n=true then(a.1++ [x],a.2) else(a.1,a.2++ [x]))
  (fun a=> .inl (t,z,b,d,a.1,a.2)) (fun i a=>a.1.length≤i∧a.2.length≤i)
  (fun a _=>by rw[s65];simp only[t1u,u0b,Am,Ah,Aa])
  (fun i hi a ha=>by
   rw[s65];simp only[t1u,u0b,hi,Ae,Ad,y7t hi,zTn,y8k (t:=u00) hi,y7l (show i<4611686018427387904 by omega)]
   cases y3c (b.2.2.1[i]).2.2.2.2.2.2.2 n
   ·simp only[Br,Bk,Aa]
    refine⟨⟨by omega,by simp;omega⟩,?_⟩
    rw[q5t (by simp;omega)]
   ·simp only[Bl,Ad]
    refine⟨⟨by simp;omega,by omega⟩,?_⟩
    rw[q5t (by simp;omega)]) ([], []) ⟨by simp,by simp⟩
 rw[o74 (fun x=>y3c x.2.2.2.2.2.2.2 n)] at L
 simpa using L
theorem p3r (b:u0j) (t:u0h) (n:Hs) (hb:fewB b) (ht:q5u t) (hi:o84 t.1):s15 (b,t,n)=some (u2r b t n):=by
 have hl:=hb.2.2.1
 rw[q81];unfold r2f
 simp only
 rw[t9z b hb]
 simp only[zOb]
 rw[p0i t ht]
 simp only[zOb]
 rw[p53 t b.2.1 ht hb.2.1]
 simp only[zOb]
 rw[p6s _ _ _ _ _ hb,p6s _ _ _ _ _ hb]
 simp only[zOb,s3p hi,o7y]
 have pl:=fun d=>o40 (fun x:u0h=>y3c x.2.2.2.2.2.2.2 n) (fun x:u0h=> !y3c x.2.2.2.2.2.2.2 n) b.2.2.1 d hl
 rw[q5t (pl _).1,q5t (pl _).2.1,q5t (pl _).1,q5t (pl _).2.1]
 unfold u2r u5m
 cases t.2.2.2.2.2.2.1<;>rfl
theorem p27 (b z:u0j) (t d:u0h) (n:Hs) (hb:fewB b):u5s (n,b,t,z,((b.1,b.2.1, [],b.2.2.2):u0j),d,0)=
 some (.inl (n,b,t,z,((b.1,b.2.1,b.2.2.1.filter (fun x=>y3c x.2.2.2.2.2.2.2 n),b.2.2.2):u0j),d)):=by
 have hl:=hb.2.2.1
 have L:=s3y u5s b.2.2.1 (fun(a:Hu u0h) i=>(n,b,t,z,((b.1,b.2.1,a,b.2.2.2):u0j),d,i)) (fun x:u0h=>y3c x.2.2.2.2.2.2.2 n) (fun x=>x) (fun a=> .inl (n,b,t,z,((b.1,b.2.1,a,b.2.2.2):u0j),d)) (by omega)
  (fun a _=>by rw[s7e];simp only[t14,u0b,Am,Ah,Aa])
  (fun i hi a ha=>by
   have hm:=Ag hi
   rw[s7e];simp only[t14,u0b,hi,Ae,Ad,y7t hi,zTn,y8k (t:=u00) hi,y7l (show i<4611686018427387904 by omega)]
   rw[t0a _ (hb.2.2.2 _ hm)]
   simp only[zOb]
   rw[q5t (by simp;omega)])
 rw[Er] at L
 exact L
theorem q8k (b z:u0j) (t:u0h) (n:Hs) (hb:fewB b) (pre:Hu u0h) (hp:pre.length≤8000000):u46 (n,b,t,z,((b.1,b.2.1,pre,b.2.2.2):u0j),0)=
 some (.inl (t,z,((b.1,b.2.1,pre++b.2.2.1.filter (fun x=> !y3c x.2.2.2.2.2.2.2 n),b.2.2.2):u0j))):=by
 have hl:=hb.2.2.1
 have L:=s3y u46 b.2.2.1 (fun(a:Hu u0h) i=>(n,b,t,z,((b.1,b.2.1,pre++a,b.2.2.2):u0j),i)) (fun x:u0h=> !y3c x.2.2.2.2.2.2.2 n) (fun x=>x) (fun a=> .inl (t,z,((b.1,b.2.1,pre++a,b.2.2.2):u0j))) (by omega)
  (fun a _=>by rw[s5h];simp only[u9l,u0b,Am,Ah,Aa])
  (fun i hi a ha=>by
   have hm:=Ag hi
   rw[s5h];simp only[u9l,u0b,hi,Ae,Ad,y7t hi,zTn,y8k (t:=u00) hi,y7l (show i<4611686018427387904 by omega)]
   rw[t0a _ (hb.2.2.2 _ hm)]
   simp only[zOb]
   rw[q5t (by simp;omega),Bi])
 rw[Er,Bw] at L
 exact L
theorem r9e (b:u0j) (t:u0h) (n:Hs) (hb:fewB b) (ht:q5u t) (hi:o84 t.1):u54 (b,t,n)=some (u2r b t n):=by
 have hl:=hb.2.2.1
 have pl:=fun d=>o40 (fun x:u0h=>y3c x.2.2.2.2.2.2.2 n) (fun x:u0h=> !y3c x.2.2.2.2.2.2.2 n) b.2.2.1 d hl
 rw[q9o];unfold r21
 simp only
 rw[t7t b hb]
 simp only[zOb]
 rw[t0a t ht]
 simp only[zOb]
 rw[q50 t b.2.1 ht hb.2.1]
 simp only[zOb]
 rw[p27 _ _ _ _ _ hb,p27 _ _ _ _ _ hb]
 simp only[zOb]
 rw[q5t (pl _).1,q5t (pl _).1,q8k _ _ _ _ hb _ (pl _).2.2,q8k _ _ _ _ hb _ (pl _).2.2]
 simp only[zOb,s3p hi]
 have key:∀(o:Bool),(bif decide (t.1≥b.2.2.2.2) then some ((b.1,b.2.1,(b.2.2.1.filter fun x=>y3c x.2.2.2.2.2.2.2 n)++ [((t.1,(2:Int),t.2.2.1,t.2.2.2.1,t.2.2.2.2.1,t.2.2.2.2.2.1,o,n):u0h)] ++(b.2.2.1.filter fun x=> !y3c x.2.2.2.2.2.2.2 n),b.2.2.2.1,t.1+1):u0j)
  else some (b.1,b.2.1,(b.2.2.1.filter fun x=>y3c x.2.2.2.2.2.2.2 n)++ [((t.1,(2:Int),t.2.2.1,t.2.2.2.1,t.2.2.2.2.1,t.2.2.2.2.2.1,o,n):u0h)] ++(b.2.2.1.filter fun x=> !y3c x.2.2.2.2.2.2.2 n),b.2.2.2))=
  some (b.1,b.2.1,(b.2.2.1.filter fun x=>y3c x.2.2.2.2.2.2.2 n)++ [((t.1,(2:Int),t.2.2.1,t.2.2.2.1,t.2.2.2.2.1,t.2.2.2.2.2.1,o,n):u0h)] ++(b.2.2.1.filter fun x=> !y3c x.2.2.2.2.2.2.2 n),b.2.2.2.1,u1z b.2.2.2.2 t.1):=fun o=>by
  unfold u1z
  by_cases h:t.1<b.2.2.2.2
  ·rw[A7 (by omega),Al h];rfl
  ·rw[Bb (by omega),Ao h];rfl
 unfold u2r u5m
 cases t.2.2.2.2.2.2.1
 ·exact key _
 ·exact key _
end
section
def o7f (d e:u0i):Prop:=u2g e=true∧u02 e=u02 d∧u0c e 0=u0c d 0∧u0c e 1=u0c d 1
theorem u8q {a:Int} (ha:a=0∨a=1):u0f a=1+a*48∧(s86 a:Int)=2+a*48:=by
 have hfa:u0f a=1+a*48:=by unfold u0f;rw[Al (o9r.mpr ha)]
 refine⟨hfa,?_⟩
 unfold s86
 rcases ha with rfl | rfl<;>omega
theorem q45 {e:u0i} (h1:u1y e=true) (h2:e.1.length=97) (h3:e.2= []) (h4:(u0c e 0).2.2=true) (h5:(u0c e 1).2.2=true):u2g e=true:=by
 unfold u2g
 rw[h1,h4,h5]
 simp[h2,h3]
theorem s7m {d e:u0i} (h:u0l e 0=u0l d 0):u02 e=u02 d:=by
 unfold u02 u3s
 rw[h]
theorem j15 {d e:u0i} (hl:u2g d=true) {a:Int} (ha:a=0∨a=1) (h1:u1y e=true) (h2:e.1.length=97) (h3:e.2= [])
 (h4:∀k:Nat,k<97→ ¬(s86 a≤k∧k<s86 a+47)→u0l e (k:Int)=u0l d (k:Int))
 (h5:∀j:Nat,(j:Int)<(u0c d a).2.1→j<3008→r1d (r08 e a) j=r1d (r08 d a) j):o7f d e:=by
 obtain⟨d1,d2,d3,d4,d5⟩:=u44 hl
 have fd:=r1c d1 d2
 have fe:=r1c h1 h2
 obtain⟨f1,f2⟩:=u8q ha
 have hact:u02 e=u02 d:=s7m (h4 0 (by omega) (by omega))
 have hcnt:u0x e a=u0x d a:=by
  unfold u0x u3s
  have hk:u0f a=(((u0f a).toNat:Nat):Int):=by rcases ha with rfl | rfl<;>omega
  have:=h4 (u0f a).toNat (by rcases ha with rfl | rfl<;>omega) (by rcases ha with rfl | rfl<;>omega)
  rw[←hk] at this
  rw[this]
 have hra:u0c e a=u0c d a:=by
  have hda:=u97 fd ha
  have hok:(u0c d a).2.2=true:=by rcases ha with rfl | rfl<;>assumption
  rw[u97 fe ha,hcnt]
  obtain⟨l,E,r⟩:∃l E,u0c d a=(l,E,true):=⟨_,_,by rw[←hok]⟩
  rw[r] at h5 ⊢
  rw[r] at hda
  have hsz:(r08 e a).size=(r08 d a).size:=by rw[(u7e fe ha).2.1,(u7e fd ha).2.1]
  have hat:=p0z (r08 d a) (u0x d a).toNat 0 [] (by simp)
  rw[←hda] at hat
  refine r63 hsz hda.symm (fun q hq=>h5 q hq ?_)
  have:=(u7e fd ha).2.1
  simp only at hat
  omega
 have hro:u0c e (1 - a)=u0c d (1 - a):=by
  refine t1k (fun q hq=> ?_)
  have ho:=(u8q (a:=1 - a) (by omega)).1
  obtain⟨j,hj⟩:∃j:Nat,u0f (1 - a)+(q:Int)=(j:Int):=⟨(u0f (1 - a)+(q:Int)).toNat,by rcases ha with rfl | rfl<;>omega⟩
  rw[hj]
  exact h4 j (by rcases ha with rfl | rfl<;>omega) (by rcases ha with rfl | rfl<;>omega)
 have both:u0c e 0=u0c d 0∧u0c e 1=u0c d 1:=by
  rcases ha with rfl | rfl
  ·exact⟨hra,by simpa using hro⟩
  ·exact⟨by simpa using hro,hra⟩
 exact⟨q45 h1 h2 h3 (by rw[both.1];exact d4) (by rw[both.2];exact d5),hact,both.1,both.2⟩
theorem p7l {d x:u0i} {a:Int} {t:Hs} (h:t24 d a t=some x):∃E:Nat,(u0c d a).2.1=(E:Int)∧E+(u0q t).size≤3008∧p3n ((u0q t).size+1) d (s86 a+E / 64) (E % 64) (u0q t)=some x∧t.size≠0∧t.size≤3008∧u0x d a<255:=by
 have hat:=r1v d a
 unfold t24 at h
 split at h
 ·cases h
 ·rename_i hc
  simp only[Hr] at hc
  unfold u20 at h
  split at h
  ·exact⟨(u0c d a).2.1.toNat,by omega,by omega,h,hc.2.1,by omega,by omega⟩
  ·cases h
theorem o3y {d:u0i} (h:d.2= []) {k:Nat} (hk:k<d.1.length):u0l d (k:Int)=(rdL Ty.str d.1 k,true):=by
 unfold u0l
 rw[Al (by omega),h,zTn]
 rfl
end
section
theorem o3h {d x:u0i} {a:Int} {t:Hs} (hl:u2g d=true) (ha:a=0∨a=1) (h:t24 d a t=some x):
 o7f d (flush x)∧ ∀E:Nat,(u0c d a).2.1=(E:Int)→ ∀q,q<(u0q t).size→r1d (r08 (flush x) a) (E+q)=r1d (u0q t) q:=by
 obtain⟨d1,d2,d3,d4,d5⟩:=u44 hl
 obtain⟨_,x1,x2,_⟩:=s0t h
 obtain⟨E,e1,e2,e3,_⟩:=p7l h
 obtain⟨c1,c2,c3⟩:=t7b x1
 have hxl:x.1.length=97:=by rw[x2];exact d2
 have hcl:(flush x).1.length=97:=by rw[c3];exact hxl
 obtain⟨f1,f2⟩:=u8q ha
 have fd:=r1c d1 d2
 have fe:=r1c c1 hcl
 have hb97:s86 a+47≤97:=by rcases ha with rfl | rfl<;>omega
 have hbytes:=fun j i (hi:i<64) (hj:j<97)=>p60 e3 (by omega) (Ev _ (by omega)) j i hi (by omega)
 refine⟨j15 hl ha c1 hcl c2 (fun k hk hn=> ?_) (fun j hj hj2=> ?_),fun E' hE' q hq=> ?_⟩
 ·rw[t28 x1]
  exact r81 e3 (Ev _ (by omega)) k (fun z=>hn ⟨by omega,by omega⟩)
 ·rw[(u7e fe ha).2.2 j hj2,(u7e fd ha).2.2 j hj2,t28 x1,hbytes _ _ (Ev _ (by omega)) (by omega),Ao (by omega)]
 ·have hEE:E' =E:=by omega
  subst hEE
  rw[(u7e fe ha).2.2 (E' +q) (by omega),t28 x1,hbytes _ _ (Ev _ (by omega)) (by omega),Al (by omega)]
  congr 1
  omega
theorem q53 (t:Hs):q8x t=((r1d t 0).toNat:Int):=rfl
theorem p08 (n:Int) (r:Hs) (h0:0≤n) (h1:n<256):q8x (t00 n++r)=n:=by
 rw[q53,u92,Al (by rw[u2d];omega)]
 unfold t00 r1d
 rw[s49]
 have w:IntKind.u8.wrap n=n:=by rw[o39];omega
 rw[w]
 simp only[u8s,C8,Eh,List.getD_cons_zero]
 rw[Gg]
 omega
theorem o8c {d y:u0i} {a:Int} {t:Hs} (hl:u2g d=true) (ha:a=0∨a=1) (h:q61 d a t=some y):
 u2g y=true∧u02 y=u02 d∧u0c y (1 - a)=u0c d (1 - a)∧u0x y a=u0x d a+1∧u0c y a=((u0c d a).1++ [t],(u0c d a).2.1+((u0q t).size:Int),true):=by
 obtain⟨d1,d2,d3,d4,d5⟩:=u44 hl
 obtain⟨x,hx,x1,y1,y2,y3,hy⟩:=o8d d2 h
 obtain⟨s1,s2⟩:=o3h hl ha hx
 obtain⟨E,e1,e2,e3,e4,e5,e6⟩:=p7l hx
 obtain⟨c1,c2,c3⟩:=t7b x1
 have hxl:(flush x).1.length=97:=(u44 s1.1).2.1
 obtain⟨f1,f2⟩:=u8q ha
 have hcl:=s80 d a
 have hc1:s58 d a=u0x d a+1:=by unfold s58;exact y4y (by omega) (by omega)
 have hob:=q2m (s:=u0f a) c1 c2 (by omega) (by rw[hxl];rcases ha with rfl | rfl<;>omega) (u2d (s58 d a))
 have hcz:r3b (flush x) a (s58 d a)=some ((flush x).1, [(u0f a,t00 (s58 d a)++(rdL Ty.str (flush x).1 (u0f a).toNat).extract 1 64)]):=hob
 have hz1:=(u6k hob).2.1
 rw[hcz] at hy
 simp only[orD] at hy
 have hrd:∀j:Int,u0l y j=if j=u0f a then(t00 (s58 d a)++(rdL Ty.str (flush x).1 (u0f a).toNat).extract 1 64,true) else u0l (flush x) j:=fun j=>by
  rw[hy,t28 hz1]
  by_cases e:j=u0f a
  ·rw[Al e,e]
   unfold u0l
   rw[Al (by show _∧_<((flush x).1.length:Int);rw[hxl];rcases ha with rfl | rfl<;>omega)]
   simp[t1o]
  ·rw[Ao e]
   have hne: ¬u0f a=j:=fun z=>e z.symm
   unfold u0l
   simp only[t1o,Bs,List.foldl_nil,hne,Bk,c2]
 have fy:=r1c y1 y3
 have fx:=r1c c1 hxl
 have fd:=r1c d1 d2
 have hcnt:u0x y a=u0x d a+1:=by
  unfold u0x at hc1 ⊢
  rw[o9r.mpr ha,Al rfl] at*
  unfold u3s at*
  rw[hrd,Al rfl]
  simp only
  have:u0x d a=q8x (u0l d (u0f a)).1:=by unfold u0x u3s;rw[o9r.mpr ha,Al rfl]
  rw[hc1]
  exact p08 _ _ (by omega) (by omega)
 have hareaT:∀j,j<3008→r1d (r08 y a) j=r1d (r08 (flush x) a) j:=fun j hj=>by
  rw[(u7e fy ha).2.2 j hj,(u7e fx ha).2.2 j hj,hrd,Ao (by rcases ha with rfl | rfl<;>omega)]
 have hother:u0c y (1 - a)=u0c (flush x) (1 - a):=by
  refine t1k (fun q hq=> ?_)
  have ho:=(u8q (a:=1 - a) (by omega)).1
  rw[hrd,Ao (by rcases ha with rfl | rfl<;>omega)]
 have hother2:u0c (flush x) (1 - a)=u0c d (1 - a):=by
  rcases ha with rfl | rfl
  ·exact s1.2.2.2
  ·exact s1.2.2.1
 have hact:u02 y=u02 d:=by
  rw[←s1.2.1]
  exact s7m (by rw[hrd,Ao (by rcases ha with rfl | rfl<;>omega)])
 have hok:(u0c d a).2.2=true:=by rcases ha with rfl | rfl<;>assumption
 have hda:u6n (r08 d a) (u0x d a).toNat 0 [] =((u0c d a).1,(E:Int),true):=by
  rw[←u97 fd ha,←e1,←hok]
 have hfx:u6n (r08 (flush x) a) (u0x (flush x) a).toNat 0 [] =((u0c d a).1,(E:Int),true):=by
  have:u0c (flush x) a=u0c d a:=by
   rcases ha with rfl | rfl
   ·exact s1.2.2.1
   ·exact s1.2.2.2
  rw[←u97 fx ha,this,←e1,←hok]
 have hcx:u0x (flush x) a=u0x d a:=by
  unfold u0x u3s
  have hk:u0f a=(((u0f a).toNat:Nat):Int):=by rcases ha with rfl | rfl<;>omega
  have h2:=r81 e3 (Ev _ (by omega)) (u0f a).toNat (by rcases ha with rfl | rfl<;>omega)
  rw[←hk] at h2
  rw[t28 x1,h2]
 have hsz:(r08 y a).size=(r08 (flush x) a).size:=by rw[(u7e fy ha).2.1,(u7e fx ha).2.1]
 have hra:u0c y a=((u0c d a).1++ [t],(u0c d a).2.1+((u0q t).size:Int),true):=by
  rw[u97 fy ha,hcnt,e1]
  have hm:(u0x d a+1).toNat=(u0x d a).toNat+1:=by omega
  rw[hm]
  have hloc:=r63 hsz hfx (fun q hq=>hareaT q (by omega))
  rw[hcx] at hloc
  have hrs:=q62 (T:=r08 y a) (E:=E) e4 e5 (by rw[(u7e fy ha).2.1];exact e2) (fun q hq=>by rw[hareaT _ (by omega)];exact s2 E e1 q hq)
  have:=p00 hloc hrs e4
  rw[this]
  congr 2
 have hlog:u2g y=true:=by
  rw[hother2] at hother
  refine q45 y1 y3 y2 ?_ ?_
  ·rcases ha with rfl | rfl
   ·rw[hra]
   ·have:u0c y 0=u0c d 0:=by simpa using hother
    rw[this];exact d4
  ·rcases ha with rfl | rfl
   ·have:u0c y 1=u0c d 1:=by simpa using hother
    rw[this];exact d5
   ·rw[hra]
 exact⟨hlog,hact,hother.trans hother2,hcnt,hra⟩
end
end
end Go.Proofs.YtkdpclfhapphhaaGreat.Ab
