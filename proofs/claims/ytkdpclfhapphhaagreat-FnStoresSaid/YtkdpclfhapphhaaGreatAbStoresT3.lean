import Derived.Test.YtkdpclfhapphhaaGreatAbStoresT2
import Derived.Test.YtkdpclfhapphhaaGreatAbK2
import Derived.Test.YtkdpclfhapphhaaGreatAbF4
import Derived.Test.YtkdpclfhapphhaaGreatAbS2
namespace Go.Proofs.YtkdpclfhapphhaaGreat.Ab
open Go
set_option linter.unusedVariables false
set_option linter.unusedSimpArgs false
set_option linter.unnecessarySimpa false
section
section
theorem o3p (a:Hs):a.size=a.data.toList.length:=by simp only[B6];rfl
theorem q58 {a:Hs} {i:Nat} (h:i<a.size):a.data.toList[i]? =some (r2z a i):=by
 unfold r2z
 rw[o3p] at h
 rw[A5,A4 h]
 rfl
theorem p4s:∀ {f i n:Nat} {l l' :Hu UInt8} {v k:Nat},r3g f i n l=some (v,k)→(∀q,q<k - i→l'[q]? =l[q]?)→r3g f i n l' =some (v,k)
 | 0,_,_,_,_,_,_,h,_=>by cases h
 | _+1,_,_, [],_,_,_,h,_=>by cases h
 | f+1,i,n,b::l,l',v,k,h,hl=>by
  have hk:=(o0q _ _ _ _ _ _ h).2.2
  have h0:=hl 0 (by omega)
  cases l' with
  | nil=>simp at h0
  | cons b' l' =>
   simp only[Bt,Ac] at h0
   subst h0
   simp only[r3g] at h ⊢
   split at h
   ·rename_i h1
    rw[Al h1]
    exact h
   ·rename_i h1
    rw[Ao h1]
    exact p4s h (fun q hq=>by have:=hl (q+1) (by omega);simpa using this)
theorem o0j {T T' :Hs} {at_:Int} (h:(u0s T at_).2.2=true) (hs:T'.size=T.size) (hb:∀q:Nat,(q:Int)<(u0s T at_).2.1→r2z T' q=r2z T q):u0s T' at_=u0s T at_:=by
 have hok:=t92 h
 unfold u0s at h hb hok ⊢
 split at h
 ·rename_i hc
  rw[Al hc] at hb hok
  rw[Al (by rw[hs];exact hc),Al hc]
  cases hv:r3g 5 0 0 (T.data.toList.drop at_.toNat) with
  | none=>rw[hv] at h;cases h
  | some r=>
   obtain⟨v,k⟩:=r
   rw[hv] at hb hok
   simp only[q6s] at hb hok
   rw[p4s hv (fun q hq=>by
    have hlt:at_.toNat+q<T.size:=by omega
    rw[Dg,Dg,q58 (by omega),q58 hlt,hb (at_.toNat+q) (by omega)])]
 ·cases h
theorem q21 {T:Hs} {at_:Int} (h:(u0m T at_).2.2=true):0≤at_∧at_<(u0m T at_).2.1∧(u0m T at_).2.1≤T.size:=by
 have h2:=r88 h
 unfold u0m at h h2 ⊢
 split at h
 ·rename_i hc
  rw[Al hc] at h2
  rw[Al hc]
  have:=t92 hc.1
  simp only at h2 ⊢
  omega
 ·cases h
theorem p4e {T T' :Hs} {at_:Int} (h:(u0m T at_).2.2=true) (hs:T'.size=T.size) (hb:∀q:Nat,(q:Int)<(u0m T at_).2.1→r2z T' q=r2z T q):u0m T' at_=u0m T at_:=by
 have hn:=q21 h
 unfold u0m at h hb hn ⊢
 split at h
 ·rename_i hc
  rw[Al hc] at hb hn
  simp only at hb hn
  have hok:=t92 hc.1
  have e:u0s T' at_=u0s T at_:=o0j hc.1 hs (fun q hq=>hb q (by omega))
  rw[e,Al (by rw[hs];exact hc),Al hc]
  congr 1
  apply p1f
  ·rw[Bd,Bd,hs]
  ·intro i hi
   rw[Bd] at hi
   rw[u6o,u6o,hs]
   split
   ·exact hb _ (by omega)
   ·rfl
 ·cases h
theorem p7g {T:Hs} :∀ {m:Nat} {at_:Int} {acc l:Hu Hs} {E:Int},u7u T m at_ acc=(l,E,true)→at_≤E
 | 0,at_,acc,l,E,h=>by unfold u7u at h;cases h;exact Bv _
 | m+1,at_,acc,l,E,h=>by
  unfold u7u at h
  split at h
  ·rename_i hc
   simp only[Ai] at hc
   have h1:=(q21 hc.1).2.1
   have h2:=p7g h
   omega
  ·cases h
theorem r79 {T T' :Hs} (hs:T'.size=T.size):∀ {m:Nat} {at_:Int} {acc l:Hu Hs} {E:Int},u7u T m at_ acc=(l,E,true)→(∀q:Nat,(q:Int)<E→r2z T' q=r2z T q)→u7u T' m at_ acc=(l,E,true)
 | 0,at_,acc,l,E,h,_=>by unfold u7u at h ⊢;exact h
 | m+1,at_,acc,l,E,h,hb=>by
  unfold u7u at h ⊢
  split at h
  ·rename_i hc
   have hc' :=hc
   simp only[Ai] at hc'
   have h2:=p7g h
   rw[p4e hc'.1 hs (fun q hq=>hb q (by omega)),Al hc]
   exact r79 hs h hb
  ·cases h
theorem p18 {T:Hs} {s:Hs} {nx:Int} :∀ {m:Nat} {at_:Int} {acc l:Hu Hs} {E:Int},u7u T m at_ acc=(l,E,true)→u0m T E=(s,nx,true)→s.size≠0→u7u T (m+1) at_ acc=(l++ [s],nx,true)
 | 0,at_,acc,l,E,h,hr,hne=>by
  unfold u7u at h
  cases h
  unfold u7u
  have:z7o s emp=false:=by
   have:=s8q (t:=s)
   rw[o86] at this
   rw[this]
   simpa using hne
  rw[hr]
  simp only[this,Bh,Dt,Bl]
  rfl
 | m+1,at_,acc,l,E,h,hr,hne=>by
  unfold u7u at h
  split at h
  ·rename_i hc
   unfold u7u
   rw[Al hc]
   exact p18 h hr hne
  ·cases h
def u8s (l:Hu Int):Hu UInt8:=l.map fun n=>UInt8.ofNat n.toNat
theorem q75:∀(f i acc n N:Nat) (r:Hu UInt8),0<f→n<128^f→acc+n*128^i=N→N≤1000000000→(s40 N).length=i+(s40 n).length→r3g f i acc (u8s (s40 n)++r)=some (N,i+(s40 n).length)
 | 0,i,acc,n,N,r,hf,_,_,_,_=>by omega
 | f+1,i,acc,n,N,r,_,hn,hN,hb,hl=>by
  by_cases h:n<128
  ·rw[r9f h] at hl ⊢
   have e:(UInt8.ofNat ((n:Int)).toNat).toNat=n:=by
    rw[zTn,Gg]
    omega
   simp only[u8s,C8,Eh,Ef,Cf,r3g,e,h,Bl,Aw] at hl ⊢
   rw[Nat.mod_eq_of_lt h,hN,Al ⟨hb,hl⟩]
  ·rw[q74 h] at hl ⊢
   have e:(UInt8.ofNat (((n % 128+128:Nat):Int)).toNat).toNat=n % 128+128:=by
    rw[zTn,Gg]
    omega
   have hh: ¬n % 128+128<128:=by omega
   simp only[u8s,C8,Ef,r3g,e,hh,Bk,Bc] at hl ⊢
   have e2:(n % 128+128) % 128=n % 128:=by omega
   rw[e2]
   have:=q75 f (i+1) (acc+n % 128*128^i) (n / 128) N r (by rcases f with _ | f<;>simp at hn ⊢;omega) (by rw[Gr] at hn;omega) (by
    rw[←hN,Gr]
    have:n=n % 128+128*(n / 128):=by omega
    conv=>rhs;rw[this]
    rw[Cl]
    have:n / 128*(128^i*128)=128*(n / 128)*128^i:=by rw[Fk (128^i) 128,←Nat.mul_assoc,Fk (n / 128) 128]
    omega) hb (by omega)
   show r3g f (i+1) (acc+n % 128*128^i) (u8s (s40 (n / 128))++r)=_
   rw[this]
   congr 2
   omega
end
section
theorem s6z (l:Hu Int):(y7g l).data.toList=u8s l:=by
 unfold y7g u8s
 simp
theorem q71 {T t:Hs} {E:Nat} (h0:t.size≠0) (h1:t.size≤3008) (hE:E+(u0q t).size≤T.size) (hb:∀q,q<(u0q t).size→r2z T (E+q)=r2z (u0q t) q):
 u0m T (E:Int)=(t,((E+(u0q t).size:Nat):Int),true):=by
 have hsz:(u0q t).size=(s40 t.size).length+t.size:=by unfold u0q;rw[Af,u6a]
 have hlist:(u0q t).data.toList=u8s (s40 t.size)++t.data.toList:=by
  unfold u0q
  rw[Ft,Ha,s6z]
 have hdrop:∃r,T.data.toList.drop E=u8s (s40 t.size)++r:=by
  refine⟨(T.data.toList.drop E).drop (u8s (s40 t.size)).length,?_⟩
  have:(T.data.toList.drop E).take (u8s (s40 t.size)).length=u8s (s40 t.size):=by
   apply Gj
   intro q
   rw[Ca]
   split
   ·rename_i hq
    have hq' :q<(s40 t.size).length:=by simpa[u8s] using hq
    rw[Dg,q58 (by omega),hb q (by omega),←q58 (by omega),hlist,Aj hq]
   ·rename_i hq
    rw[Be (Fz hq)]
  conv=>lhs;rw[←En (u8s (s40 t.size)).length (T.data.toList.drop E)]
  rw[this]
 obtain⟨r,hr⟩:=hdrop
 have hv:=q75 5 0 0 t.size t.size r (by omega) (by omega) (by simp) (by omega) (by omega)
 have hread:u0s T (E:Int)=((t.size:Int),(E:Int)+((s40 t.size).length:Int),true):=by
  unfold u0s
  rw[Al (by omega),zTn,hr,hv]
  simp[q6s]
 unfold u0m
 rw[hread]
 simp only
 rw[Al (by simp only[true_and];omega)]
 have e1:((E:Int)+((s40 t.size).length:Int)).toNat=E+(s40 t.size).length:=by omega
 have e2:((E:Int)+((s40 t.size).length:Int)+(t.size:Int)).toNat=E+(s40 t.size).length+t.size:=by omega
 rw[e1,e2]
 have et:T.extract (E+(s40 t.size).length) (E+(s40 t.size).length+t.size)=t:=by
  apply p1f
  ·rw[Bd];omega
  ·intro i hi
   rw[Bd] at hi
   rw[u6o,Al (by omega)]
   have:=hb ((s40 t.size).length+i) (by omega)
   rw[show E+(s40 t.size).length+i=E+((s40 t.size).length+i) by omega,this]
   unfold u0q
   rw[t1s,Ao (by rw[u6a];omega),u6a]
   congr 1
   omega
 rw[et]
 congr 2
 rw[hsz]
 omega
def j76 (d:u0l):Prop:= ∀k:Nat,k<97→(u0k d (k:Int)).2=true∧(u0k d (k:Int)).1.size=64
theorem r2y {d:u0l} (hk:u18 d=true) (hl:d.1.length=97):j76 d:=by
 intro k hlt
 obtain⟨k1,k2,k3,k4⟩:=p7m.mp hk
 have hc:(0:Int)≤(k:Int)∧(k:Int)<(d.1.length:Int):=by omega
 unfold u0k
 rw[Al hc]
 refine⟨rfl,?_⟩
 cases hp:t3i d.2 (k:Int) with
 | none=>
  have hlt' :k<d.1.length:=by omega
  have e:rdL Ty.str d.1 k=d.1[k] :=y8k (t:=Ty.str) hlt'
  simp only[Eo,zTn]
  rw[e]
  exact k3 _ (Ag hlt')
 | some s=>
  obtain⟨p,hp1,hp2⟩:=q3t hp
  simp only[Eb]
  rw[←hp2]
  exact(k4 p hp1).2
theorem p4i {d:u0l} {F:Nat} (h:∀q:Nat,q<47→(u0k d ((F+q:Nat):Int)).2=true∧(u0k d ((F+q:Nat):Int)).1.size=64):∀(m i:Nat) (acc:Hs),i+m≤47→
 ∃T,q0h d (F:Int) m i acc=(T,true)∧T.size=acc.size+64*m∧ ∀j,j<T.size→r2z T j=if j<acc.size then r2z acc j else r2z (u0k d ((F+i+(j - acc.size) / 64:Nat):Int)).1 ((j - acc.size) % 64)
 | 0,i,acc,_=>⟨acc,rfl,by omega,fun j hj=>by rw[Al hj]⟩
 | m+1,i,acc,hm=>by
  have hq:=h i (by omega)
  have e:(F:Int)+(i:Int)=((F+i:Nat):Int):=by omega
  obtain⟨T,t1,t2,t3⟩:=p4i h m (i+1) (acc++(u0k d ((F+i:Nat):Int)).1) (by omega)
  refine⟨T,?_,?_,fun j hj=> ?_⟩
  ·unfold q0h
   rw[e,Al hq.1]
   exact t1
  ·rw[t2,Af,hq.2];omega
  ·rw[t3 j hj,Af,hq.2,t1s]
   by_cases h1:j<acc.size
   ·rw[Al (by omega),Al h1,Al h1]
   ·rw[Ao h1,Ao h1]
    by_cases h2:j<acc.size+64
    ·rw[Al h2]
     have z1:(j - acc.size) / 64=0:=by omega
     have z2:(j - acc.size) % 64=j - acc.size:=by omega
     rw[z1,z2,Df]
    ·rw[Ao h2]
     have z1:F+(i+1)+(j - (acc.size+64)) / 64=F+i+(j - acc.size) / 64:=by omega
     have z2:(j - (acc.size+64)) % 64=(j - acc.size) % 64:=by omega
     rw[z1,z2]
def r0s (a:Int):Nat:=(u0e a+1).toNat
def r2s (d:u0l) (a:Int):Hs:=(u9i d (u0e a+1) 47).1
theorem u8j {d:u0l} (hf:j76 d) {a:Int} (ha:a=0∨a=1):u9i d (u0e a+1) 47=(r2s d a,true)∧(r2s d a).size=3008∧ ∀j,j<3008→r2z (r2s d a) j=r2z (u0k d ((r0s a+j / 64:Nat):Int)).1 (j % 64):=by
 have hfa:u0e a=1+a*48:=by unfold u0e;rw[Al (j05.mpr ha)]
 have hF:(u0e a+1:Int)=((r0s a:Nat):Int):=by unfold r0s;rcases ha with rfl | rfl<;>omega
 have hb:r0s a+47≤97:=by unfold r0s;rcases ha with rfl | rfl<;>omega
 obtain⟨T,t1,t2,t3⟩:=p4i (d:=d) (F:=r0s a) (fun q hq=>hf (r0s a+q) (by omega)) 47 0 emp (by omega)
 have he:emp.size=0:=rfl
 have hs:u9i d (u0e a+1) 47=(T,true):=by
  unfold u9i
  rw[Al (by omega),hF]
  exact t1
 have hT:r2s d a=T:=by unfold r2s;rw[hs]
 rw[hT]
 rw[he] at t2 t3
 refine⟨hs,by omega,fun j hj=> ?_⟩
 rw[t3 j (by omega),Ao (by omega),Df,Nat.sub_zero]
theorem t1x {d:u0l} (hf:j76 d) {a:Int} (ha:a=0∨a=1):u0c d a=u7u (r2s d a) (u0w d a).toNat 0 [] :=by
 have h:=(u8j hf ha).1
 have hi:p99 a=true:=j05.mpr ha
 unfold u0c
 rw[h,hi]
 rfl
end
section
theorem o51 {a b:Hs} (h:a.data.toList=b.data.toList):a=b:=by
 apply Gf
 exact Array.toList_inj.mp h
theorem p19 (a b:Hs):(a++b).data.toList=a.data.toList++b.data.toList:=by rw[Ft,Ha]
theorem u9s (a b c:Hs):a++b++c=a++(b++c):=o51 (by simp only[p19,Bi])
theorem o4w (a:Hs):emp++a=a:=o51 (by rw[p19];rfl)
theorem o4k (a:Hs):a++emp=a:=o51 (by rw[p19];simp[emp])
theorem q3m (a:Hs):a.size=a.data.toList.length:=o3p a
def r9g (n:Int):Hs:=y7g (s40 n.toNat)
def o4l (b:Bool):Hs:=y7g [if b then 1 else 0]
def r6p {E:Type} (f:E→Hs) (l:Hu E):Hs:=l.foldl (fun s x=>s++f x) emp
def o31 (r:s7f):Hs:=u0q r.1++u0q r.2
def wrT (w:WrT):Hs:=u0q w.1++(u0q w.2.1++o4l w.2.2)
def o3w (v:u2m):Hs:=u0q v.1++(u0q v.2.1++(o4l v.2.2.1++r9g v.2.2.2))
def t26 (t:u0g):Hs:=
 r9g t.1++(r9g t.2.1++(r9g t.2.2.1++(r9g t.2.2.2.1++(r9g (t.2.2.2.2.1.length:Int)++(r6p o31 t.2.2.2.2.1++(r9g (t.2.2.2.2.2.1.length:Int)++(r6p wrT t.2.2.2.2.2.1++(o4l t.2.2.2.2.2.2.1++u0q t.2.2.2.2.2.2.2))))))))
def r1o (l:Hu u0g):Hs:=r9g (l.length:Int)++r6p t26 l
def s3j (b:u0i):Hs:=r9g b.2.2.2.1++(r9g b.2.2.2.2++(r9g (b.1.length:Int)++(r6p o3w b.1++(r1o b.2.1++r1o b.2.2.1))))
theorem q5q {E:Type} (f:E→Hs):∀(l:Hu E) (s:Hs),l.foldl (fun s x=>s++f x) s=s++r6p f l
 | [],s=>(o4k s).symm
 | x::l,s=>by
  rw[Bs,q5q f l]
  unfold r6p
  rw[Bs,q5q f l (emp++f x),o4w,u9s]
  rfl
theorem s5y {E:Type} (f:E→Hs) (x:E) (l:Hu E):r6p f (x::l)=f x++r6p f l:=by
 unfold r6p
 rw[Bs,q5q,o4w]
 rfl
theorem p83 {E:Type} (f:E→Hs):r6p f [] =emp:=rfl
def t7a (T:Hs) (a:Nat) (s:Hs):Prop:= ∃r,T.data.toList.drop a=s.data.toList++r
theorem j4t {T:Hs} {a:Nat} {s u:Hs} :t7a T a (s++u)↔t7a T a s∧t7a T (a+s.size) u:=by
 unfold t7a
 rw[p19,q3m s]
 constructor
 ·rintro⟨r,h⟩
  refine⟨⟨u.data.toList++r,by rw[h,Bi]⟩,r,?_⟩
  rw[←Gl,h,Bi,Hg]
 ·rintro⟨⟨r,h⟩,r',h'⟩
  rw[←Gl,h,Hg] at h'
  exact⟨r',by rw[h,h',Bi]⟩
theorem q6l {T:Hs} {a:Nat} {s:Hs} (h:t7a T a s) (hs:s.size≠0):a+s.size≤T.size:=by
 obtain⟨r,h⟩:=h
 have:=Dj List.length h
 rw[F0,Ba,←q3m,←q3m] at this
 omega
theorem o70 {a s b:Hs} :t7a (a++s++b) a.size s:=⟨b.data.toList,by rw[p19,p19,q3m,Bi,Hg]⟩
theorem s61 (n:Int):(r9g n).size=(s40 n.toNat).length:=u6a _
theorem q6r (n:Nat):0<(s40 n).length:=by
 by_cases h:n<128
 ·rw[r9f h];simp
 ·rw[q74 h];simp
theorem q22 {T:Hs} {a:Nat} {n:Int} (h0:0≤n) (hn:n≤1000000000) (h:t7a T a (r9g n)):u0s T (a:Int)=(n,((a+(r9g n).size:Nat):Int),true):=by
 have hle:=q6l h (by rw[s61];have:=q6r n.toNat;omega)
 obtain⟨r,h⟩:=h
 unfold r9g at h
 rw[s6z] at h
 have hv:=q75 5 0 0 n.toNat n.toNat r (by omega) (by omega) (by simp) (by omega) (by omega)
 unfold u0s
 rw[Al (by omega),zTn,h,hv]
 simp only[q6s]
 rw[s61]
 congr 1
 ·omega
 ·congr 1
  omega
theorem p04 {T:Hs} {a:Nat} {s:Hs} (hs:s.size≤20000) (h:t7a T a (u0q s)):u0m T (a:Int)=(s,((a+(u0q s).size:Nat):Int),true):=by
 have e:u0q s=r9g (s.size:Int)++s:=rfl
 rw[e] at h
 obtain⟨h1,h2⟩:=j4t.mp h
 have hv:=q22 (by omega) (by omega) h1
 have hle1:=q6l h1 (by rw[s61];have:=q6r (s.size:Int).toNat;omega)
 unfold u0m
 rw[hv]
 have hle:a+(r9g (s.size:Int)).size+s.size≤T.size:=by
  by_cases q:s.size=0
  ·omega
  ·exact q6l h2 q
 rw[Al (by simp only[true_and];omega)]
 have hx:T.extract (((a+(r9g (s.size:Int)).size:Nat):Int)).toNat ((((a+(r9g (s.size:Int)).size:Nat):Int)+(s.size:Int))).toNat=s:=by
  rw[zTn,show(((a+(r9g (s.size:Int)).size:Nat):Int)+(s.size:Int)).toNat=a+(r9g (s.size:Int)).size+s.size by omega]
  rw[q9c _ _ _ hle]
  obtain⟨r,hr⟩:=h2
  rw[hr,Nat.add_sub_cancel_left,q3m,List.take_left]
 simp only[hx]
 rw[e,Af]
 congr 2
 omega
abbrev Cur:=Int×Bool
def u2s (s:Hs) (c:Cur):Int×Cur:=if c.2=true∨(u0s s c.1).2.2=false then(0,c.1,true) else((u0s s c.1).1,(u0s s c.1).2.1,false)
def u22 (s:Hs) (c:Cur):Hs×Cur:=if c.2=true∨(u0m s c.1).2.2=false then(emp,c.1,true) else((u0m s c.1).1,(u0m s c.1).2.1,false)
def u8a (s:Hs) (i:Nat):Nat:=(s.data.toList.getD i 0).toNat
def q6y (s:Hs) (c:Cur):Bool×Cur:=if c.2=true∨ ¬(0≤c.1∧c.1<(s.size:Int))∨1<u8a s c.1.toNat then(false,c.1,true) else(decide (u8a s c.1.toNat=1),c.1+1,false)
def u24 {E:Type} (f:Cur→E×Cur):Nat→Cur→Hu E→Hu E×Cur
 | 0,c,a=>(a,c)
 | n+1,c,a=>if c.2=true then(a,c) else u24 f n (f c).2 (a++ [(f c).1])
def o0g (s:Hs) (c:Cur):s7f×Cur:=(((u22 s c).1,(u22 s (u22 s c).2).1),(u22 s (u22 s c).2).2)
def rWr (s:Hs) (c:Cur):WrT×Cur:=
 (((u22 s c).1,(u22 s (u22 s c).2).1,(q6y s (u22 s (u22 s c).2).2).1),(q6y s (u22 s (u22 s c).2).2).2)
def o0i (s:Hs) (c:Cur):u2m×Cur:=
 let w:=rWr s c
 ((w.1.1,w.1.2.1,w.1.2.2,(u2s s w.2).1),(u2s s w.2).2)
def p1h (m:Nat) (s:Hs) (c:Cur):u0g×Cur:=
 let a:=u2s s c
 let b:=u2s s a.2
 let d:=u2s s b.2
 let e:=u2s s d.2
 let n:=u2s s e.2
 let rs:=u24 (o0g s) (min n.1.toNat m) n.2 []
 let k:=u2s s rs.2
 let ws:=u24 (rWr s) (min k.1.toNat m) k.2 []
 let o:=q6y s ws.2
 let nm:=u22 s o.2
 ((a.1,b.1,d.1,e.1,rs.1,ws.1,o.1,nm.1),nm.2)
theorem t1w {s:Hs} {c:Cur} (h:c.2=true):(u2s s c).2.2=true:=by unfold u2s;rw[Al (.inl h)]
theorem r1k {s:Hs} {c:Cur} (h:c.2=true):(u22 s c).2.2=true:=by unfold u22;rw[Al (.inl h)]
theorem q6f {s:Hs} {c:Cur} (h:c.2=true):(q6y s c).2.2=true:=by unfold q6y;rw[Al (.inl h)]
theorem t7r {E:Type} {f:Cur→E×Cur} {n:Nat} {c:Cur} {a:Hu E} (h:c.2=true):u24 f n c a=(a,c):=by
 cases n with
 | zero=>rfl
 | succ n=>simp only[u24];rw[Al h]
theorem o3f {E:Type} {f:Cur→E×Cur} :∀ {n:Nat} {c:Cur} {a:Hu E},(u24 f n c a).2.2=false→(u24 f n c a).1.length=a.length+n
 | 0,c,a,_=>rfl
 | n+1,c,a,h=>by
  simp only[u24] at h ⊢
  split at h
  ·rename_i q;rw[q] at h;cases h
  ·rename_i q
   rw[Ao q,o3f h]
   simp;omega
theorem u76 {s:Hs} {a:Nat} {n:Int} (h0:0≤n) (hn:n≤1000000000) (h:t7a s a (r9g n)):u2s s ((a:Int),false)=(n,((a+(r9g n).size:Nat):Int),false):=by
 unfold u2s
 rw[q22 h0 hn h,Ao (by simp)]
theorem t91 {s:Hs} {a:Nat} {x:Hs} (hx:x.size≤20000) (h:t7a s a (u0q x)):u22 s ((a:Int),false)=(x,((a+(u0q x).size:Nat):Int),false):=by
 unfold u22
 rw[p04 hx h,Ao (by simp)]
theorem u3k (b:Bool):(o4l b).size=1:=u6a _
theorem q32 {s:Hs} {a:Nat} {b:Bool} (h:t7a s a (o4l b)):q6y s ((a:Int),false)=(b,((a+1:Nat):Int),false):=by
 have hle:=q6l h (by rw[u3k];omega)
 rw[u3k] at hle
 obtain⟨r,hr⟩:=h
 unfold o4l at hr
 rw[s6z] at hr
 have hb:u8a s a=if b then 1 else 0:=by
  unfold u8a
  have:s.data.toList.getD a 0=(s.data.toList.drop a).getD 0 0:=by
   rw[A5,A5,Dg,Df]
  rw[this,hr]
  cases b<;>rfl
 unfold q6y
 simp only[zTn,hb]
 rw[Ao]
 ·cases b<;>simp
 ·rintro(q | q | q)
  ·cases q
  ·omega
  ·cases b<;>simp at q
theorem s3t {E:Type} {f:Cur→E×Cur} {g:E→Hs} {s:Hs} :∀ {l:Hu E} {a:Nat} {acc:Hu E},(∀x∈l,∀a:Nat,t7a s a (g x)→f ((a:Int),false)=(x,((a+(g x).size:Nat):Int),false))→
 t7a s a (r6p g l)→u24 f l.length ((a:Int),false) acc=(acc++l,((a+(r6p g l).size:Nat):Int),false)
 | [],a,acc,_,_=>by rw[p83];simp[u24,emp,ByteArray.size]
 | x::l,a,acc,hf,h=>by
  rw[s5y] at h ⊢
  obtain⟨h1,h2⟩:=j4t.mp h
  have e:=hf x (by simp) a h1
  simp only[Bc,u24]
  rw[Ao (by simp),e]
  rw[s3t (l:=l) (fun y hy=>hf y (by simp[hy])) h2,Af]
  simp[D9]
theorem o5c {s:Hs} {a:Nat} {r:s7f} (h1:r.1.size≤20000) (h2:r.2.size≤20000) (h:t7a s a (o31 r)):o0g s ((a:Int),false)=(r,((a+(o31 r).size:Nat):Int),false):=by
 obtain⟨k1,k2⟩:=j4t.mp h
 unfold o0g
 rw[t91 h1 k1]
 simp only
 rw[t91 h2 k2]
 unfold o31
 rw[Af,D9]
theorem p7v {s:Hs} {a:Nat} {w:WrT} (h1:w.1.size≤20000) (h2:w.2.1.size≤20000) (h:t7a s a (wrT w)):rWr s ((a:Int),false)=(w,((a+(wrT w).size:Nat):Int),false):=by
 obtain⟨k1,k2⟩:=j4t.mp h
 obtain⟨k2,k3⟩:=j4t.mp k2
 unfold rWr
 rw[t91 h1 k1]
 simp only
 rw[t91 h2 k2]
 simp only
 rw[q32 k3]
 unfold wrT
 rw[Af,Af,u3k,D9,D9]
theorem o5e {s:Hs} {a:Nat} {v:u2m} (h1:v.1.size≤20000) (h2:v.2.1.size≤20000) (h3:0≤v.2.2.2∧v.2.2.2≤1000000000) (h:t7a s a (o3w v)):o0i s ((a:Int),false)=(v,((a+(o3w v).size:Nat):Int),false):=by
 have e:o3w v=wrT (v.1,v.2.1,v.2.2.1)++r9g v.2.2.2:=by unfold o3w wrT;simp only[u9s]
 rw[e] at h ⊢
 obtain⟨k1,k2⟩:=j4t.mp h
 unfold o0i
 rw[p7v (w:=(v.1,v.2.1,v.2.2.1)) h1 h2 k1]
 simp only
 rw[u76 h3.1 h3.2 k2,Af,D9]
theorem TxnR.small {t:u0g} (h:TxnR t):(∀r∈t.2.2.2.2.1,r.1.size≤3∧r.2.size≤3)∧(∀w∈t.2.2.2.2.2.1,w.1.size≤3∧w.2.1.size≤12)∧t.2.2.2.2.2.2.2.size≤3∧t.2.2.2.2.2.1.length≤8∧0≤t.2.2.2.1∧t.2.2.2.1≤9999:=by
 obtain⟨w1,w2,w3⟩:=j2z.mp h.ws
 refine⟨fun r hr=> ?_,fun w hw=> ?_,?_,w3,?_⟩
 ·have:=h.rs r hr
  unfold u3f at this
  rw[Ai,Ai] at this
  exact⟨(u3i this.1).2,(u3i this.2.1).2⟩
 ·have:=w1 w hw
  unfold u29 at this
  rw[Ai,Ai,Ar] at this
  exact⟨(u3i this.1).2,this.2.1⟩
 ·by_cases e:t.2.1=2
  ·exact(u3i (h.name e)).2
  ·rw[h.noname e];omega
 ·by_cases e:t.2.1=3
  ·have:=h.done e;have:=h.snap;omega
  ·rw[h.nocs e];omega
theorem o5d {s:Hs} {a:Nat} {t:u0g} {m:Nat} (hm:8≤m) (ht:TxnR t) (h:t7a s a (t26 t)):p1h m s ((a:Int),false)=(t,((a+(t26 t).size:Nat):Int),false):=by
 obtain⟨z1,z2,z3,z4,z5⟩:=ht.small
 have hi:=ht.id;have hst:=ht.st;have hsn:=ht.snap;have hrl:=ht.rlen
 unfold t26 at h ⊢
 obtain⟨k1,h⟩:=j4t.mp h
 obtain⟨k2,h⟩:=j4t.mp h
 obtain⟨k3,h⟩:=j4t.mp h
 obtain⟨k4,h⟩:=j4t.mp h
 obtain⟨k5,h⟩:=j4t.mp h
 obtain⟨k6,h⟩:=j4t.mp h
 obtain⟨k7,h⟩:=j4t.mp h
 obtain⟨k8,h⟩:=j4t.mp h
 obtain⟨k9,k10⟩:=j4t.mp h
 unfold p1h
 rw[u76 (by omega) (by omega) k1]
 simp only
 rw[u76 (by omega) (by omega) k2]
 simp only
 rw[u76 (by omega) (by omega) k3]
 simp only
 rw[u76 (by omega) (by omega) k4]
 simp only
 rw[u76 (by omega) (by omega) k5]
 simp only
 rw[show min ((t.2.2.2.2.1.length:Int)).toNat m=t.2.2.2.2.1.length by omega,s3t (g:=o31) (fun r hr a hs=>o5c (by have:=(z1 r hr).1;omega) (by have:=(z1 r hr).2;omega) hs) k6]
 simp only
 rw[u76 (by omega) (by omega) k7]
 simp only
 rw[show min ((t.2.2.2.2.2.1.length:Int)).toNat m=t.2.2.2.2.2.1.length by omega,s3t (g:=wrT) (fun w hw a hs=>p7v (by have:=(z2 w hw).1;omega) (by have:=(z2 w hw).2;omega) hs) k8]
 simp only
 rw[q32 k9]
 simp only
 rw[u3k] at k10
 rw[t91 (by omega) k10]
 simp only[Cf,Af,u3k]
 simp only[D9]
end
section
def u7l (m:Nat) (s:Hs) (c:Cur):u0g×Cur:=((p1h m s c).1,(p1h m s c).2.1,(p1h m s c).2.2 || !u77 (p1h m s c).1)
def t25 (m k:Nat) (s:Hs) (c:Cur):Hu u0g×Cur:=u24 (u7l m s) (min (u2s s c).1.toNat k) (u2s s c).2 []
structure Lim where
 t:Nat
 v:Nat
 p:Nat
 r:Nat
def r1j (m:Lim) (s:Hs) (c:Cur):u0i×Cur:=
 let a:=u2s s c
 let b:=u2s s a.2
 let n:=u2s s b.2
 let vs:=u24 (o0i s) (min n.1.toNat m.v) n.2 []
 let ps:=t25 m.t m.p s vs.2
 let rs:=t25 m.t m.r s ps.2
 ((vs.1,ps.1,rs.1,a.1,b.1),rs.2)
theorem o9h {m:Nat} {s:Hs} {c:Cur} (h:c.2=true):(u7l m s c).2.2=true:=by
 have:(p1h m s c).2.2=true:=by
  unfold p1h
  have h1:=t1w (s:=s) h
  have h2:=t1w (s:=s) h1
  have h3:=t1w (s:=s) h2
  have h4:=t1w (s:=s) h3
  have h5:=t1w (s:=s) h4
  simp only
  rw[t7r h5]
  have h6:=t1w (s:=s) h5
  simp only
  rw[t7r h6]
  exact r1k (q6f h6)
 unfold u7l
 simp only[this,Dx]
theorem r92 {E:Type} {f:Cur→E×Cur} {n k:Nat} {c:Cur} (hk:k≤n):(u24 f n c []).2.2=true∨k≤(u24 f n c []).1.length:=by
 cases h:(u24 f n c []).2.2 with
 | true=>exact .inl rfl
 | false=>rw[o3f h];exact .inr (by simp;exact hk)
theorem p35 {m m' :Nat} (hm:9≤m) (hm' :9≤m') {s:Hs} {c:Cur} (h:(u7l m s c).2.2=false):u7l m' s c=u7l m s c:=by
 have hb:(p1h m s c).2.2=false∧u77 (p1h m s c).1=true:=by
  unfold u7l at h
  simp only[Es,Bool.not_eq_false'] at h
  exact h
 have hR:=q6o.mp hb.2
 have hw:=(j2z.mp hR.ws).2.2
 suffices e:p1h m' s c=p1h m s c by unfold u7l;rw[e]
 have b1:=hb.1
 have hr:=hR.rlen
 unfold p1h at b1 hr hw ⊢
 simp only at b1 hr hw ⊢
 generalize hn:u2s s (u2s s (u2s s (u2s s (u2s s c).2).2).2).2=n at b1 hr hw ⊢
 have k1:n.1.toNat≤8∨(u24 (o0g s) (min n.1.toNat m) n.2 []).2.2=true:=by
  rcases B8 8 n.1.toNat with q | q
  ·rcases r92 (f:=o0g s) (n:=min n.1.toNat m) (k:=9) (c:=n.2) (by omega) with z | z
   ·exact .inr z
   ·omega
  ·exact .inl q
 have k1:n.1.toNat≤8:=k1.resolve_right fun k1=>by
  have h1:=t1w (s:=s) k1
  rw[t7r h1] at b1
  rw[r1k (q6f h1)] at b1
  cases b1
 have e1:min n.1.toNat m=min n.1.toNat m' :=by omega
 rw[e1] at b1 hw ⊢
 generalize hk:u2s s (u24 (o0g s) (min n.1.toNat m') n.2 []).2=k at b1 hw ⊢
 have k2:k.1.toNat≤8∨(u24 (rWr s) (min k.1.toNat m) k.2 []).2.2=true:=by
  rcases B8 8 k.1.toNat with q | q
  ·rcases r92 (f:=rWr s) (n:=min k.1.toNat m) (k:=9) (c:=k.2) (by omega) with z | z
   ·exact .inr z
   ·omega
  ·exact .inl q
 have k2:k.1.toNat≤8:=k2.resolve_right fun k2=>by
  rw[r1k (q6f k2)] at b1
  cases b1
 have e2:min k.1.toNat m=min k.1.toNat m' :=by omega
 rw[e2]
theorem p4b {E:Type} {f g:Cur→E×Cur} (hf:∀c,(f c).2.2=false→g c=f c) (hfb:∀c,c.2=true→(f c).2.2=true):∀ {n:Nat} {c:Cur} {a:Hu E},(u24 f n c a).2.2=false→u24 g n c a=u24 f n c a
 | 0,c,a,_=>rfl
 | n+1,c,a,h=>by
  simp only[u24] at h ⊢
  split at h
  ·rename_i q;rw[q] at h;cases h
  ·rename_i q
   rw[Ao q,Ao q]
   have:(f c).2.2=false:=by
    cases z:(f c).2.2 with
    | false=>rfl
    | true=>rw[t7r z] at h;rw[z] at h;cases h
   rw[hf c this]
   exact p4b hf hfb h
def t61 (m:Lim) (s:Hs) (c:Cur):u0i×Cur:=((r1j m s c).1,(r1j m s c).2.1,(r1j m s c).2.2 || !u79 (r1j m s c).1)
def Lim.ok (m:Lim):Prop:=9≤m.t∧121≤m.v∧13≤m.p∧4≤m.r
theorem r84 {m k:Nat} {s:Hs} {c:Cur} (h:c.2=true):(t25 m k s c).2.2=true:=by
 unfold t25;rw[t7r (t1w h)];exact t1w h
theorem o3g {m m' k k' N:Nat} (hm:9≤m) (hm' :9≤m') (hk:N<k) (hk' :N<k') {s:Hs} {c:Cur} (h:(t25 m k s c).2.2=false) (hl:(t25 m k s c).1.length≤N):t25 m' k' s c=t25 m k s c:=by
 unfold t25 at h hl ⊢
 have q:(u2s s c).1.toNat≤N:=by
  rcases B8 N (u2s s c).1.toNat with q | q
  ·rcases r92 (f:=u7l m s) (n:=min (u2s s c).1.toNat k) (k:=N+1) (c:=(u2s s c).2) (by omega) with z | z
   ·rw[z] at h;cases h
   ·omega
  ·exact q
 have e:min (u2s s c).1.toNat k=min (u2s s c).1.toNat k' :=by omega
 rw[e] at h ⊢
 exact p4b (fun c hc=>p35 hm hm' hc) (fun c hc=>o9h hc) h
theorem p7t {m m' :Lim} (hm:m.ok) (hm' :m'.ok) {s:Hs} {c:Cur} (h:(t61 m s c).2.2=false):t61 m' s c=t61 m s c:=by
 obtain⟨a1,a2,a3,a4⟩:=hm
 obtain⟨b1,b2,b3,b4⟩:=hm'
 have hb:(r1j m s c).2.2=false∧u79 (r1j m s c).1=true:=by
  unfold t61 at h
  simp only[Es,Bool.not_eq_false'] at h
  exact h
 have hR:=p7i.mp hb.2
 have v1:=(j0l.mp hR.vs).2.2
 have v2:=hR.plen
 have v3:=hR.rlen
 have h0:=hb.1
 suffices e:r1j m' s c=r1j m s c by unfold t61;rw[e]
 unfold r1j at h0 v1 v2 v3 ⊢
 simp only at h0 v1 v2 v3 ⊢
 generalize hn:u2s s (u2s s (u2s s c).2).2=n at h0 v1 v2 v3 ⊢
 have k1:n.1.toNat≤120:=by
  rcases B8 120 n.1.toNat with q | q
  ·rcases r92 (f:=o0i s) (n:=min n.1.toNat m.v) (k:=121) (c:=n.2) (by omega) with z | z
   ·exfalso
    rw[r84 (r84 z)] at h0
    cases h0
   ·omega
  ·exact q
 have e1:min n.1.toNat m.v=min n.1.toNat m'.v:=by omega
 rw[e1] at h0 v2 v3 ⊢
 generalize hv:u24 (o0i s) (min n.1.toNat m'.v) n.2 [] =vs at h0 v2 v3 ⊢
 have hp:(t25 m.t m.p s vs.2).2.2=false:=by
  cases z:(t25 m.t m.p s vs.2).2.2 with
  | false=>rfl
  | true=>rw[r84 z] at h0;cases h0
 rw[o3g (N:=12) a1 b1 (by omega) (by omega) hp v2]
 rw[o3g (N:=3) a1 b1 (by omega) (by omega) h0 v3]
theorem r8y {s:Hs} {a:Nat} {t:u0g} {m:Nat} (hm:8≤m) (ht:TxnR t) (h:t7a s a (t26 t)):u7l m s ((a:Int),false)=(t,((a+(t26 t).size:Nat):Int),false):=by
 unfold u7l
 rw[o5d hm ht h]
 simp only[q6o.mpr ht,Ap,Fp]
theorem q9i {s:Hs} {a:Nat} {l:Hu u0g} {m k:Nat} (hm:8≤m) (hk:l.length≤k) (hl:l.length≤1000000000) (ht:∀t∈l,TxnR t) (h:t7a s a (r1o l)):t25 m k s ((a:Int),false)=(l,((a+(r1o l).size:Nat):Int),false):=by
 unfold r1o at h ⊢
 obtain⟨k1,k2⟩:=j4t.mp h
 unfold t25
 rw[u76 (by omega) (by omega) k1]
 simp only
 rw[show min ((l.length:Int)).toNat k=l.length by omega,s3t (g:=t26) (fun t h a hs=>r8y hm (ht t h) hs) k2]
 rw[Af,Cf,D9]
theorem s62 {v:u2m} (h:q37 v=true):v.1.size≤3∧v.2.1.size≤12∧1≤v.2.2.2∧v.2.2.2≤9999:=by
 unfold q37 at h
 simp only[Ai,Ar,q7v] at h
 exact⟨(u3i h.1).2,h.2.1,h.2.2.2⟩
theorem o3e {s:Hs} {a:Nat} {b:u0i} {m:Lim} (hm:m.ok) (hb:BaseR b) (h:t7a s a (s3j b)):r1j m s ((a:Int),false)=(b,((a+(s3j b).size:Nat):Int),false):=by
 obtain⟨a1,a2,a3,a4⟩:=hm
 obtain⟨v1,v2,v3⟩:=j0l.mp hb.vs
 have hc:=hb.cs;have hx:=hb.next;have hp:=hb.plen;have hr:=hb.rlen
 unfold s3j at h ⊢
 obtain⟨k1,h⟩:=j4t.mp h
 obtain⟨k2,h⟩:=j4t.mp h
 obtain⟨k3,h⟩:=j4t.mp h
 obtain⟨k4,h⟩:=j4t.mp h
 obtain⟨k5,k6⟩:=j4t.mp h
 unfold r1j
 rw[u76 (by omega) (by omega) k1]
 simp only
 rw[u76 (by omega) (by omega) k2]
 simp only
 rw[u76 (by omega) (by omega) k3]
 simp only
 rw[show min ((b.1.length:Int)).toNat m.v=b.1.length by omega,s3t (g:=o3w) (fun v hv a hs=>by
  have:=s62 (v1 v hv)
  exact o5e (by omega) (by omega) (by omega) hs) k4]
 simp only
 rw[q9i (by omega) (by omega) (by omega) (fun t ht=>(hb.past t ht).1) k5]
 simp only
 rw[q9i (by omega) (by omega) (by omega) (fun t ht=>(hb.ready t ht).1) k6]
 simp only[Cf,Af,D9]
theorem o3v {n:Nat} (h:n<16384):(s40 n).length≤2:=by
 by_cases q:n<128
 ·rw[r9f q];simp
 ·rw[q74 q,r9f (by omega)];simp
theorem u17 {n:Int} (h:n<16384):(r9g n).size≤2:=by rw[s61];exact o3v (by omega)
theorem u00 {s:Hs} (h:s.size<16384):(u0q s).size≤s.size+2:=by
 unfold u0q
 rw[Af,u6a]
 have:=o3v h
 omega
theorem s0s {E:Type} {f:E→Hs} {k:Nat} :∀ {l:Hu E},(∀x∈l,(f x).size≤k)→(r6p f l).size≤l.length*k
 | [],_=>by rw[p83];simp[emp,ByteArray.size]
 | x::l,h=>by
  rw[s5y,Af,Bc,C7]
  have h1:=h x (by simp)
  have h2:=s0s (l:=l) (fun y hy=>h y (by simp[hy]))
  omega
theorem s1m {t:u0g} (h:TxnR t):(t26 t).size≤300:=by
 obtain⟨z1,z2,z3,z4,z5⟩:=h.small
 have hi:=h.id;have hst:=h.st;have hsn:=h.snap;have hrl:=h.rlen
 have r1:(r6p o31 t.2.2.2.2.1).size≤t.2.2.2.2.1.length*10:=s0s fun r hr=>by
  have:=z1 r hr
  have q1:=u00 (s:=r.1) (by omega)
  have q2:=u00 (s:=r.2) (by omega)
  unfold o31;rw[Af];omega
 have r2:(r6p wrT t.2.2.2.2.2.1).size≤t.2.2.2.2.2.1.length*20:=s0s fun w hw=>by
  have:=z2 w hw
  have q1:=u00 (s:=w.1) (by omega)
  have q2:=u00 (s:=w.2.1) (by omega)
  unfold wrT;rw[Af,Af,u3k];omega
 have v1:=u17 (n:=t.1) (by omega)
 have v2:=u17 (n:=t.2.1) (by omega)
 have v3:=u17 (n:=t.2.2.1) (by omega)
 have v4:=u17 (n:=t.2.2.2.1) (by omega)
 have v5:=u17 (n:=(t.2.2.2.2.1.length:Int)) (by omega)
 have v6:=u17 (n:=(t.2.2.2.2.2.1.length:Int)) (by omega)
 have v7:=u00 (s:=t.2.2.2.2.2.2.2) (by omega)
 unfold t26
 simp only[Af,u3k]
 omega
theorem s5n {l:Hu u0g} (hl:l.length<16384) (h:∀t∈l,TxnR t):(r1o l).size≤2+l.length*300:=by
 unfold r1o
 rw[Af]
 have v1:=u17 (n:=(l.length:Int)) (by omega)
 have v2:=s0s (f:=t26) (k:=300) (l:=l) (fun t ht=>s1m (h t ht))
 omega
theorem q6t {v:u2m} (h:q37 v=true):(o3w v).size≤22:=by
 have:=s62 h
 have q1:=u00 (s:=v.1) (by omega)
 have q2:=u00 (s:=v.2.1) (by omega)
 have q3:=u17 (n:=v.2.2.2) (by omega)
 unfold o3w
 simp only[Af,u3k]
 omega
theorem q65 {b:u0i} (hb:BaseR b):(s3j b).size≤10+b.1.length*22+b.2.1.length*300+b.2.2.1.length*300:=by
 obtain⟨v1,v2,v3⟩:=j0l.mp hb.vs
 have hc:=hb.cs;have hx:=hb.next;have hp:=hb.plen;have hr:=hb.rlen
 have q1:=u17 (n:=b.2.2.2.1) (by omega)
 have q2:=u17 (n:=b.2.2.2.2) (by omega)
 have q3:=u17 (n:=(b.1.length:Int)) (by omega)
 have q4:=s0s (f:=o3w) (k:=22) (l:=b.1) (fun v hv=>q6t (v1 v hv))
 have q5:=s5n (l:=b.2.1) (by omega) (fun t ht=>(hb.past t ht).1)
 have q6:=s5n (l:=b.2.2.1) (by omega) (fun t ht=>(hb.ready t ht).1)
 unfold s3j
 simp only[Af]
 omega
end
section
def j38 (a b:Int):Int:=IntKind.u32.wrap ((BitVec.ofInt IntKind.u32.bits a^^^BitVec.ofInt IntKind.u32.bits b).toNat:Int)
def o92 (x:Int):Int:=bif decide (Int.tmod x 2=1) then j38 (IntKind.u32.wrap (Int.tdiv x 2)) 3558460437 else IntKind.u32.wrap (Int.tdiv x 2)
def p4n:Nat→Int→Int
 | 0,x=>x
 | n+1,x=>p4n n (o92 x)
def p4o (x:Int) (b:UInt8):Int:=p4n 8 (j38 x (IntKind.u32.wrap (b.toNat:Int)))
def j31 (t:Hs):Int:=t.data.toList.foldl p4o 4294967295
def j3z (x:Int) (k:Nat):Int:=IntKind.u8.wrap (Int.fdiv x (2^k))
def j63 (x:Int):Hs:=y7g [j3z x 24,j3z x 16,j3z x 8,IntKind.u8.wrap x]
def r9c (t:Hs):Hs:=t++j63 (j31 t)
def p4h (t:Hs):Hs×Bool:=if t.size≤20000 then(r9c t,true) else(emp,false)
def t6v (t:Hs):Ht Hs:=if 4≤t.size∧t.size - 4≤20000∧r9c (t.extract 0 (t.size - 4))=t then some (t.extract 0 (t.size - 4)) else none
theorem o89 (x:Int):(j63 x).size=4:=u6a _
theorem p70 (t:Hs):(r9c t).size=t.size+4:=by unfold r9c;rw[Af,o89]
theorem q6p {t:Hs} (h:t.size≤20000):t6v (r9c t)=some t:=by
 have hs:=p70 t
 have e:(r9c t).extract 0 ((r9c t).size - 4)=t:=by
  rw[hs,Nat.add_sub_cancel]
  exact ByteArray.extract_append_eq_left rfl
 unfold t6v
 rw[e,Al ⟨by omega,by omega,rfl⟩]
abbrev s7e:=Int×u0g×Hs×Bool×u0i
def u6k:u0g:=(0,0,0,0, [], [],false,emp)
def u2u:u0i:=([], [], [],0,0)
def noT (t:u0g):Bool:=decide (t.1=0)&&(decide (t.2.1=0)&&(decide (t.2.2.1=0)&&(decide (t.2.2.2.1=0)&&(decide (t.2.2.2.2.1.length=0)&&(decide (t.2.2.2.2.2.1.length=0)&&(!t.2.2.2.2.2.2.1&&decide (t.2.2.2.2.2.2.2.size=0)))))))
def noB (b:u0i):Bool:=decide (b.1.length=0)&&(decide (b.2.1.length=0)&&(decide (b.2.2.1.length=0)&&(decide (b.2.2.2.1=0)&&decide (b.2.2.2.2=0))))
def u7q (r:s7e):Bool:=
 if r.1=1 then u77 r.2.1&&(decide (r.2.1.2.1=3)&&(decide (r.2.2.1.size=0)&&(!r.2.2.2.1&&noB r.2.2.2.2)))
 else if r.1=2 then u77 r.2.1&&(decide (r.2.1.2.1=2)&&(decide (r.2.2.1.size=0)&&(!r.2.2.2.1&&noB r.2.2.2.2)))
 else if r.1=3 then noT r.2.1&&(u8d r.2.2.1&&noB r.2.2.2.2)
 else if r.1=4 then noT r.2.1&&(decide (r.2.2.1.size=0)&&(!r.2.2.2.1&&u79 r.2.2.2.2))
 else false
def r9a (r:s7e):Hs:=y7g [IntKind.u8.wrap r.1] ++(if r.1=3 then u0q r.2.2.1++o4l r.2.2.2.1 else if r.1=4 then s3j r.2.2.2.2 else t26 r.2.1)
def u0r (r:s7e):Hs×Bool:=if u7q r=true then p4h (r9a r) else(emp,false)
theorem j1t {s:Hs} (h:s.size=0):s=emp:=o51 (by
 rw[q3m] at h
 rw[Dk.mp h];rfl)
theorem o9g {t:u0g} :noT t=true↔t=u6k:=by
 unfold noT u6k
 simp only[Ai,Ar,Bj]
 constructor
 ·rintro⟨h1,h2,h3,h4,h5,h6,h7,h8⟩
  obtain⟨t1,t2,t3,t4,t5,t6,t7,t8⟩:=t
  simp only at h1 h2 h3 h4 h5 h6 h7 h8
  rw[h1,h2,h3,h4,Dk.mp h5,Dk.mp h6,h7,j1t h8]
 ·rintro rfl
  exact⟨rfl,rfl,rfl,rfl,rfl,rfl,rfl,rfl⟩
theorem o49 {b:u0i} :noB b=true↔b=u2u:=by
 unfold noB u2u
 simp only[Ai,Ar]
 constructor
 ·rintro⟨h1,h2,h3,h4,h5⟩
  obtain⟨t1,t2,t3,t4,t5⟩:=b
  simp only at h1 h2 h3 h4 h5
  rw[h4,h5,Dk.mp h1,Dk.mp h2,Dk.mp h3]
 ·rintro rfl
  exact⟨rfl,rfl,rfl,rfl,rfl⟩
inductive RecR:s7e→Prop where
 | thr (t:u0g) (h:TxnR t) (hs:t.2.1=3):RecR (1,t,emp,false,u2u)
 | rdy (t:u0g) (h:TxnR t) (hs:t.2.1=2):RecR (2,t,emp,false,u2u)
 | fin (n:Hs) (y:Bool) (h:u8d n=true):RecR (3,u6k,n,y,u2u)
 | bas (b:u0i) (h:BaseR b):RecR (4,u6k,emp,false,b)
theorem j2x {r:s7e} :u7q r=true↔RecR r:=by
 obtain⟨k,t,n,y,b⟩:=r
 unfold u7q
 simp only
 constructor
 ·intro h
  split at h
  ·rename_i e
   simp only[Ai,Ar,Bj,q6o,o49] at h
   obtain⟨h1,h2,h3,h4,h5⟩:=h
   rw[e,j1t h3,h4,h5];exact .thr t h1 h2
  ·split at h
   ·rename_i _ e
    simp only[Ai,Ar,Bj,q6o,o49] at h
    obtain⟨h1,h2,h3,h4,h5⟩:=h
    rw[e,j1t h3,h4,h5];exact .rdy t h1 h2
   ·split at h
    ·rename_i _ _ e
     simp only[Ai,o9g,o49] at h
     obtain⟨h1,h2,h3⟩:=h
     rw[e,h1,h3];exact .fin n y h2
    ·split at h
     ·rename_i _ _ _ e
      simp only[Ai,Ar,Bj,o9g,p7i] at h
      obtain⟨h1,h2,h3,h4⟩:=h
      rw[e,h1,j1t h2,h3];exact .bas b h4
     ·cases h
 ·intro h
  cases h with
  | thr t h hs=>simp[q6o.mpr h,hs,o49.mpr rfl,emp,ByteArray.size]
  | rdy t h hs=>simp[q6o.mpr h,hs,o49.mpr rfl,emp,ByteArray.size]
  | fin n y h=>simp[h,o49.mpr rfl,o9g.mpr rfl]
  | bas b h=>simp[p7i.mpr h,o9g.mpr rfl,emp,ByteArray.size]
theorem s5l {r:s7e} (h:RecR r):2≤(r9a r).size∧(r9a r).size≤10000:=by
 have h1:∀n:Int,(y7g [n]).size=1:=fun n=>u6a _
 cases h with
 | thr t h hs=>
  have:=s1m h
  have q:1≤(t26 t).size:=by
   unfold t26;rw[Af,s61];have:=q6r t.1.toNat;omega
  show 2≤(y7g _++t26 t).size∧(y7g _++t26 t).size≤10000
  rw[Af,h1];omega
 | rdy t h hs=>
  have:=s1m h
  have q:1≤(t26 t).size:=by
   unfold t26;rw[Af,s61];have:=q6r t.1.toNat;omega
  show 2≤(y7g _++t26 t).size∧(y7g _++t26 t).size≤10000
  rw[Af,h1];omega
 | fin n y h=>
  have:=u3i h
  have q:=u00 (s:=n) (by omega)
  show 2≤(y7g _++(u0q n++o4l y)).size∧(y7g _++(u0q n++o4l y)).size≤10000
  have:=(s3u n).1
  rw[Af,Af,h1,u3k];omega
 | bas b h=>
  have:=q65 h
  have a1:=(j0l.mp h.vs).2.2
  have a2:=h.plen
  have a3:=h.rlen
  have q:1≤(s3j b).size:=by
   unfold s3j;rw[Af,s61];have:=q6r b.2.2.2.1.toNat;omega
  show 2≤(y7g _++s3j b).size∧(y7g _++s3j b).size≤10000
  rw[Af,h1];omega
theorem t5d {r:s7e} (h:RecR r):u0r r=(r9c (r9a r),true):=by
 unfold u0r p4h
 rw[Al (j2x.mpr h),Al (by have:=(s5l h).2;omega)]
def j8k:Lim:=⟨9,121,13,4⟩
theorem o47:j8k.ok:=⟨by decide,by decide,by decide,by decide⟩
def t4f (s:Hs):s7e×Bool:=
 if u8a s 0=3 then((3,u6k,(u22 s (1,false)).1,(q6y s (u22 s (1,false)).2).1,u2u),(q6y s (u22 s (1,false)).2).2.2)
 else if u8a s 0=4 then((4,u6k,emp,false,(t61 j8k s (1,false)).1),(t61 j8k s (1,false)).2.2)
 else(((u8a s 0:Int),(u7l 9 s (1,false)).1,emp,false,u2u),(u7l 9 s (1,false)).2.2)
def u5d (t:Hs):Ht s7e:=
 match t6v t with
 | none=>none
 | some s=>if s.size=0 then none else if(t4f s).2=true∨u0r (t4f s).1≠(t,true) then none else some (t4f s).1
theorem p82 {k:Nat} (h:k<256) (s:Hs):u8a (y7g [IntKind.u8.wrap (k:Int)] ++s) 0=k:=by
 unfold u8a
 rw[p19,s6z]
 have:IntKind.u8.wrap (k:Int)=(k:Int):=j2d h
 rw[this]
 show(UInt8.ofNat ((k:Int)).toNat).toNat=k
 rw[zTn]
 simp
 omega
theorem s16 {r:s7e} (h:RecR r):t4f (r9a r)=(r,false):=by
 have st:∀(x:Int) (s:Hs),t7a (y7g [x] ++s) 1 s:=fun x s=>by
  have:=o70 (a:=y7g [x]) (s:=s) (b:=emp)
  rw[o4k,u6a] at this
  exact this
 cases h with
 | thr t h hs=>
  have e:r9a (1,t,emp,false,u2u)=y7g [IntKind.u8.wrap ((1:Nat):Int)] ++t26 t:=rfl
  rw[e]
  unfold t4f
  rw[p82 (by omega),Ao (by omega),Ao (by omega)]
  have q:=r8y (m:=9) (by omega) h (st (IntKind.u8.wrap ((1:Nat):Int)) (t26 t))
  have q:u7l 9 (y7g [IntKind.u8.wrap ((1:Nat):Int)] ++t26 t) (1,false)=_:=q
  rw[q];rfl
 | rdy t h hs=>
  have e:r9a (2,t,emp,false,u2u)=y7g [IntKind.u8.wrap ((2:Nat):Int)] ++t26 t:=rfl
  rw[e]
  unfold t4f
  rw[p82 (by omega),Ao (by omega),Ao (by omega)]
  have q:=r8y (m:=9) (by omega) h (st (IntKind.u8.wrap ((2:Nat):Int)) (t26 t))
  have q:u7l 9 (y7g [IntKind.u8.wrap ((2:Nat):Int)] ++t26 t) (1,false)=_:=q
  rw[q];rfl
 | fin n y h=>
  have e:r9a (3,u6k,n,y,u2u)=y7g [IntKind.u8.wrap ((3:Nat):Int)] ++(u0q n++o4l y):=rfl
  rw[e]
  unfold t4f
  rw[p82 (by omega),Al rfl]
  obtain⟨k1,k2⟩:=j4t.mp (st (IntKind.u8.wrap ((3:Nat):Int)) (u0q n++o4l y))
  have q1:=t91 (by have:=u3i h;omega) k1
  have q1:u22 (y7g [IntKind.u8.wrap ((3:Nat):Int)] ++(u0q n++o4l y)) (1,false)=_:=q1
  rw[q1]
  simp only
  rw[q32 k2]
 | bas b h=>
  have e:r9a (4,u6k,emp,false,b)=y7g [IntKind.u8.wrap ((4:Nat):Int)] ++s3j b:=rfl
  rw[e]
  unfold t4f
  rw[p82 (by omega),Ao (by omega),Al rfl]
  have q:=o3e o47 h (st (IntKind.u8.wrap ((4:Nat):Int)) (s3j b))
  have q:r1j j8k (y7g [IntKind.u8.wrap ((4:Nat):Int)] ++s3j b) (1,false)=_:=q
  unfold t61
  rw[q]
  simp only[p7i.mpr h,Ap,Fp]
theorem r86 {r:s7e} (h:RecR r):u5d (r9c (r9a r))=some r:=by
 have hs:=s5l h
 unfold u5d
 rw[q6p (by omega)]
 simp only
 rw[Ao (by omega),s16 h]
 simp only
 rw[t5d h,Ao (by simp)]
theorem q6i {t:Hs} {r:s7e} (h:u5d t=some r):RecR r∧t=r9c (r9a r):=by
 unfold u5d at h
 split at h
 ·cases h
 ·rename_i s hs
  split at h
  ·cases h
  ·split at h
   ·cases h
   ·rename_i hc
    simp only[Hr,ne_eq,Decidable.not_not] at hc
    have e:=Ds h
    rw[e] at hc
    have hr:u7q r=true:=by
     cases q:u7q r with
     | true=>rfl
     | false=>
      have:=hc.2
      unfold u0r at this
      rw[Ao (by simp[q])] at this
      simp at this
    have hR:=j2x.mp hr
    refine⟨hR,?_⟩
    have:=hc.2
    rw[t5d hR] at this
    exact(Dv this).1.symm
def u2f (b:u0i) (r:s7e):Ht u0i:=
 if r.1=1 then(if r.2.1.2.2.2.1=b.2.2.2.1+1 then some (u0y b r.2.1) else none)
 else if r.1=2 then(if b.2.2.1.length<3∧u0n b r.2.1.2.2.2.2.2.2.2<0 then some (u21 b r.2.1 r.2.1.2.2.2.2.2.2.2) else none)
 else if r.1=3 then(if u0n b r.2.2.1<0 then none else if r.2.2.2.1=true then some (u0y b (rdL u0x b.2.2.1 (u0n b r.2.2.1).toNat)) else some (t9j b r.2.2.1))
 else some r.2.2.2.2
def u8b (b:u0i) (r:s7e):Ht u0i:=
 if u79 b=true∧u7q r=true then(match u2f b r with
  | none=>none
  | some x=>if u79 (u3q x [])=true then some (u3q x []) else none)
 else none
def o0x:u0i:=([], [], [],0,1)
def s3q:u0i→Hu Hs→Ht u0i
 | b, [] =>some b
 | b,t::l=>match u5d t with
  | none=>none
  | some r=>match u8b b r with
   | none=>none
   | some x=>s3q x l
def t1u (l:Hu Hs):Ht u0i:=s3q o0x l
theorem o7q (b:u0i):∀(l m:Hu Hs),s3q b (l++m)=(s3q b l).bind fun x=>s3q x m:=by
 intro l
 induction l generalizing b with
 | nil=>intro m;rfl
 | cons t l ih=>
  intro m
  simp only[Ef,s3q]
  cases u5d t with
  | none=>rfl
  | some r=>
   simp only
   cases u8b b r with
   | none=>rfl
   | some x=>exact ih x m
end
section
theorem j66 (n:Nat):decide ((n:Int)=0)=decide (n=0):=by simp
theorem j1e (t:u0g):s6l t=some (noT t):=by
 rw[p2z];unfold r7g noT
 simp only[j66,t6l]
 cases decide (t.1=0)<;>cases decide (t.2.1=0)<;>cases decide (t.2.2.1=0)<;>cases decide (t.2.2.2.1=0)<;>cases decide (t.2.2.2.2.1.length=0)<;>cases decide (t.2.2.2.2.2.1.length=0)<;>cases t.2.2.2.2.2.2.1<;>rfl
theorem j1f (t:u0g):s1j t=some (noT t):=by
 rw[p3p];unfold r77 noT
 simp only[j66,t6l]
 cases decide (t.1=0)<;>cases decide (t.2.1=0)<;>cases decide (t.2.2.1=0)<;>cases decide (t.2.2.2.1=0)<;>cases decide (t.2.2.2.2.1.length=0)<;>cases decide (t.2.2.2.2.2.1.length=0)<;>cases t.2.2.2.2.2.2.1<;>rfl
theorem j1b (b:u0i):s38 b=some (noB b):=by
 rw[p0g];unfold r3x noB
 simp only[j66]
 cases decide (b.1.length=0)<;>cases decide (b.2.1.length=0)<;>cases decide (b.2.2.1.length=0)<;>cases decide (b.2.2.2.1=0)<;>rfl
theorem j1c (b:u0i):s4g b=some (noB b):=by
 rw[p0z];unfold r4f noB
 simp only[j66]
 cases decide (b.1.length=0)<;>cases decide (b.2.1.length=0)<;>cases decide (b.2.2.1.length=0)<;>cases decide (b.2.2.2.1=0)<;>cases decide (b.2.2.2.2=0)<;>rfl
theorem r9b (r:s7e):j78.wt r=0+(u0x.wt r.2.1+(r.2.2.1.size+(0+j5e.wt r.2.2.2.2))):=rfl
theorem q4f (r:s7e) (hw:j78.wt r≤549755813888):s04 r=some (u7q r):=by
 have hb:u0j=1099511627776:=rfl
 have hr:=r9b r
 have k1:=s5k r.2.1 (by omega)
 have k2:=t07 r.2.2.2.2 (by omega)
 have k3:=s5j r.2.2.1 (by omega)
 rw[p2r];unfold r69
 rw[j1e,j1b]
 simp only[k1,k2,k3,p3w,t45,zOb,t6l]
 unfold u7q
 generalize u77 r.2.1=c1
 generalize u79 r.2.2.2.2=c2
 generalize u8d r.2.2.1=c3
 generalize noT r.2.1=c4
 generalize noB r.2.2.2.2=c5
 generalize decide (r.2.2.1.size=0)=c6
 generalize decide (r.2.1.2.1=3)=c7
 generalize decide (r.2.1.2.1=2)=c8
 generalize r.2.2.2.1=c9
 by_cases h1:r.1=1
 ·simp only[h1,Ae,Ad,Bl]
  cases c1<;>cases c5<;>cases c6<;>cases c7<;>cases c9<;>rfl
 ·by_cases h2:r.1=2
  ·simp only[h2,Ae,Ad,Bl]
   cases c1<;>cases c5<;>cases c6<;>cases c8<;>cases c9<;>rfl
  ·by_cases h3:r.1=3
   ·simp only[h3,Ae,Ad,Bl]
    cases c3<;>cases c4<;>cases c5<;>cases c9<;>rfl
   ·by_cases h4:r.1=4
    ·simp only[h4,Ae,Ad,Bl]
     cases c2<;>cases c4<;>cases c6<;>cases c9<;>rfl
    ·simp only[h1,h2,h3,h4,Ah,Aa,Bk]
theorem q4g (r:s7e) (hw:j78.wt r≤549755813888):s1d r=some (u7q r):=by
 have hb:u0j=1099511627776:=rfl
 have hr:=r9b r
 have k1:=t9r r.2.1 (by omega)
 have k2:=s1u r.2.2.2.2 (by omega)
 have k3:=t9p r.2.2.1 (by omega)
 rw[p3d];unfold r7u
 simp only[k1,k2,k3,r0t,j1f,j1c,zOb,t6l]
 unfold u7q
 generalize u77 r.2.1=c1
 generalize u79 r.2.2.2.2=c2
 generalize u8d r.2.2.1=c3
 generalize noT r.2.1=c4
 generalize noB r.2.2.2.2=c5
 generalize decide (r.2.2.1.size=0)=c6
 generalize r.2.2.2.1=c9
 by_cases h1:r.1=1
 ·simp only[h1,show inB 1 1 4=true from rfl,Ae,Ad,Bl]
  generalize decide (r.2.1.2.1=3)=c7
  generalize decide (r.2.1.2.1=2)=c8
  cases c1<;>cases c5<;>cases c6<;>cases c7<;>cases c8<;>cases c9<;>rfl
 ·by_cases h2:r.1=2
  ·simp only[h2,show inB 2 1 4=true from rfl,Ae,Ad,Bl]
   generalize decide (r.2.1.2.1=3)=c7
   generalize decide (r.2.1.2.1=2)=c8
   cases c1<;>cases c5<;>cases c6<;>cases c7<;>cases c8<;>cases c9<;>rfl
  ·by_cases h3:r.1=3
   ·simp only[h3,show inB 3 1 4=true from rfl,Ae,Ad,Bl]
    cases c3<;>cases c4<;>cases c5<;>cases c9<;>rfl
   ·by_cases h4:r.1=4
    ·simp only[h4,show inB 4 1 4=true from rfl,Ae,Ad,Bl]
     cases c2<;>cases c4<;>cases c6<;>cases c9<;>rfl
    ·have:inB r.1 1 4=false:=by
      cases h:inB r.1 1 4
      ·rfl
      ·have:=q7v.mp h;omega
     simp only[h1,h2,h3,h4,this,Ah,Aa,Bk,Bh,Ad]
end
section
theorem q2i {α:Type} {P:Prop} [Decidable P] {a b:α} (h:P):(bif decide P then a else b)=a:=by rw[Bb h];rfl
theorem q6x {α:Type} {n:Nat} {a b:α} (h:n≤1099511627776):(bif Nat.ble n z7w then a else b)=a:=by rw[u0z h];rfl
theorem u7d {n:Int} (h0:0≤n) (h1:n≤1000000000):u16 n=some (r9g n):=by
 obtain⟨m,rfl⟩:∃m:Nat,n=m:=⟨n.toNat,by omega⟩
 rw[p3y m (by omega)];rfl
theorem o5p {n:Int} (h0:0≤n) (h1:n≤1000000000):t29 n=some (r9g n,true):=by
 rw[r6v,Al ⟨h0,h1⟩];rfl
theorem t9q {s:Hs} (h:s.size≤10000):u3o s=some (u0q s):=by
 rw[p3o];unfold r76
 rw[u7d (by omega) (by omega)]
 simp only[zOb]
 have:=u17 (n:=(s.size:Int)) (by omega)
 rw[q2i (by omega)];rfl
theorem o67 {s:Hs} (h:s.size≤10000):t22 s=some (u0q s,true):=by
 rw[q8e s (by omega),Ao (by omega)]
theorem p1c (b:Bool):t6t b=some (o4l b):=by
 rw[p94];unfold q5j
 cases b<;>rfl
theorem q6h {r:s7f} (h:r.1.size≤100∧r.2.size≤100):(o31 r).size≤204:=by
 have q1:=u00 (s:=r.1) (by omega)
 have q2:=u00 (s:=r.2) (by omega)
 unfold o31;rw[Af];omega
theorem s2u {E:Type} (f:E→Hs) (l:Hu E) (s:Hs):l.foldl (fun s x=>s++f x) s=s++r6p f l:=q5q f l s
theorem r6u (t:u0g) (ht:u0x.wt t≤549755813888):s29 t=some (if u77 t=true then(t26 t,true) else(emp,false)):=by
 have hb:u0j=1099511627776:=rfl
 rw[p59];unfold q1u
 rw[t9r t (by omega)]
 simp only[zOb]
 cases hc:u77 t
 ·rfl
 ·have h:=q6o.mp hc
  obtain⟨z1,z2,z3,z4,z5⟩:=h.small
  have hi:=h.id;have hst:=h.st;have hsn:=h.snap;have hrl:=h.rlen
  have v1:=u17 (n:=t.1) (by omega)
  have v2:=u17 (n:=t.2.1) (by omega)
  have v3:=u17 (n:=t.2.2.1) (by omega)
  have v4:=u17 (n:=t.2.2.2.1) (by omega)
  have v5:=u17 (n:=(t.2.2.2.2.1.length:Int)) (by omega)
  have v6:=u17 (n:=(t.2.2.2.2.2.1.length:Int)) (by omega)
  have v7:=u00 (s:=t.2.2.2.2.2.2.2) (by omega)
  have L1:∀A:Hs,A.size≤1000→t2o (t,A,0)=some (.inl (t,A++r6p o31 t.2.2.2.2.1)):=fun A hA=>by
   have:=t00 t2o t.2.2.2.2.1 (fun(A:Hs) i=>(t,A,i)) (fun A r=>A++o31 r) (fun A=> .inl (t,A)) (fun i A=>A.size≤1000+i*204)
    (fun A _=>by rw[r6f];simp only[t8l,u0b,Am,Ah,Aa])
    (fun i hi A hP=>by
     have hr:=z1 _ (Ag hi)
     have hs:=q6h (r:=t.2.2.2.2.1[i]) (by omega)
     have hs' :=hs
     unfold o31 at hs'
     rw[Af] at hs'
     refine⟨by rw[Af,C7];omega,?_⟩
     rw[r6f];simp only[t8l,u0b,hi,Ae,Ad,y7t hi,zTn,y8k (t:=t4z) hi,y7l (show i<4611686018427387904 by omega)]
     rw[t9q (by omega),t9q (by omega)]
     simp only[zOb]
     rw[q2i (by omega),q2i (by rw[Af];omega),u9s];rfl) A (by omega)
   rw[s2u] at this
   exact this
  have L2:∀A:Hs,A.size≤10000→u92 (t,A,0)=some (.inl (t,A++r6p wrT t.2.2.2.2.2.1)):=fun A hA=>by
   have:=t00 u92 t.2.2.2.2.2.1 (fun(A:Hs) i=>(t,A,i)) (fun A r=>A++wrT r) (fun A=> .inl (t,A)) (fun i A=>A.size≤10000+i*304)
    (fun A _=>by rw[r2h];simp only[t55,u0b,Am,Ah,Aa])
    (fun i hi A hP=>by
     have hr:=z2 _ (Ag hi)
     have q1:=u00 (s:=(t.2.2.2.2.2.1[i]).1) (by omega)
     have q2:=u00 (s:=(t.2.2.2.2.2.1[i]).2.1) (by omega)
     have q3:=u3k (t.2.2.2.2.2.1[i]).2.2
     refine⟨by unfold wrT;simp only[Af,C7];omega,?_⟩
     rw[r2h];simp only[t55,u0b,hi,Ae,Ad,y7t hi,zTn,y8k (t:=u20) hi,y7l (show i<4611686018427387904 by omega)]
     rw[t9q (by omega),t9q (by omega),p1c]
     simp only[zOb]
     rw[q2i (by omega),q2i (by rw[Af];omega),q2i (by simp only[Af];omega),u9s,u9s];rfl) A (by omega)
   rw[s2u] at this
   exact this
  have n1:(r6p o31 t.2.2.2.2.1).size≤t.2.2.2.2.1.length*204:=s0s fun r hr=>q6h (by have:=z1 r hr;omega)
  have n2:(r6p wrT t.2.2.2.2.2.1).size≤t.2.2.2.2.2.1.length*304:=s0s fun w hw=>by
   have:=z2 w hw
   have q1:=u00 (s:=w.1) (by omega)
   have q2:=u00 (s:=w.2.1) (by omega)
   unfold wrT;rw[Af,Af,u3k];omega
  simp only[Ap,Aa,Bl]
  rw[u7d (n:=t.1) (by omega) (by omega),u7d (n:=t.2.1) (by omega) (by omega),u7d (n:=t.2.2.1) (by omega) (by omega),u7d (n:=t.2.2.2.1) (by omega) (by omega),u7d (n:=(t.2.2.2.2.1.length:Int)) (by omega) (by omega)]
  simp only[zOb]
  rw[q2i (by omega),q2i (by simp only[Af];omega),q2i (by simp only[Af];omega),q2i (by simp only[Af];omega),L1 _ (by simp only[Af];omega)]
  simp only[zOb]
  rw[u7d (n:=(t.2.2.2.2.2.1.length:Int)) (by omega) (by omega)]
  simp only[zOb]
  rw[q2i (by simp only[Af];omega),L2 _ (by simp only[Af];omega)]
  simp only[zOb]
  rw[p1c,t9q (by omega)]
  simp only[zOb]
  rw[q2i (by simp only[Af,u3k];omega),q2i (by simp only[Af,u3k];omega)]
  unfold t26
  simp only[u9s]
theorem o94 {l:Hu u0g} {t:u0g} (h:t∈l) (hl:(Ty.sl u0x).wt l≤549755813888):u0x.wt t≤549755813888:=A9 (q36 h) hl
theorem o1l (l:Hu u0g) (hl:(Ty.sl u0x).wt l≤549755813888) (hn:l.length≤10000) (h:∀t∈l,TxnR t):s3b l=some (r1o l):=by
 have v1:=u17 (n:=(l.length:Int)) (by omega)
 have L:t2s (l,r9g (l.length:Int),0)=some (.inl (r9g (l.length:Int)++r6p t26 l)):=by
  have:=t00 t2s l (fun(A:Hs) i=>(l,A,i)) (fun A r=>A++t26 r) (fun A=> .inl A) (fun i A=>A.size≤2+i*300)
   (fun A _=>by rw[r6k];simp only[t8p,u0b,Am,Ah,Aa])
   (fun i hi A hP=>by
    have hm:=Ag hi
    have hr:=s1m (h _ hm)
    refine⟨by rw[Af,C7];omega,?_⟩
    rw[r6k];simp only[t8p,u0b,hi,Ae,Ad,y7t hi,zTn,y8k (t:=u0x) hi,y7l (show i<4611686018427387904 by omega)]
    rw[r6u _ (o94 hm hl),Al (q6o.mpr (h _ hm))]
    simp only[zOb]
    rw[q2i (by omega)]) (r9g (l.length:Int)) (by omega)
  rw[s2u] at this
  exact this
 rw[p6p];unfold q2b
 rw[u7d (by omega) (by omega)]
 simp only[zOb]
 rw[L];rfl
theorem p8e (b:u0i) (hw:j5e.wt b≤549755813888):s6o b=some (if u79 b=true then(s3j b,true) else(emp,false)):=by
 have hbw:=r8a b
 rw[p25];unfold r7m
 rw[s1u b hw]
 simp only[zOb]
 cases hc:u79 b
 ·rfl
 ·have h:=p7i.mp hc
  obtain⟨w1,w2,w3⟩:=j0l.mp h.vs
  have hcs:=h.cs;have hx:=h.next;have hp:=h.plen;have hr:=h.rlen
  have q1:=u17 (n:=b.2.2.2.1) (by omega)
  have q2:=u17 (n:=b.2.2.2.2) (by omega)
  have q3:=u17 (n:=(b.1.length:Int)) (by omega)
  have q4:=s0s (f:=o3w) (k:=22) (l:=b.1) (fun v hv=>q6t (w1 v hv))
  have q5:=s5n (l:=b.2.1) (by omega) (fun t ht=>(h.past t ht).1)
  have q6:=s5n (l:=b.2.2.1) (by omega) (fun t ht=>(h.ready t ht).1)
  have L:∀A:Hs,A.size≤1000→u9y (b,A,0)=some (.inl (b,A++r6p o3w b.1)):=fun A hA=>by
   have:=t00 u9y b.1 (fun(A:Hs) i=>(b,A,i)) (fun A r=>A++o3w r) (fun A=> .inl (b,A)) (fun i A=>A.size≤1000+i*22)
    (fun A _=>by rw[r1z];simp only[t5s,u0b,Am,Ah,Aa])
    (fun i hi A hP=>by
     have hm:=w1 _ (Ag hi)
     have hr:=q6t hm
     have hv:=s62 hm
     have s1:=u00 (s:=(b.1[i]).1) (by omega)
     have s2:=u00 (s:=(b.1[i]).2.1) (by omega)
     have s3:=u3k (b.1[i]).2.2.1
     have s4:=u17 (n:=(b.1[i]).2.2.2) (by omega)
     refine⟨by rw[Af,C7];omega,?_⟩
     rw[r1z];simp only[t5s,u0b,hi,Ae,Ad,y7t hi,zTn,y8k (t:=u0d) hi,y7l (show i<4611686018427387904 by omega)]
     rw[t9q (by omega),t9q (by omega),p1c,u7d (by omega) (by omega)]
     simp only[zOb]
     rw[q2i (by omega),q2i (by simp only[Af];omega),q2i (by simp only[Af];omega),q2i (by simp only[Af];omega)]
     unfold o3w
     simp only[u9s]) A (by omega)
   rw[s2u] at this
   exact this
  simp only[Ap,Aa,Bl]
  rw[u7d (n:=b.2.2.2.1) (by omega) (by omega),u7d (n:=b.2.2.2.2) (by omega) (by omega),u7d (n:=(b.1.length:Int)) (by omega) (by omega)]
  simp only[zOb]
  rw[q2i (by omega),q2i (by simp only[Af];omega),L _ (by simp only[Af];omega)]
  simp only[zOb]
  rw[o1l b.2.1 (by omega) (by omega) (fun t ht=>(h.past t ht).1),o1l b.2.2.1 (by omega) (by omega) (fun t ht=>(h.ready t ht).1)]
  simp only[zOb]
  rw[q2i (by simp only[Af];omega),q2i (by simp only[Af];omega)]
  unfold s3j
  simp only[u9s]
end
section
theorem s6c (A:Hs) (ns:Hu Int) (hn:∀n∈ns,0≤n∧n<16384) (hl:ns.length≤10) (hA:A.size≤1000000):u6u (z7t A,ns)=some (z7t (A++r6p r9g ns)):=by
 have:=t00 t6f ns (fun(A:Hs) i=>(z7t A,ns,(ns.length:Int),i)) (fun A n=>A++r9g n) (fun A=> .inl (z7t A)) (fun i A=>A.size≤1000000+i*2)
  (fun A _=>by rw[r1y];simp only[t5r,u0b,Am,Ah,Aa])
  (fun i hi A hP=>by
   have hm:=hn _ (Ag hi)
   have hv:=u17 (n:=ns[i]) hm.2
   refine⟨by rw[Af,C7];omega,?_⟩
   rw[r1y];simp only[t5r,u0b,hi,Ae,Ad,y7t hi,zTn,y8k (t:=Ty.int .i64) hi,y7l (show i<4611686018427387904 by omega)]
   rw[o5p hm.1 (by omega)]
   simp only[zOb]
   rw[q6x (by rw[u8k,u8k];omega),t9w]) A (by omega)
 rw[s2u] at this
 rw[p20];unfold r7h
 simp only
 rw[this];rfl
theorem s3p (A:Hs) (ns:Hu Hs) (hn:∀n∈ns,n.size≤100) (hl:ns.length≤10) (hA:A.size≤1000000):u7b (z7t A,ns)=some (z7t (A++r6p u0q ns)):=by
 have:=t00 t33 ns (fun(A:Hs) i=>(z7t A,ns,(ns.length:Int),i)) (fun A n=>A++u0q n) (fun A=> .inl (z7t A)) (fun i A=>A.size≤1000000+i*102)
  (fun A _=>by rw[s8z];simp only[t3r,u0b,Am,Ah,Aa])
  (fun i hi A hP=>by
   have hm:=hn _ (Ag hi)
   have hv:=u00 (s:=ns[i]) (by omega)
   refine⟨by rw[Af,C7];omega,?_⟩
   rw[s8z];simp only[t3r,u0b,hi,Ae,Ad,y7t hi,zTn,y8k (t:=Ty.str) hi,y7l (show i<4611686018427387904 by omega)]
   rw[o67 (by omega)]
   simp only[zOb]
   rw[q6x (by rw[u8k,u8k];omega),t9w]) A (by omega)
 rw[s2u] at this
 rw[p0l];unfold r32
 simp only
 rw[this];rfl
theorem s8h (A:Hs) (b:Bool) (hA:A.size≤1000000):u8q (z7t A,b)=some (z7t (A++o4l b)):=by
 rw[p0k];unfold r31
 have e:z7t (o4l b)= [if b then 1 else 0] :=by cases b<;>rfl
 rw[t9w,e]
 cases b
 ·simp only[Aa]
  rw[q6x (by rw[u8k];simp;omega)];rfl
 ·simp only[Ad]
  rw[q6x (by rw[u8k];simp;omega)];rfl
theorem q9g (ns:Hu Int) (hn:∀n∈ns,0≤n∧n<16384) (hl:ns.length≤10):u6u (([] :Hu Int),ns)=some (z7t (r6p r9g ns)):=by
 have:=s6c emp ns hn hl (by simp[emp,ByteArray.size])
 rw[o4w] at this
 exact this
theorem r2t {E:Type} (f:E→Hs) (a:E):r6p f [a] =f a:=by rw[s5y,p83,o4k]
theorem p1d {E:Type} (f:E→Hs) (a b:E):r6p f [a,b] =f a++f b:=by rw[s5y,r2t]
theorem p7j {E:Type} (f:E→Hs) (a b c:E):r6p f [a,b,c] =f a++(f b++f c):=by rw[s5y,p1d]
theorem o84 {E:Type} (f:E→Hs) (a b c d e:E):r6p f [a,b,c,d,e] =f a++(f b++(f c++(f d++f e))):=by rw[s5y,s5y,p7j]
theorem s3h (t:u0g) (ht:u0x.wt t≤549755813888):t28 t=some (if u77 t=true then(t26 t,true) else(emp,false)):=by
 have hb:u0j=1099511627776:=rfl
 rw[p5l];unfold q06
 rw[s5k t (by omega)]
 simp only[zOb]
 cases hc:u77 t
 ·rfl
 ·have h:=q6o.mp hc
  obtain⟨z1,z2,z3,z4,z5⟩:=h.small
  have hi:=h.id;have hst:=h.st;have hsn:=h.snap;have hrl:=h.rlen
  have v1:=u17 (n:=t.1) (by omega)
  have v2:=u17 (n:=t.2.1) (by omega)
  have v3:=u17 (n:=t.2.2.1) (by omega)
  have v4:=u17 (n:=t.2.2.2.1) (by omega)
  have v5:=u17 (n:=(t.2.2.2.2.1.length:Int)) (by omega)
  have v6:=u17 (n:=(t.2.2.2.2.2.1.length:Int)) (by omega)
  have v7:=u00 (s:=t.2.2.2.2.2.2.2) (by omega)
  have L1:∀A:Hs,A.size≤1000→t2d (t,z7t A,t.2.2.2.2.1,(t.2.2.2.2.1.length:Int),0)=some (.inl (t,z7t (A++r6p o31 t.2.2.2.2.1))):=fun A hA=>by
   have:=t00 t2d t.2.2.2.2.1 (fun(A:Hs) i=>(t,z7t A,t.2.2.2.2.1,(t.2.2.2.2.1.length:Int),i)) (fun A r=>A++o31 r) (fun A=> .inl (t,z7t A)) (fun i A=>A.size≤1000+i*204)
    (fun A _=>by rw[r5x];simp only[t75,u0b,Am,Ah,Aa])
    (fun i hi A hP=>by
     have hr:=z1 _ (Ag hi)
     have hs:=q6h (r:=t.2.2.2.2.1[i]) (by omega)
     refine⟨by rw[Af,C7];omega,?_⟩
     rw[r5x];simp only[t75,u0b,hi,Ae,Ad,y7t hi,zTn,y8k (t:=t4z) hi,y7l (show i<4611686018427387904 by omega)]
     rw[s3p A [(t.2.2.2.2.1[i]).1,(t.2.2.2.2.1[i]).2] (by intro n hn;simp only[A8,Du,Em] at hn;rcases hn with rfl | rfl<;>omega) (by simp) (by omega)]
     simp only[zOb]
     rw[p1d];rfl) A (by omega)
   rw[s2u] at this
   exact this
  have L2:∀A:Hs,A.size≤10000→u9x (t,z7t A,t.2.2.2.2.2.1,(t.2.2.2.2.2.1.length:Int),0)=some (.inl (t,z7t (A++r6p wrT t.2.2.2.2.2.1))):=fun A hA=>by
   have:=t00 u9x t.2.2.2.2.2.1 (fun(A:Hs) i=>(t,z7t A,t.2.2.2.2.2.1,(t.2.2.2.2.2.1.length:Int),i)) (fun A r=>A++wrT r) (fun A=> .inl (t,z7t A)) (fun i A=>A.size≤10000+i*304)
    (fun A _=>by rw[r1v];simp only[t5o,u0b,Am,Ah,Aa])
    (fun i hi A hP=>by
     have hr:=z2 _ (Ag hi)
     have q1:=u00 (s:=(t.2.2.2.2.2.1[i]).1) (by omega)
     have q2:=u00 (s:=(t.2.2.2.2.2.1[i]).2.1) (by omega)
     have q3:=u3k (t.2.2.2.2.2.1[i]).2.2
     refine⟨by unfold wrT;simp only[Af,C7];omega,?_⟩
     rw[r1v];simp only[t5o,u0b,hi,Ae,Ad,y7t hi,zTn,y8k (t:=u20) hi,y7l (show i<4611686018427387904 by omega)]
     rw[s3p A [(t.2.2.2.2.2.1[i]).1,(t.2.2.2.2.2.1[i]).2.1] (by intro n hn;simp only[A8,Du,Em] at hn;rcases hn with rfl | rfl<;>omega) (by simp) (by omega)]
     simp only[zOb]
     rw[p1d,s8h _ _ (by simp only[Af];omega)]
     simp only[zOb]
     unfold wrT
     simp only[u9s]) A (by omega)
   rw[s2u] at this
   exact this
  have n1:(r6p o31 t.2.2.2.2.1).size≤t.2.2.2.2.1.length*204:=s0s fun r hr=>q6h (by have:=z1 r hr;omega)
  have n2:(r6p wrT t.2.2.2.2.2.1).size≤t.2.2.2.2.2.1.length*304:=s0s fun w hw=>by
   have:=z2 w hw
   have q1:=u00 (s:=w.1) (by omega)
   have q2:=u00 (s:=w.2.1) (by omega)
   unfold wrT;rw[Af,Af,u3k];omega
  simp only[Ap,Aa,Bl]
  rw[q9g [t.1,t.2.1,t.2.2.1,t.2.2.2.1,(t.2.2.2.2.1.length:Int)] (by intro n hn;simp only[A8,Du,Em] at hn;rcases hn with rfl | rfl | rfl | rfl | rfl<;>omega) (by simp)]
  simp only[zOb]
  rw[o84,L1 _ (by simp only[Af];omega)]
  simp only[zOb]
  rw[s6c _ [(t.2.2.2.2.2.1.length:Int)] (by intro n hn;simp only[A8,Du,Em] at hn;subst hn;omega) (by simp) (by simp only[Af];omega)]
  simp only[zOb]
  rw[r2t,L2 _ (by simp only[Af];omega)]
  simp only[zOb]
  rw[s8h _ _ (by simp only[Af];omega)]
  simp only[zOb]
  rw[s3p _ [t.2.2.2.2.2.2.2] (by intro n hn;simp only[A8,Du,Em] at hn;subst hn;omega) (by simp) (by simp only[Af,u3k];omega)]
  simp only[zOb]
  rw[r2t,t9l]
  unfold t26
  simp only[u9s]
theorem p8d (b:u0i) (hw:j5e.wt b≤549755813888):s6d b=some (if u79 b=true then(s3j b,true) else(emp,false)):=by
 have hb:u0j=1099511627776:=rfl
 have hbw:=r8a b
 rw[p2h];unfold r6z
 rw[t07 b (by omega)]
 simp only[zOb]
 cases hc:u79 b
 ·rfl
 ·have h:=p7i.mp hc
  obtain⟨w1,w2,w3⟩:=j0l.mp h.vs
  have hcs:=h.cs;have hx:=h.next;have hp:=h.plen;have hr:=h.rlen
  have q1:=u17 (n:=b.2.2.2.1) (by omega)
  have q2:=u17 (n:=b.2.2.2.2) (by omega)
  have q3:=u17 (n:=(b.1.length:Int)) (by omega)
  have q4:=s0s (f:=o3w) (k:=22) (l:=b.1) (fun v hv=>q6t (w1 v hv))
  have q5:=s5n (l:=b.2.1) (by omega) (fun t ht=>(h.past t ht).1)
  have q6:=s5n (l:=b.2.2.1) (by omega) (fun t ht=>(h.ready t ht).1)
  have L:∀A:Hs,A.size≤1000→u9w (b,z7t A,b.1,(b.1.length:Int),0)=some (.inl (b,z7t (A++r6p o3w b.1))):=fun A hA=>by
   have:=t00 u9w b.1 (fun(A:Hs) i=>(b,z7t A,b.1,(b.1.length:Int),i)) (fun A r=>A++o3w r) (fun A=> .inl (b,z7t A)) (fun i A=>A.size≤1000+i*22)
    (fun A _=>by rw[r1p];simp only[t5i,u0b,Am,Ah,Aa])
    (fun i hi A hP=>by
     have hm:=w1 _ (Ag hi)
     have hr:=q6t hm
     have hv:=s62 hm
     have s1:=u00 (s:=(b.1[i]).1) (by omega)
     have s2:=u00 (s:=(b.1[i]).2.1) (by omega)
     have s3:=u3k (b.1[i]).2.2.1
     refine⟨by rw[Af,C7];omega,?_⟩
     rw[r1p];simp only[t5i,u0b,hi,Ae,Ad,y7t hi,zTn,y8k (t:=u0d) hi,y7l (show i<4611686018427387904 by omega)]
     rw[s3p A [(b.1[i]).1,(b.1[i]).2.1] (by intro n hn;simp only[A8,Du,Em] at hn;rcases hn with rfl | rfl<;>omega) (by simp) (by omega)]
     simp only[zOb]
     rw[p1d,s8h _ _ (by simp only[Af];omega)]
     simp only[zOb]
     rw[s6c _ [(b.1[i]).2.2.2] (by intro n hn;simp only[A8,Du,Em] at hn;subst hn;omega) (by simp) (by simp only[Af];omega)]
     simp only[zOb]
     rw[r2t]
     unfold o3w
     simp only[u9s]) A (by omega)
   rw[s2u] at this
   exact this
  have IN:∀(A:Hs) (g:Hu (Hu u0g)) (n k:Int) (l:Hu u0g),A.size≤100000→l.length≤100→(Ty.sl u0x).wt l≤549755813888→(∀t∈l,TxnR t)→
   u80 (z7t A,g,n,k,l,(l.length:Int),0)=some (.inl (z7t (A++r6p t26 l),g,n,k)):=fun A g n k l hA hl hlw hok=>by
   have:=t00 u80 l (fun(A:Hs) i=>(z7t A,g,n,k,l,(l.length:Int),i)) (fun A r=>A++t26 r) (fun A=> .inl (z7t A,g,n,k)) (fun i A=>A.size≤100000+i*300)
    (fun A _=>by rw[s8t];simp only[t3l,u0b,Am,Ah,Aa])
    (fun i hi A hP=>by
     have hm:=Ag hi
     have hr:=s1m (hok _ hm)
     refine⟨by rw[Af,C7];omega,?_⟩
     rw[s8t];simp only[t3l,u0b,hi,Ae,Ad,y7t hi,zTn,y8k (t:=u0x) hi,y7l (show i<4611686018427387904 by omega)]
     rw[s3h _ (o94 hm hlw),Al (q6o.mpr (hok _ hm))]
     simp only[zOb]
     rw[q6x (by rw[u8k,u8k];omega),t9w]) A (by omega)
   rw[s2u] at this
   exact this
  have O:∀A:Hs,A.size≤10000→t3z (z7t A, [b.2.1,b.2.2.1],2,0)=some (.inl (z7t (A++r1o b.2.1++r1o b.2.2.1))):=fun A hA=>by
   have v1:=u17 (n:=(b.2.1.length:Int)) (by omega)
   have v2:=u17 (n:=(b.2.2.1.length:Int)) (by omega)
   have e0:y4q 0 [b.2.1,b.2.2.1].length=true:=rfl
   have e1:y4q 1 [b.2.1,b.2.2.1].length=true:=rfl
   have r0:rdL (Ty.sl u0x) [b.2.1,b.2.2.1] (0:Int).toNat=b.2.1:=rfl
   have r1:rdL (Ty.sl u0x) [b.2.1,b.2.2.1] (1:Int).toNat=b.2.2.1:=rfl
   have w0:IntKind.i64.wrap ((0:Int)+1)=1:=rfl
   have w1:IntKind.i64.wrap ((1:Int)+1)=2:=rfl
   rw[s1n];simp only[u8y]
   rw[q2i (by omega),e0,r0,s6c A [(b.2.1.length:Int)] (by intro n hn;simp only[A8,Du,Em] at hn;subst hn;omega) (by simp) (by omega)]
   simp only[Ad,zOb]
   rw[r2t,IN _ _ _ _ b.2.1 (by simp only[Af];omega) (by omega) (by omega) (fun t ht=>(h.past t ht).1)]
   simp only[zOb]
   rw[w0,s1n];simp only[u8y]
   have n1:(A++r9g (b.2.1.length:Int)++r6p t26 b.2.1).size≤20000:=by
    have:A++r9g (b.2.1.length:Int)++r6p t26 b.2.1=A++r1o b.2.1:=by unfold r1o;rw[u9s]
    rw[this,Af];omega
   rw[q2i (by omega),e1,r1,s6c _ [(b.2.2.1.length:Int)] (by intro n hn;simp only[A8,Du,Em] at hn;subst hn;omega) (by simp) (by omega)]
   simp only[Ad,zOb]
   rw[r2t,IN _ _ _ _ b.2.2.1 (by rw[Af];omega) (by omega) (by omega) (fun t ht=>(h.ready t ht).1)]
   simp only[zOb]
   rw[w1,s1n];simp only[u8y]
   unfold r1o
   simp[u9s]
  simp only[Ap,Aa,Bl]
  rw[q9g [b.2.2.2.1,b.2.2.2.2,(b.1.length:Int)] (by intro n hn;simp only[A8,Du,Em] at hn;rcases hn with rfl | rfl | rfl<;>omega) (by simp)]
  simp only[zOb]
  rw[p7j,L _ (by simp only[Af];omega)]
  simp only[zOb]
  have e2:(([b.2.1,b.2.2.1] :Hu (Hu u0g)).length:Int)=2:=rfl
  rw[e2,O _ (by simp only[Af];omega)]
  simp only[zOb]
  rw[t9l]
  unfold s3j
  simp only[u9s]
end
section
theorem o6l {W:Int×Hs×Int×Int→Ht ((Int×Hs×Int)⊕Unit)}
 (hW:∀x,W x=(bif decide (x.2.2.2<(8:Int)) then(bif decide (Int.tmod x.1 (2:Int)=(1:Int)) then W (IntKind.u32.wrap ((BitVec.ofInt IntKind.u32.bits (IntKind.u32.wrap (Int.tdiv x.1 (2:Int)))^^^BitVec.ofInt IntKind.u32.bits (3558460437:Int)).toNat:Int),x.2.1,x.2.2.1,IntKind.i64.wrap (x.2.2.2+(1:Int)))
  else W (IntKind.u32.wrap (Int.tdiv x.1 (2:Int)),x.2.1,x.2.2.1,IntKind.i64.wrap (x.2.2.2+(1:Int)))) else some (.inl (x.1,x.2.1,x.2.2.1)))) (t:Hs) (k:Int):
 ∀(n:Nat) (x:Int) (i:Nat),i+n=8→W (x,t,k,(i:Int))=some (.inl (p4n n x,t,k)):=by
 intro n
 induction n with
 | zero=>
  intro x i hi
  have:i=8:=by omega
  subst this
  rw[hW];rfl
 | succ n ih=>
  intro x i hi
  rw[hW]
  simp only
  rw[q2i (by omega),y7l (by omega),ih _ (i+1) (by omega),ih _ (i+1) (by omega)]
  rw[show p4n (n+1) x=p4n n (o92 x) from rfl]
  unfold o92 j38
  cases decide (Int.tmod x 2=1)<;>rfl
theorem o6m (f:Int→UInt8→Int) (t:Hs) {W:Int×Hs×Int→Ht (Int⊕Unit)} (ht:t.size≤1099511627776)
 (hend:∀x,W (x,t,(t.size:Int))=some (.inl x))
 (hstep:∀(i:Nat),i<t.size→ ∀x,W (x,t,(i:Int))=W (f x (t.data.toList.getD i 0),t,((i+1:Nat):Int))) (x:Int):W (x,t,0)=some (.inl (t.data.toList.foldl f x)):=by
 have e:t.size=t.data.toList.length:=q3m t
 exact t00 W t.data.toList (fun x i=>(x,t,i)) f (fun x=> .inl x) (fun _ _=>True) (fun x _=>by rw[←e];exact hend x)
  (fun i hi x _=>⟨trivial,by
   rw[hstep i (by rw[e];exact hi) x]
   congr 2
   rw[A5,A4 hi];rfl⟩) x trivial
theorem o1f (x:Int) (t:Hs) (ht:t.size≤1099511627776):s9g (x,t)=some (t.data.toList.foldl p4o x):=by
 have L:=o6m p4o t (W:=t8r) ht
  (fun x=>by rw[r5s];simp only[t70,u0b,Am,Ah,Aa])
  (fun i hi x=>by
   rw[r5s];simp only[t70,u0b,hi,Ae,Ad,y7t hi,zTn]
   have:=o6l (W:=t8s) (fun x=>p05 x) t (i:Int) 8 (j38 x (IntKind.u32.wrap ((t.data.toList.getD i 0).toNat:Int))) 0 rfl
   unfold j38 at this
   rw[show((0:Nat):Int)=0 from rfl] at this
   rw[this]
   simp only[zOb,y7l (show i<4611686018427387904 by omega)]
   rfl) x
 rw[p5h];unfold q02
 simp only[L,zOb]
theorem q8f (x:Int) (t:Hs) (ht:t.size≤1099511627776):s9q (x,t)=some (t.data.toList.foldl p4o x):=by
 have L:=o6m p4o t (W:=t8x) ht
  (fun x=>by rw[r6b];simp only[t8h,u0b,Am,Ah,Aa])
  (fun i hi x=>by
   rw[r6b];simp only[t8h,u0b,hi,Ae,Ad,y7t hi,zTn]
   have:=o6l (W:=t8y) (fun x=>p07 x) t (i:Int) 8 (j38 x (IntKind.u32.wrap ((t.data.toList.getD i 0).toNat:Int))) 0 rfl
   unfold j38 at this
   rw[show((0:Nat):Int)=0 from rfl] at this
   rw[this]
   simp only[zOb,y7l (show i<4611686018427387904 by omega)]
   rfl) x
 rw[p55];unfold q1q
 simp only[L,zOb]
theorem s5q (t:Hs) (ht:t.size≤1099511627776):t6q t=some (p4h t):=by
 rw[p9e];unfold q4s p4h
 have e1:decide ((t.size:Int) >20000)= !decide (t.size≤20000):=by by_cases h:t.size≤20000<;>simp[h] <;>omega
 rw[e1,o13];unfold q8q
 rw[o1f _ _ ht]
 simp only[zOb]
 by_cases h:t.size≤20000
 ·rw[Bb h,Al h]
  simp only[Ap,Aa]
  rw[q2i (by rw[u6a];simp;omega)]
  rfl
 ·rw[A7 h,Ao h];rfl
theorem r2r (t:Hs) (ht:t.size≤1099511627776):s1e t=some (p4h t):=by
 rw[p9x];unfold q5c p4h
 have e1:decide ((t.size:Int) >20000)= !decide (t.size≤20000):=by by_cases h:t.size≤20000<;>simp[h] <;>omega
 rw[e1,q9b];unfold r7x
 rw[q8f _ _ ht]
 simp only[zOb]
 rw[q2l];unfold q10
 simp only[zOb]
 by_cases h:t.size≤20000
 ·rw[Bb h,Al h]
  simp only[Ap,Aa]
  rw[q2i (by rw[u6a];simp;omega)]
  rfl
 ·rw[A7 h,Ao h];rfl
theorem t1t (k:Int):(y7g [k]).size=1:=u6a _
theorem r9w {k:Int} (h0:0≤k) (h1:k≤255): [IntKind.u8.wrap k] =z7t (y7g [IntKind.u8.wrap k]):=by
 obtain⟨n,rfl⟩:∃n:Nat,k=n:=⟨k.toNat,by omega⟩
 rw[o5q,show((n:Int) % 256)=n by omega]
 unfold z7t y7g
 simp
 omega
theorem t4j (r:s7e) (hw:j78.wt r≤549755813888):u37 r=some (u0r r):=by
 have hr:=r9b r
 rw[q7n];unfold r0h u0r
 rw[q4g r hw]
 simp only[zOb]
 cases hc:u7q r
 ·rfl
 ·have h:=j2x.mp hc
  have hz:=s5l h
  simp only[Ap,Aa,Bl]
  cases h with
  | thr t h hs=>
   have:=s1m h
   have ht:=r6u t (by have:u0x.wt t≤j78.wt (1,t,emp,false,u2u):=by rw[hr];simp only;omega
                      omega)
   rw[Al (q6o.mpr h)] at ht
   simp only[Int.reduceEq,Ae,Ah,Ad,Aa]
   rw[ht]
   simp only[zOb]
   rw[q2i (by rw[t1t];omega),r2r _ (by rw[Af,t1t];omega)]
   rfl
  | rdy t h hs=>
   have:=s1m h
   have ht:=r6u t (by have:u0x.wt t≤j78.wt (2,t,emp,false,u2u):=by rw[hr];simp only;omega
                      omega)
   rw[Al (q6o.mpr h)] at ht
   simp only[Int.reduceEq,Ae,Ah,Ad,Aa]
   rw[ht]
   simp only[zOb]
   rw[q2i (by rw[t1t];omega),r2r _ (by rw[Af,t1t];omega)]
   rfl
  | fin n y h=>
   have:=u3i h
   have q:=u00 (s:=n) (by omega)
   simp only[Int.reduceEq,Ae,Ah,Ad,Aa]
   rw[t9q (by omega)]
   simp only[zOb]
   rw[q2i (by rw[t1t];omega),p1c]
   simp only[zOb]
   rw[q2i (by simp only[Af,t1t,u3k];omega),r2r _ (by simp only[Af,t1t,u3k];omega),u9s]
   rfl
  | bas b h=>
   have:=q65 h
   have a1:=(j0l.mp h.vs).2.2
   have a2:=h.plen
   have a3:=h.rlen
   have ht:=p8e b (by have:j5e.wt b≤j78.wt (4,u6k,emp,false,b):=by rw[hr];simp only;omega
                      omega)
   rw[Al (p7i.mpr h)] at ht
   simp only[Int.reduceEq,Ae,Ah,Ad,Aa]
   rw[ht]
   simp only[zOb]
   rw[q2i (by rw[t1t];omega),r2r _ (by rw[Af,t1t];omega)]
   rfl
theorem t4i (r:s7e) (hw:j78.wt r≤549755813888):u35 r=some (u0r r):=by
 have hr:=r9b r
 rw[q7d];unfold s97 u0r
 rw[q4f r hw]
 simp only[zOb]
 cases hc:u7q r
 ·rfl
 ·have h:=j2x.mp hc
  have hz:=s5l h
  simp only[Ap,Aa,Bl]
  cases h with
  | thr t h hs=>
   have:=s1m h
   have ht:=s3h t (by have:u0x.wt t≤j78.wt (1,t,emp,false,u2u):=by rw[hr];simp only;omega
                      omega)
   rw[Al (q6o.mpr h)] at ht
   simp only[Int.reduceEq,Ae,Ah,Ad,Aa]
   rw[ht]
   simp only[zOb]
   rw[q6x (by rw[u8k];simp;omega),r9w (k:=1) (by omega) (by omega),←t9w,t9l,s5q _ (by rw[Af,t1t];omega)]
   rfl
  | rdy t h hs=>
   have:=s1m h
   have ht:=s3h t (by have:u0x.wt t≤j78.wt (2,t,emp,false,u2u):=by rw[hr];simp only;omega
                      omega)
   rw[Al (q6o.mpr h)] at ht
   simp only[Int.reduceEq,Ae,Ah,Ad,Aa]
   rw[ht]
   simp only[zOb]
   rw[q6x (by rw[u8k];simp;omega),r9w (k:=2) (by omega) (by omega),←t9w,t9l,s5q _ (by rw[Af,t1t];omega)]
   rfl
  | fin n y h=>
   have:=u3i h
   have q:=u00 (s:=n) (by omega)
   simp only[Int.reduceEq,Ae,Ah,Ad,Aa]
   rw[r9w (k:=3) (by omega) (by omega),s3p _ [n] (by intro m hm;simp only[A8,Du,Em] at hm;subst hm;omega) (by simp) (by rw[t1t];omega)]
   simp only[zOb]
   rw[r2t,s8h _ _ (by rw[Af,t1t];omega)]
   simp only[zOb]
   rw[t9l,s5q _ (by simp only[Af,t1t,u3k];omega),u9s]
   rfl
  | bas b h=>
   have:=q65 h
   have a1:=(j0l.mp h.vs).2.2
   have a2:=h.plen
   have a3:=h.rlen
   have ht:=p8d b (by have:j5e.wt b≤j78.wt (4,u6k,emp,false,b):=by rw[hr];simp only;omega
                      omega)
   rw[Al (p7i.mpr h)] at ht
   simp only[Int.reduceEq,Ae,Ah,Ad,Aa]
   rw[ht]
   simp only[zOb]
   rw[q6x (by rw[u8k];simp;omega),r9w (k:=4) (by omega) (by omega),←t9w,t9l,s5q _ (by rw[Af,t1t];omega)]
   rfl
end
section
def inT (s:Hs) (c:Cur):Prop:=0≤c.1∧c.1≤(s.size:Int)
def bad (c:Cur) (k:Int):Int:=if c.2=true then k else 0
theorem u2d {s:Hs} {c:Cur} (h:inT s c):inT s (u2s s c).2∧0≤(u2s s c).1∧(u2s s c).1≤1000000000∧c.1+1≤(u2s s c).2.1+bad (u2s s c).2 1:=by
 unfold u2s
 split
 ·refine⟨h,by simp,by simp,?_⟩
  simp only[bad,Bl];omega
 ·rename_i q
  simp only[Hr,Ey,Bool.not_eq_false] at q
  have:=t92 q.2
  refine⟨⟨?_,?_⟩,?_,?_,?_⟩
  ·simp only;omega
  ·simp only;omega
  ·simp only;omega
  ·simp only;omega
  ·simp only[bad,Br,Bk];omega
theorem p62 {t:Hs} {a:Int} (h:(u0m t a).2.2=true):a+1+((u0m t a).1.size:Int)≤(u0m t a).2.1∧0≤a:=by
 unfold u0m at h ⊢
 split at h
 ·rename_i hc
  rw[Al hc]
  have:=t92 hc.1
  simp only[Bd]
  omega
 ·cases h
theorem u89 {s:Hs} {c:Cur} (h:inT s c):inT s (u22 s c).2∧c.1+1+((u22 s c).1.size:Int)≤(u22 s c).2.1+bad (u22 s c).2 1:=by
 unfold u22
 split
 ·refine⟨h,?_⟩
  simp only[bad,Bl,emp,ByteArray.size];simp
 ·rename_i q
  simp only[Hr,Ey,Bool.not_eq_false] at q
  have h1:=r88 q.2
  have h2:=p62 q.2
  refine⟨⟨?_,?_⟩,?_⟩
  ·simp only;omega
  ·simp only;omega
  ·simp only[bad,Br,Bk];omega
theorem o6i {s:Hs} {c:Cur} (h:inT s c):inT s (q6y s c).2∧c.1+1≤(q6y s c).2.1+bad (q6y s c).2 1:=by
 unfold q6y
 split
 ·refine⟨h,?_⟩
  simp only[bad,Bl];omega
 ·rename_i q
  simp only[Hr,Decidable.not_not] at q
  unfold inT
  simp only[bad,Br,Bk];omega
theorem u94 (c:Cur) {k:Int} (hk:0≤k):0≤bad c k∧bad c k≤k:=by unfold bad;split<;>omega
theorem q5p {c c' :Cur} (h:c.2=true→c'.2=true) {k:Int} (hk:0≤k):bad c k≤bad c' k:=by
 unfold bad
 by_cases q:c.2=true
 ·rw[Al q,Al (h q)];omega
 ·rw[Ao q];split<;>omega
def j3h {E:Type} (w:E→Nat) (k:Int) (s:Hs) (f:Cur→E×Cur):Prop:= ∀c,inT s c→inT s (f c).2∧c.1+1+(w (f c).1:Int)≤(f c).2.1+bad (f c).2 k
theorem t7s {E:Type} {w:E→Nat} {k:Int} {s:Hs} {f:Cur→E×Cur} (hk:0≤k) (hf:j3h w k s f):∀(n:Nat) (c:Cur) (a:Hu E),inT s c→
 inT s (u24 f n c a).2∧c.1+((u24 f n c a).1.length+((u24 f n c a).1.map w).sum:Nat)≤(u24 f n c a).2.1+(a.length+(a.map w).sum:Nat)+bad (u24 f n c a).2 k
 | 0,c,a,h=>⟨h,by have:=u94 (u24 f 0 c a).2 hk;simp only[u24] at*;omega⟩
 | n+1,c,a,h=>by
  simp only[u24]
  split
  ·exact⟨h,by have:=u94 c hk;simp only;omega⟩
  ·obtain⟨h1,h2⟩:=hf c h
   obtain⟨h3,h4⟩:=t7s hk hf n (f c).2 (a++ [(f c).1]) h1
   refine⟨h3,?_⟩
   have e1:(a++ [(f c).1]).length=a.length+1:=by simp
   have e2:((a++ [(f c).1]).map w).sum=(a.map w).sum+w (f c).1:=by simp
   rw[e1,e2] at h4
   have hm:bad (f c).2 k≤bad (u24 f n (f c).2 (a++ [(f c).1])).2 k∧(bad (f c).2 k≠0→u24 f n (f c).2 (a++ [(f c).1])=(a++ [(f c).1],(f c).2)):=by
    by_cases q:(f c).2.2=true
    ·rw[t7r q];exact⟨Bv _,fun _=>rfl⟩
    ·have:bad (f c).2 k=0:=by unfold bad;rw[Ao q]
     rw[this];exact⟨(u94 _ hk).1,fun h=>absurd rfl h⟩
   by_cases z:bad (f c).2 k=0
   ·omega
   ·have e:=hm.2 z
    rw[e]
    simp only[e1,e2]
    omega
theorem r83 (s:Hs):j3h t4z.wt 2 s (o0g s):=fun c h=>by
 obtain⟨h1,h2⟩:=u89 h
 obtain⟨h3,h4⟩:=u89 h1
 have b1:=q5p (c:=(u22 s c).2) (c' :=(u22 s (u22 s c).2).2) r1k (k:=1) (by omega)
 have b2:bad (u22 s (u22 s c).2).2 2=2*bad (u22 s (u22 s c).2).2 1:=by unfold bad;split<;>omega
 refine⟨h3,?_⟩
 have e:t4z.wt (o0g s c).1=(u22 s c).1.size+(u22 s (u22 s c).2).1.size:=rfl
 have e2:(o0g s c).2=(u22 s (u22 s c).2).2:=rfl
 rw[e,e2];omega
theorem q6g (s:Hs):j3h u20.wt 3 s (rWr s):=fun c h=>by
 obtain⟨h1,h2⟩:=u89 h
 obtain⟨h3,h4⟩:=u89 h1
 obtain⟨h5,h6⟩:=o6i h3
 have b1:=q5p (c:=(u22 s c).2) (c' :=(u22 s (u22 s c).2).2) r1k (k:=1) (by omega)
 have b2:=q5p (c:=(u22 s (u22 s c).2).2) (c' :=(q6y s (u22 s (u22 s c).2).2).2) q6f (k:=1) (by omega)
 have b3:bad (q6y s (u22 s (u22 s c).2).2).2 3=3*bad (q6y s (u22 s (u22 s c).2).2).2 1:=by unfold bad;split<;>omega
 refine⟨h5,?_⟩
 have e:u20.wt (rWr s c).1=(u22 s c).1.size+((u22 s (u22 s c).2).1.size+0):=rfl
 have e2:(rWr s c).2=(q6y s (u22 s (u22 s c).2).2).2:=rfl
 rw[e,e2];omega
theorem r85 (s:Hs):j3h u0d.wt 4 s (o0i s):=fun c h=>by
 obtain⟨h1,h2⟩:=q6g s c h
 obtain⟨h3,h4,h5,h6⟩:=u2d h1
 have b1:=q5p (c:=(rWr s c).2) (c' :=(u2s s (rWr s c).2).2) t1w (k:=3) (by omega)
 have b3:bad (u2s s (rWr s c).2).2 4=bad (u2s s (rWr s c).2).2 1+bad (u2s s (rWr s c).2).2 3:=by unfold bad;split<;>omega
 refine⟨h3,?_⟩
 have e:u0d.wt (o0i s c).1=u20.wt (rWr s c).1:=rfl
 have e2:(o0i s c).2=(u2s s (rWr s c).2).2:=rfl
 rw[e,e2];omega
theorem p4c (m:Nat) (s:Hs):j3h u0x.wt 20 s (p1h m s):=fun c h=>by
 unfold p1h
 simp only
 obtain⟨a1,a2,a3,a4⟩:=u2d h
 generalize hA:u2s s c=A at a1 a2 a3 a4 ⊢
 obtain⟨b1,b2,b3,b4⟩:=u2d a1
 have mB:A.2.2=true→(u2s s A.2).2.2=true:=t1w
 generalize hB:u2s s A.2=B at b1 b2 b3 b4 mB ⊢
 obtain⟨d1,d2,d3,d4⟩:=u2d b1
 have mD:B.2.2=true→(u2s s B.2).2.2=true:=t1w
 generalize hD:u2s s B.2=D at d1 d2 d3 d4 mD ⊢
 obtain⟨e1,e2,e3,e4⟩:=u2d d1
 have mE:D.2.2=true→(u2s s D.2).2.2=true:=t1w
 generalize hE:u2s s D.2=E at e1 e2 e3 e4 mE ⊢
 obtain⟨f1,f2,f3,f4⟩:=u2d e1
 have mF:E.2.2=true→(u2s s E.2).2.2=true:=t1w
 generalize hF:u2s s E.2=F at f1 f2 f3 f4 mF ⊢
 obtain⟨g1,g2⟩:=t7s (by omega) (r83 s) (min F.1.toNat m) F.2 [] f1
 have mG:F.2.2=true→(u24 (o0g s) (min F.1.toNat m) F.2 []).2.2=true:=fun q=>by rw[t7r q];exact q
 generalize hG:u24 (o0g s) (min F.1.toNat m) F.2 [] =G at g1 g2 mG ⊢
 obtain⟨k1,k2,k3,k4⟩:=u2d g1
 have mK:G.2.2=true→(u2s s G.2).2.2=true:=t1w
 generalize hK:u2s s G.2=K at k1 k2 k3 k4 mK ⊢
 obtain⟨l1,l2⟩:=t7s (by omega) (q6g s) (min K.1.toNat m) K.2 [] k1
 have mL:K.2.2=true→(u24 (rWr s) (min K.1.toNat m) K.2 []).2.2=true:=fun q=>by rw[t7r q];exact q
 generalize hL:u24 (rWr s) (min K.1.toNat m) K.2 [] =L at l1 l2 mL ⊢
 obtain⟨o1,o2⟩:=o6i l1
 have mO:L.2.2=true→(q6y s L.2).2.2=true:=q6f
 generalize hO:q6y s L.2=O at o1 o2 mO ⊢
 obtain⟨p1,p2⟩:=u89 o1
 have mP:O.2.2=true→(u22 s O.2).2.2=true:=r1k
 generalize hP:u22 s O.2=P at p1 p2 mP ⊢
 refine⟨p1,?_⟩
 have e:u0x.wt (A.1,B.1,D.1,E.1,G.1,L.1,O.1,P.1)=0+(0+(0+(0+((Ty.sl t4z).wt G.1+((Ty.sl u20).wt L.1+(0+P.1.size)))))):=rfl
 have eG:(Ty.sl t4z).wt G.1=G.1.length+(G.1.map t4z.wt).sum:=rfl
 have eL:(Ty.sl u20).wt L.1=L.1.length+(L.1.map u20.wt).sum:=rfl
 simp only[Cc,Eh,Gq] at g2 l2
 rw[e,eG,eL]
 by_cases q:P.2.2=true
 ·have:bad P.2 20=20:=by unfold bad;rw[Al q]
  rw[this]
  have t1:=(u94 A.2 (k:=1) (by omega)).2
  have t2:=(u94 B.2 (k:=1) (by omega)).2
  have t3:=(u94 D.2 (k:=1) (by omega)).2
  have t4:=(u94 E.2 (k:=1) (by omega)).2
  have t5:=(u94 F.2 (k:=1) (by omega)).2
  have t6:=(u94 G.2 (k:=2) (by omega)).2
  have t7:=(u94 K.2 (k:=1) (by omega)).2
  have t8:=(u94 L.2 (k:=3) (by omega)).2
  have t9:=(u94 O.2 (k:=1) (by omega)).2
  have t10:=(u94 P.2 (k:=1) (by omega)).2
  omega
 ·have zP:P.2.2=false:=by simpa using q
  have z:∀ {x y:Cur},(x.2=true→y.2=true)→y.2=false→x.2=false:=fun {x y} i j=>by
   cases w:x.2
   ·rfl
   ·rw[i w] at j;cases j
  have zO:=z mP zP
  have zL:=z mO zO
  have zK:=z mL zL
  have zG:=z mK zK
  have zF:=z mG zG
  have zE:=z mF zF
  have zD:=z mE zE
  have zB:=z mD zD
  have zA:=z mB zB
  simp only[bad,zP,zO,zL,zK,zG,zF,zE,zD,zB,zA,Br,Bk] at*
  omega
theorem r1i (m:Nat) (s:Hs):j3h u0x.wt 20 s (u7l m s):=fun c h=>by
 obtain⟨h1,h2⟩:=p4c m s c h
 refine⟨h1,?_⟩
 have:bad (p1h m s c).2 20≤bad (u7l m s c).2 20:=q5p (fun q=>by unfold u7l;simp only[q,Dx]) (by omega)
 have e1:(u7l m s c).1=(p1h m s c).1:=rfl
 have e2:(u7l m s c).2.1=(p1h m s c).2.1:=rfl
 rw[e1,e2];omega
end
section
theorem t83 {s:Hs} (c:Cur) (hs:s.size≤u0j):u1e (s,c)=some ((u2s s c).1,s,(u2s s c).2):=by
 rw[q7j];unfold r0d u2s
 simp only[q8b s c.1 hs,zOb]
 cases h1:c.2
 ·cases h2:(u0s s c.1).2.2<;>simp
 ·simp
theorem s3v {s:Hs} (c:Cur) (hs:s.size≤u0j):u2h (s,c)=some ((u22 s c).1,s,(u22 s c).2):=by
 rw[q50];unfold s7u u22
 simp only[q0o s c.1 hs,zOb]
 cases h1:c.2
 ·cases h2:(u0m s c.1).2.2
  ·simp[emp]
  ·simp
 ·simp[emp]
theorem gt1 (n:Nat):decide ((n:Int) >1)=decide (1<n):=by simp;omega
theorem eq1 (n:Nat):decide ((n:Int)=1)=decide (n=1):=by simp;omega
theorem q56 {s:Hs} (c:Cur) (hs:s.size≤u0j):u65 (s,c)=some ((q6y s c).1,s,(q6y s c).2):=by
 have hb:u0j=1099511627776:=rfl
 rw[q5z];unfold s7t q6y
 simp only[s1o]
 rw[y4y (n:=(s.size:Int) - 1) (by omega) (by omega)]
 cases h1:c.2
 ·by_cases h2:0≤c.1∧c.1<(s.size:Int)
  ·obtain⟨k,hk⟩:∃k:Nat,c.1=k:=⟨c.1.toNat,by omega⟩
   have e1:r2k c.1 0 ((s.size:Int) - 1)=true:=by rw[s9c];exact Bb (by omega)
   have e2:IntKind.i64.wrap (IntKind.i64.wrap (c.1+1) - 1)=c.1:=by rw[y4y (n:=c.1+1) (by omega) (by omega),y4y (by omega) (by omega)];omega
   have e3:IntKind.i64.wrap (c.1+1)=c.1+1:=y4y (by omega) (by omega)
   rw[hk] at e1 e2 e3 ⊢
   have e4:IntKind.i64.wrap (k:Int)=k:=y4y (by omega) (by omega)
   have e5:IntKind.i64.wrap ((k:Int)+1 - 1)=k:=by rw[y4y (by omega) (by omega)];omega
   simp only[e1,e2,e3,e5,Aa,zOb,Ap,y7t (show k<s.size by omega),Ad,zTn,gt1,eq1]
   rw[show(s.data.toList.getD k 0).toNat=u8a s k from rfl]
   by_cases h3:1<u8a s k
   ·simp[h3]
   ·have h3' :u8a s k≤1:=by omega
    have h4:((k:Int)<(s.size:Int)):=by omega
    simp[h3,h3',show k<s.size by omega,e4,y7t (show k<s.size by omega)]
  ·have e1:r2k c.1 0 ((s.size:Int) - 1)=false:=by rw[s9c];exact A7 (by omega)
   simp only[e1,Aa,zOb,Bh,Ad]
   rw[Al (.inr (.inl h2))]
 ·simp
theorem s3m {E X R U:Type} {s:Hs} (W:X→Ht (R⊕U)) (mk:Cur→Hu E→Int→X) (res:Cur→Hu E→R) (f:Cur→E×Cur) (N:Nat)
 (hf:∀c,inT s c→inT s (f c).2)
 (hend:∀c a (i:Nat),(N≤i∨c.2=true)→W (mk c a (i:Int))=some (.inl (res c a)))
 (hstep:∀c a (i:Nat),i<N→c.2=false→inT s c→a.length≤i→W (mk c a (i:Int))=W (mk (f c).2 (a++ [(f c).1]) ((i+1:Nat):Int))):
 ∀(k i:Nat) c a,i+k=N→inT s c→a.length≤i→W (mk c a (i:Int))=some (.inl (res (u24 f k c a).2 (u24 f k c a).1)):=by
 intro k
 induction k with
 | zero=>intro i c a hi hc ha;exact hend c a i (.inl (by omega))
 | succ k ih=>
  intro i c a hi hc ha
  simp only[u24]
  split
  ·rename_i q;exact hend c a i (.inr q)
  ·rename_i q
   rw[hstep c a i (by omega) (by simpa using q) hc ha,ih (i+1) _ _ (by omega) (hf c hc) (by simp;omega)]
theorem q5r {n:Int} {i:Nat} {c:Cur} (h:n.toNat≤i∨c.2=true):((bif decide ((i:Int)<n) then some (!c.2) else some false:Ht Bool))=some false:=by
 rcases h with h | h
 ·rw[A7 (by omega)];rfl
 ·rw[h];cases decide ((i:Int)<n)<;>rfl
theorem r8c {n:Int} {i:Nat} {c:Cur} (h:i<n.toNat) (hc:c.2=false):((bif decide ((i:Int)<n) then some (!c.2) else some false:Ht Bool))=some true:=by
 rw[Bb (by omega),hc];rfl
theorem r8d {E:Type} {w:E→Nat} {k:Int} {s:Hs} {f:Cur→E×Cur} (h:j3h w k s f):∀c,inT s c→inT s (f c).2:=fun c hc=>(h c hc).1
theorem o9w {s:Hs} (hs:s.size≤u0j) (t:u0g) (ht:t.2.2.2.2.1= []) {c:Cur} (hc:inT s c):
 u3l ((s,c),t,())=some ((s,(u24 (o0g s) (min (u2s s c).1.toNat 1000000000) (u2s s c).2 []).2),
  (t.1,t.2.1,t.2.2.1,t.2.2.2.1,(u24 (o0g s) (min (u2s s c).1.toNat 1000000000) (u2s s c).2 []).1,t.2.2.2.2.2),()):=by
 obtain⟨h1,h2,h3,h4⟩:=u2d hc
 rw[t7h];unfold u7s
 simp only
 rw[t83 c hs]
 simp only[zOb]
 generalize u2s s c=y at h1 h2 h3 h4 ⊢
 have L:=s3m (s:=s) u08 (fun(c:Cur) (a:Hu s7f) i=>((s,c),(((t.1,t.2.1,t.2.2.1,t.2.2.2.1,a,t.2.2.2.2.2):u0g),()),y.1,i))
  (fun(c:Cur) (a:Hu s7f)=>((s,c),((t.1,t.2.1,t.2.2.1,t.2.2.2.1,a,t.2.2.2.2.2):u0g),())) (o0g s) y.1.toNat (r8d (r83 s))
  (fun c a i h=>by rw[u66];simp only[u2a];rw[q5r h];rfl)
  (fun c a i h hc2 hin ha=>by
   rw[u66];simp only[u2a];rw[r8c h hc2]
   simp only[zOb,Ad]
   rw[q3n];unfold s5u
   simp only
   rw[s3v c hs]
   simp only[zOb]
   rw[s3v _ hs]
   simp only[zOb]
   rw[q6x (by simp;omega),y7l (by omega)]
   rfl) y.1.toNat 0 y.2 [] (by omega) h1 (by simp)
 rw[show min y.1.toNat 1000000000=y.1.toNat by omega]
 obtain⟨t1,t2,t3,t4,t5,t6⟩:=t
 simp only at ht
 subst ht
 have L' :u08 ((s,y.2),(((t1,t2,t3,t4, [],t6):u0g),()),y.1,0)=some (.inl ((s,(u24 (o0g s) y.1.toNat y.2 []).2),((t1,t2,t3,t4,(u24 (o0g s) y.1.toNat y.2 []).1,t6):u0g),())):=L
 rw[L'];rfl
theorem j2f {s:Hs} (hs:s.size≤u0j) (t:u0g) (ht:t.2.2.2.2.2.1= []) {c:Cur} (hc:inT s c):
 u3m ((s,c),(),t)=some ((s,(u24 (rWr s) (min (u2s s c).1.toNat 1000000000) (u2s s c).2 []).2),(),
  (t.1,t.2.1,t.2.2.1,t.2.2.2.1,t.2.2.2.2.1,(u24 (rWr s) (min (u2s s c).1.toNat 1000000000) (u2s s c).2 []).1,t.2.2.2.2.2.2)):=by
 obtain⟨h1,h2,h3,h4⟩:=u2d hc
 rw[t7i];unfold u7t
 simp only
 rw[t83 c hs]
 simp only[zOb]
 generalize u2s s c=y at h1 h2 h3 h4 ⊢
 have L:=s3m (s:=s) u09 (fun(c:Cur) (a:Hu WrT) i=>((s,c),((),((t.1,t.2.1,t.2.2.1,t.2.2.2.1,t.2.2.2.2.1,a,t.2.2.2.2.2.2):u0g)),y.1,i))
  (fun(c:Cur) (a:Hu WrT)=>((s,c),(),((t.1,t.2.1,t.2.2.1,t.2.2.2.1,t.2.2.2.2.1,a,t.2.2.2.2.2.2):u0g))) (rWr s) y.1.toNat (r8d (q6g s))
  (fun c a i h=>by rw[u67];simp only[u2b];rw[q5r h];rfl)
  (fun c a i h hc2 hin ha=>by
   rw[u67];simp only[u2b];rw[r8c h hc2]
   simp only[zOb,Ad]
   rw[q3o];unfold s5v
   simp only
   rw[s3v c hs]
   simp only[zOb]
   rw[s3v _ hs]
   simp only[zOb]
   rw[q56 _ hs]
   simp only[zOb]
   rw[q6x (by simp;omega),y7l (by omega)]
   rfl) y.1.toNat 0 y.2 [] (by omega) h1 (by simp)
 rw[show min y.1.toNat 1000000000=y.1.toNat by omega]
 obtain⟨t1,t2,t3,t4,t5,t6,t7⟩:=t
 simp only at ht
 subst ht
 have L' :u09 ((s,y.2),((),((t1,t2,t3,t4,t5, [],t7):u0g)),y.1,0)=some (.inl ((s,(u24 (rWr s) y.1.toNat y.2 []).2),(),((t1,t2,t3,t4,t5,(u24 (rWr s) y.1.toNat y.2 []).1,t7):u0g))):=L
 rw[L'];rfl
theorem o0p {s:Hs} (hs:s.size≤1048576) {c:Cur} (hc:inT s c):t0d (s,c)=some ((u7l 1000000000 s c).1,s,(u7l 1000000000 s c).2):=by
 have hb:u0j=1099511627776:=rfl
 have hs' :s.size≤u0j:=by omega
 have hw:=p4c 1000000000 s c hc
 have hin:=hc
 unfold inT at hin
 have hwt:u0x.wt (p1h 1000000000 s c).1≤u0j:=by
  have h1:=hw.1
  unfold inT at h1
  have:=(u94 (p1h 1000000000 s c).2 (k:=20) (by omega)).2
  have:=hw.2
  omega
 have hk:=s5k _ hwt
 rw[q7k];unfold r0e
 unfold u7l
 unfold p1h at hk ⊢
 simp only at hk ⊢
 rw[t83 c hs']
 simp only[zOb]
 have i1:=(u2d hc).1
 rw[t83 _ hs']
 simp only[zOb]
 have i2:=(u2d i1).1
 rw[t83 _ hs']
 simp only[zOb]
 have i3:=(u2d i2).1
 rw[t83 _ hs']
 simp only[zOb]
 have i4:=(u2d i3).1
 rw[o9w hs' _ rfl i4]
 simp only[zOb]
 have i5:=(t7s (by omega) (r83 s) (min (u2s s (u2s s (u2s s (u2s s (u2s s c).2).2).2).2).1.toNat 1000000000) (u2s s (u2s s (u2s s (u2s s (u2s s c).2).2).2).2).2 [] (u2d i4).1).1
 rw[j2f hs' _ rfl i5]
 simp only[zOb]
 rw[q56 _ hs']
 simp only[zOb]
 rw[s3v _ hs']
 simp only[zOb]
 rw[hk]
 simp only[zOb]
 generalize u22 s _=z
 cases h:z.2.2
 ·simp
 ·simp
end
section
def j3s:Lim:=⟨1000000000,1000000000,1000000000,1000000000⟩
theorem j3t:j3s.ok:=⟨by decide,by decide,by decide,by decide⟩
theorem o0h {m k:Nat} {s:Hs} {c:Cur} (h:inT s c):inT s (t25 m k s c).2∧c.1+((Ty.sl u0x).wt (t25 m k s c).1:Nat)≤(t25 m k s c).2.1+20+1:=by
 obtain⟨h1,h2,h3,h4⟩:=u2d h
 obtain⟨g1,g2⟩:=t7s (by omega) (r1i m s) (min (u2s s c).1.toNat k) (u2s s c).2 [] h1
 refine⟨g1,?_⟩
 have e:(Ty.sl u0x).wt (t25 m k s c).1=(t25 m k s c).1.length+((t25 m k s c).1.map u0x.wt).sum:=rfl
 rw[e]
 have t1:=(u94 (u2s s c).2 (k:=1) (by omega)).2
 have t2:=(u94 (u24 (u7l m s) (min (u2s s c).1.toNat k) (u2s s c).2 []).2 (k:=20) (by omega)).2
 unfold t25
 simp only[Cc,Eh,Gq] at g2
 omega
theorem o0f (m:Lim) {s:Hs} {c:Cur} (h:inT s c):inT s (r1j m s c).2∧(j5e.wt (r1j m s c).1:Int)≤(s.size:Int)+100:=by
 unfold r1j
 simp only
 obtain⟨a1,a2,a3,a4⟩:=u2d h
 obtain⟨b1,b2,b3,b4⟩:=u2d a1
 obtain⟨d1,d2,d3,d4⟩:=u2d b1
 obtain⟨g1,g2⟩:=t7s (by omega) (r85 s) (min (u2s s (u2s s (u2s s c).2).2).1.toNat m.v) (u2s s (u2s s (u2s s c).2).2).2 [] d1
 obtain⟨p1,p2⟩:=o0h (m:=m.t) (k:=m.p) g1
 obtain⟨q1,q2⟩:=o0h (m:=m.t) (k:=m.r) p1
 refine⟨q1,?_⟩
 have t1:=(u94 (u24 (o0i s) (min (u2s s (u2s s (u2s s c).2).2).1.toNat m.v) (u2s s (u2s s (u2s s c).2).2).2 []).2 (k:=4) (by omega)).2
 have u1:=(u94 (u2s s c).2 (k:=1) (by omega)).2
 have u2:=(u94 (u2s s (u2s s c).2).2 (k:=1) (by omega)).2
 have u3:=(u94 (u2s s (u2s s (u2s s c).2).2).2 (k:=1) (by omega)).2
 generalize u24 (o0i s) (min (u2s s (u2s s (u2s s c).2).2).1.toNat m.v) (u2s s (u2s s (u2s s c).2).2).2 [] =vs at*
 simp only[Cc,Eh,Gq] at g2
 have e:=r8a (vs.1,(t25 m.t m.p s vs.2).1,(t25 m.t m.r s (t25 m.t m.p s vs.2).2).1,(u2s s c).1,(u2s s (u2s s c).2).1)
 simp only at e
 have eV:(Ty.sl u0d).wt vs.1=vs.1.length+(vs.1.map u0d.wt).sum:=rfl
 unfold inT at q1 h
 rw[e,eV]
 omega
theorem o97 {s:Hs} (hs:s.size≤u0j) (b:u0i) (ht:b.1= []) {c:Cur} (hc:inT s c):
 u3c ((s,c),(),b)=some ((s,(u24 (o0i s) (min (u2s s c).1.toNat 1000000000) (u2s s c).2 []).2),(),
  ((u24 (o0i s) (min (u2s s c).1.toNat 1000000000) (u2s s c).2 []).1,b.2)):=by
 obtain⟨h1,h2,h3,h4⟩:=u2d hc
 rw[t65];unfold u7h
 simp only
 rw[t83 c hs]
 simp only[zOb]
 generalize u2s s c=y at h1 h2 h3 h4 ⊢
 have L:=s3m (s:=s) u04 (fun(c:Cur) (a:Hu u2m) i=>((s,c),((),((a,b.2):u0i)),y.1,i))
  (fun(c:Cur) (a:Hu u2m)=>((s,c),(),((a,b.2):u0i))) (o0i s) y.1.toNat (r8d (r85 s))
  (fun c a i h=>by rw[u6x];simp only[u12];rw[q5r h];rfl)
  (fun c a i h hc2 hin ha=>by
   rw[u6x];simp only[u12];rw[r8c h hc2]
   simp only[zOb,Ad]
   rw[q0b];unfold s4n
   simp only
   rw[s3v c hs]
   simp only[zOb]
   rw[s3v _ hs]
   simp only[zOb]
   rw[q56 _ hs]
   simp only[zOb]
   rw[t83 _ hs]
   simp only[zOb]
   rw[q6x (by simp;omega),y7l (by omega)]
   rfl) y.1.toNat 0 y.2 [] (by omega) h1 (by simp)
 rw[show min y.1.toNat 1000000000=y.1.toNat by omega]
 obtain⟨b1,b2⟩:=b
 simp only at ht
 subst ht
 have L' :u04 ((s,y.2),((),(([],b2):u0i)),y.1,0)=some (.inl ((s,(u24 (o0i s) y.1.toNat y.2 []).2),(),(((u24 (o0i s) y.1.toNat y.2 []).1,b2):u0i))):=L
 rw[L'];rfl
theorem o9k {s:Hs} (hs:s.size≤1048576) (b:u0i) (ht:b.2.1= []) {c:Cur} (hc:inT s c):
 u3d ((s,c),b,())=some ((s,(t25 1000000000 1000000000 s c).2),(b.1,(t25 1000000000 1000000000 s c).1,b.2.2),()):=by
 have hb:u0j=1099511627776:=rfl
 obtain⟨h1,h2,h3,h4⟩:=u2d hc
 rw[t66];unfold u7i t25
 simp only
 rw[t83 c (by omega)]
 simp only[zOb]
 generalize u2s s c=y at h1 h2 h3 h4 ⊢
 have L:=s3m (s:=s) u05 (fun(c:Cur) (a:Hu u0g) i=>((s,c),(((b.1,a,b.2.2):u0i),()),y.1,i))
  (fun(c:Cur) (a:Hu u0g)=>((s,c),((b.1,a,b.2.2):u0i),())) (u7l 1000000000 s) y.1.toNat (r8d (r1i _ s))
  (fun c a i h=>by rw[u6y];simp only[u13];rw[q5r h];rfl)
  (fun c a i h hc2 hin ha=>by
   rw[u6y];simp only[u13];rw[r8c h hc2]
   simp only[zOb,Ad]
   rw[q0c];unfold s4o
   simp only
   rw[o0p hs hin]
   simp only[zOb]
   rw[q6x (by simp;omega),y7l (by omega)];rfl) y.1.toNat 0 y.2 [] (by omega) h1 (by simp)
 rw[show min y.1.toNat 1000000000=y.1.toNat by omega]
 obtain⟨b1,b2,b3⟩:=b
 simp only at ht
 subst ht
 have L' :u05 ((s,y.2),(((b1, [],b3):u0i),()),y.1,0)=some (.inl ((s,(u24 (u7l 1000000000 s) y.1.toNat y.2 []).2),((b1,(u24 (u7l 1000000000 s) y.1.toNat y.2 []).1,b3):u0i),())):=L
 rw[L'];rfl
theorem o7v {s:Hs} (hs:s.size≤1048576) (b:u0i) (ht:b.2.2.1= []) {c:Cur} (hc:inT s c):
 u3e ((s,c),b,())=some ((s,(t25 1000000000 1000000000 s c).2),(b.1,b.2.1,(t25 1000000000 1000000000 s c).1,b.2.2.2),()):=by
 have hb:u0j=1099511627776:=rfl
 obtain⟨h1,h2,h3,h4⟩:=u2d hc
 rw[t67];unfold u7j t25
 simp only
 rw[t83 c (by omega)]
 simp only[zOb]
 generalize u2s s c=y at h1 h2 h3 h4 ⊢
 have L:=s3m (s:=s) u06 (fun(c:Cur) (a:Hu u0g) i=>((s,c),(((b.1,b.2.1,a,b.2.2.2):u0i),()),y.1,i))
  (fun(c:Cur) (a:Hu u0g)=>((s,c),((b.1,b.2.1,a,b.2.2.2):u0i),())) (u7l 1000000000 s) y.1.toNat (r8d (r1i _ s))
  (fun c a i h=>by rw[u6z];simp only[u14];rw[q5r h];rfl)
  (fun c a i h hc2 hin ha=>by
   rw[u6z];simp only[u14];rw[r8c h hc2]
   simp only[zOb,Ad]
   rw[q0d];unfold s4p
   simp only
   rw[o0p hs hin]
   simp only[zOb]
   rw[q6x (by simp;omega),y7l (by omega)];rfl) y.1.toNat 0 y.2 [] (by omega) h1 (by simp)
 rw[show min y.1.toNat 1000000000=y.1.toNat by omega]
 obtain⟨b1,b2,b3,b4⟩:=b
 simp only at ht
 subst ht
 have L' :u06 ((s,y.2),(((b1,b2, [],b4):u0i),()),y.1,0)=some (.inl ((s,(u24 (u7l 1000000000 s) y.1.toNat y.2 []).2),((b1,b2,(u24 (u7l 1000000000 s) y.1.toNat y.2 []).1,b4):u0i),())):=L
 rw[L'];rfl
theorem o80 {s:Hs} (hs:s.size≤1048576) {c:Cur} (hc:inT s c):s1a (s,c)=some ((t61 j3s s c).1,s,(t61 j3s s c).2):=by
 have hb:u0j=1099511627776:=rfl
 have hs' :s.size≤u0j:=by omega
 have hw:=o0f j3s (s:=s) hc
 have hk:=t07 (r1j j3s s c).1 (by have:=hw.2;omega)
 rw[q5y];unfold s7s
 unfold t61
 unfold r1j at hk ⊢
 simp only at hk ⊢
 rw[t83 c hs']
 simp only[zOb]
 have i1:=(u2d hc).1
 rw[t83 _ hs']
 simp only[zOb]
 have i2:=(u2d i1).1
 rw[o97 hs' _ rfl i2]
 simp only[zOb]
 have i3:=(t7s (by omega) (r85 s) (min (u2s s (u2s s (u2s s c).2).2).1.toNat 1000000000) (u2s s (u2s s (u2s s c).2).2).2 [] (u2d i2).1).1
 rw[o9k hs _ rfl i3]
 simp only[zOb]
 have i4:=(o0h (m:=1000000000) (k:=1000000000) i3).1
 rw[o7v hs _ rfl i4]
 simp only[zOb]
 rw[show j3s.v=1000000000 from rfl,show j3s.t=1000000000 from rfl,show j3s.p=1000000000 from rfl,show j3s.r=1000000000 from rfl] at hk ⊢
 rw[hk]
 simp only[zOb]
 generalize t25 1000000000 1000000000 s (t25 1000000000 1000000000 s _).2=z
 cases h:z.2.2
 ·simp
 ·simp
end
section
theorem s0w {s:Hs} (c:Cur) (hs:s.size≤u0j):u28 (s,c)=some ((u2s s c).1,s,(u2s s c).2):=by
 rw[p95];unfold q5k u2s
 simp only[q8c s c.1 hs,zOb]
 cases h1:c.2
 ·cases h2:(u0s s c.1).2.2<;>simp
 ·simp
theorem s3w {s:Hs} (c:Cur) (hs:s.size≤u0j):u19 (s,c)=some ((u22 s c).1,s,(u22 s c).2):=by
 rw[q3p];unfold s5w u22
 simp only[q0p s c.1 hs,zOb]
 cases h1:c.2
 ·cases h2:(u0m s c.1).2.2
  ·simp[emp]
  ·simp
 ·simp[emp]
theorem q57 {s:Hs} {c:Cur} (hc:inT s c) (hs:s.size≤u0j):u72 (s,c)=some ((q6y s c).1,s,(q6y s c).2):=by
 have hb:u0j=1099511627776:=rfl
 unfold inT at hc
 obtain⟨k,hk⟩:∃k:Nat,c.1=k:=⟨c.1.toNat,by omega⟩
 rw[q7r];unfold r0l q6y
 simp only[hk]
 cases h1:c.2
 ·by_cases h2:k<s.size
  ·have e1:decide ((k:Int)≥(s.size:Int))=false:=A7 (by omega)
   have e3:IntKind.i64.wrap ((k:Int)+1)=(k:Int)+1:=y4y (by omega) (by omega)
   have e5:IntKind.i64.wrap ((k:Int)+1 - 1)=k:=by rw[y4y (by omega) (by omega)];omega
   rw[e1,e3,e5]
   simp only[Aa,zOb,y7t h2,Ad,zTn,gt1,eq1]
   rw[show(s.data.toList.getD k 0).toNat=u8a s k from rfl]
   by_cases h3:1<u8a s k
   ·simp[h3]
   ·have h3' :u8a s k≤1:=by omega
    simp[h3,h3',h2]
  ·have e1:decide ((k:Int)≥(s.size:Int))=true:=Bb (by omega)
   rw[e1]
   simp only[Aa,zOb,Ad]
   rw[Al (.inr (.inl (by omega)))]
 ·simp
theorem p2c {n k:Int} {i:Nat} {c:Cur} (h:min n.toNat k.toNat≤i∨c.2=true):((bif decide ((i:Int)<n) then(bif decide ((i:Int)<k) then some (!c.2) else some false) else some false:Ht Bool))=some false:=by
 rcases h with h | h
 ·by_cases q:(i:Int)<n
  ·rw[Bb q,A7 (show ¬(i:Int)<k by omega)];rfl
  ·rw[A7 q];rfl
 ·rw[h];cases decide ((i:Int)<n)<;>cases decide ((i:Int)<k)<;>rfl
theorem q67 {n k:Int} {i:Nat} {c:Cur} (h:i<min n.toNat k.toNat) (hc:c.2=false):((bif decide ((i:Int)<n) then(bif decide ((i:Int)<k) then some (!c.2) else some false) else some false:Ht Bool))=some true:=by
 rw[Bb (show(i:Int)<n by omega),Bb (show(i:Int)<k by omega),hc];rfl
theorem o9x {s:Hs} (hs:s.size≤u0j) (z t:u0g) (n:Int) {c:Cur} (hc:inT s c) (ht:t.2.2.2.2.1= []):
 t2k (z,(s,c),t,n,0)=some (.inl (z,(s,(u24 (o0g s) (min n.toNat 10) c []).2),(t.1,t.2.1,t.2.2.1,t.2.2.2.1,(u24 (o0g s) (min n.toNat 10) c []).1,t.2.2.2.2.2))):=by
 have L:=s3m (s:=s) t2k (fun(c:Cur) (a:Hu s7f) i=>(z,(s,c),((t.1,t.2.1,t.2.2.1,t.2.2.2.1,a,t.2.2.2.2.2):u0g),n,i))
  (fun(c:Cur) (a:Hu s7f)=>(z,(s,c),((t.1,t.2.1,t.2.2.1,t.2.2.2.1,a,t.2.2.2.2.2):u0g))) (o0g s) (min n.toNat 10) (r8d (r83 s))
  (fun c a i h=>by rw[r58];simp only[t8f];rw[p2c (k:=10) h];rfl)
  (fun c a i h hc2 hin ha=>by
   rw[r58];simp only[t8f];rw[q67 (k:=10) h hc2]
   simp only[zOb,Ad]
   rw[s3w c hs]
   simp only[zOb]
   rw[s3w _ hs]
   simp only[zOb]
   rw[q6x (by simp;omega),y7l (by omega)]
   rfl) (min n.toNat 10) 0 c [] (by omega) hc (by simp)
 obtain⟨t1,t2,t3,t4,t5,t6⟩:=t
 simp only at ht
 subst ht
 exact L
theorem j2g {s:Hs} (hs:s.size≤u0j) (z t:u0g) (n:Int) {c:Cur} (hc:inT s c) (ht:t.2.2.2.2.2.1= []):
 u90 (z,(s,c),t,n,0)=some (.inl (z,(s,(u24 (rWr s) (min n.toNat 10) c []).2),(t.1,t.2.1,t.2.2.1,t.2.2.2.1,t.2.2.2.2.1,(u24 (rWr s) (min n.toNat 10) c []).1,t.2.2.2.2.2.2))):=by
 have L:=s3m (s:=s) u90 (fun(c:Cur) (a:Hu WrT) i=>(z,(s,c),((t.1,t.2.1,t.2.2.1,t.2.2.2.1,t.2.2.2.2.1,a,t.2.2.2.2.2.2):u0g),n,i))
  (fun(c:Cur) (a:Hu WrT)=>(z,(s,c),((t.1,t.2.1,t.2.2.1,t.2.2.2.1,t.2.2.2.2.1,a,t.2.2.2.2.2.2):u0g))) (rWr s) (min n.toNat 10) (r8d (q6g s))
  (fun c a i h=>by rw[r2d];simp only[t5y];rw[p2c (k:=10) h];rfl)
  (fun c a i h hc2 hin ha=>by
   rw[r2d];simp only[t5y];rw[q67 (k:=10) h hc2]
   simp only[zOb,Ad]
   rw[s3w c hs]
   simp only[zOb]
   rw[s3w _ hs]
   simp only[zOb]
   rw[q57 (u89 (u89 hin).1).1 hs]
   simp only[zOb]
   rw[q6x (by simp;omega),y7l (by omega)]
   rfl) (min n.toNat 10) 0 c [] (by omega) hc (by simp)
 obtain⟨t1,t2,t3,t4,t5,t6,t7⟩:=t
 simp only at ht
 subst ht
 exact L
theorem o6o {s:Hs} (hs:s.size≤1048576) {a:Int} (hc:inT s (a,false)):
 s27 (s,a)=some (if(u7l 10 s (a,false)).2.2=true then(u6k,0,false) else((u7l 10 s (a,false)).1,(u7l 10 s (a,false)).2.1,true)):=by
 have hb:u0j=1099511627776:=rfl
 have hs' :s.size≤u0j:=by omega
 have hw:=p4c 10 s (a,false) hc
 have hin:=hc
 unfold inT at hin
 simp only at hin
 have hwt:u0x.wt (p1h 10 s (a,false)).1≤u0j:=by
  have h1:=hw.1
  unfold inT at h1
  have:=(u94 (p1h 10 s (a,false)).2 (k:=20) (by omega)).2
  have:=hw.2
  simp only at this
  omega
 have hk:=t9r _ hwt
 rw[p52];unfold q1n
 unfold u7l
 unfold p1h at hk ⊢
 simp only at hk ⊢
 rw[s0w _ hs']
 simp only[zOb]
 have i1:=(u2d hc).1
 rw[s0w _ hs']
 simp only[zOb]
 have i2:=(u2d i1).1
 rw[s0w _ hs']
 simp only[zOb]
 have i3:=(u2d i2).1
 rw[s0w _ hs']
 simp only[zOb]
 have i4:=(u2d i3).1
 rw[s0w _ hs']
 simp only[zOb]
 have i5:=(u2d i4).1
 rw[o9x hs' _ _ _ i5 rfl]
 simp only[zOb]
 have i6:=(t7s (by omega) (r83 s) (min (u2s s (u2s s (u2s s (u2s s (u2s s (a,false)).2).2).2).2).1.toNat 10) (u2s s (u2s s (u2s s (u2s s (u2s s (a,false)).2).2).2).2).2 [] i5).1
 rw[s0w _ hs']
 simp only[zOb]
 have i7:=(u2d i6).1
 rw[j2g hs' _ _ _ i7 rfl]
 simp only[zOb]
 rw[q57 (t7s (by omega) (q6g s) _ _ [] i7).1 hs']
 simp only[zOb]
 rw[s3w _ hs']
 simp only[zOb]
 rw[hk]
 simp only[zOb]
 generalize u22 s _=z
 generalize u77 _=o
 cases h:z.2.2<;>cases o<;>simp[u6k,emp]
theorem o3u {s:Hs} (hs:s.size≤1048576) (m:Nat) (hm:m≤1000) {c:Cur} (hc:inT s c):
 ∃(l:Hu u0g) (c' :Cur),t4e ((s,c),(m:Int))=some (l,s,c')∧inT s c' ∧c'.2=(t25 10 (m+1) s c).2.2∧c.1+((Ty.sl u0x).wt l:Nat)≤c'.1+22∧(c'.2=false→(l,c')=t25 10 (m+1) s c):=by
 have hb:u0j=1099511627776:=rfl
 obtain⟨h1,h2,h3,h4⟩:=u2d hc
 rw[q55];unfold s7y t25
 simp only
 rw[s0w c (by omega)]
 simp only[zOb]
 generalize u2s s c=y at h1 h2 h3 h4 ⊢
 have key:∀(k i:Nat) (d:Cur) (a:Hu u0g),i+k=min y.1.toNat (m+1)→inT s d→a.length≤i→y.2.1+((a.length+(a.map u0x.wt).sum:Nat):Int)≤d.1+bad d 20→
  ∃(r:((Hs×Cur)×Hu u0g)⊕((Hs×Cur)×Hu u0g)) (l:Hu u0g) (c' :Cur),u7g ((s,d),(m:Int),a,y.1,(i:Int))=some r∧(r= .inl ((s,c'),l)∨r= .inr ((s,c'),l))∧inT s c' ∧c'.2=(u24 (u7l 10 s) k d a).2.2∧
   y.2.1+((l.length+(l.map u0x.wt).sum:Nat):Int)≤c'.1+bad c' 20∧(c'.2=false→(l,c')=u24 (u7l 10 s) k d a):=by
  intro k
  induction k with
  | zero=>
   intro i d a hi hd ha hw
   refine⟨_,a,d,?_, .inl rfl,hd,rfl,hw,fun _=>rfl⟩
   rw[u9t];simp only[u5c]
   have:(bif decide ((i:Int)<y.1) then(bif decide ((i:Int)≤(m:Int)) then some (!d.2) else some false) else some false:Ht Bool)=some false:=by
    by_cases q:(i:Int)<y.1
    ·rw[Bb q,A7 (show ¬(i:Int)≤m by omega)];rfl
    ·rw[A7 q];rfl
   rw[this];rfl
  | succ k ih=>
   intro i d a hi hd ha hw
   by_cases q:d.2=true
   ·refine⟨_,a,d,?_, .inl rfl,hd,by rw[t7r q],hw,fun z=>by rw[q] at z;cases z⟩
    rw[u9t];simp only[u5c]
    have:(bif decide ((i:Int)<y.1) then(bif decide ((i:Int)≤(m:Int)) then some (!d.2) else some false) else some false:Ht Bool)=some false:=by
     rw[q];cases decide ((i:Int)<y.1)<;>cases decide ((i:Int)≤(m:Int))<;>rfl
    rw[this];rfl
   ·have q' :d.2=false:=by simpa using q
    have ed:d=(d.1,false):=by rw[←q']
    have hx:=o6o hs (a:=d.1) (by rw[←ed];exact hd)
    rw[←ed] at hx
    have he:=r1i 10 s d hd
    have hbd:bad d 20=0:=by unfold bad;rw[Ao q]
    have c1:(bif decide ((i:Int)<y.1) then(bif decide ((i:Int)≤(m:Int)) then some (!d.2) else some false) else some false:Ht Bool)=some true:=by
     rw[Bb (show(i:Int)<y.1 by omega),Bb (show(i:Int)≤m by omega),q'];rfl
    simp only[u24]
    rw[Ao q]
    cases z:(u7l 10 s d).2.2
    ·rw[Ao (by rw[z];simp)] at hx
     have hbz:bad (u7l 10 s d).2 20=0:=by unfold bad;rw[Ao (by rw[z];simp)]
     obtain⟨r,l,c',e1,e2,e3,e4,e5,e6⟩:=ih (i+1) (u7l 10 s d).2 (a++ [(u7l 10 s d).1]) (by omega) he.1 (by simp;omega) (by
      have:=he.2
      rw[hbd] at hw
      rw[hbz] at this ⊢
      simp only[Ba,Aw,Dh,C8,Eh,Fn,Ge,Gq]
      omega)
     refine⟨r,l,c',?_,e2,e3,e4,e5,e6⟩
     rw[←e1,u9t];simp only[u5c]
     rw[c1]
     simp only[zOb,Ad]
     rw[hx]
     simp only[zOb,Ap,Aa]
     rw[q6x (by simp;omega),y7l (by omega),q']
     have:(u7l 10 s d).2=((u7l 10 s d).2.1,false):=by rw[←z]
     rw[this]
    ·rw[Al z] at hx
     refine⟨_,a,(d.1,true),?_, .inr rfl,hd,by rw[t7r z,z],?_,fun w=>by cases w⟩
     ·rw[u9t];simp only[u5c]
      rw[c1]
      simp only[zOb,Ad]
      rw[hx]
      rfl
     ·rw[hbd] at hw
      have:bad ((d.1,true):Cur) 20=20:=rfl
      rw[this];simp only;omega
 have hb0:0≤bad y.2 20:=(u94 _ (by omega)).1
 obtain⟨r,l,c',e1,e2,e3,e4,e5,e6⟩:=key (min y.1.toNat (m+1)) 0 y.2 [] (by omega) h1 (by simp) (by simp only[Cc,Eh,Gq];omega)
 have e1' :u7g ((s,y.2),(m:Int), [],y.1,0)=some r:=e1
 refine⟨l,c',?_,e3,e4,?_,e6⟩
 ·rw[e1']
  rcases e2 with e2 | e2<;>rw[e2] <;>rfl
 ·have e:(Ty.sl u0x).wt l=l.length+(l.map u0x.wt).sum:=rfl
  rw[e]
  have t1:=(u94 y.2 (k:=1) (by omega)).2
  have t2:=(u94 c' (k:=20) (by omega)).2
  omega
def j08:Lim:=⟨10,130,13,4⟩
theorem j3u:j08.ok:=⟨by decide,by decide,by decide,by decide⟩
theorem o98 {s:Hs} (hs:s.size≤u0j) (z b:u0i) (n:Int) {c:Cur} (hc:inT s c) (ht:b.1= []):
 u9z (z,(s,c),b,n,0)=some (.inl (z,(s,(u24 (o0i s) (min n.toNat 130) c []).2),((u24 (o0i s) (min n.toNat 130) c []).1,b.2))):=by
 have L:=s3m (s:=s) u9z (fun(c:Cur) (a:Hu u2m) i=>(z,(s,c),((a,b.2):u0i),n,i))
  (fun(c:Cur) (a:Hu u2m)=>(z,(s,c),((a,b.2):u0i))) (o0i s) (min n.toNat 130) (r8d (r85 s))
  (fun c a i h=>by rw[r2c];simp only[t5x];rw[p2c (k:=130) h];rfl)
  (fun c a i h hc2 hin ha=>by
   rw[r2c];simp only[t5x];rw[q67 (k:=130) h hc2]
   simp only[zOb,Ad]
   rw[s3w c hs]
   simp only[zOb]
   rw[s3w _ hs]
   simp only[zOb]
   rw[q57 (u89 (u89 hin).1).1 hs]
   simp only[zOb]
   rw[s0w _ hs]
   simp only[zOb]
   rw[q6x (by simp;omega),y7l (by omega)]
   rfl) (min n.toNat 130) 0 c [] (by omega) hc (by simp)
 obtain⟨b1,b2⟩:=b
 simp only at ht
 subst ht
 exact L
theorem o81 {s:Hs} (hs:s.size≤1048576) {a:Int} (hc:inT s (a,false)):
 s6t (s,a)=some (if(t61 j08 s (a,false)).2.2=true then(u2u,0,false) else((t61 j08 s (a,false)).1,(t61 j08 s (a,false)).2.1,true)):=by
 have hb:u0j=1099511627776:=rfl
 have hs' :s.size≤u0j:=by omega
 have hw:=o0f j08 (s:=s) hc
 have hk:=s1u (r1j j08 s (a,false)).1 (by have:=hw.2;omega)
 rw[p3c];unfold r7t
 unfold t61
 unfold r1j at hk ⊢
 simp only at hk ⊢
 rw[s0w _ hs']
 simp only[zOb]
 have i1:=(u2d hc).1
 rw[s0w _ hs']
 simp only[zOb]
 have i2:=(u2d i1).1
 rw[s0w _ hs']
 simp only[zOb]
 have i3:=(u2d i2).1
 rw[o98 hs' _ _ _ i3 rfl]
 simp only[zOb]
 have i4f:=t7s (by omega) (r85 s) (min (u2s s (u2s s (u2s s (a,false)).2).2).1.toNat 130) (u2s s (u2s s (u2s s (a,false)).2).2).2 [] i3
 rw[show j08.v=130 from rfl,show j08.t=10 from rfl,show j08.p=12+1 from rfl,show j08.r=3+1 from rfl] at hk ⊢
 generalize hvs:u24 (o0i s) (min (u2s s (u2s s (u2s s (a,false)).2).2).1.toNat 130) (u2s s (u2s s (u2s s (a,false)).2).2).2 [] =vs at hk i4f ⊢
 obtain⟨i4,i4w⟩:=i4f
 obtain⟨l1,d1,e1,e2,e3,e4,e5⟩:=o3u hs 12 (by omega) i4
 obtain⟨l2,d2,f1,f2,f3,f4,f5⟩:=o3u hs 3 (by omega) e2
 rw[show((12:Nat):Int)=12 from rfl] at e1
 rw[show((3:Nat):Int)=3 from rfl] at f1
 rw[e1]
 simp only[zOb]
 rw[f1]
 simp only[zOb]
 cases z:d2.2
 ·have z1:d1.2=false:=by
   cases w:d1.2
   ·rfl
   ·have:(t25 10 (3+1) s d1).2.2=true:=r84 w
    rw[←f3,z] at this;cases this
  have g1:=e5 z1
  have g2:=f5 z
  rw[←g1]
  rw[←g1] at hk
  simp only at hk ⊢
  rw[←g2]
  rw[←g2] at hk
  simp only at hk ⊢
  rw[hk]
  simp only[zOb,z,Aa,Ci]
  generalize u79 _=o
  cases o<;>simp[u2u]
 ·have zz:(t25 10 (3+1) s (t25 10 (12+1) s vs.2).2).2.2=true:=by
   cases w:d1.2
   ·have g1:=e5 w
    rw[←g1]
    show(t25 10 (3+1) s d1).2.2=true
    rw[←f3];exact z
   ·exact r84 (by rw[←e3];exact w)
  rw[zz]
  simp[u2u]
theorem p8t (t:Hs) (ht:t.size≤u0j):s6j t=some (match t6v t with
 | some s=>(s,true)
 | none=>(emp,false)):=by
 have hb:u0j=1099511627776:=rfl
 rw[p2u];unfold r7b t6v
 by_cases h4:t.size<4
 ·rw[Bb (by omega),Ao (by omega)];rfl
 ·rw[A7 (by omega),y4y (n:=(t.size:Int) - 4) (by omega) (by omega)]
  have c1:(decide ((0:Int)≤0)&&decide ((0:Int)≤(t.size:Int) - 4)&&decide ((t.size:Int) - 4≤(t.size:Int)))=true:=by simp;omega
  have e1:((t.size:Int) - 4).toNat=t.size - 4:=by omega
  rw[c1,e1,show((0:Int)).toNat=0 from rfl]
  have hz:(t.extract 0 (t.size - 4)).size=t.size - 4:=by simp
  simp only[Aa,Ad]
  rw[s5q _ (by rw[hz];omega)]
  simp only[zOb]
  unfold p4h
  rw[hz]
  by_cases h5:t.size - 4≤20000
  ·rw[Al h5]
   simp only[Ap,Aa,zOb]
   by_cases h6:r9c (t.extract 0 (t.size - 4))=t
   ·rw[Al ⟨by omega,h5,h6⟩,y7f.mpr h6];rfl
   ·rw[Ao (fun q=>h6 q.2.2),o5i.mpr h6];rfl
  ·rw[Ao h5,Ao (fun q=>h5 q.2.1)];rfl
theorem o3m {t:Hs} (h:4≤t.size):r9c (t.extract 0 (t.size - 4))=t↔t.extract (t.size - 4) t.size=j63 (j31 (t.extract 0 (t.size - 4))):=by
 have e:t.extract 0 (t.size - 4)++t.extract (t.size - 4) t.size=t:=by
  rw[ByteArray.extract_append_extract,Nat.zero_min,Nat.max_eq_right (by omega)]
  exact Fu
 unfold r9c
 constructor
 ·intro q
  have:=e.trans q.symm
  exact ByteArray.append_right_inj (t.extract 0 (t.size - 4)) |>.mp this
 ·intro q;rw[←q,e]
theorem o68 (t:Hs) (ht:t.size≤1099511627776):s8o t=some (j31 t):=by
 rw[q9b];unfold r7x
 rw[q8f _ _ ht];rfl
theorem o8h (x:Int):s3a x=some (j63 x):=by
 rw[q2l];rfl
theorem p8u (t:Hs) (ht:t.size≤u0j):s6v t=some (match t6v t with
 | some s=>(s,true)
 | none=>(emp,false)):=by
 have hb:u0j=1099511627776:=rfl
 rw[p3g];unfold r7y t6v
 rw[y4y (n:=(t.size:Int) - 4) (by omega) (by omega)]
 by_cases h4:t.size<4
 ·rw[Bb (show(t.size:Int) - 4<0 by omega),Ao (by omega)];rfl
 ·rw[A7 (show ¬(t.size:Int) - 4<0 by omega)]
  have c1:(decide ((0:Int)≤0)&&decide ((0:Int)≤(t.size:Int) - 4)&&decide ((t.size:Int) - 4≤(t.size:Int)))=true:=by simp;omega
  have c2:(decide ((0:Int)≤(t.size:Int) - 4)&&decide ((t.size:Int) - 4≤(t.size:Int))&&decide ((t.size:Int)≤(t.size:Int)))=true:=by simp;omega
  have e1:((t.size:Int) - 4).toNat=t.size - 4:=by omega
  rw[c1,c2,e1,show((0:Int)).toNat=0 from rfl,zTn]
  have hz:(t.extract 0 (t.size - 4)).size=t.size - 4:=by simp
  simp only[Aa,Ad]
  by_cases h5:t.size - 4≤20000
  ·rw[A7 (show ¬(t.size:Int) - 4 >20000 by omega),o68 _ (by rw[hz];omega)]
   simp only[zOb,Aa]
   rw[o8h]
   simp only[zOb]
   by_cases h6:r9c (t.extract 0 (t.size - 4))=t
   ·rw[Al ⟨by omega,h5,h6⟩,(o3m (by omega)).mp h6,y6l];rfl
   ·rw[Ao (fun q=>h6 q.2.2),o5i.mpr (mt (o3m (t:=t) (by omega)).mpr h6)];rfl
  ·rw[Bb (show(t.size:Int) - 4 >20000 by omega),Ao (fun q=>h5 q.2.1)];rfl
end
section
def noR:s7e:=(0,u6k,emp,false,u2u)
def t7t (t:Hs):s7e×Bool:=match u5d t with
 | some r=>(r,true)
 | none=>(noR,false)
theorem j1q {t:Hs} {r:s7e} (h:u0r r=(t,true)):u5d t=some r:=by
 have hr:u7q r=true:=by
  cases q:u7q r with
  | true=>rfl
  | false=>
   unfold u0r at h
   rw[Ao (by simp[q])] at h
   simp at h
 have hR:=j2x.mp hr
 rw[t5d hR] at h
 rw[←(Dv h).1]
 exact r86 hR
theorem j1p {t s:Hs} {r:s7e} (hu:t6v t=some s) (h:u5d t=some r):RecR r∧s=r9a r∧u0r r=(t,true):=by
 obtain⟨h1,h2⟩:=q6i h
 have hs:=s5l h1
 have:=q6p (t:=r9a r) (by omega)
 rw[←h2,hu] at this
 exact⟨h1,Ds this,by rw[t5d h1,←h2]⟩
theorem r9y {t s:Hs} {r' :s7e} {b:Bool} (hu:t6v t=some s) (hr:∀r,RecR r→s=r9a r→r' =r∧b=false):
 (((bif b then some true else(bif (!(u0r r').2) then some true else some (!z7o (u0r r').1 t))):Ht Bool).bind fun j=>bif j then some (noR,false) else some (r',true))=some (t7t t):=by
 unfold t7t
 cases h:u5d t with
 | some r=>
  obtain⟨h1,h2,h3⟩:=j1p hu h
  obtain⟨e1,e2⟩:=hr r h1 h2
  subst e1
  rw[e2,h3]
  simp only[Aa,Ap,y6l,zOb]
 | none=>
  cases b
  ·cases h2:(u0r r').2
   ·rfl
   ·have:z7o (u0r r').1 t=false:=by
     rw[o5i]
     intro e
     have:=j1q (t:=t) (r:=r') (by rw[←e,←h2])
     rw[h] at this;cases this
    rw[this];rfl
  ·rfl
theorem o53 (s:Hs):((s.data.toList.getD 0 0).toNat:Int)=(u8a s 0:Int):=rfl
theorem o1o (s:Hs) (i:Nat):u8a s i<256:=by unfold u8a;exact Fw _
theorem q6q {t s:Hs} (h:t6v t=some s):s.size≤20000:=by
 unfold t6v at h
 split at h
 ·rename_i q
  have:=Ds h
  rw[←this];simp;omega
 ·cases h
theorem d01 (k:Nat):decide ((k:Int)=3)=decide (k=3):=by simp;omega
theorem d02 (k:Nat):decide ((k:Int)=4)=decide (k=4):=by simp;omega
theorem q6w:u0x.wt u6k=0:=rfl
theorem q6v:j5e.wt u2u=0:=rfl
theorem o6c (m:Nat) {s:Hs} (hs:s.size≤20000) (h1:1≤s.size):u0x.wt (u7l m s (1,false)).1≤30000:=by
 have h:=r1i m s (1,false) ⟨by simp,by simp;omega⟩
 have h2:=h.1
 unfold inT at h2
 have:=(u94 (u7l m s (1,false)).2 (k:=20) (by omega)).2
 have:=h.2
 simp only at this
 omega
theorem o26 (m:Lim) {s:Hs} (hs:s.size≤20000) (h1:1≤s.size):j5e.wt (t61 m s (1,false)).1≤30000:=by
 have h:=o0f m (s:=s) (c:=(1,false)) ⟨by simp,by simp;omega⟩
 have e:(t61 m s (1,false)).1=(r1j m s (1,false)).1:=rfl
 rw[e];have:=h.2;omega
theorem p1r (t:Hs) (ht:t.size≤u0j):s1z t=some (t7t t):=by
 have hb:u0j=1099511627776:=rfl
 rw[q7b];unfold s95
 rw[p8t t ht]
 simp only[zOb]
 cases hu:t6v t with
 | none=>
  unfold t7t u5d
  rw[hu];rfl
 | some s=>
  have hs:=q6q hu
  simp only[t6l]
  by_cases h0:s.size=0
  ·unfold t7t u5d
   rw[hu]
   simp only
   rw[Al h0,Bb h0];rfl
  ·have hin:inT s (1,false):=⟨by simp,by simp;omega⟩
   rw[A7 h0]
   simp only[Ap,Aa,zOb]
   rw[show y4q (0:Int) s.size=true from y7t (i:=0) (by omega)]
   simp only[Ad,show((0:Int)).toNat=0 from rfl,o53]
   rw[y4y (n:=(u8a s 0:Int)) (by omega) (by have:=o1o s 0;omega),d01,d02]
   by_cases h3:u8a s 0=3
   ·rw[Bb h3,s3v _ (by omega)]
    simp only[Ad,zOb]
    rw[q56 _ (by omega)]
    simp only[zOb]
    have hf:=(u89 hin).2
    have hg:=(u89 hin).1
    unfold inT at hg
    have:=(u94 (u22 s (1,false)).2 (k:=1) (by omega)).2
    simp only at hf
    have hk:=t4i ((u8a s 0:Int),u6k,(u22 s (1,false)).1,(q6y s (u22 s (1,false)).2).1,u2u) (by rw[r9b];simp only[q6w,q6v];omega)
    rw[show((0:Int),(0:Int),(0:Int),(0:Int),([] :Hu s7f),([] :Hu WrT),false,(⟨#[]⟩:Hs))=u6k from rfl]
    rw[show(([] :Hu u2m),([] :Hu u0g),([] :Hu u0g),(0:Int),(0:Int))=u2u from rfl]
    rw[hk]
    simp only[zOb]
    refine r9y hu (b:=(q6y s (u22 s (1,false)).2).2.2) fun r h1 h2=> ?_
    have:=s16 h1
    rw[←h2] at this
    unfold t4f at this
    rw[Al h3] at this
    rw[h3]
    exact⟨(Dv this).1,(Dv this).2⟩
   ·rw[A7 h3]
    by_cases h4:u8a s 0=4
    ·rw[Bb h4,o80 (by omega) hin]
     simp only[Ad,Aa,zOb]
     have hk:=t4i ((u8a s 0:Int),u6k,emp,false,(t61 j3s s (1,false)).1) (by rw[r9b];simp only[q6w];have:=o26 j3s hs (by omega);simp only[emp,ByteArray.size];simp;omega)
     rw[show((0:Int),(0:Int),(0:Int),(0:Int),([] :Hu s7f),([] :Hu WrT),false,(⟨#[]⟩:Hs))=u6k from rfl]
     rw[show(([] :Hu u2m),([] :Hu u0g),([] :Hu u0g),(0:Int),(0:Int))=u2u from rfl]
     rw[show((⟨#[]⟩:Hs))=emp from rfl]
     rw[hk]
     simp only[zOb]
     refine r9y hu (b:=(t61 j3s s (1,false)).2.2) fun r h1 h2=> ?_
     have:=s16 h1
     rw[←h2] at this
     unfold t4f at this
     rw[Ao h3,Al h4] at this
     have hl:=p7t o47 j3t (Dv this).2
     rw[h4,hl]
     exact⟨(Dv this).1,(Dv this).2⟩
    ·rw[A7 h4,o0p (by omega) hin]
     simp only[Ad,Aa,zOb]
     have hk:=t4i ((u8a s 0:Int),(u7l 1000000000 s (1,false)).1,emp,false,u2u) (by rw[r9b];simp only[q6v];have:=o6c 1000000000 hs (by omega);simp only[emp,ByteArray.size];simp;omega)
     rw[show((0:Int),(0:Int),(0:Int),(0:Int),([] :Hu s7f),([] :Hu WrT),false,(⟨#[]⟩:Hs))=u6k from rfl]
     rw[show(([] :Hu u2m),([] :Hu u0g),([] :Hu u0g),(0:Int),(0:Int))=u2u from rfl]
     rw[show((⟨#[]⟩:Hs))=emp from rfl]
     rw[hk]
     simp only[zOb]
     refine r9y hu (b:=(u7l 1000000000 s (1,false)).2.2) fun r h1 h2=> ?_
     have:=s16 h1
     rw[←h2] at this
     unfold t4f at this
     rw[Ao h3,Ao h4] at this
     have hl:=p35 (m:=9) (m' :=1000000000) (by omega) (by omega) (Dv this).2
     rw[hl]
     exact⟨(Dv this).1,(Dv this).2⟩
theorem p1s (t:Hs) (ht:t.size≤u0j):s12 t=some (t7t t):=by
 have hb:u0j=1099511627776:=rfl
 rw[q7l];unfold r0f
 rw[p8u t ht]
 simp only[zOb]
 cases hu:t6v t with
 | none=>
  unfold t7t u5d
  rw[hu];rfl
 | some s=>
  have hs:=q6q hu
  simp only[t6l]
  by_cases h0:s.size=0
  ·unfold t7t u5d
   rw[hu]
   simp only
   rw[Al h0,Bb h0];rfl
  ·have hin:inT s (1,false):=⟨by simp,by simp;omega⟩
   rw[A7 h0]
   simp only[Ap,Aa,zOb]
   rw[show y4q (0:Int) s.size=true from y7t (i:=0) (by omega)]
   simp only[Ad,show((0:Int)).toNat=0 from rfl,o53]
   rw[y4y (n:=(u8a s 0:Int)) (by omega) (by have:=o1o s 0;omega),d01,d02]
   by_cases h3:u8a s 0=3
   ·rw[Bb h3,s3w _ (by omega)]
    simp only[Ad,zOb]
    rw[q57 (u89 hin).1 (by omega)]
    simp only[zOb]
    have hf:=(u89 hin).2
    have hg:=(u89 hin).1
    unfold inT at hg
    have:=(u94 (u22 s (1,false)).2 (k:=1) (by omega)).2
    simp only at hf
    have hk:=t4j ((u8a s 0:Int),u6k,(u22 s (1,false)).1,(q6y s (u22 s (1,false)).2).1,u2u) (by rw[r9b];simp only[q6w,q6v];omega)
    rw[show((0:Int),(0:Int),(0:Int),(0:Int),([] :Hu s7f),([] :Hu WrT),false,(⟨#[]⟩:Hs))=u6k from rfl]
    rw[show(([] :Hu u2m),([] :Hu u0g),([] :Hu u0g),(0:Int),(0:Int))=u2u from rfl]
    rw[hk]
    simp only[zOb]
    refine r9y hu (b:=false) fun r h1 h2=> ?_
    have:=s16 h1
    rw[←h2] at this
    unfold t4f at this
    rw[Al h3] at this
    rw[h3]
    exact⟨(Dv this).1,rfl⟩
   ·rw[A7 h3]
    by_cases h4:u8a s 0=4
    ·rw[Bb h4,o81 (by omega) hin]
     simp only[Ad,Aa,zOb]
     generalize hy:(if(t61 j08 s (1,false)).2.2=true then(u2u,(0:Int),false) else((t61 j08 s (1,false)).1,(t61 j08 s (1,false)).2.1,true))=y
     have hyw:j5e.wt y.1≤30000:=by
      rw[←hy]
      split
      ·rw[q6v];omega
      ·exact o26 j08 hs (by omega)
     have hk:=t4j ((u8a s 0:Int),u6k,emp,false,y.1) (by rw[r9b];simp only[q6w];simp only[emp,ByteArray.size];simp;omega)
     rw[show((0:Int),(0:Int),(0:Int),(0:Int),([] :Hu s7f),([] :Hu WrT),false,(⟨#[]⟩:Hs))=u6k from rfl]
     rw[show(([] :Hu u2m),([] :Hu u0g),([] :Hu u0g),(0:Int),(0:Int))=u2u from rfl]
     rw[show((⟨#[]⟩:Hs))=emp from rfl]
     rw[hk]
     simp only[zOb]
     refine r9y hu (b:=false) fun r h1 h2=> ?_
     have:=s16 h1
     rw[←h2] at this
     unfold t4f at this
     rw[Ao h3,Al h4] at this
     have hl:=p7t o47 j3u (Dv this).2
     rw[hl,Ao (by rw[(Dv this).2];simp)] at hy
     rw[h4,←hy]
     exact⟨(Dv this).1,rfl⟩
    ·rw[A7 h4,o6o (by omega) hin]
     simp only[Ad,Aa,zOb]
     generalize hy:(if(u7l 10 s (1,false)).2.2=true then(u6k,(0:Int),false) else((u7l 10 s (1,false)).1,(u7l 10 s (1,false)).2.1,true))=y
     have hyw:u0x.wt y.1≤30000:=by
      rw[←hy]
      split
      ·rw[q6w];omega
      ·exact o6c 10 hs (by omega)
     have hk:=t4j ((u8a s 0:Int),y.1,emp,false,u2u) (by rw[r9b];simp only[q6v];simp only[emp,ByteArray.size];simp;omega)
     rw[show((0:Int),(0:Int),(0:Int),(0:Int),([] :Hu s7f),([] :Hu WrT),false,(⟨#[]⟩:Hs))=u6k from rfl]
     rw[show(([] :Hu u2m),([] :Hu u0g),([] :Hu u0g),(0:Int),(0:Int))=u2u from rfl]
     rw[show((⟨#[]⟩:Hs))=emp from rfl]
     rw[hk]
     simp only[zOb]
     refine r9y hu (b:=false) fun r h1 h2=> ?_
     have:=s16 h1
     rw[←h2] at this
     unfold t4f at this
     rw[Ao h3,Ao h4] at this
     have hl:=p35 (m:=9) (m' :=10) (by omega) (by omega) (Dv this).2
     rw[hl,Ao (by rw[(Dv this).2];simp)] at hy
     rw[←hy]
     exact⟨(Dv this).1,rfl⟩
end
section
theorem o37 (l:Hu u0g) (c:Hs) (hl:l.length≤8388608):u2j (l,c)=some (l.filter fun x=> !z7o x.2.2.2.2.2.2.2 c):=by
 have hq:∀x∈l,u8o (x,c)=some (z7o x.2.2.2.2.2.2.2 c):=fun x _=>by rw[q95];rfl
 have L:=Q.first (T:=u0x) (c:=Hs) (W:=u1k) (q:=u8o) (p:=fun x:u0g=>z7o x.2.2.2.2.2.2.2 c) (fun x=>t0w x) l c (by omega) hq
 rw[t1o];unfold u4y
 simp only[t2x,u5i,L,zOb]
 by_cases hk:u0p (fun x:u0g=>z7o x.2.2.2.2.2.2.2 c) l<l.length
 ·obtain⟨a,e1,e2,e3⟩:=Q.delete (T:=u0x) (c:=Hs) (W:=u1a) (q:=u8o) (p:=fun x:u0g=>z7o x.2.2.2.2.2.2.2 c) (fun x=>t0n x) l c (by omega) hq hk
  have hn:=t21 (fun x:u0g=> !z7o x.2.2.2.2.2.2.2 c) l
  obtain⟨n,hne⟩:∃n,n=(l.filter fun x:u0g=> !z7o x.2.2.2.2.2.2.2 c).length:=⟨_,rfl⟩
  rw[←hne] at e1 e3 hn
  have c1:decide (((u0p (fun x:u0g=>z7o x.2.2.2.2.2.2.2 c) l:Nat):Int)= -1)=false:=by simp
  have c2:decide ((0:Int)≤(n:Int))=true:=by simp
  have c3:decide ((n:Int)≤(a.length:Int))=true:=by simp;omega
  have c4:decide ((a.length:Int)≤(a.length:Int))=true:=by simp
  have hw:=y7l (i:=u0p (fun x:u0g=>z7o x.2.2.2.2.2.2.2 c) l) (by omega)
  simp only[Al hk,zOb,c1,Aa,hw,e1,c2,c3,c4,Dt,Ad,zTn,Ae,Bv]
  have c5:decide ((n:Int)≤((a.take n++List.replicate (a.length - n) u0x.zero++a.drop (n+(a.length - n))).length:Int))=true:=by simp;omega
  have c6:(a.take n++List.replicate (a.length - n) u0x.zero++a.drop (n+(a.length - n))).take (n - (0:Int).toNat)=l.filter fun x:u0g=> !z7o x.2.2.2.2.2.2.2 c:=by
   rw[Bi,Ho,Nat.sub_zero,r9x a n (by omega),e3]
  simp only[c5,Dt,Ad,c6]
 ·have hall:(l.filter fun x:u0g=> !z7o x.2.2.2.2.2.2.2 c)=l:=by
   rw[F9]
   intro x hx
   obtain⟨i,hi,rfl⟩:=B7 hx
   rw[u8l (p:=fun x:u0g=>z7o x.2.2.2.2.2.2.2 c) hi (by omega)]
   rfl
  simp only[Ao hk,zOb,Ae,Ad,hall]
theorem p4y (l:Hu u0g) (c:Int) (hl:l.length≤8388608):u2k (l,c)=some (l.filter fun x=> !decide (x.1=c)):=by
 have hq:∀x∈l,u8r (x,c)=some (decide (x.1=c)):=fun x _=>by rw[p0n];rfl
 have L:=Q.first (T:=u0x) (c:=Int) (W:=u1n) (q:=u8r) (p:=fun x:u0g=>decide (x.1=c)) (fun x=>t0z x) l c (by omega) hq
 rw[t1q];unfold u40
 simp only[t20,u5l,L,zOb]
 by_cases hk:u0p (fun x:u0g=>decide (x.1=c)) l<l.length
 ·obtain⟨a,e1,e2,e3⟩:=Q.delete (T:=u0x) (c:=Int) (W:=u1c) (q:=u8r) (p:=fun x:u0g=>decide (x.1=c)) (fun x=>t0p x) l c (by omega) hq hk
  have hn:=t21 (fun x:u0g=> !decide (x.1=c)) l
  obtain⟨n,hne⟩:∃n,n=(l.filter fun x:u0g=> !decide (x.1=c)).length:=⟨_,rfl⟩
  rw[←hne] at e1 e3 hn
  have c1:decide (((u0p (fun x:u0g=>decide (x.1=c)) l:Nat):Int)= -1)=false:=by simp
  have c2:decide ((0:Int)≤(n:Int))=true:=by simp
  have c3:decide ((n:Int)≤(a.length:Int))=true:=by simp;omega
  have c4:decide ((a.length:Int)≤(a.length:Int))=true:=by simp
  have hw:=y7l (i:=u0p (fun x:u0g=>decide (x.1=c)) l) (by omega)
  simp only[Al hk,zOb,c1,Aa,hw,e1,c2,c3,c4,Dt,Ad,zTn,Ae,Bv]
  have c5:decide ((n:Int)≤((a.take n++List.replicate (a.length - n) u0x.zero++a.drop (n+(a.length - n))).length:Int))=true:=by simp;omega
  have c6:(a.take n++List.replicate (a.length - n) u0x.zero++a.drop (n+(a.length - n))).take (n - (0:Int).toNat)=l.filter fun x:u0g=> !decide (x.1=c):=by
   rw[Bi,Ho,Nat.sub_zero,r9x a n (by omega),e3]
  simp only[c5,Dt,Ad,c6]
 ·have hall:(l.filter fun x:u0g=> !decide (x.1=c))=l:=by
   rw[F9]
   intro x hx
   obtain⟨i,hi,rfl⟩:=B7 hx
   rw[u8l (p:=fun x:u0g=>decide (x.1=c)) hi (by omega)]
   rfl
  simp only[Ao hk,zOb,Ae,Ad,hall]
theorem o04 (b:u0i) (n:Hs) (hb:fewB b):s2x (b,n)=some (t9j b n):=by
 rw[p48];unfold q0t
 simp only
 rw[s1v b hb]
 simp only[zOb]
 rw[o37 _ _ (by have:=hb.2.2.1;omega)]
 rfl
theorem q77 (b:u0i) (n:Hs) (hb:fewB b):s24 (b,n)=some (t9j b n):=by
 obtain⟨hb1,hb2,hb3⟩:=hb
 have L:=s4k t2i b.2.2.1 (fun(a:Hu u0g) i=>(n,b,u2u,((b.1,b.2.1,a,b.2.2.2):u0i),i)) (fun x:u0g=> !z7o x.2.2.2.2.2.2.2 n) (fun x=>x) (fun a=> .inl (u2u,((b.1,b.2.1,a,b.2.2.2):u0i))) (by have:=hb3.1;omega)
  (fun a _=>by rw[r54];simp only[t8b,u0b,Am,Ah,Aa])
  (fun i hi a ha=>by
   have hm:=Ag hi
   have:=hb3.1
   rw[r54];simp only[t8b,u0b,hi,Ae,Ad,y7t hi,zTn,y8k (t:=u0x) hi,y7l (show i<4611686018427387904 by omega)]
   rw[t14 _ (hb3.2 _ hm)]
   simp only[zOb]
   rw[q6x (by simp;omega)])
 rw[Er] at L
 rw[p5w];unfold q1h
 simp only
 rw[s1w b ⟨hb1,hb2,hb3⟩]
 simp only[zOb]
 have L' :t2i (n,b,(([], [], [],0,0):u0i),((b.1,b.2.1, [],b.2.2.2):u0i),0)=_:=L
 rw[L']
 rfl
theorem o9c {n i:Int} :y8h n (i+1)=u15 n i:=by
 unfold y8h u15
 by_cases h:i<n
 ·rw[Al h,Ao (by omega)]
 ·rw[Ao h,Al (by omega)]
theorem o9j (p:u0g→Bool) (l:Hu u0g):∀(a:Hu u0g×Hu u0g),l.foldl (fun a x=>if p x=true then(a.1++ [x],a.2) else(a.1,a.2++ [x])) a=(a.1++l.filter p,a.2++l.filter fun x=> !p x):=by
 induction l with
 | nil=>intro a;simp
 | cons x l ih=>
  intro a
  rw[Bs,ih]
  cases h:p x<;>simp[h]
theorem o6e (p q:u0g→Bool) (l:Hu u0g) (d:u0g) (hl:l.length≤4194304):(l.filter p).length+ [d].length≤1099511627776∧(l.filter p++ [d]).length+(l.filter q).length≤1099511627776∧(l.filter p++ [d]).length≤8000000:=by
 have f1:=t21 p l
 have f2:=t21 q l
 rw[Ba,Aw]
 omega
theorem p7y (b z:u0i) (t d:u0g) (n:Hs) (hb:fewB b):u60 (n,t,z,b,d, [], [],(),(b.2.2.1.length:Int),0)=
 some (.inl (t,z,b,d,b.2.2.1.filter (fun x=>y3c x.2.2.2.2.2.2.2 n),b.2.2.1.filter fun x=> !y3c x.2.2.2.2.2.2.2 n)):=by
 have hl:=hb.2.2.1
 have L:=t00 u60 b.2.2.1 (fun(a:Hu u0g×Hu u0g) i=>(n,t,z,b,d,a.1,a.2,(),(b.2.2.1.length:Int),i)) (fun a x=>if y3c x.2.2.2.2.2.2.2 n=true then(a.1++ [x],a.2) else(a.1,a.2++ [x]))
  (fun a=> .inl (t,z,b,d,a.1,a.2)) (fun i a=>a.1.length≤i∧a.2.length≤i)
  (fun a _=>by rw[s8v];simp only[t3n,u0b,Am,Ah,Aa])
  (fun i hi a ha=>by
   rw[s8v];simp only[t3n,u0b,hi,Ae,Ad,y7t hi,zTn,y8k (t:=u0x) hi,y7l (show i<4611686018427387904 by omega)]
   cases y3c (b.2.2.1[i]).2.2.2.2.2.2.2 n
   ·simp only[Br,Bk,Aa]
    refine⟨⟨by omega,by simp;omega⟩,?_⟩
    rw[q6x (by simp;omega)]
   ·simp only[Bl,Ad]
    refine⟨⟨by simp;omega,by omega⟩,?_⟩
    rw[q6x (by simp;omega)]) ([], []) ⟨by simp,by simp⟩
 rw[o9j (fun x=>y3c x.2.2.2.2.2.2.2 n)] at L
 simpa using L
theorem p4z (b:u0i) (t:u0g) (n:Hs) (hb:fewB b) (ht:q0e t) (hi:j0k t.1):s35 (b,t,n)=some (u21 b t n):=by
 have hl:=hb.2.2.1
 rw[q96];unfold r3o
 simp only
 rw[s1v b hb]
 simp only[zOb]
 rw[q4d t ht]
 simp only[zOb]
 rw[q61 t b.2.1 ht hb.2.1]
 simp only[zOb]
 rw[p7y _ _ _ _ _ hb,p7y _ _ _ _ _ hb]
 simp only[zOb,s5i hi,o9c]
 have pl:=fun d=>o6e (fun x:u0g=>y3c x.2.2.2.2.2.2.2 n) (fun x:u0g=> !y3c x.2.2.2.2.2.2.2 n) b.2.2.1 d hl
 rw[q6x (pl _).1,q6x (pl _).2.1,q6x (pl _).1,q6x (pl _).2.1]
 unfold u21 u6w
 cases t.2.2.2.2.2.2.1<;>rfl
theorem p4f (b z:u0i) (t d:u0g) (n:Hs) (hb:fewB b):u62 (n,b,t,z,((b.1,b.2.1, [],b.2.2.2):u0i),d,0)=
 some (.inl (n,b,t,z,((b.1,b.2.1,b.2.2.1.filter (fun x=>y3c x.2.2.2.2.2.2.2 n),b.2.2.2):u0i),d)):=by
 have hl:=hb.2.2.1
 have L:=s4k u62 b.2.2.1 (fun(a:Hu u0g) i=>(n,b,t,z,((b.1,b.2.1,a,b.2.2.2):u0i),d,i)) (fun x:u0g=>y3c x.2.2.2.2.2.2.2 n) (fun x=>x) (fun a=> .inl (n,b,t,z,((b.1,b.2.1,a,b.2.2.2):u0i),d)) (by omega)
  (fun a _=>by rw[s84];simp only[t3w,u0b,Am,Ah,Aa])
  (fun i hi a ha=>by
   have hm:=Ag hi
   rw[s84];simp only[t3w,u0b,hi,Ae,Ad,y7t hi,zTn,y8k (t:=u0x) hi,y7l (show i<4611686018427387904 by omega)]
   rw[t14 _ (hb.2.2.2 _ hm)]
   simp only[zOb]
   rw[q6x (by simp;omega)])
 rw[Er] at L
 exact L
theorem q9k (b z:u0i) (t:u0g) (n:Hs) (hb:fewB b) (pre:Hu u0g) (hp:pre.length≤8000000):u6b (n,b,t,z,((b.1,b.2.1,pre,b.2.2.2):u0i),0)=
 some (.inl (t,z,((b.1,b.2.1,pre++b.2.2.1.filter (fun x=> !y3c x.2.2.2.2.2.2.2 n),b.2.2.2):u0i))):=by
 have hl:=hb.2.2.1
 have L:=s4k u6b b.2.2.1 (fun(a:Hu u0g) i=>(n,b,t,z,((b.1,b.2.1,pre++a,b.2.2.2):u0i),i)) (fun x:u0g=> !y3c x.2.2.2.2.2.2.2 n) (fun x=>x) (fun a=> .inl (t,z,((b.1,b.2.1,pre++a,b.2.2.2):u0i))) (by omega)
  (fun a _=>by rw[s66];simp only[t1b,u0b,Am,Ah,Aa])
  (fun i hi a ha=>by
   have hm:=Ag hi
   rw[s66];simp only[t1b,u0b,hi,Ae,Ad,y7t hi,zTn,y8k (t:=u0x) hi,y7l (show i<4611686018427387904 by omega)]
   rw[t14 _ (hb.2.2.2 _ hm)]
   simp only[zOb]
   rw[q6x (by simp;omega),Bi])
 rw[Er,Bw] at L
 exact L
theorem q0l (b:u0i) (t:u0g) (n:Hs) (hb:fewB b) (ht:q0e t) (hi:j0k t.1):u7c (b,t,n)=some (u21 b t n):=by
 have hl:=hb.2.2.1
 have pl:=fun d=>o6e (fun x:u0g=>y3c x.2.2.2.2.2.2.2 n) (fun x:u0g=> !y3c x.2.2.2.2.2.2.2 n) b.2.2.1 d hl
 rw[p0u];unfold r4a
 simp only
 rw[s1w b hb]
 simp only[zOb]
 rw[t14 t ht]
 simp only[zOb]
 rw[q62 t b.2.1 ht hb.2.1]
 simp only[zOb]
 rw[p4f _ _ _ _ _ hb,p4f _ _ _ _ _ hb]
 simp only[zOb]
 rw[q6x (pl _).1,q6x (pl _).1,q9k _ _ _ _ hb _ (pl _).2.2,q9k _ _ _ _ hb _ (pl _).2.2]
 simp only[zOb,s5i hi]
 have key:∀(o:Bool),(bif decide (t.1≥b.2.2.2.2) then some ((b.1,b.2.1,(b.2.2.1.filter fun x=>y3c x.2.2.2.2.2.2.2 n)++ [((t.1,(2:Int),t.2.2.1,t.2.2.2.1,t.2.2.2.2.1,t.2.2.2.2.2.1,o,n):u0g)] ++(b.2.2.1.filter fun x=> !y3c x.2.2.2.2.2.2.2 n),b.2.2.2.1,t.1+1):u0i)
  else some (b.1,b.2.1,(b.2.2.1.filter fun x=>y3c x.2.2.2.2.2.2.2 n)++ [((t.1,(2:Int),t.2.2.1,t.2.2.2.1,t.2.2.2.2.1,t.2.2.2.2.2.1,o,n):u0g)] ++(b.2.2.1.filter fun x=> !y3c x.2.2.2.2.2.2.2 n),b.2.2.2))=
  some (b.1,b.2.1,(b.2.2.1.filter fun x=>y3c x.2.2.2.2.2.2.2 n)++ [((t.1,(2:Int),t.2.2.1,t.2.2.2.1,t.2.2.2.2.1,t.2.2.2.2.2.1,o,n):u0g)] ++(b.2.2.1.filter fun x=> !y3c x.2.2.2.2.2.2.2 n),b.2.2.2.1,u15 b.2.2.2.2 t.1):=fun o=>by
  unfold u15
  by_cases h:t.1<b.2.2.2.2
  ·rw[A7 (by omega),Al h];rfl
  ·rw[Bb (by omega),Ao h];rfl
 unfold u21 u6w
 cases t.2.2.2.2.2.2.1
 ·exact key _
 ·exact key _
end
section
def o8u (d e:u0l):Prop:=u2t e=true∧u01 e=u01 d∧u0c e 0=u0c d 0∧u0c e 1=u0c d 1
theorem u96 {a:Int} (ha:a=0∨a=1):u0e a=1+a*48∧(r0s a:Int)=2+a*48:=by
 have hfa:u0e a=1+a*48:=by unfold u0e;rw[Al (j05.mpr ha)]
 refine⟨hfa,?_⟩
 unfold r0s
 rcases ha with rfl | rfl<;>omega
theorem q6c {e:u0l} (h1:u18 e=true) (h2:e.1.length=97) (h3:e.2= []) (h4:(u0c e 0).2.2=true) (h5:(u0c e 1).2.2=true):u2t e=true:=by
 unfold u2t
 rw[h1,h4,h5]
 simp[h2,h3]
theorem s87 {d e:u0l} (h:u0k e 0=u0k d 0):u01 e=u01 d:=by
 unfold u01 u39
 rw[h]
theorem j3o {d e:u0l} (hl:u2t d=true) {a:Int} (ha:a=0∨a=1) (h1:u18 e=true) (h2:e.1.length=97) (h3:e.2= [])
 (h4:∀k:Nat,k<97→ ¬(r0s a≤k∧k<r0s a+47)→u0k e (k:Int)=u0k d (k:Int))
 (h5:∀j:Nat,(j:Int)<(u0c d a).2.1→j<3008→r2z (r2s e a) j=r2z (r2s d a) j):o8u d e:=by
 obtain⟨d1,d2,d3,d4,d5⟩:=u7k hl
 have fd:=r2y d1 d2
 have fe:=r2y h1 h2
 obtain⟨f1,f2⟩:=u96 ha
 have hact:u01 e=u01 d:=s87 (h4 0 (by omega) (by omega))
 have hcnt:u0w e a=u0w d a:=by
  unfold u0w u39
  have hk:u0e a=(((u0e a).toNat:Nat):Int):=by rcases ha with rfl | rfl<;>omega
  have:=h4 (u0e a).toNat (by rcases ha with rfl | rfl<;>omega) (by rcases ha with rfl | rfl<;>omega)
  rw[←hk] at this
  rw[this]
 have hra:u0c e a=u0c d a:=by
  have hda:=t1x fd ha
  have hok:(u0c d a).2.2=true:=by rcases ha with rfl | rfl<;>assumption
  rw[t1x fe ha,hcnt]
  obtain⟨l,E,r⟩:∃l E,u0c d a=(l,E,true):=⟨_,_,by rw[←hok]⟩
  rw[r] at h5 ⊢
  rw[r] at hda
  have hsz:(r2s e a).size=(r2s d a).size:=by rw[(u8j fe ha).2.1,(u8j fd ha).2.1]
  have hat:=p17 (r2s d a) (u0w d a).toNat 0 [] (by simp)
  rw[←hda] at hat
  refine r79 hsz hda.symm (fun q hq=>h5 q hq ?_)
  have:=(u8j fd ha).2.1
  simp only at hat
  omega
 have hro:u0c e (1 - a)=u0c d (1 - a):=by
  refine t3b (fun q hq=> ?_)
  have ho:=(u96 (a:=1 - a) (by omega)).1
  obtain⟨j,hj⟩:∃j:Nat,u0e (1 - a)+(q:Int)=(j:Int):=⟨(u0e (1 - a)+(q:Int)).toNat,by rcases ha with rfl | rfl<;>omega⟩
  rw[hj]
  exact h4 j (by rcases ha with rfl | rfl<;>omega) (by rcases ha with rfl | rfl<;>omega)
 have both:u0c e 0=u0c d 0∧u0c e 1=u0c d 1:=by
  rcases ha with rfl | rfl
  ·exact⟨hra,by simpa using hro⟩
  ·exact⟨by simpa using hro,hra⟩
 exact⟨q6c h1 h2 h3 (by rw[both.1];exact d4) (by rw[both.2];exact d5),hact,both.1,both.2⟩
theorem p80 {d x:u0l} {a:Int} {t:Hs} (h:t40 d a t=some x):∃E:Nat,(u0c d a).2.1=(E:Int)∧E+(u0q t).size≤3008∧p4u ((u0q t).size+1) d (r0s a+E / 64) (E % 64) (u0q t)=some x∧t.size≠0∧t.size≤3008∧u0w d a<255:=by
 have hat:=r3d d a
 unfold t40 at h
 split at h
 ·cases h
 ·rename_i hc
  simp only[Hr] at hc
  unfold u6f at h
  split at h
  ·exact⟨(u0c d a).2.1.toNat,by omega,by omega,h,hc.2.1,by omega,by omega⟩
  ·cases h
theorem o5f {d:u0l} (h:d.2= []) {k:Nat} (hk:k<d.1.length):u0k d (k:Int)=(rdL Ty.str d.1 k,true):=by
 unfold u0k
 rw[Al (by omega),h,zTn]
 rfl
end
section
theorem o4x {d x:u0l} {a:Int} {t:Hs} (hl:u2t d=true) (ha:a=0∨a=1) (h:t40 d a t=some x):
 o8u d (flush x)∧ ∀E:Nat,(u0c d a).2.1=(E:Int)→ ∀q,q<(u0q t).size→r2z (r2s (flush x) a) (E+q)=r2z (u0q t) q:=by
 obtain⟨d1,d2,d3,d4,d5⟩:=u7k hl
 obtain⟨_,x1,x2,_⟩:=s2t h
 obtain⟨E,e1,e2,e3,_⟩:=p80 h
 obtain⟨c1,c2,c3⟩:=s0u x1
 have hxl:x.1.length=97:=by rw[x2];exact d2
 have hcl:(flush x).1.length=97:=by rw[c3];exact hxl
 obtain⟨f1,f2⟩:=u96 ha
 have fd:=r2y d1 d2
 have fe:=r2y c1 hcl
 have hb97:r0s a+47≤97:=by rcases ha with rfl | rfl<;>omega
 have hbytes:=fun j i (hi:i<64) (hj:j<97)=>p78 e3 (by omega) (Ev _ (by omega)) j i hi (by omega)
 refine⟨j3o hl ha c1 hcl c2 (fun k hk hn=> ?_) (fun j hj hj2=> ?_),fun E' hE' q hq=> ?_⟩
 ·rw[t44 x1]
  exact r95 e3 (Ev _ (by omega)) k (fun z=>hn ⟨by omega,by omega⟩)
 ·rw[(u8j fe ha).2.2 j hj2,(u8j fd ha).2.2 j hj2,t44 x1,hbytes _ _ (Ev _ (by omega)) (by omega),Ao (by omega)]
 ·have hEE:E' =E:=by omega
  subst hEE
  rw[(u8j fe ha).2.2 (E' +q) (by omega),t44 x1,hbytes _ _ (Ev _ (by omega)) (by omega),Al (by omega)]
  congr 1
  omega
theorem q66 (t:Hs):q90 t=((r2z t 0).toNat:Int):=rfl
theorem p2e (n:Int) (r:Hs) (h0:0≤n) (h1:n<256):q90 (t6y n++r)=n:=by
 rw[q66,t1s,Al (by rw[u2r];omega)]
 unfold t6y r2z
 rw[s6z]
 have w:IntKind.u8.wrap n=n:=by rw[o5q];omega
 rw[w]
 simp only[u8s,C8,Eh,List.getD_cons_zero]
 rw[Gg]
 omega
theorem o9r {d y:u0l} {a:Int} {t:Hs} (hl:u2t d=true) (ha:a=0∨a=1) (h:q70 d a t=some y):
 u2t y=true∧u01 y=u01 d∧u0c y (1 - a)=u0c d (1 - a)∧u0w y a=u0w d a+1∧u0c y a=((u0c d a).1++ [t],(u0c d a).2.1+((u0q t).size:Int),true):=by
 obtain⟨d1,d2,d3,d4,d5⟩:=u7k hl
 obtain⟨x,hx,x1,y1,y2,y3,hy⟩:=o9s d2 h
 obtain⟨s1,s2⟩:=o4x hl ha hx
 obtain⟨E,e1,e2,e3,e4,e5,e6⟩:=p80 hx
 obtain⟨c1,c2,c3⟩:=s0u x1
 have hxl:(flush x).1.length=97:=(u7k s1.1).2.1
 obtain⟨f1,f2⟩:=u96 ha
 have hcl:=r0n d a
 have hc1:s7z d a=u0w d a+1:=by unfold s7z;exact y4y (by omega) (by omega)
 have hob:=q3w (s:=u0e a) c1 c2 (by omega) (by rw[hxl];rcases ha with rfl | rfl<;>omega) (u2r (s7z d a))
 have hcz:r4i (flush x) a (s7z d a)=some ((flush x).1, [(u0e a,t6y (s7z d a)++(rdL Ty.str (flush x).1 (u0e a).toNat).extract 1 64)]):=hob
 have hz1:=(u9a hob).2.1
 rw[hcz] at hy
 simp only[orD] at hy
 have hrd:∀j:Int,u0k y j=if j=u0e a then(t6y (s7z d a)++(rdL Ty.str (flush x).1 (u0e a).toNat).extract 1 64,true) else u0k (flush x) j:=fun j=>by
  rw[hy,t44 hz1]
  by_cases e:j=u0e a
  ·rw[Al e,e]
   unfold u0k
   rw[Al (by show _∧_<((flush x).1.length:Int);rw[hxl];rcases ha with rfl | rfl<;>omega)]
   simp[t3i]
  ·rw[Ao e]
   have hne: ¬u0e a=j:=fun z=>e z.symm
   unfold u0k
   simp only[t3i,Bs,List.foldl_nil,hne,Bk,c2]
 have fy:=r2y y1 y3
 have fx:=r2y c1 hxl
 have fd:=r2y d1 d2
 have hcnt:u0w y a=u0w d a+1:=by
  unfold u0w at hc1 ⊢
  rw[j05.mpr ha,Al rfl] at*
  unfold u39 at*
  rw[hrd,Al rfl]
  simp only
  have:u0w d a=q90 (u0k d (u0e a)).1:=by unfold u0w u39;rw[j05.mpr ha,Al rfl]
  rw[hc1]
  exact p2e _ _ (by omega) (by omega)
 have hareaT:∀j,j<3008→r2z (r2s y a) j=r2z (r2s (flush x) a) j:=fun j hj=>by
  rw[(u8j fy ha).2.2 j hj,(u8j fx ha).2.2 j hj,hrd,Ao (by rcases ha with rfl | rfl<;>omega)]
 have hother:u0c y (1 - a)=u0c (flush x) (1 - a):=by
  refine t3b (fun q hq=> ?_)
  have ho:=(u96 (a:=1 - a) (by omega)).1
  rw[hrd,Ao (by rcases ha with rfl | rfl<;>omega)]
 have hother2:u0c (flush x) (1 - a)=u0c d (1 - a):=by
  rcases ha with rfl | rfl
  ·exact s1.2.2.2
  ·exact s1.2.2.1
 have hact:u01 y=u01 d:=by
  rw[←s1.2.1]
  exact s87 (by rw[hrd,Ao (by rcases ha with rfl | rfl<;>omega)])
 have hok:(u0c d a).2.2=true:=by rcases ha with rfl | rfl<;>assumption
 have hda:u7u (r2s d a) (u0w d a).toNat 0 [] =((u0c d a).1,(E:Int),true):=by
  rw[←t1x fd ha,←e1,←hok]
 have hfx:u7u (r2s (flush x) a) (u0w (flush x) a).toNat 0 [] =((u0c d a).1,(E:Int),true):=by
  have:u0c (flush x) a=u0c d a:=by
   rcases ha with rfl | rfl
   ·exact s1.2.2.1
   ·exact s1.2.2.2
  rw[←t1x fx ha,this,←e1,←hok]
 have hcx:u0w (flush x) a=u0w d a:=by
  unfold u0w u39
  have hk:u0e a=(((u0e a).toNat:Nat):Int):=by rcases ha with rfl | rfl<;>omega
  have h2:=r95 e3 (Ev _ (by omega)) (u0e a).toNat (by rcases ha with rfl | rfl<;>omega)
  rw[←hk] at h2
  rw[t44 x1,h2]
 have hsz:(r2s y a).size=(r2s (flush x) a).size:=by rw[(u8j fy ha).2.1,(u8j fx ha).2.1]
 have hra:u0c y a=((u0c d a).1++ [t],(u0c d a).2.1+((u0q t).size:Int),true):=by
  rw[t1x fy ha,hcnt,e1]
  have hm:(u0w d a+1).toNat=(u0w d a).toNat+1:=by omega
  rw[hm]
  have hloc:=r79 hsz hfx (fun q hq=>hareaT q (by omega))
  rw[hcx] at hloc
  have hrs:=q71 (T:=r2s y a) (E:=E) e4 e5 (by rw[(u8j fy ha).2.1];exact e2) (fun q hq=>by rw[hareaT _ (by omega)];exact s2 E e1 q hq)
  have:=p18 hloc hrs e4
  rw[this]
  congr 2
 have hlog:u2t y=true:=by
  rw[hother2] at hother
  refine q6c y1 y3 y2 ?_ ?_
  ·rcases ha with rfl | rfl
   ·rw[hra]
   ·have:u0c y 0=u0c d 0:=by simpa using hother
    rw[this];exact d4
  ·rcases ha with rfl | rfl
   ·have:u0c y 1=u0c d 1:=by simpa using hother
    rw[this];exact d5
   ·rw[hra]
 exact⟨hlog,hact,hother.trans hother2,hcnt,hra⟩
end
end
end Go.Proofs.YtkdpclfhapphhaaGreat.Ab
