import Derived.Test.YtkdpclfhapphhaaGreatAbLivesSerialT4
import Derived.Test.YtkdpclfhapphhaaGreatAbK2
import Derived.Test.YtkdpclfhapphhaaGreatAbF4
import Derived.Test.YtkdpclfhapphhaaGreatAbS2
namespace Go.Proofs.YtkdpclfhapphhaaGreat.Ab
open Go
set_option linter.unusedVariables false
set_option linter.unusedSimpArgs false
set_option linter.unnecessarySimpa false
section
section
theorem j2t (n:Nat) (hn:n≤1099511627776):u7q ((),(n:Int))=some [] :=by
 rw[s65];unfold t5u
 have e0:IntKind.i64.wrap ((0:Int) - (0:Int))=0:=by rw[y4y (by omega) (by omega)];rfl
 have e1:IntKind.i64.wrap ((n:Int) - 0)=(n:Int):=by rw[y4y (by omega) (by omega)];omega
 have e2:decide ((n:Int)<0)=false:=A7 (by omega)
 simp only[e0,e1,e2,Aa]
 by_cases h:n=0
 ·subst h;simp
 ·have e3:decide ((n:Int) >0)=true:=by simp;omega
  have e4:(decide ((1:Int)≤(n:Int))&&decide ((n:Int)≤1099511627776))=true:=by simp;omega
  simp only[e3,e4,Ad]
  simp
theorem o7x (ls:Hu (Hu u2b)) (h:ls.flatten.length≤1099511627776) (hn:ls.length≤1099511627776):u6y ls=some ls.flatten:=by
 have fl:∀(i:Nat),i≤ls.length→(ls.take i).flatten.length≤ls.flatten.length:=fun i _=>by
  have:=En i ls
  have h2:ls.flatten=(ls.take i).flatten++(ls.drop i).flatten:=by rw[←Ga,this]
  rw[h2,Ba];omega
 have st:∀(i:Nat) (hi:i<ls.length),(ls.take (i+1)).flatten=(ls.take i).flatten++ls[i] :=fun i hi=>by
  rw[Gm,A4 hi,Ga];simp
 have L1:=s9o u2h ls.length (fun(n:Nat) i=>(ls,(n:Int),ls,(ls.length:Int),i)) (fun _ _=> .inl (ls,(ls.flatten.length:Int))) (fun i n=>n=(ls.take i).flatten.length)
  (fun n hP=>by
   rw[Cq] at hP;subst hP
   rw[t0a];simp only[u28,u0b,Am,Ah,Aa])
  (fun i n hi hP=> .inr ⟨(ls.take (i+1)).flatten.length,rfl,rfl,by
   have h1:=fl (i+1) (by omega)
   have h2:(ls.take (i+1)).flatten.length=n+ls[i].length:=by rw[st i hi,Ba,hP]
   have e1:IntKind.i64.wrap ((n:Int)+((ls[i].length:Nat):Int))=((n+ls[i].length:Nat):Int):=by rw[y4y (by omega) (by omega)];omega
   have e2:decide (((n+ls[i].length:Nat):Int)<0)=false:=by simp;omega
   rw[t0a];simp only[u28,u0b,hi,Ae,Ad,y7t hi,zTn,y8k (t:=Ty.sl u0d) hi,y7l (show i<4611686018427387904 by omega),h2]
   rw[e1,e2];rfl⟩) 0 0 (by omega) rfl
 have L2:=s9o u2c ls.length (fun(a:Hu u2b) i=>(a,ls,(ls.length:Int),i)) (fun _ _=> .inl ls.flatten) (fun i a=>a=(ls.take i).flatten)
  (fun a hP=>by
   rw[Cq] at hP;subst hP
   rw[u9y];simp only[u21,u0b,Am,Ah,Aa])
  (fun i a hi hP=> .inr ⟨(ls.take (i+1)).flatten,rfl,rfl,by
   have h1:=fl (i+1) (by omega)
   have h2:(ls.take (i+1)).flatten.length=a.length+ls[i].length:=by rw[st i hi,Ba,hP]
   rw[u9y];simp only[u21,u0b,hi,Ae,Ad,y7t hi,zTn,y8k (t:=Ty.sl u0d) hi,y7l (show i<4611686018427387904 by omega)]
   rw[u0x (show a.length+ls[i].length≤1099511627776 by omega),st i hi,hP];rfl⟩) 0 [] (by omega) rfl
 rw[s4m];unfold t3a
 have L1' :u2h (ls,(0:Int),ls,(ls.length:Int),0)=some (.inl (ls,(ls.flatten.length:Int))):=L1
 have L2' :u2c ([],ls,(ls.length:Int),0)=some (.inl ls.flatten):=L2
 simp only[L1',zOb,j2t _ h,L2']
def o2q:s3m:=((⟨#[97]⟩:Hs),(⟨#[122,122,122]⟩:Hs))
def p0g (a b:Hu u2b) (s:Int):Bool:=decide (t5y a o2q s=t5y b o2q s)
def q7d (a b:Hu u2b) (s:Int):Bool:=p0g a b s&&(a++b).all fun v=>decide (v.2.2.2≤s) || p0g a b v.2.2.2
def likeP (a b:u0j):Bool:=decide (a.2.2.2.1=b.2.2.2.1)&&(s3i a.2.1 b.2.1&&(s3i a.2.2.1 b.2.2.1&&q7d a.1 b.1 a.2.2.2.1))
theorem p40 (a b:Hu u2b) (s:Int) (ha:a.length≤10000) (hb:b.length≤10000):t5m (s,(a,b))=some (p0g a b s):=by
 rw[q8d];unfold s9u
 rw[q28];unfold s8v
 simp only[zOb]
 rw[r2i a _ s (by omega),r2i b _ s (by omega)]
 simp only[zOb]
 rw[q70 _ _ (by have:=o81 a ((⟨#[97]⟩:Hs),(⟨#[122,122,122]⟩:Hs)) s;omega)]
 rfl
theorem p9g (a b:Hu u2b) (s:Int) (ha:a.length≤10000) (hb:b.length≤10000):s54 (a,b,s)=some (q7d a b s):=by
 have hC:=o7x [a,b] (by simp only[List.flatten_cons,List.flatten_nil,Bw,Ba];omega) (by simp)
 rw[show[a,b].flatten=a++b by simp] at hC
 have hl:(a++b).length≤20000:=by rw[Ba];omega
 generalize hg:a++b=g at hC hl
 have L:=t3r t49 g.length (fun i=>(s,(a,b),g,(g.length:Int),i)) (fun i=>(fun v:u2b=>decide (v.2.2.2≤s) || p0g a b v.2.2.2) (rdL u0d g i)) (.inl (s,(a,b))) (.inr false)
  (by rw[r1k];simp only[t4k,u0b,Am,Ah,Aa])
  (fun i hi=>by
   rw[r1k];simp only[t4k,u0b,hi,Ae,Ad,y7t hi,zTn,y7l (show i<4611686018427387904 by omega),q64 (rdL u0d g i).2.2.2 s]
   rw[p40 a b _ ha hb]
   cases decide ((rdL u0d g i).2.2.2≤s)
   ·cases p0g a b (rdL u0d g i).2.2.2<;>rfl
   ·rfl)
 rw[s2b (t:=u0d) g (fun v:u2b=>decide (v.2.2.2≤s) || p0g a b v.2.2.2)] at L
 rw[p29];unfold r7l
 simp only
 rw[hC]
 simp only[zOb]
 rw[L]
 unfold q7d
 rw[hg]
 cases g.all fun v:u2b=>decide (v.2.2.2≤s) || p0g a b v.2.2.2
 ·simp
 ·simp only[Ad,zOb,Cz]
  rw[p40 a b _ ha hb];rfl
theorem o2b (a b:u0j) (ha:tinyB a) (hb:tinyB b):t9y (a,b)=some (likeP a b):=by
 rw[p24];unfold r7g likeP
 simp only
 rw[p70 _ _ ha.pl ha.ps hb.ps,p70 _ _ ha.rl ha.rs hb.rs,p9g _ _ _ ha.vl hb.vl]
 simp only[zOb]
 cases decide (a.2.2.2.1=b.2.2.2.1)<;>cases s3i a.2.1 b.2.1<;>cases s3i a.2.2.1 b.2.2.1<;>rfl
end
section
theorem o4g (t:Hs) (a:Int):(u0o t a).1.size≤20000:=by
 unfold u0o
 split
 ·rename_i hc
  have:=t81 hc.1
  simp only[Bd];omega
 ·exact Cn _
theorem q9z (t:Hs):∀(m:Nat) (a:Int) (acc:Hu Hs),(∀s∈acc,s.size≤20000)→ ∀s∈(u62 t m a acc).1,s.size≤20000
 | 0,a,acc,h=>h
 | m+1,a,acc,h=>by
  unfold u62
  split
  ·refine q9z t m _ _ fun s hs=> ?_
   rcases Ay.mp hs with q | q
   ·exact h s q
   ·rw[Ax.mp q];exact o4g _ _
  ·intro s hs;cases hs
theorem p7p (d:u0l) (a:Int):∀s∈(u0f d a).1,s.size≤20000:=by
 unfold u0f
 split
 ·exact q9z _ _ _ _ fun s hs=>by cases hs
 ·intro s hs;cases hs
theorem q3q (d:u0l):∀s∈u0e d,s.size≤20000:=p7p d _
theorem q99 (d:u0l):(u0e d).length<256:=p0e d _
theorem o2f (d:u0l) (hd:d1h.wt d≤1073741824):t6j d=some (logR (u0e d)):=
 o2d d hd (fun t ht=>by have:=q3q d t ht;unfold u0m;omega) (by have:=q99 d;omega)
theorem p7z (d:u0l) (hd:d1h.wt d≤1073741824):t6n d=some (logR (u0e d)):=
 o2e d hd (fun t ht=>by have:=q3q d t ht;unfold u0m;omega) (by have:=q99 d;omega)
theorem o7a:∀ {l:Hu Hs} {b x:u0j},BaseR b→s2o b l=some x→BaseR x
 | [],b,x,hb,h=>by rw[←Ds h];exact hb
 | t::l,b,x,hb,h=>by
  simp only[s2o] at h
  split at h
  ·cases h
  ·split at h
   ·cases h
   ·rename_i r _ y hy
    exact o7a (o07 hy).1 h
theorem o4a {l:Hu Hs} {x:u0j} (h:t0y l=some x):BaseR x:=o7a o3z h
theorem o3w (l:Hu Hs):tinyB (logR l).1:=by
 unfold logR
 cases h:t0y l with
 | none=>exact t2h
 | some b=>exact(o4a h).tiny
def storeOk (s:u3e×u0l):Bool:=o3k s.1&&(u2v s.2&&((logR (u0e s.2)).2&&likeP (logR (u0e s.2)).1 (u2y s.1.1 [])))
end
section
theorem u9b (b:u0j) (o:Hu u0c) (hb:fewB b) (ho:o0z o):u0p (b,o)=some (b,o):=by
 have h1:=s0n b hb
 have h2:=q4b o ho
 rw[p7f];unfold q2z
 simp only[h1,h2,zOb]
theorem o70 (b:u0j) (o:Hu u0c) (hb:fewB b) (ho:o0z o):s0x (b,o)=some (b,o):=by
 have h1:=s0m b hb
 have h2:=q4a o ho
 rw[q8g];unfold s9x
 simp only[h1,h2,zOb]
theorem o49 (b:u0j) (o:Hu u0c) (n:Hs) (hb:smallB b) (ho:o0z o) {k:Nat} (hk:k<b.2.2.1.length) (hr:u0i b n=(k:Int)):
 ∃e r code,r2v ((b,o),n,true)=some (e,r,code)∧(code=(0:Int)∨code=3):=by
 have h1:=o70 b o hb.few ho
 have h2:=r64 b n (by have:=hb.2.2.1;omega)
 have h3:=j0s b
 have ht:=hb.2.2.2 _ (Ag hk)
 have h4:=q9f b b.2.2.1[k] hb.few ht
 have h5:=t3q (u89 b b.2.2.1[k]) o (o4o hb ht) ho.1
 have c1:decide ((k:Int)<0)=false:=by simp
 rw[hr] at h2
 rw[p90];unfold q5f
 simp only[h1,h2,h3,zOb,c1,Aa,Ad]
 cases s4p b with
 | true=>exact⟨_,_,_,rfl, .inr rfl⟩
 | false=>
  simp only[Aa,y7t hk,Ad,zTn,y8k (t:=u0q) hk,h4,h5,zOb]
  exact⟨_,_,_,rfl, .inl rfl⟩
end
section
theorem EngR.ot {e:u3e} (h:EngR e) {t:u0c} (ht:t∈e.2):tinyT t:=(h.open_ t ht).1.tiny
theorem EngR.fewO {e:u3e} (h:EngR e):o0z e.2:=q7g (by have:=h.olen;omega) fun t ht=>h.ot ht
theorem EngR.tinyO {e:u3e} (h:EngR e):tinyB e.1:=h.base.tiny
theorem EngR.fewB {e:u3e} (h:EngR e):Ab.fewB e.1:=h.base.tiny.few
theorem EngR.oth {e:u3e} (h:EngR e):∀t∈s5v e,tinyT t:=fun t ht=>by
 rcases Ay.mp ht with q | q
 ·exact(h.base.past t q).1.tiny
 ·exact(h.base.ready t q).1.tiny
theorem EngR.fewOth {e:u3e} (h:EngR e):o0z (s5v e):=q7g (by have:=h.base.plen;have:=h.base.rlen;simp only[s5v,Ba];omega) h.oth
theorem t3l (e:u3e) (id:Int) (h:e.2.length≤4194304):u5m (e,id)=some (u41 e.2 id):=by
 have L:=s9o t3w (u0s (fun x:u0c=>decide (x.1=id)) e.2) (fun(_:Unit) i=>(id,e,i)) (fun _ _=>if u0s (fun x:u0c=>decide (x.1=id)) e.2<e.2.length then .inr ((u0s (fun x:u0c=>decide (x.1=id)) e.2:Nat):Int) else .inl ()) (fun _ _=>True)
  (fun a _=>by
   have hle:=t8x (fun x:u0c=>decide (x.1=id)) e.2
   rw[q0c]
   by_cases hk:u0s (fun x:u0c=>decide (x.1=id)) e.2<e.2.length
   ·have hy:=u8o hk
    simp only[t3n,u0b,hk,Ae,Ad,y7t hk,zTn,y8k (t:=u0q) hk,hy,Bl]
   ·simp only[t3n,u0b,hk,Ah,Aa,Bk])
  (fun i a hi _=> .inr ⟨(),trivial,rfl,by
   have hle:=t8x (fun x:u0c=>decide (x.1=id)) e.2
   have hil:i<e.2.length:=by omega
   have hn:=t2b hil hi
   rw[q0c]
   simp only[t3n,u0b,hil,Ae,Ad,y7t hil,zTn,y8k (t:=u0q) hil,hn,Aa]
   rw[y7l (by omega)]⟩) 0 () (Cn _) trivial
 have L:t3w (id,e,0)=_:=L
 rw[o0k];unfold q50 u41
 simp only[L,zOb]
 by_cases hk:u0s (fun x:u0c=>decide (x.1=id)) e.2<e.2.length
 ·simp only[Al hk]
 ·simp only[Ao hk]
theorem j0j {e:u3e} :(decide ((e.2.length:Int)≥4)= !decide (e.2.length<4))∧(decide (e.1.2.2.2.2≥9999)= !decide (e.1.2.2.2.2<9999)):=by
 constructor
 ·by_cases h:e.2.length<4<;>simp[h] <;>omega
 ·by_cases h:e.1.2.2.2.2<9999<;>simp[h] <;>omega
theorem o7w {e:u3e} (h:EngR e):r9h e=some (s3t e):=by
 have ho:=h.olen
 have hn:=h.base.next
 have h1:=u9b e.1 e.2 h.fewB h.fewO
 have h2:=p89 e (by have:=h.tinyO.wt;have:=p15 (l:=e.2) (by omega) (fun t ht=>h.ot ht);have:=o6y e;omega)
 have h1:u0p e=some e:=h1
 have hk:=j8c.mpr h
 rw[o28];unfold q9p s3t
 simp only[h1,h2,hk,zOb,Ap,Aa,j0j.1,j0j.2,Aw,u0x (show e.2.length+1≤1099511627776 by omega),Ad]
 by_cases c1:e.2.length<4
 ·by_cases c2:e.1.2.2.2.2<9999
  ·simp only[c1,c2,Ae,Ap,Aa,zOb,and_self,Bl,s0e (n:=e.1.2.2.2.2) (q4r hn)]
   rfl
  ·simp only[c1,c2,Ae,Ah,Ap,Bh,Aa,Ad,zOb,and_false,Bk]
 ·simp only[c1,Ah,Bh,Ad,zOb,false_and,Bk]
theorem d45 (l:Hu s3m) (r:s3m):(l.any fun x=>z7o x.1 r.1&&(z7o x.2 r.2&&true))=j94 l r:=by
 unfold j94;simp only[Cz]
theorem q1d {t:u0c} {r:s3m} (ht:TxnR t) (h1:t.2.1=1) (hr:u3s r=true):t8e (t,r)=some (s3h t r):=by
 have hy:=ht.tiny
 have hw:=hy.wt
 have hl:=ht.rlen
 have c0:=t05 t hy.few
 have c1:=t8s t (by unfold u0m;omega)
 have k:=u3f (s:=r.1) (by unfold u3s at hr;simp only[Ai] at hr;exact hr.1)
 have k' :=u3f (s:=r.2) (by unfold u3s at hr;simp only[Ai] at hr;exact hr.2.1)
 have c2:=r62 r (by unfold u0m;omega) (by unfold u0m;omega)
 have ok:=q7i.mpr ht
 have L:=s49 u8a t.2.2.2.2.1 (fun i=>(t,r,(u5j:u0c),t,i)) (fun x=>z7o x.1 r.1&&(z7o x.2 r.2&&true)) (.inr (t,true)) (.inl (t,r,u5j,t))
  (by rw[s8q];simp only[t2z,u0b,Am,Ah,Aa])
  (fun i hi=>by
   rw[s8q]
   simp only[t2z,u0b,hi,Ae,Ad,y7t hi,zTn,y8k (t:=t3b) hi]
   rw[y7l (by omega)])
 rw[d45] at L
 have L:u8a (t,r,((0,0,0,0, [], [],false,(⟨#[]⟩:Hs)):u0c),t,0)=_:=L
 rw[p1i];unfold r39 s3h
 simp only[c0,c1,c2,ok,hr,h1,zOb,Ae,Ap,Aa,L]
 cases j94 t.2.2.2.2.1 r
 ·have e8:decide ((t.2.2.2.2.1.length:Int)≥8)= !decide (t.2.2.2.2.1.length<8):=by by_cases c:t.2.2.2.2.1.length<8<;>simp[c] <;>omega
  simp only[Aa,e8,Br,Bk]
  by_cases c:t.2.2.2.2.1.length<8
  ·simp only[c,Ae,Ap,Aa,Aw,u0x (show t.2.2.2.2.1.length+1≤1099511627776 by omega),Ad,Bl]
   rfl
  ·simp only[c,Ah,Bh,Ad,Bk]
 ·rfl
theorem o1p {l:Hu WrT} {w:WrT} (h:u6b l=true) (hw:u3t w=true):u6b (o1s l w)=decide ((o1s l w).length≤8):=by
 by_cases c:(o1s l w).length≤8
 ·rw[j1k h hw c,Bb c]
 ·rw[A7 c]
  cases q:u6b (o1s l w)
  ·rfl
  ·exact absurd (j46.mp q).2.2 c
theorem p16 {w:WrT} (h:u3t w=true):w.1.size≤3∧w.2.1.size≤12:=by
 unfold u3t at h
 simp only[Ai,Ar] at h
 exact⟨(u3f h.1).2,h.2.1⟩
theorem j2c {l:Hu WrT} (hn:l.length≤1000) (h:∀w∈l,u3t w=true):(Ty.sl u2i).wt l≤20000:=by
 have e:(Ty.sl u2i).wt l=l.length+(l.map u2i.wt).sum:=rfl
 have s:=s2s (f:=u2i.wt) (k:=15) (l:=l) fun w hw=>by
  have:=p16 (h w hw)
  have e:u2i.wt w=w.1.size+(w.2.1.size+0):=rfl
  omega
 omega
theorem j1j {l:Hu WrT} {w:WrT} (h:u6b l=true) (hw:u3t w=true):∀x∈o1s l w,u3t x=true:=fun x hx=>by
 rcases o7c hx with q | q
 ·exact(j46.mp h).1 x q
 ·rw[q];exact hw
theorem p9l {t:u0c} {w:WrT} (ht:TxnR t) (h1:t.2.1=1) (hw:u3t w=true):s6l (t,w)=some (s62 t w):=by
 have hy:=ht.tiny
 have ht8:=(j46.mp ht.ws).2.2
 have hl:=j3y t.2.2.2.2.2.1 w
 have c0:=t05 t hy.few
 have c1:=t8s t (by have:=hy.wt;unfold u0m;omega)
 have c2:=r7a w (by have:=p16 hw;unfold u0m;omega)
 have c3:=p9e t.2.2.2.2.2.1 w (by omega)
 have c4:=q5a (o1s t.2.2.2.2.2.1 w) (by have:=j2c (l:=o1s t.2.2.2.2.2.1 w) (by omega) (j1j ht.ws hw);unfold u0m;omega)
 have ok:=q7i.mpr ht
 rw[p3y];unfold r8b s62
 simp only[c0,c1,c2,c3,c4,ok,hw,h1,zOb,Ae,Ap,Aa,o1p ht.ws hw]
 by_cases c:(o1s t.2.2.2.2.2.1 w).length≤8
 ·simp only[c,Ae,Ap,Aa,Bl]
  unfold d1v
  rw[h1]
 ·simp only[c,Ah,Bh,Ad,Bk]
end
section
def r09 (t:u0c) (l:Hu u2b) (k:Hs):Hs×Bool:=
 if u0s (fun w:WrT=>z7o w.1 k) t.2.2.2.2.2.1<t.2.2.2.2.2.1.length then
  (if(rdL u2i t.2.2.2.2.2.1 (u0s (fun w:WrT=>z7o w.1 k) t.2.2.2.2.2.1)).2.2=true then(emp,false) else((rdL u2i t.2.2.2.2.2.1 (u0s (fun w:WrT=>z7o w.1 k) t.2.2.2.2.2.1)).2.1,true))
 else s6n l k t.2.2.1
def r9e (t:u0c) (l:Hu u2b) (r:s3m):Hu PrT:=
 ((q8w (l.map (fun v=>v.1)++t.2.2.2.2.2.1.map fun w=>w.1)).filter fun k=>(r09 t l k).2&&inR r k).map fun k=>(k,(r09 t l k).1)
theorem p2e (t:u0c) (l:Hu u2b) (k:Hs) (ht:r6x t) (hl:l.length≤4194304):s4v (t,l,k)=some (r09 t l k):=by
 have h8:=ht.2
 have L:=s9o t3x (u0s (fun w:WrT=>z7o w.1 k) t.2.2.2.2.2.1) (fun(_:Unit) i=>(l,k,t,i)) (fun _ _=>if u0s (fun w:WrT=>z7o w.1 k) t.2.2.2.2.2.1<t.2.2.2.2.2.1.length then .inr (if(rdL u2i t.2.2.2.2.2.1 (u0s (fun w:WrT=>z7o w.1 k) t.2.2.2.2.2.1)).2.2=true then(emp,false) else((rdL u2i t.2.2.2.2.2.1 (u0s (fun w:WrT=>z7o w.1 k) t.2.2.2.2.2.1)).2.1,true)) else .inl (l,k,t)) (fun _ _=>True)
  (fun a _=>by
   have hle:=t8x (fun w:WrT=>z7o w.1 k) t.2.2.2.2.2.1
   rw[q0d]
   by_cases hk:u0s (fun w:WrT=>z7o w.1 k) t.2.2.2.2.2.1<t.2.2.2.2.2.1.length
   ·have hy:=u8o hk
    simp only[t3o,u0b,hk,Ae,Ad,y7t hk,zTn,y8k (t:=u2i) hk,hy,Bl]
    cases (t.2.2.2.2.2.1[u0s (fun w:WrT=>z7o w.1 k) t.2.2.2.2.2.1]).2.2<;>rfl
   ·simp only[t3o,u0b,hk,Ah,Aa,Bk])
  (fun i a hi _=> .inr ⟨(),trivial,rfl,by
   have hle:=t8x (fun w:WrT=>z7o w.1 k) t.2.2.2.2.2.1
   have hil:i<t.2.2.2.2.2.1.length:=by omega
   have hn:=t2b hil hi
   rw[q0d]
   simp only[t3o,u0b,hil,Ae,Ad,y7t hil,zTn,y8k (t:=u2i) hil,hn,Aa]
   rw[y7l (by omega)]⟩) 0 () (Cn _) trivial
 have L:t3x (l,k,t,0)=_:=L
 rw[o0l];unfold q51 r09
 simp only[L,zOb]
 by_cases hk:u0s (fun w:WrT=>z7o w.1 k) t.2.2.2.2.2.1<t.2.2.2.2.2.1.length
 ·simp only[Al hk]
 ·simp only[Ao hk,o5h l k _ (show l.length≤1099511627776 by omega),zOb]
theorem o2c (t:u0c) (l:Hu u2b) (r:s3m) (ht:r6x t) (hl:l.length≤4194304):s9d (t,l,r)=some (r9e t l r):=by
 have h8:=ht.2
 have L:=u8w t1l t.2.2.2.2.2.1 (fun(a:Hu u2b) i=>(l,t,r,a,i)) (fun a (w:WrT)=>a++ [((w.1,emp,false,(0:Int)):u2b)]) (fun a=> .inl (l,t,r,a)) (fun i a=>a.length=l.length+i)
  (fun a _=>by rw[r59];simp only[t7f,u0b,Am,Ah,Aa])
  (fun i hi a ha=>⟨by simp[ha];omega,by
   rw[r59]
   simp only[t7f,u0b,hi,Ae,Ad,y7t hi,zTn,y8k (t:=u2i) hi,Aw,u0x (show a.length+1≤1099511627776 by omega)]
   rw[y7l (by omega)]
   rfl⟩) l rfl
 have fo:∀(ws:Hu WrT) (a:Hu u2b),ws.foldl (fun a (w:WrT)=>a++ [((w.1,emp,false,(0:Int)):u2b)]) a=a++ws.map fun w=>((w.1,emp,false,(0:Int)):u2b):=by
  intro ws
  induction ws with
  | nil=>intro a;simp
  | cons w ws ih=>intro a;rw[Bs,ih,C8,Bi];rfl
 rw[fo] at L
 obtain⟨all,ha⟩:∃all,all=l++t.2.2.2.2.2.1.map fun w:WrT=>((w.1,emp,false,(0:Int)):u2b):=⟨_,rfl⟩
 rw[←ha] at L
 have hal:all.length≤6000000:=by rw[ha];simp;omega
 have hmap:all.map (fun v=>v.1)=l.map (fun v=>v.1)++t.2.2.2.2.2.1.map fun w=>w.1:=by
  rw[ha,Dh,List.map_map];rfl
 obtain⟨ks,hks⟩:∃ks,ks=(q8w (all.map fun v=>v.1)).filter fun k=>inR r k:=⟨_,rfl⟩
 have hkl:ks.length≤all.length:=by
  rw[hks]
  refine A9 (Cs _ _) (A9 (q65 _) (by simp))
 have L2:=s19 t70 ks (fun a i=>(l,t,a,ks,i)) (fun k=>(r09 t l k).2) (fun k=>(k,(r09 t l k).1)) (fun a=> .inl a) (by omega)
  (fun a _=>by rw[r6a];simp only[t7g,u0b,Am,Ah,Aa])
  (fun i hi a ha=>by
   rw[r6a];simp only[t7g,u0b,hi,Ae,Ad,y7t hi,zTn,y8k (t:=Ty.str) hi,p2e t l _ ht hl,zOb,Aw,u0x (show a.length+1≤1099511627776 by omega)]
   rw[y7l (by omega)])
 have L:t1l (l,t,r,l,0)=_:=L
 rw[p6o];unfold q17
 simp only[Cc,Co,Cf,u0x (show l.length≤1099511627776 by omega),Ad,L,zOb,o92 all r (show all.length≤500000000000 by omega)]
 rw[←hks]
 simp only[L2,zOb]
 rw[hks,List.filter_filter,hmap]
 rfl
theorem o7f {k:Hs} :u3s (k,k)=u7b k:=by
 unfold u3s
 have:z7o k k=true:=by simp[z7o]
 rw[this,Ew,Cz,Dt]
def j8e (e:u3e) (id:Int) (k:Hs):u3e×Hs×Bool×Int:=
 if(s66 e id (k,k) (u7b k)).2=0 then((s66 e id (k,k) (u7b k)).1,(r09 (u1m e id) e.1.1 k).1,(r09 (u1m e id) e.1.1 k).2,0)
 else((s66 e id (k,k) (u7b k)).1,emp,false,(s66 e id (k,k) (u7b k)).2)
def o59 (e:u3e) (id:Int) (r:s3m):u3e×Hu PrT×Int:=
 if(s66 e id r (u3s r)).2=0 then((s66 e id r (u3s r)).1,r9e (u1m e id) e.1.1 r,0) else((s66 e id r (u3s r)).1, [],(s66 e id r (u3s r)).2)
theorem p4x {t:u0c} {r:s3m} :(s3h t r).1.2.2.1=t.2.2.1∧(s3h t r).1.2.2.2.2.2.1=t.2.2.2.2.2.1:=by
 unfold s3h
 split
 ·exact⟨rfl,rfl⟩
 ·split<;>exact⟨rfl,rfl⟩
theorem p4p (t:u0c) (r:s3m) (l:Hu u2b) (k:Hs):r09 (s3h t r).1 l k=r09 t l k:=by
 unfold r09;rw[p4x.1,p4x.2]
theorem o35 (t:u0c) (r q:s3m) (l:Hu u2b):r9e (s3h t r).1 l q=r9e t l q:=by
 unfold r9e;rw[p4x.2];simp only[p4p]
theorem o4f {t:u0c} {r:s3m} (h:tinyT t):r6x (s3h t r).1:=by
 unfold s3h
 split
 ·exact h.few
 ·split
  ·refine⟨?_,h.few.2⟩
   show(t.2.2.2.2.1++ [r]).length≤1048576
   have:=h.rl
   simp;omega
  ·exact h.few
theorem o5a {e:u3e} (h:EngR e) (id:Int) {k:Hs} (hk:k.size≤1048576):r23 (e,id,k)=some (j8e e id k):=by
 have ho:=h.olen
 have h1:u0p e=some e:=u9b e.1 e.2 h.fewB h.fewO
 have h2:=t3l e id (by omega)
 have h3:=t8p k (by unfold u0m;omega)
 rw[o0i];unfold q5y j8e s66
 simp only[h1,h2,h3,zOb]
 by_cases hn:u41 e.2 id<0
 ·simp only[hn,Ae,Ad,Bl]
  rfl
 ·obtain⟨j,hj,e1,e2,e3⟩:=u2q hn
  have hR:=h.open_ _ (Ag hj)
  simp only[hn,Ah,Aa,Bk]
  cases hok:u7b k with
  | false=>rfl
  | true=>
   have c:=q1d (r:=(k,k)) hR.1 hR.2.1 (by rw[o7f];exact hok)
   simp only[Ap,Aa,e1,y7t hj,Ad,zTn,y8k (t:=u0q) hj,c,zOb,e2,Fm,Bk]
   cases hr:(s3h e.2[j] (k,k)).2 with
   | false=>rfl
   | true=>
    have g:=p2e (s3h e.2[j] (k,k)).1 e.1.1 k (o4f hR.1.tiny) (by have:=h.tinyO.vl;omega)
    simp only[Ap,Aa,g,zOb,Bl,p4p]
    rfl
theorem p9h {e:u3e} (h:EngR e) (id:Int) {r:s3m} (hk:r.1.size≤1048576∧r.2.size≤1048576):s6h (e,id,r)=some (o59 e id r):=by
 have ho:=h.olen
 have h1:u0p e=some e:=u9b e.1 e.2 h.fewB h.fewO
 have h2:=t3l e id (by omega)
 have h3:=r62 r (by unfold u0m;omega) (by unfold u0m;omega)
 rw[p3u];unfold r76 o59 s66
 simp only[h1,h2,h3,zOb]
 by_cases hn:u41 e.2 id<0
 ·simp only[hn,Ae,Ad,Bl]
  rfl
 ·obtain⟨j,hj,e1,e2,e3⟩:=u2q hn
  have hR:=h.open_ _ (Ag hj)
  simp only[hn,Ah,Aa,Bk]
  cases hok:u3s r with
  | false=>rfl
  | true=>
   have c:=q1d (r:=r) hR.1 hR.2.1 hok
   simp only[Ap,Aa,e1,y7t hj,Ad,zTn,y8k (t:=u0q) hj,c,zOb,e2,Fm,Bk]
   cases hr:(s3h e.2[j] r).2 with
   | false=>rfl
   | true=>
    have g:=o2c (s3h e.2[j] r).1 e.1.1 r (o4f hR.1.tiny) (by have:=h.tinyO.vl;omega)
    simp only[Ap,Aa,g,zOb,Bl,o35]
    rfl
theorem p2f {e:u3e} (h:EngR e) (id:Int) {w:WrT} (hw:w.1.size≤1048576):s4w (e,id,w)=some (j2m e id w):=by
 have ho:=h.olen
 have h1:u0p e=some e:=u9b e.1 e.2 h.fewB h.fewO
 have h2:=t3l e id (by omega)
 have h3:=r7a w (by unfold u0m;omega)
 rw[o0n];unfold q53 j2m
 simp only[h1,h2,h3,zOb]
 by_cases hn:u41 e.2 id<0
 ·simp only[hn,Ae,Ad,Bl]
 ·obtain⟨j,hj,e1,e2,e3⟩:=u2q hn
  have hR:=h.open_ _ (Ag hj)
  simp only[hn,Ah,Aa,Bk]
  cases hok:u3t w with
  | false=>rfl
  | true=>
   have c:=p9l (w:=w) hR.1 hR.2.1 hok
   simp only[Ap,Aa,e1,y7t hj,Ad,zTn,y8k (t:=u0q) hj,c,zOb,e2,Fm,Bk]
   cases hr:(s62 e.2[j] w).2 with
   | false=>rfl
   | true=>rfl
theorem r2g (b:u0j) (o:Hu u0c) (id:Int) (hb:fewB b) (ho:o.length≤1000):u1g ((b,o),id)=some ((u2y b (o.filter fun x=> !decide (x.1=id))),o.filter fun x=> !decide (x.1=id)):=by
 have L:=s19 t3z o (fun a i=>((b,o),id,a,i)) (fun x:u0c=> !decide (x.1=id)) (fun x=>x) (fun a=> .inl ((b,o),a)) (by omega)
  (fun a _=>by rw[q0f];simp only[t9h,u0b,Am,Ah,Aa])
  (fun i hi a ha=>by
   rw[q0f];simp only[t9h,u0b,hi,Ae,Ad,y7t hi,zTn,y8k (t:=u0q) hi,Aw,u0x (show a.length+1≤1099511627776 by omega)]
   rw[y7l (by omega)])
 rw[Er] at L
 have L:t3z ((b,o),id, [],0)=_:=L
 have hl:=Cs (fun x:u0c=> !decide (x.1=id)) o
 rw[o0x];unfold q6d
 simp only[L,zOb,r2k b (o.filter fun x=> !decide (x.1=id)) hb (by omega)]
theorem o76 {e:u3e} (h:EngR e) (id:Int):r9i (e,id)=some (p4m e id):=by
 have ho:=h.olen
 have h1:u0p e=some e:=u9b e.1 e.2 h.fewB h.fewO
 have h2:=t3l e id (by omega)
 have h3:u1g (e,id)=some (leaveE e id):=r2g e.1 e.2 id h.fewB (by omega)
 rw[o3c];unfold q9s p4m
 simp only[h1,h2,h3,zOb]
 by_cases hn:u41 e.2 id<0
 ·simp only[hn,Ae,Ad,Bl]
 ·simp only[hn,Ah,Aa,Bk]
end
section
theorem j8a {E:Type} (l:Hu E) (f g:E→Bool):l.any (fun x=>f x || g x)=(l.any f || l.any g):=by
 induction l with
 | nil=>rfl
 | cons x l ih=>
  simp only[Gd,ih]
  cases f x<;>cases g x<;>cases l.any f<;>cases l.any g<;>rfl
theorem j2z {E:Type} (l:Hu E) (f g:E→Bool) (i:Bool):l.any (fun x=>f x&&(i || g x))=((i&&l.any f) || l.any fun x=>f x&&g x):=by
 cases i
 ·simp
 ·simp only[Dx,Cz,Bz]
  cases h:l.any f with
  | true=>rfl
  | false=>
   rw[Ct] at h
   symm
   rw[Ci,Ct]
   intro x hx
   have:=h x hx
   simp[this]
theorem o1v (t:u0c) (l:Hu u0c) (ht:r6x t) (hl:o0z l):s9a (t,l)=some (q4e t l):=by
 obtain⟨l1,l2⟩:=hl
 have L:=s49 t1i l (fun i=>(l,t,i)) (fun x=> !decide (x.1=t.1)&&((decide (x.2.1=2) || (decide (x.2.1=3)&&decide (x.2.2.2.1 >t.2.2.1)))&&s81 x.2.2.2.2.2.1 t.2.2.2.2.2.1)) (.inr true) (.inl ())
  (by rw[r56];simp only[t7d,u0b,Am,Ah,Aa])
  (fun i hi=>by
   have h1:=o78 l[i].2.2.2.2.2.1 t.2.2.2.2.2.1 (s4o (l2 _ (Ag hi)).2) (s4o ht.2)
   rw[r56]
   simp only[t7d,u0b,hi,Ae,Ad,y7t hi,zTn,y8k (t:=u0q) hi,h1,zOb]
   rw[y7l (by omega)]
   cases decide (l[i].1=t.1)<;>cases decide (l[i].2.1=2)<;>cases decide (l[i].2.1=3)<;>cases decide (l[i].2.2.2.1 >t.2.2.1)<;>cases s81 l[i].2.2.2.2.2.1 t.2.2.2.2.2.1<;>rfl)
 rw[p6h];unfold q10 q4e
 have L:t1i (l,t,0)=_:=L
 simp only[L,zOb]
 cases l.any fun x:u0c=> !decide (x.1=t.1)&&((decide (x.2.1=2) || (decide (x.2.1=3)&&decide (x.2.2.2.1 >t.2.2.1)))&&s81 x.2.2.2.2.2.1 t.2.2.2.2.2.1)<;>rfl
theorem o2a (t:u0c) (l:Hu u0c) (ht:r6x t) (hl:o0z l):r25 (t,l)=some (o62 t l):=by
 obtain⟨l1,l2⟩:=hl
 have L:=s49 t9p l (fun i=>(l,t,i)) (fun x=>j0w x&&ahead x t) (.inr true) (.inl ())
  (by rw[q7o];simp only[s4k,u0b,Am,Ah,Aa])
  (fun i hi=>by
   have h1:=t4e l[i] t (s4o (l2 _ (Ag hi)).1) (s4o ht.2)
   rw[q7o]
   simp only[s4k,u0b,hi,Ae,Ad,y7t hi,zTn,y8k (t:=u0q) hi,h1,zOb,j0w]
   rw[y7l (by omega)]
   cases decide (l[i].2.1=2)<;>cases decide (l[i].2.1=3)<;>cases ahead l[i] t<;>rfl)
 rw[o5q];unfold p2p o62
 have L:t9p (l,t,0)=_:=L
 simp only[L,zOb]
 cases l.any fun x=>j0w x&&ahead x t<;>rfl
def p9v (t:u0c) (l:Hu u0c) (p:u0c):Bool:=
 (j0w p&&(p.2.2.2.2.2.2.1&&ahead t p)) || (decide (p.2.1=2)&&(ahead p t&&(ahead t p || l.any fun x=>decide (x.2.1=2)&&(!decide (x.1=t.1)&&ahead x p))))
theorem j24 (t:u0c) (l:Hu u0c):q27 t l=((o62 t l&&r2s t l) || l.any (p9v t l)):=by
 unfold q27 p2y
 rw[←j8a]
 rfl
theorem p2a (t:u0c) (l:Hu u0c) (ht:r6x t) (hl:o0z l):s4u (t,l)=some (q27 t l):=by
 obtain⟨l1,l2⟩:=hl
 have inner:∀(i:Nat) (hi:i<l.length),u7v (l,t,(i:Int),l[i],0)=some (bif (decide (l[i].2.1=2)&&ahead l[i] t)&&(l.any fun x=>decide (x.2.1=2)&&(!decide (x.1=t.1)&&ahead x l[i])) then .inr true else .inl (l,t,(i:Int))):=fun i hi=>by
  have g1:=t4e l[i] t (s4o (l2 _ (Ag hi)).1) (s4o ht.2)
  cases hg:(decide (l[i].2.1=2)&&ahead l[i] t) with
  | false=>
   have e0:u7v (l,t,(i:Int),l[i],0)=_:=s3j _
   rw[e0]
   simp only[t06,g1,zOb,Fx,Aa]
   cases decide ((0:Int)<(l.length:Int))
   ·rfl
   ·revert hg
    cases decide (l[i].2.1=2)<;>cases ahead l[i] t<;>simp
  | true=>
   rw[Ai,Ar] at hg
   obtain⟨q1,q2⟩:=hg
   have L:=s49 u7v l (fun k=>(l,t,(i:Int),l[i],k)) (fun x=>decide (x.2.1=2)&&(!decide (x.1=t.1)&&ahead x l[i])) (.inr true) (.inl (l,t,(i:Int)))
    (by rw[s3j];simp only[t06,u0b,Am,Ah,Aa,zOb])
    (fun k hk=>by
     have g2:=t4e l[k] l[i] (s4o (l2 _ (Ag hk)).1) (s4o (l2 _ (Ag hi)).2)
     rw[s3j]
     simp only[t06,u0b,hk,Ae,Ad,q1,g1,q2,g2,y7t hk,zTn,y8k (t:=u0q) hk,zOb]
     rw[y7l (by omega)]
     cases decide (l[k].2.1=2)<;>cases decide (l[k].1=t.1)<;>cases ahead l[k] l[i] <;>rfl)
   rw[Bz]
   exact L
 have L:=s49 t3v l (fun i=>(l,t,i)) (p9v t l) (.inr true) (.inl ())
  (by rw[r99];simp only[t9d,u0b,Am,Ah,Aa])
  (fun i hi=>by
   have g1:=t4e l[i] t (s4o (l2 _ (Ag hi)).1) (s4o ht.2)
   have g2:=t4e t l[i] (s4o ht.1) (s4o (l2 _ (Ag hi)).2)
   rw[r99]
   simp only[t9d,u0b,hi,Ae,Ad,y7t hi,zTn,y8k (t:=u0q) hi,g1,g2,inner i hi,zOb,p9v,j0w]
   have ws:=y7l (i:=i) (by omega)
   cases decide (l[i].2.1=2)<;>cases decide (l[i].2.1=3)<;>cases l[i].2.2.2.2.2.2.1<;>cases ahead l[i] t<;>cases ahead t l[i] <;>cases (l.any fun x=>decide (x.2.1=2)&&(!decide (x.1=t.1)&&ahead x l[i]))<;>first | rfl | (simp only[Dt,Fy,Fx,Bz,Fp,Ew,Ci,Ad,Aa,zOb,ws]))
 rw[o0f];unfold q5v
 have L:t3v (l,t,0)=_:=L
 simp only[o2a t l ht ⟨l1,l2⟩,q7z t l ht ⟨l1,l2⟩,L,zOb]
 rw[j24]
 cases o62 t l<;>cases r2s t l<;>cases l.any (p9v t l)<;>rfl
theorem p0m (t:u0c) (l:Hu u0c) (ht:r6x t) (hl:o0z l):t93 (t,l)=some (t8k t l):=by
 obtain⟨l1,l2⟩:=hl
 have inner:∀(i:Nat) (hi:i<l.length) (b:Bool),u5p (l,t,b,(i:Int),l[i],0)=some (bif (l.any fun y=>decide (y.2.1=2)&&(!decide (y.1=t.1)&&ahead l[i] y)) then .inr true else .inl (l,t,b,(i:Int))):=fun i hi b=>
  s49 u5p l (fun k=>(l,t,b,(i:Int),l[i],k)) (fun y=>decide (y.2.1=2)&&(!decide (y.1=t.1)&&ahead l[i] y)) (.inr true) (.inl (l,t,b,(i:Int)))
   (by rw[s2y];simp only[u76,u0b,Am,Ah,Aa,zOb])
   (fun k hk=>by
    have g2:=t4e l[i] l[k] (s4o (l2 _ (Ag hi)).1) (s4o (l2 _ (Ag hk)).2)
    rw[s2y]
    simp only[u76,u0b,hk,Ae,Ad,g2,y7t hk,zTn,y8k (t:=u0q) hk,zOb]
    rw[y7l (by omega)]
    cases decide (l[k].2.1=2)<;>cases decide (l[k].1=t.1)<;>cases ahead l[i] l[k] <;>rfl)
 have L:=s49 u6o l (fun i=>(l,t,o62 t l,i)) (fun x=>(decide (x.2.1=2)&&ahead t x)&&(o62 t l || l.any fun y=>decide (y.2.1=2)&&(!decide (y.1=t.1)&&ahead x y))) (.inr true) (.inl ())
  (by rw[s4i];simp only[u84,u0b,Am,Ah,Aa])
  (fun i hi=>by
   have g2:=t4e t l[i] (s4o ht.1) (s4o (l2 _ (Ag hi)).2)
   rw[s4i]
   simp only[u84,u0b,hi,Ae,Ad,y7t hi,zTn,y8k (t:=u0q) hi,g2,inner i hi (o62 t l),zOb]
   have ws:=y7l (i:=i) (by omega)
   cases decide (l[i].2.1=2)<;>cases ahead t l[i] <;>cases o62 t l<;>cases (l.any fun y=>decide (y.2.1=2)&&(!decide (y.1=t.1)&&ahead l[i] y))<;>first | rfl | (simp only[Dt,Fy,Fx,Bz,Fp,Ew,Ci,Ap,Bh,Ad,Aa,zOb,ws]))
 rw[j2z] at L
 rw[q6u];unfold s7g t8k r9q
 have L:u6o (l,t,o62 t l,0)=_:=L
 simp only[p2a t l ht ⟨l1,l2⟩,o2a t l ht ⟨l1,l2⟩,L,zOb]
 have e:p2y (fun x:u0c=> !decide (x.1=t.1)) t l=q27 t l:=rfl
 rw[e]
 cases q27 t l<;>cases ((o62 t l&&l.any fun x=>decide (x.2.1=2)&&ahead t x) || l.any fun x=>(decide (x.2.1=2)&&ahead t x)&&l.any fun y=>decide (y.2.1=2)&&(!decide (y.1=t.1)&&ahead x y))<;>rfl
theorem o6l (b:u0j) (hb:fewB b):t5s b=some (b.2.1++b.2.2.1):=by
 have h1:=hb.2.1.1
 have h2:=hb.2.2.1
 rw[o0w];unfold q6c
 simp only[Cc,Co,Cf,u0x (show b.2.1.length≤1099511627776 by omega),u0x (show b.2.1.length+b.2.2.1.length≤1099511627776 by omega),Ad]
theorem p7w {e:u3e} (h:EngR e) (id:Int):s77 (e,id)=some (r2q e id):=by
 have ho:=h.olen
 have h2:=t3l e id (by omega)
 have h3:=o6l e.1 h.fewB
 have h3:t5s e.1=some (s5v e):=h3
 have h4:=o3o e.1
 rw[o3a];unfold q9q r2q
 simp only[h2,h3,zOb]
 by_cases hn:u41 e.2 id<0
 ·simp only[hn,Ae,Ad,Bl]
 ·obtain⟨j,hj,e1,e2,e3⟩:=u2q hn
  have hT:=(h.ot (Ag hj)).few
  simp only[hn,Ah,Aa,Bk,e1,y7t hj,Ad,zTn,y8k (t:=u0q) hj,o1v _ _ hT h.fewOth,p2a _ _ hT h.fewOth,h4,zOb,e2]
  have hn' : ¬((j:Int)<0):=by omega
  simp only[hn',Ah,Aa,Bk]
  cases q4e e.2[j] (s5v e)<;>cases q27 e.2[j] (s5v e)<;>cases s4p e.1<;>rfl
end
section
theorem o4h {b:u0j} {t:u0c} {n:Hs} (h: ¬(0≤u0i b n)):∃(k:Nat) (hk:k<(u12 b t n).2.2.1.length),u0i (u12 b t n) n=(k:Int)∧(u12 b t n).2.2.1[k] =u4r b t n:=by
 have hb:=j6l.mp (show u0i b n<0 by omega)
 have hm:u4r b t n∈(u12 b t n).2.2.1:=by
  show u4r b t n∈(b.2.2.1.filter fun x=>y3c x.2.2.2.2.2.2.2 n)++ [u4r b t n] ++(b.2.2.1.filter fun x=> !y3c x.2.2.2.2.2.2.2 n)
  simp
 have hn: ¬u0i (u12 b t n) n<0:=fun q=>j6l.mp q _ hm rfl
 obtain⟨k,hk,e1,e2⟩:=s03 hn
 refine⟨k,hk,e1,?_⟩
 have hx:=Ag hk
 have hx:(u12 b t n).2.2.1[k] ∈(b.2.2.1.filter fun x=>y3c x.2.2.2.2.2.2.2 n)++ [u4r b t n] ++(b.2.2.1.filter fun x=> !y3c x.2.2.2.2.2.2.2 n):=hx
 simp only[Ay,A6,Ax] at hx
 rcases hx with (q | q) | q
 ·exact absurd e2 (hb _ q.1)
 ·exact q
 ·exact absurd e2 (hb _ q.1)
theorem EngR.mids {e:u3e} (h:EngR e):o8q e.1.2.2.2.1:=p4n h.base.cs
theorem o6n {e:u3e} (h:EngR e) {t:u0c} (ht:t∈e.2∨t∈e.1.2.2.1):u65 (e.1,t)=some (u0y e.1 t):=by
 have hT:TxnR t:=by
  rcases ht with q | q
  ·exact(h.open_ t q).1
  ·exact(h.base.ready t q).1
 rw[q9g e.1 t h.fewB hT.tiny.few,p5c h.mids (q4r hT.id)]
theorem o6o {e:u3e} (h:EngR e) {t:u0c} (ht:t∈e.2∨t∈e.1.2.2.1):tinyB (u0y e.1 t):=by
 have hT:TxnR t:=by
  rcases ht with q | q
  ·exact(h.open_ t q).1
  ·exact(h.base.ready t q).1
 exact s8c h.base hT.tiny
theorem j1b (b:u0j) (t:u0c) (hb:b.2.1.length≤1000):∃(k:Nat) (hk:k<(u0y b t).2.1.length),IntKind.i64.wrap (((u0y b t).2.1.length:Int) - (1:Int))=(k:Int)∧(u0y b t).2.1[k] =u9o b t:=by
 have e:(u0y b t).2.1=b.2.1++ [u9o b t] :=rfl
 refine⟨b.2.1.length,by rw[e];simp,?_,?_⟩
 ·rw[e,Ba,Aw,y4y (by omega) (by omega)];omega
 ·simp[e]
theorem j0m {b:u0j} {t:u0c} (h:r6x t):r6x (u9o b t):=h
theorem o45 {e:u3e} (h:EngR e) (id:Int):r21 (e,id)=some (u9n e id):=by
 have ho:=h.olen
 have h1:u0p e=some e:=u9b e.1 e.2 h.fewB h.fewO
 have h2:=t3l e id (by omega)
 have hJ:=p7w h id
 have hO:u1g (e,id)=some (leaveE e id):=r2g e.1 e.2 id h.fewB (by omega)
 rw[o0e];unfold q5u u9n
 simp only[h1,hJ,zOb]
 by_cases c1:r2q e id=1
 ·simp only[c1,Ae,Ad,Bl]
  rfl
 ·simp only[c1,Ah,Aa,Bk]
  by_cases c0:r2q e id=0
  ·obtain⟨hn,_,_,_⟩:=r8s c0
   obtain⟨j,hj,e1,e2,e3⟩:=u2q hn
   have hm:e.2[j] ∈e.2∨e.2[j] ∈e.1.2.2.1:= .inl (Ag hj)
   have hT:=o6n h hm
   obtain⟨k,hk,f1,f2⟩:=j1b e.1 e.2[j] (by have:=h.base.plen;omega)
   have hC:=t05 (u9o e.1 e.2[j]) (j0m (h.ot (Ag hj)).few)
   have hO2:=r2g (u0y e.1 e.2[j]) e.2 id (o6o h hm).few (by omega)
   simp only[c0,Ae,Ap,Aa,Bl,h2,e1,y7t hj,Ad,zTn,y8k (t:=u0q) hj,hT,f1,y7t hk,y8k (t:=u0q) hk,f2,hC,hO2,zOb,e2]
   show some _=some (s5h e e.2[j],_)
   unfold s5h s39
   rw[e3]
   rfl
  ·simp only[c0,Ah,Bh,Ad,Bk,hO,zOb]
   rfl
theorem o2g {e:u3e} (h:EngR e) (id:Int) {n:Hs} (hn1:n.size≤1048576):s9e (e,id,n)=some (s82 e id n):=by
 have ho:=h.olen
 have h1:u0p e=some e:=u9b e.1 e.2 h.fewB h.fewO
 have h2:=t3l e id (by omega)
 have hK:=t8p n (by unfold u0m;omega)
 have hA:u15 (e.1,n)=some (u0i e.1 n):=t8q e.1 n (by have:=h.base.rlen;omega)
 have hJ:=p7w h id
 have hL:t5s e.1=some (s5v e):=o6l e.1 h.fewB
 have hO:u1g (e,id)=some (leaveE e id):=r2g e.1 e.2 id h.fewB (by omega)
 rw[p6q];unfold q19 s82
 simp only[h1,h2,zOb]
 by_cases c1:u41 e.2 id<0
 ·simp only[c1,Ae,Ad,Bl]
  rfl
 simp only[c1,Ah,Aa,Bk,hK,zOb]
 cases c2:u7b n with
 | false=>simp only[Bh,Ad,Bl];rfl
 | true=>
 simp only[Ap,Aa,Fm,Bk,hA,zOb]
 by_cases c3:0≤u0i e.1 n
 ·have c3' :decide (u0i e.1 n≥0)=true:=by simpa using c3
  simp only[c3,c3',Ad,Bl]
  rfl
 have c3' :decide (u0i e.1 n≥0)=false:=by simpa using c3
 simp only[c3,c3',Aa,Bk,hJ,zOb]
 unfold s72
 by_cases c4:r2q e id=0
 ·obtain⟨j,hj,e1,e2,e3⟩:=u2q c1
  have hT:=(h.ot (Ag hj))
  have hTR:=(h.open_ _ (Ag hj)).1
  have hD:=p0m e.2[j] (s5v e) hT.few h.fewOth
  have hr:=h.base.rlen
  simp only[c4,Ae,e1,y7t hj,Ad,zTn,y8k (t:=u0q) hj,hL,hD,zOb,e2,ne_eq,not_true_eq_false,Bk]
  cases c5:t8k e.2[j] (s5v e) with
  | true=>
   have d5:decide ((5:Int)=0)=false:=by decide
   simp only[Ad,d5,Aa,zOb,Bh,hO,Bl]
   rfl
  | false=>
   simp only[Aa,zOb,Br,Bk]
   have e6:decide ((e.1.2.2.1.length:Int)≥3)=decide (3≤e.1.2.2.1.length):=by simp;omega
   simp only[e6]
   by_cases c6:3≤e.1.2.2.1.length
   ·have d3:decide ((3:Int)=0)=false:=by decide
    simp only[c6,Ae,Ad,d3,Bh,hO,zOb,Bl]
    rfl
   ·have hM:=q1c e.1 e.2[j] n h.fewB hT.few (q4r hTR.id)
    obtain⟨k,hk,f1,f2⟩:=o4h (t:=e.2[j]) c3
    have hns:n.size≤100:=by have:=(u3f c2).2;omega
    have hMt:=q80 (t:=e.2[j]) h.base hT hns
    have hA2:u15 (u12 e.1 e.2[j] n,n)=some ((k:Nat):Int):=by rw[t8q _ n (by have:=hMt.rl;omega),f1]
    have hC:=t05 (u4r e.1 e.2[j] n) hT.few
    have hO2:=r2g (u12 e.1 e.2[j] n) e.2 id hMt.few (by omega)
    simp only[c6,Ah,Aa,Ae,Ap,y7t hj,Ad,y8k (t:=u0q) hj,hM,hA2,y7t hk,zTn,y8k (t:=u0q) hk,f2,hC,hO2,zOb,Bk,Bl]
    show some _=some (j1g e e.2[j] n,_)
    unfold j1g s39
    rw[e3]
    rfl
 ·simp only[c4,Ah,Aa,zOb,Bh,Ad,hO,ne_eq,not_false_eq_true,Bl,Bk]
  rfl
theorem p9a {e:u3e} (h:EngR e) (n:Hs) (yes:Bool):r22 (e,n,yes)=some (p39 e n yes):=by
 have ho:=h.olen
 have h1:u0p e=some e:=u9b e.1 e.2 h.fewB h.fewO
 have hA:u15 (e.1,n)=some (u0i e.1 n):=t8q e.1 n (by have:=h.base.rlen;omega)
 have hF:=o3o e.1
 have hG:=q89 e.1 n h.fewB
 have hG2:=r2k (u7p e.1 n) e.2 (q8u h.tinyO).few (by omega)
 rw[o0h];unfold q5x p39
 simp only[h1,hA,hF,zOb]
 by_cases c1:u0i e.1 n<0
 ·simp only[c1,Ae,Ad,Bl]
  rfl
 obtain⟨k,hk,f1,f2⟩:=s03 c1
 simp only[c1,Ah,Aa,Bk]
 cases yes with
 | false=>simp only[Aa,zOb,hG,hG2,Br,false_and,Bk];rfl
 | true=>
  have hm:e.1.2.2.1[k] ∈e.2∨e.1.2.2.1[k] ∈e.1.2.2.1:= .inr (Ag hk)
  have hT:=o6n h hm
  have hT2:=r2k (u0y e.1 e.1.2.2.1[k]) e.2 (o6o h hm).few (by omega)
  simp only[Ad,true_and]
  cases s4p e.1 with
  | true=>rfl
  | false=>
   simp only[Aa,Br,Bk,Bl,f1,y7t hk,Ad,zTn,y8k (t:=u0q) hk,hT,hT2,zOb]
   rfl
end
section
theorem o3j:emp.size≤100:=by decide
theorem q3x (r:s67):(u1h r).1.size≤20000:=by
 cases h:u6z r with
 | false=>unfold u1h;rw[h];exact A9 o3j (by omega)
 | true=>
  have hR:=j44.mp h
  rw[t4a hR]
  have:=s41 hR
  show(r9u (r9r r)).size≤20000
  rw[p8r];omega
def o5l (b:u0j):s67:=(4,u5j,emp,false,b)
theorem o2s {b:u0j} (h:tinyB b):tinyR (o5l b):=⟨s06,o3j,h⟩
theorem p7u (d:u0l) (hd:d1h.wt d≤10000000):s0a d=some (orD d (o9i d)):=by
 have h1:=p7z d (by omega)
 have h2:=t3m (o5l (logR (u0e d)).1) (o2s (o3w _)).wt
 have h3:=u67 d (by unfold u0m;omega)
 rw[p35];unfold r8j
 simp only[h1,zOb]
 have h2:u33 (4,(0,0,0,0, [], [],false,(⟨#[]⟩:Hs)),(⟨#[]⟩:Hs),false,(logR (u0e d)).1)=_:=h2
 simp only[h2,h3,zOb]
 unfold o9i
 cases hp:t0y (u0e d) with
 | none=>
  have e:(logR (u0e d)).2=false:=by unfold logR;rw[hp]
  simp only[e,Bh,Ad,zOb]
  rfl
 | some b=>
  have e:logR (u0e d)=(b,true):=by unfold logR;rw[hp]
  simp only[e,Ap,Aa,zOb]
  have e4:o5l b=(4,u5j,emp,false,b):=rfl
  rw[e4]
  cases ht:(u1h (4,u5j,emp,false,b)).2 with
  | false=>simp only[Bh,Ad,Br,Bk];rfl
  | true=>
   have h5:=p5r (d:=d) (l:= [(u1h (4,u5j,emp,false,b)).1]) hd (by simp) (fun t h=>by
    rw[Ax.mp h];have:=q3x (4,u5j,emp,false,b);omega)
   simp only[Ap,Aa,Bl,h5,zOb]
theorem j51 {d z:u0l} (h:o9i d=some z):u2v z=true:=by
 unfold o9i at h
 split at h
 ·cases h
 ·split at h
  ·exact(p8w h).2.1
  ·cases h
abbrev j2v:=Hu u0c×(Hu Int×Hu Hs)
theorem p2d (s:u01) (z0:j2v) (r:s67) (hd:d1h.wt s.2≤10000000) (hr:tinyR r):t6s ((s,z0),r)=some ((t8j s.2 r).isSome,(s.1,(t8j s.2 r).getD s.2),z0):=by
 have h1:=t3m r hr.wt
 have hl:=q3x r
 have h2:=s8u s.2 (u1h r).1 hd (by omega)
 have h3:=p7u s.2 hd
 rw[p7i];unfold q22 t8j
 simp only[h1,zOb]
 cases ht:(u1h r).2 with
 | false=>simp only[Bh,Ad,Br,Bk];rfl
 | true=>
  simp only[Ap,Aa,Bl,h2,zOb]
  cases ha:append_ s.2 (u1h r).1 with
  | some y=>rfl
  | none=>
   simp only[orD,Bh,Ad,h3,zOb]
   cases hz:o9i s.2 with
   | none=>rfl
   | some z=>
    have h4:=s8u z (u1h r).1 (s1r (j51 hz)) (by omega)
    simp only[orD,Ap,Aa,h4,zOb]
    cases hq:append_ z (u1h r).1<;>rfl
theorem t84:tinyR o1r:=⟨s06,by decide,t2h⟩
theorem o2v {e:u3e} (h:EngR e) (id:Int):tinyR (u9n e id).2.1:=by
 unfold u9n
 split
 ·exact t84
 ·split
  ·rename_i c1 c0
   obtain⟨hn,_,_,_⟩:=r8s c0
   obtain⟨j,hj,e1,e2,e3⟩:=u2q hn
   rw[e2]
   exact⟨(h.ot (Ag hj)).like rfl rfl o3j,o3j,t2h⟩
  ·exact t84
theorem o8x {e:u3e} (h:EngR e) (id:Int) (n:Hs):tinyR (s82 e id n).2.1:=by
 unfold s82
 split
 ·exact t84
 ·rename_i hn
  split
  ·exact t84
  ·rename_i hk
   split
   ·exact t84
   ·split
    ·obtain⟨j,hj,e1,e2,e3⟩:=u2q hn
     rw[e2]
     have hk:u7b n=true:=by simpa using hk
     have:=(u3f hk).2
     exact⟨(h.ot (Ag hj)).like rfl rfl (by show n.size≤100;omega),o3j,t2h⟩
    ·exact t84
theorem j0p {e:u3e} (n:Hs) (hn:n.size≤100) (y:Bool):tinyR (p39 e n y).2.1:=by
 unfold p39
 split
 ·exact t84
 ·split
  ·exact t84
  ·split
   ·exact⟨s06,hn,t2h⟩
   ·exact⟨s06,hn,t2h⟩
theorem p7m {s:u01} (h:EngR s.1) (hd:u2v s.2=true) (z0:j2v) (id:Int):t8h ((s,z0),id)=some ((u8k s id).2,(u8k s id).1,z0):=by
 have ho:=h.olen
 have h1:=o45 h id
 have h2:=p2d s z0 (u9n s.1 id).2.1 (s1r hd) (o2v h id)
 have h3:u0p s.1=some s.1:=u9b s.1.1 s.1.2 h.fewB h.fewO
 have hO:u1g (s.1,id)=some (leaveE s.1 id):=r2g s.1.1 s.1.2 id h.fewB (by omega)
 rw[p1p];unfold r4g u8k
 simp only[h1,zOb]
 by_cases c:(u9n s.1 id).2.2=0
 ·simp only[c,Ae,Ad,Bl,h2,zOb]
  cases t8j s.2 (u9n s.1 id).2.1 with
  | none=>simp only[Option.isSome_none,Bh,Ad,h3,hO,zOb];rfl
  | some d=>rfl
 ·simp only[c,Ah,Aa,Bk]
theorem p4h {s:u01} (h:EngR s.1) (hd:u2v s.2=true) (z0:j2v) (id:Int) {n:Hs} (hn:n.size≤1048576):s02 ((s,z0),id,n)=some ((r5p s id n).2,(r5p s id n).1,z0):=by
 have ho:=h.olen
 have h1:=o2g h id hn
 have h2:=p2d s z0 (s82 s.1 id n).2.1 (s1r hd) (o8x h id n)
 have h3:u0p s.1=some s.1:=u9b s.1.1 s.1.2 h.fewB h.fewO
 have hO:u1g (s.1,id)=some (leaveE s.1 id):=r2g s.1.1 s.1.2 id h.fewB (by omega)
 rw[q8s];unfold s99 r5p
 simp only[h1,zOb]
 by_cases c:(s82 s.1 id n).2.2=0
 ·simp only[c,Ae,Ad,Bl,h2,zOb]
  cases t8j s.2 (s82 s.1 id n).2.1 with
  | none=>simp only[Option.isSome_none,Bh,Ad,h3,hO,zOb];rfl
  | some d=>rfl
 ·simp only[c,Ah,Aa,Bk]
theorem j56 {e:u3e} {n:Hs} {y:Bool} (c:(p39 e n y).2.2≠0):(p39 e n y).1=e:=by
 unfold p39 at c ⊢
 split
 ·rfl
 ·split
  ·rfl
  ·rename_i h1 h2
   rw[Ao h1,Ao h2] at c
   split at c<;>exact absurd rfl c
theorem p7n {s:u01} (h:EngR s.1) (hd:u2v s.2=true) (z0:j2v) {n:Hs} (hn:n.size≤100) (y:Bool):u71 ((s,z0),n,y)=some ((r6w s n y).2,(r6w s n y).1,z0):=by
 have h1:=p9a h n y
 have h2:=p2d s z0 (p39 s.1 n y).2.1 (s1r hd) (j0p n hn y)
 rw[p1q];unfold r4h r6w
 simp only[h1,zOb]
 by_cases c:(p39 s.1 n y).2.2=0
 ·simp only[c,Ae,Ad,Bl,h2,zOb]
  cases t8j s.2 (p39 s.1 n y).2.1 with
  | none=>rfl
  | some d=>rfl
 ·simp only[c,Ah,Aa,Bk,j56 c]
theorem o71 {s:u01} (h:EngR s.1) (hd:d1h.wt s.2≤10000000):s9n s=some s:=by
 have h1:u0p s.1=some s.1:=u9b s.1.1 s.1.2 h.fewB h.fewO
 have h2:=u67 s.2 (by unfold u0m;omega)
 rw[p7h];unfold q21
 simp only[h1,h2,zOb]
theorem j2r {s:u01} (h:EngR s.1) (hd:u2v s.2=true):u7i s=some (j4y s):=by
 have h1:=o71 h (s1r hd)
 have h2:=p7u s.2 (s1r hd)
 rw[p3m];unfold r7x j4y
 simp only[h1,h2,zOb]
 cases o9i s.2<;>rfl
end
section
def PQR:Hu Hs:= [⟨#[112]⟩,⟨#[113]⟩,⟨#[114]⟩]
def RN (e:u3e):Prop:= ∀x∈e.1.2.2.1,x.2.2.2.2.2.2.2∈PQR
structure SttN (k:Nat) (s:u01):Prop extends Stt k s where
 rn:RN s.1
end
section
theorem j8j {e:u3e} {id:Int} {r:s3m} {right:Bool} (h:(s66 e id r right).2=0): ¬u41 e.2 id<0:=by
 intro hn
 unfold s66 at h
 rw[Al hn] at h
 exact(by decide: ¬((1:Int)=0)) h
end
section
theorem j4g {l:Hu u2b} (hA:VAsc l) {a s:Int} (h:a≤s) (k v:Hs):
 (∃x∈u2o l a,x.1=k∧vCs x≤s∧x.2.2.1=false∧x.2.1=v∧ ∀y∈u2o l a,y.1=k→vCs y≤s→vCs y≤vCs x)↔
 ∃x∈l,x.1=k∧vCs x≤s∧x.2.2.1=false∧x.2.1=v∧ ∀y∈l,y.1=k→vCs y≤s→vCs y≤vCs x:=by
 constructor
 ·rintro⟨x,hx,h1,h2,h3,h4,h5⟩
  obtain⟨m1,m2⟩:=(u5h hA).mp hx
  refine⟨x,m1,h1,h2,h3,h4,fun y hy q1 q2=> ?_⟩
  obtain⟨z,hz,z1,z2,z3⟩:=j0y (s:=s) (k:=k) l ⟨y,hy,q1,q2⟩
  have hzy:=z3 y hy q1 q2
  have hzx:=z3 x m1 h1 h2
  by_cases hza:vCs z >a
  ·have:=h5 z ((u5h hA).mpr ⟨hz, .inl hza⟩) z1 z2
   omega
  ·rcases m2 with c | ⟨c,_⟩
   ·omega
   ·have:=c.2 z hz (z1.trans h1.symm) (by omega)
    omega
 ·rintro⟨x,hx,h1,h2,h3,h4,h5⟩
  refine⟨x,(u5h hA).mpr ⟨hx,?_⟩,h1,h2,h3,h4,fun y hy q1 q2=>h5 y ((u5h hA).mp hy).1 q1 q2⟩
  by_cases c:vCs x >a
  ·exact .inl c
  ·exact .inr ⟨⟨by omega,fun y hy q1 q2=>h5 y hy (q1.trans h1) (by omega)⟩, .inl h3⟩
theorem o06 {r s:Hu PrT} (h1:PAsc r) (h2:PAsc s) (h:∀k v,(k,v)∈r↔(k,v)∈s):r=s:=by
 refine j1m (r:=fun a b:PrT=>y3c a.1 b.1=true) (fun x=>by rw[u7r];simp) (fun x y q=>by rw[r3c q];simp) h1 h2 fun x=>h x.1 x.2
theorem p41 {l:Hu u2b} (hA:VAsc l) {a s:Int} (h:a≤s) (r:s3m):t5y (u2o l a) r s=t5y l r s:=by
 refine o06 (q7e _ _ _) (q7e _ _ _) fun k v=> ?_
 rw[q0q _ _ _ _ _ (t8n hA a).uni,q0q _ _ _ _ _ hA.uni,j4g hA h k v]
theorem BaseR.asc {b:u0j} (h:BaseR b):VAsc b.1:=(j2n.mp h.vs).2.1
theorem o6c {b:u0j} (h:BaseR b) (o:Hu u0c) (r:s3m):t5y (u2y b o).1 r b.2.2.2.1=t5y b.1 r b.2.2.2.1:=p41 h.asc (o32 b o) r
end
section
def d18:u01:=((u2s, []),([], []))
def riseR (d:u0l):u01×Bool:=if u2v d=true∧(logR (u0e d)).2=true then((((logR (u0e d)).1, []),d),true) else(d18,false)
theorem o97 (d:u0l) (hd:d1h.wt d≤10000000):s28 d=some (riseR d):=by
 have hb:u0m=1099511627776:=rfl
 rw[p01];unfold r3s riseR
 rw[o2f d (by omega),p7x d (by omega),o7z d (by omega)]
 simp only[zOb]
 cases u2v d<;>cases (logR (u0e d)).2<;>rfl
theorem o98 (d:u0l) (hd:d1h.wt d≤10000000):u6i d=some (riseR d):=by
 have hb:u0m=1099511627776:=rfl
 rw[p1k];unfold r4b riseR
 rw[p7z d (by omega),q7y d (by omega),u67 d (by omega)]
 simp only[zOb]
 cases u2v d<;>cases (logR (u0e d)).2<;>rfl
end
section
theorem p0h (l:Hu u0c):s3i l l=true:=by
 unfold s3i
 simp
theorem o1i (l:Hu u2b) (s:Int):q7d l l s=true:=by
 unfold q7d p0g
 simp
theorem j3d {a b:u0j} (h1:a.1=b.1) (h2:a.2.1=b.2.1) (h3:a.2.2.1=b.2.2.1) (h4:a.2.2.2.1=b.2.2.2.1):likeP a b=true:=by
 unfold likeP
 rw[h1,h2,h3,h4,p0h,p0h,o1i]
 simp
theorem Sync.likeP {s:u01} {b:u0j} (h:Sync s b):Ab.likeP b (u2y s.1.1 [])=true:=by
 rw[s43 fun t ht=>(h.eng.base.past t ht).2.2]
 exact j3d h.like.vs h.like.past h.like.ready h.like.cs
theorem Sync.logR {s:u01} {b:u0j} (h:Sync s b):Ab.logR (u0e s.2)=(b,true):=by unfold Ab.logR;rw[h.play]
theorem Sync.riseR {s:u01} {b:u0j} (h:Sync s b):Ab.riseR s.2=(((b, []),s.2),true):=by
 unfold Ab.riseR
 rw[h.logR,Al ⟨h.log,rfl⟩]
theorem Sync.storeOk {s:u01} {b:u0j} (h:Sync s b):Ab.storeOk s=true:=by
 unfold Ab.storeOk
 rw[h.logR,j8c.mpr h.eng,h.log,h.likeP]
 rfl
theorem o99 {s:u01} (hE:EngR s.1) (hd:u2v s.2=true):s85 s=some (Ab.storeOk s):=by
 have hb:u0m=1099511627776:=rfl
 have hw:=s1r hd
 have ew:j5w.wt s.1≤549755813888:=by
  have e2:=o6y s.1
  have h1:=hE.tinyO.wt
  have h2:=p15 (l:=s.1.2) (by have:=hE.olen;omega) fun t ht=>hE.ot ht
  omega
 rw[p57];unfold q1q Ab.storeOk
 rw[o2f s.2 (by omega),p88 s.1 (by omega),p7x s.2 (by omega)]
 simp only[zOb]
 rw[t3q s.1.1 [] hE.fewB (by simp)]
 simp only[zOb]
 rw[o2b _ _ (o3w _) (t8m hE.base.tiny [])]
 cases o3k s.1<;>cases u2v s.2<;>cases (Ab.logR (u0e s.2)).2<;>rfl
end
section
abbrev j5r:=(d2a.den×Hu PrT)⊕Bool
def q4t (l:Hu u0q.den) (i:Nat) (t:u0q.den):Bool:= !decide (t.2.1=3) || (decide (0<i)&&decide ((rdL u0q l (i - 1)).2.2.2.1≥t.2.2.2.1))
def o38 (l:Hu u0q.den) (i:Nat) (t:u0q.den) (m:Hu PrT):Hu PrT⊕j5r:=if q4t l i t=true then .inr (.inr false) else .inl (u6w m t.2.2.2.2.2.1)
def s5w (w:d2a.den) (m:Hu PrT):j5r:= .inl (w,m)
def pastIt (w:d2a.den):j5r:=o3r (o38 w.2.1) (s5w w) 0 w.2.1 []
theorem j4b {α:Type} (f:α→Nat) (l:Hu α) (i:Nat) (h:i<l.length):((l.take (i+1)).map f).sum=((l.take i).map f).sum+f l[i] :=by
 rw[B9 h,Dh,Fn]
 simp
theorem p5a {α:Type} (f:α→Nat) (l:Hu α) (i:Nat):((l.take i).map f).sum≤(l.map f).sum:=by
 conv=>rhs;rw[←En i l]
 rw[Dh,Fn]
 omega
theorem o1k (t:u0q.den):(Ty.sl u2i).wt t.2.2.2.2.2.1≤u0q.wt t:=by
 simp only[Ty.wt]
 omega
theorem j41 (l:Hu u0q.den) (h:(l.map u0q.wt).sum≤100000000000) {i:Nat} (hi:i<l.length) {m:Hu PrT} (hm:(Ty.sl p0s).wt m≤((l.take i).map u0q.wt).sum):
 (Ty.sl p0s).wt (u6w m l[i].2.2.2.2.2.1)≤((l.take (i+1)).map u0q.wt).sum∧m.length+l[i].2.2.2.2.2.1.length≤400000000000:=by
 have h1:=p8i l[i].2.2.2.2.2.1 m
 have h2:=o1k l[i]
 have h3:=j4b u0q.wt l i hi
 have h4:=p5a u0q.wt l (i+1)
 have h5:=j2d (t:=p0s) (l:=m)
 have h6:=j2d (t:=u2i) (l:=l[i].2.2.2.2.2.1)
 exact⟨by omega,by omega⟩
theorem o8t (w:d2a.den) (h:(w.2.1.map u0q.wt).sum≤100000000000) (hl:w.2.1.length≤100000000000):u4j (w, [],w.2.1,(w.2.1.length:Int),0)=some (pastIt w):=by
 refine o6q u4j w.2.1 (fun a i=>(w,a,w.2.1,(w.2.1.length:Int),i)) (o38 w.2.1) (s5w w) (fun i m=>(Ty.sl p0s).wt m≤((w.2.1.take i).map u0q.wt).sum)
  (fun a _=>by rw[s8g];simp only[t2p,u0b,Am,Ah,Aa];rfl)
  (fun i hi m hm=> ?_) [] (by simp[Ty.wt])
 obtain⟨p1,p2⟩:=j41 w.2.1 h hi hm
 have hw:u4j (w,m,w.2.1,(w.2.1.length:Int),(i:Int))=if q4t w.2.1 i w.2.1[i] =true then some (.inr false) else u4j (w,u6w m w.2.1[i].2.2.2.2.2.1,w.2.1,(w.2.1.length:Int),((i+1:Nat):Int)):=by
  rw[s8g]
  simp only[t2p,u0b,hi,Ae,Ad,y7t hi,zTn,y8k (t:=u0q) hi,q9b m w.2.1[i] p2,r2p,r2l,zOb]
  rw[y7l (by omega)]
  unfold q4t
  by_cases h1:w.2.1[i].2.1=3
  ·by_cases h2:0<i
   ·have e1:IntKind.i64.wrap ((i:Int) - 1)=((i - 1:Nat):Int):=by rw[y4y (by omega) (by omega)];omega
    have h3:decide ((i:Int) >0)=true:=by simp;omega
    simp only[h1,h2,h3,e1,Ae,Ap,Ad,Aa,y7t (show i - 1<w.2.1.length by omega),zTn,zOb,Ci,Bz]
    cases decide ((rdL u0q w.2.1 (i - 1)).2.2.2.1≥w.2.1[i].2.2.2.1)<;>simp
   ·have h3:decide ((i:Int) >0)=false:=by simp;omega
    simp[h1,h2,h3]
  ·simp[h1]
 unfold o38
 by_cases hb:q4t w.2.1 i w.2.1[i] =true
 ·rw[Al hb] at hw ⊢;exact hw
 ·rw[Ao hb] at hw ⊢;exact⟨p1,hw⟩
theorem o52 (w:d2a.den) (h:(w.2.1.map u0q.wt).sum≤100000000000):pastIt w= .inr false∨ ∃m:Hu PrT,pastIt w=s5w w m∧m.length≤100000000000:=by
 have key:∀(d i:Nat) (m:Hu PrT),i+d=w.2.1.length→(Ty.sl p0s).wt m≤((w.2.1.take i).map u0q.wt).sum→
  o3r (o38 w.2.1) (s5w w) i (w.2.1.drop i) m= .inr false∨ ∃m' :Hu PrT,o3r (o38 w.2.1) (s5w w) i (w.2.1.drop i) m=s5w w m' ∧m'.length≤100000000000:=by
  intro d
  induction d with
  | zero=>
   intro i m hi hm
   rw[Dp (by omega)]
   refine .inr ⟨m,rfl,?_⟩
   have:=j2d (t:=p0s) (l:=m)
   have:=p5a u0q.wt w.2.1 i
   omega
  | succ d ih=>
   intro i m hi hm
   have hlt:i<w.2.1.length:=by omega
   rw[Ce hlt]
   simp only[o3r]
   unfold o38
   by_cases hb:q4t w.2.1 i w.2.1[i] =true
   ·rw[Al hb];exact .inl rfl
   ·rw[Ao hb]
    exact ih (i+1) _ (by omega) (j41 w.2.1 h hlt hm).1
 have:=key w.2.1.length 0 [] (by omega) (by simp[Ty.wt])
 simpa[pastIt] using this
end
section
structure View (H:Hu u0c) (b:u0j):Prop where
 eq:s6r (s24 H) o2q=t5y b.1 o2q b.2.2.2.1
 right:∀t∈H,TxnR t
theorem j6m {c:Int} {t:u0c} (ht:TxnR t) (hs:t.2.2.1≤c) (hc:c<9999):TxnR (r6v (c+1) t):=
 ⟨ht.id,⟨by show(1:Int)≤3;omega,by show(3:Int)≤3;omega⟩,ht.snap,ht.rlen,ht.ws,ht.rs,fun _=>⟨by show t.2.2.1+1≤c+1;omega,by show c+1≤9999;omega⟩,
   fun e=>absurd rfl e,fun e=>by have e:(3:Int)=2:=e;omega,fun _=>rfl,fun e=>by have e:(3:Int)=1:=e;omega⟩
theorem View.through {H:Hu u0c} {b:u0j} (h:View H b) (hb:BaseR b) {t:u0c} (ht:TxnR t) (hs:t.2.2.1≤b.2.2.2.1) (hc:b.2.2.2.1<9999):
 View (H++ [r6v (b.2.2.2.1+1) t]) (u0y b t):=by
 refine⟨?_,fun x hx=> ?_⟩
 ·have kd:=q7p ht.ws
  have hA:VAsc (t5k b.1 t.2.2.2.2.2.1 (b.2.2.2.1+1)):=r9f _ hb.asc kd fun x hx w _ q=>by
   have:=hb.vcs x hx
   have q2:x.2.2.2=b.2.2.2.1+1:=q.2
   omega
  show s6r (s24 (H++ [r6v (b.2.2.2.1+1) t])) o2q=t5y (t5k b.1 t.2.2.2.2.2.1 (b.2.2.2.1+1)) o2q (b.2.2.2.1+1)
  refine o06 (o1m (p4r _) _) (q7e _ _ _) fun k v=> ?_
  rw[q0q _ _ _ _ _ hA.uni,q0t]
  unfold s6r
  rw[A6]
  show(k,v)∈u6w (s24 H) t.2.2.2.2.2.1∧inR o2q k=true↔_
  rw[q4q _ _ kd]
  have old:inR o2q k=true→((k,v)∈s24 H↔ ∃x∈b.1,x.1=k∧vCs x≤b.2.2.2.1∧x.2.2.1=false∧x.2.1=v∧ ∀y∈b.1,y.1=k→vCs y≤b.2.2.2.1→vCs y≤vCs x):=fun hr=>by
   have q:(k,v)∈s6r (s24 H) o2q↔(k,v)∈t5y b.1 o2q b.2.2.2.1:=by rw[h.eq]
   rw[q0q _ _ _ _ _ hb.asc.uni] at q
   unfold s6r at q
   rw[A6] at q
   simpa only[hr,and_true,true_and] using q
  have top:∀y∈t5k b.1 t.2.2.2.2.2.1 (b.2.2.2.1+1),vCs y≤b.2.2.2.1+1:=fun y hy=>by
   rcases(u7h _ _ _).mp hy with hy | ⟨w,hw,rfl⟩
   ·have:=hb.vcs y hy;show y.2.2.2≤_;omega
   ·exact Bv _
  constructor
  ·rintro⟨⟨w,hw,e1,e2,e3⟩ | ⟨h1,h2⟩,hr⟩
   ·exact⟨hr,(w.1,w.2.1,w.2.2,b.2.2.2.1+1),(u7h _ _ _).mpr (.inr ⟨w,hw,rfl⟩),e1,Bv _,e2,e3,fun y hy _ _=>top y hy⟩
   ·obtain⟨x,hx,q1,q2,q3,q4,q5⟩:=(old hr).mp h2
    refine⟨hr,x,(u7h _ _ _).mpr (.inl hx),q1,by omega,q3,q4,fun y hy ey _=> ?_⟩
    rcases(u7h _ _ _).mp hy with hy | ⟨w,hw,rfl⟩
    ·exact q5 y hy ey (hb.vcs y hy)
    ·exact absurd ey (h1 w hw)
  ·rintro⟨hr,x,hx,q1,q2,q3,q4,q5⟩
   refine⟨?_,hr⟩
   rcases(u7h _ _ _).mp hx with hx | ⟨w,hw,rfl⟩
   ·by_cases hk:∃w∈t.2.2.2.2.2.1,w.1=k
    ·exfalso
     obtain⟨w,hw,ew⟩:=hk
     have z:=q5 (w.1,w.2.1,w.2.2,b.2.2.2.1+1) ((u7h _ _ _).mpr (.inr ⟨w,hw,rfl⟩)) ew (Bv _)
     have z:b.2.2.2.1+1≤x.2.2.2:=z
     have:=hb.vcs x hx
     omega
    ·exact .inr ⟨fun w hw e=>hk ⟨w,hw,e⟩,(old hr).mpr ⟨x,hx,q1,hb.vcs x hx,q3,q4,fun y hy ey _=>q5 y ((u7h _ _ _).mpr (.inl hy)) ey (by have:=hb.vcs y hy;show y.2.2.2≤_;omega)⟩⟩
   ·exact .inl ⟨w,hw,q1,q3,q4⟩
 ·rcases Ay.mp hx with hx | hx
  ·exact h.right x hx
  ·rw[Ax.mp hx];exact j6m ht hs hc
theorem View.same {H:Hu u0c} {b b' :u0j} (h:View H b) (h1:b'.1=b.1) (h2:b'.2.2.2.1=b.2.2.2.1):View H b' :=⟨by rw[h1,h2];exact h.eq,h.right⟩
theorem View.tidy {H:Hu u0c} {b:u0j} (h:View H b) (hb:BaseR b) (o:Hu u0c):View H (u2y b o):=
 ⟨by show _=t5y (u2y b o).1 o2q b.2.2.2.1;rw[o6c hb];exact h.eq,h.right⟩
theorem View.rise {H:Hu u0c} {b e:u0j} (h:View H e) (he:BaseR e) (l:Like0 b e):View H b:=
 ⟨by rw[l.vs,l.cs,p41 he.asc (Bv _)];exact h.eq,h.right⟩
theorem View.leaveE {H:Hu u0c} {e:u3e} (h:View H e.1) (hE:EngR e) (id:Int):View H (Ab.leaveE e id).1:=h.tidy hE.base _
theorem View.commitS {H:Hu u0c} {s:u01} (v:View H s.1.1) (h:Ser H s.1) (id:Int) (t0:u0c):
 View (q3y H (u8k s id).1.1 s.1.1.2.2.2.1 (if u41 s.1.2 id<0 then t0 else u1m s.1 id)) (u8k s id).1.1.1:=by
 have hm:=h.mid
 unfold u8k u9n
 by_cases j1:r2q s.1 id=1
 ·rw[Al j1,Ao (show ¬((1:Int)=0) by decide)]
  show View (q3y H s.1 s.1.1.2.2.2.1 _) s.1.1
  rw[s05 _ hm rfl];exact v
 ·rw[Ao j1]
  by_cases j0:r2q s.1 id=0
  ·rw[Al j0,Al rfl]
   obtain⟨n,b1,b2,b3⟩:=r8s j0
   rw[Ao n]
   obtain⟨j,hj,e1,e2,e3⟩:=u2q n
   have ht:u1m s.1 id∈s.1.2:=by rw[e2];exact Ag hj
   obtain⟨t1,t2,t3⟩:=h.eng.open_ _ ht
   split
   ·show View (q3y H (s5h s.1 (u1m s.1 id)) s.1.1.2.2.2.1 _) (s5h s.1 (u1m s.1 id)).1
    rw[p13 (e' :=s5h s.1 (u1m s.1 id)) _ hm rfl]
    exact(v.through h.eng.base t1 t3 (q61 b3).2.2).tidy (t82 h.eng (.inl ht) b3) _
   ·show View (q3y H (Ab.leaveE s.1 id) s.1.1.2.2.2.1 _) (Ab.leaveE s.1 id).1
    rw[s05 (e' :=Ab.leaveE s.1 id) _ hm rfl];exact v.leaveE h.eng id
  ·rw[Ao j0,Ao j0]
   show View (q3y H (Ab.leaveE s.1 id) s.1.1.2.2.2.1 _) (Ab.leaveE s.1 id).1
   rw[s05 (e' :=Ab.leaveE s.1 id) _ hm rfl];exact v.leaveE h.eng id
theorem View.prepS {H:Hu u0c} {s:u01} (v:View H s.1.1) (h:Ser H s.1) (id:Int) (n:Hs):View H (r5p s id n).1.1.1:=by
 unfold r5p s82
 by_cases c1:u41 s.1.2 id<0
 ·rw[Al c1,Ao (show ¬((1:Int)=0) by decide)];exact v
 rw[Ao c1]
 cases hk:u7b n with
 | false=>rw[Al rfl,Ao (show ¬((2:Int)=0) by decide)];exact v
 | true=>
  rw[Ao (show ¬(true=false) by decide)]
  by_cases c2:0≤u0i s.1.1 n
  ·rw[Al c2,Ao (show ¬((6:Int)=0) by decide)];exact v
  rw[Ao c2]
  by_cases c3:s72 s.1 id=0
  ·rw[Al c3,Al rfl]
   obtain⟨j0,d0,l0⟩:=j1h c3
   obtain⟨j,hj,e1,e2,e3⟩:=u2q c1
   have ht:u1m s.1 id∈s.1.2:=by rw[e2];exact Ag hj
   split
   ·show View H (u2y (u12 s.1.1 (u1m s.1 id) n) (s39 s.1 (u1m s.1 id).1))
    have hp:=p8h (fun x hx=>(h.eng.base.past x hx).2.1) (fun x hx=>(h.eng.base.ready x hx).2.1) (r8s j0).2.1 d0
    have hM:BaseR (u12 s.1.1 (u1m s.1 id) n):=(h.ready ht hk l0 (j6l.mp (by omega)) hp).eng.base
    exact View.tidy (View.same (b' :=u12 s.1.1 (u1m s.1 id) n) v rfl rfl) hM _
   ·exact v.leaveE h.eng id
  ·rw[Ao c3,Ao c3];exact v.leaveE h.eng id
theorem View.finS {H:Hu u0c} {s:u01} (v:View H s.1.1) (h:Ser H s.1) (n:Hs) (y:Bool) (t0:u0c):
 View (q3y H (r6w s n y).1.1 s.1.1.2.2.2.1 (if u0i s.1.1 n<0 then t0 else rdL u0q s.1.1.2.2.1 (u0i s.1.1 n).toNat)) (r6w s n y).1.1.1:=by
 have hm:=h.mid
 have same:∀t,View (q3y H s.1 s.1.1.2.2.2.1 t) s.1.1:=fun t=>by rw[s05 (e' :=s.1) _ hm rfl];exact v
 unfold r6w p39
 by_cases c1:u0i s.1.1 n<0
 ·rw[Al c1,Ao (show ¬((1:Int)=0) by decide)];exact same _
 rw[Ao c1]
 by_cases c2:y=true∧s4p s.1.1=true
 ·rw[Al c2,Ao (show ¬((3:Int)=0) by decide)];exact same _
 rw[Ao c2]
 obtain⟨j,hj,e1,e2⟩:=s03 c1
 have e3:rdL u0q s.1.1.2.2.1 (u0i s.1.1 n).toNat=s.1.1.2.2.1[j] :=by rw[e1];exact y8k hj
 by_cases c3:y=true
 ·rw[Al c3,Al rfl]
  have hf:s4p s.1.1=false:=by
   cases q:s4p s.1.1 with
   | false=>rfl
   | true=>exact absurd ⟨c3,q⟩ c2
  have ht:rdL u0q s.1.1.2.2.1 (u0i s.1.1 n).toNat∈s.1.1.2.2.1:=by rw[e3];exact Ag hj
  obtain⟨t1,t2,t3⟩:=h.eng.base.ready _ ht
  split
  ·show View (q3y H (j4m s.1 (rdL u0q s.1.1.2.2.1 (u0i s.1.1 n).toNat)) s.1.1.2.2.2.1 _) (j4m s.1 (rdL u0q s.1.1.2.2.1 (u0i s.1.1 n).toNat)).1
   rw[Ao c1,p13 (e' :=j4m s.1 (rdL u0q s.1.1.2.2.1 (u0i s.1.1 n).toNat)) _ hm rfl]
   exact(v.through h.eng.base t1 t3 (q61 hf).2.2).tidy (t82 h.eng (.inr ht) hf) _
  ·exact same _
 ·rw[Ao c3,Al rfl]
  split
  ·show View (q3y H (Ab.noE s.1 n) s.1.1.2.2.2.1 _) (u2y (u7p s.1.1 n) s.1.2)
   rw[s05 (e' :=Ab.noE s.1 n) _ hm rfl];exact View.tidy (View.same (b' :=u7p s.1.1 n) v rfl rfl) (r8q h.eng.base n) _
  ·exact same _
structure Life (k:Nat) (H:Hu u0c) (s:u01):Prop where
 ser:Ser H s.1
 disk:HB H s
 view:View H s.1.1
 few:H.length≤k
theorem Life.log {k:Nat} {H:Hu u0c} {s:u01} (h:Life k H s):u2v s.2=true:=by
 obtain⟨b,hs,_⟩:=h.disk
 exact hs.log
theorem HB.opens {H:Hu u0c} {s:u01} {e:u3e} (h:HB H s) (he:EngR e) (h1:e.1.1=s.1.1.1) (h2:e.1.2.2.1=s.1.1.2.2.1) (h3:e.1.2.2.2.1=s.1.1.2.2.2.1):HB H (e,s.2):=by
 obtain⟨b,hs,hb⟩:=h
 exact⟨b,hs.opens he h1 h2 h3,hb⟩
theorem Life.opens {k:Nat} {H:Hu u0c} {s:u01} (h:Life k H s) {e:u3e} (hS:Ser H e) (h1:e.1.1=s.1.1.1) (h2:e.1.2.2.1=s.1.1.2.2.1) (h3:e.1.2.2.2.1=s.1.1.2.2.2.1):Life (k+1) H (e,s.2):=
 ⟨hS,h.disk.opens hS.eng h1 h2 h3,h.view.same h1 h3,by have:=h.few;omega⟩
theorem Life.begin {k:Nat} {H:Hu u0c} {s:u01} (h:Life k H s):Life (k+1) H ((s3t s.1).1,s.2):=by
 have e:(s3t s.1).1.1.1=s.1.1.1∧(s3t s.1).1.1.2.2.1=s.1.1.2.2.1∧(s3t s.1).1.1.2.2.2.1=s.1.1.2.2.2.1:=by
  unfold s3t;split<;>exact⟨rfl,rfl,rfl⟩
 exact h.opens (h.ser.begin (j22 h.ser.eng)) e.1 e.2.1 e.2.2
theorem j00 (e:u3e) (id:Int) (r:s3m) (right:Bool):(s66 e id r right).1.1=e.1:=by
 unfold s66;split
 ·rfl
 ·split
  ·rfl
  ·split<;>rfl
theorem j3z (e:u3e) (id:Int) (w:WrT):(j2m e id w).1.1=e.1:=by
 unfold j2m;split
 ·rfl
 ·split
  ·rfl
  ·split<;>rfl
theorem Life.look {k:Nat} {H:Hu u0c} {s:u01} (h:Life k H s) {id:Int} {r:s3m} {right:Bool} (hr:right=true→u3s r=true):Life (k+1) H ((s66 s.1 id r right).1,s.2):=by
 have e:=j00 s.1 id r right
 exact h.opens (h.ser.look (j8k h.ser.eng hr)) (by rw[e]) (by rw[e]) (by rw[e])
theorem Life.put {k:Nat} {H:Hu u0c} {s:u01} (h:Life k H s) (id:Int) (w:WrT):Life (k+1) H ((j2m s.1 id w).1,s.2):=by
 have e:=j3z s.1 id w
 exact h.opens (h.ser.put (d1t h.ser.eng)) (by rw[e]) (by rw[e]) (by rw[e])
theorem Life.leave {k:Nat} {H:Hu u0c} {s:u01} (h:Life k H s) (id:Int):Life (k+1) H ((p4m s.1 id).1,s.2):=by
 refine⟨h.ser.leave id,?_,?_,by have:=h.few;omega⟩
 ·unfold p4m;split
  ·exact h.disk
  ·obtain⟨b,hs,hb⟩:=h.disk
   exact⟨b,hs.leave id,hb⟩
 ·unfold p4m;split
  ·exact h.view
  ·exact h.view.leaveE h.ser.eng id
theorem o6z (s:u01):(j4y s).1.1=s.1:=by
 unfold j4y;split<;>rfl
theorem Life.fix {k:Nat} {H:Hu u0c} {s:u01} (h:Life k H s):Life (k+1) H (j4y s).1:=by
 refine⟨by rw[o6z];exact h.ser,?_,by rw[o6z];exact h.view,by have:=h.few;omega⟩
 obtain⟨b,hs,hb⟩:=h.disk
 exact⟨b,hs.fix,hb⟩
theorem j1w (H:Hu u0c) (e' :u3e) (c:Int) (t:u0c):(q3y H e' c t).length≤H.length+1:=by
 unfold q3y;split
 ·simp
 ·omega
theorem Life.commit {k:Nat} {H:Hu u0c} {s:u01} (h:Life k H s) (id:Int) (t0:u0c):
 Life (k+1) (q3y H (u8k s id).1.1 s.1.1.2.2.2.1 (if u41 s.1.2 id<0 then t0 else u1m s.1 id)) (u8k s id).1:=
 ⟨h.ser.commitS id t0,h.disk.commit h.ser id t0,h.view.commitS h.ser id t0,by have:=h.few;have:=j1w H (u8k s id).1.1 s.1.1.2.2.2.1 (if u41 s.1.2 id<0 then t0 else u1m s.1 id);omega⟩
theorem Life.prep {k:Nat} {H:Hu u0c} {s:u01} (h:Life k H s) (id:Int) (n:Hs):Life (k+1) H (r5p s id n).1:=
 ⟨h.ser.prepS id n,h.disk.prep id n,h.view.prepS h.ser id n,by have:=h.few;omega⟩
theorem Life.fin {k:Nat} {H:Hu u0c} {s:u01} (h:Life k H s) (n:Hs) (y:Bool) (t0:u0c):
 Life (k+1) (q3y H (r6w s n y).1.1 s.1.1.2.2.2.1 (if u0i s.1.1 n<0 then t0 else rdL u0q s.1.1.2.2.1 (u0i s.1.1 n).toNat)) (r6w s n y).1:=
 ⟨h.ser.finS n y t0,h.disk.fin h.ser n y t0,h.view.finS h.ser n y t0,by
   have:=h.few
   have:=j1w H (r6w s n y).1.1 s.1.1.2.2.2.1 (if u0i s.1.1 n<0 then t0 else rdL u0q s.1.1.2.2.1 (u0i s.1.1 n).toNat)
   omega⟩
theorem Life.mono {k m:Nat} {H:Hu u0c} {s:u01} (h:Life k H s) (hm:k≤m):Life m H s:=⟨h.ser,h.disk,h.view,by have:=h.few;omega⟩
theorem Life.rise {k:Nat} {H:Hu u0c} {s:u01} (h:Life k H s) {d:u0l} (hd:u2v d=true) (ht:u0e d=u0e s.2):
 ∃b,t0y (u0e d)=some b∧Life k H ((b, []),d):=by
 obtain⟨b,hs,hb⟩:=h.disk
 have hY:Sync ((b, []),s.2) b:=(o8z hs).2
 have hp:t0y (u0e d)=some b:=by rw[ht];exact hs.play
 exact⟨b,hp,HB.rise h.ser hs hb,⟨b,⟨hY.eng,hd,hp,hY.right,hY.like⟩,hb⟩,h.view.rise h.ser.eng.base hs.like,h.few⟩
theorem Life.ok {k:Nat} {H:Hu u0c} {s:u01} (h:Life k H s):j4z H:=
 ⟨fun t ht=>⟨h.ser.st t ht,(h.ser.snap t ht).1,q7p (h.view.right t ht).ws⟩,List.Pairwise.and (d4q.mp h.ser.uqh).1 h.ser.asc⟩
theorem Life.sr {k:Nat} {H:Hu u0c} {s:u01} (h:Life k H s):∃u,o33 H=some u∧u.length=H.length∧j97 H=true:=by
 obtain⟨u,ho⟩:=h.ser.order
 refine⟨u,ho,(s0q ho).1,?_⟩
 unfold j97
 rw[ho]
 simp only[j3t h.ok ho]
theorem Life.pastNo {k:Nat} {H:Hu u0c} {s:u01} (h:Life k H s) {i:Nat} (hi:i<H.length):q4t H i H[i] =false:=by
 unfold q4t
 have h3:H[i].2.1=3:=h.ser.st _ (Ag hi)
 rw[Es,Bool.and_eq_false_iff]
 refine⟨by simp[h3],?_⟩
 by_cases c:0<i
 ·right
  have c2:i - 1<H.length:=by omega
  rw[y8k (t:=u0q) c2]
  have:=Cp.mp h.ser.asc (i - 1) i c2 hi (by omega)
  exact A7 fun q=>by
   have q:H[i].2.2.2.1≤H[i - 1].2.2.2.1:=q
   omega
 ·left;simp[c]
theorem Life.pastIt {k:Nat} {H:Hu u0c} {s:u01} (h:Life k H s) (r:Hu Int×Hu Hs):Ab.pastIt (s,H,r)=s5w (s,H,r) (s24 H):=by
 have key:∀(d i:Nat),i+d=H.length→o3r (o38 H) (s5w (s,H,r)) i (H.drop i) (s24 (H.take i))=s5w (s,H,r) (s24 H):=by
  intro d
  induction d with
  | zero=>
   intro i hi
   rw[Dp (by omega),List.take_of_length_le (by omega)]
   rfl
  | succ d ih=>
   intro i hi
   have hlt:i<H.length:=by omega
   rw[Ce hlt]
   simp only[o3r]
   unfold o38
   rw[Ao (by rw[h.pastNo hlt];decide)]
   have e:u6w (s24 (H.take i)) H[i].2.2.2.2.2.1=s24 (H.take (i+1)):=by
    rw[B9 hlt,q0t]
   rw[e]
   exact ih (i+1) (by omega)
 have:=key H.length 0 (by omega)
 exact this
end
section
theorem j4x:∀(m:Nat) {n:Int} (b:Bool) (s:Hs),0≤n→n≤1000000→n<(10:Int)^m→s.size+m≤1000→ ∃t,t7z (n,b,s)=some (.inl (b,t))∧t.size≤1000
 | 0,n,b,s,h0,h1,h2,h3=>by
  have:n=0:=by have:n<1:=by simpa using h2
               omega
  subst this
  refine⟨s,?_,by omega⟩
  rw[s3k];simp[t07]
 | m+1,n,b,s,h0,h1,h2,h3=>by
  by_cases c:n=0
  ·subst c
   refine⟨s,?_,by omega⟩
   rw[s3k];simp[t07]
  ·have e1:Int.tmod n 10=n % 10:=Int.tmod_eq_emod_of_nonneg h0
   have e2:Int.tdiv n 10=n / 10:=Int.tdiv_eq_ediv_of_nonneg h0
   have p:n / 10<(10:Int)^m:=by
    rw[Int.pow_succ] at h2
    omega
   obtain⟨y,hy⟩:∃y,t8g (n % 10)=some y:=by
    rw[p1n];unfold r4e
    cases decide (n % 10<10)
    ·exact⟨_,rfl⟩
    ·exact⟨_,rfl⟩
   have hs:(y7g [y] ++s).size=1+s.size:=by rw[Af,u35];rfl
   have hl:(y7g [y]).size+s.size≤140737488355328:=by rw[u35];simp only[Aw];omega
   obtain⟨t,e,ht⟩:=j4x m (n:=n / 10) b (y7g [y] ++s) (by omega) (by omega) p (by omega)
   refine⟨t,?_,ht⟩
   rw[s3k]
   have d1:decide (n=0)=false:=A7 c
   have d2:decide (n % 10<0)=false:=A7 (by omega)
   simp only[t07,d1,e1,e2,d2,Bh,Ad,Aa,hy,zOb,hl,Ae,y4y (show -9223372036854775808≤n / 10 by omega) (show n / 10≤9223372036854775807 by omega)]
   exact e
theorem o1w {n:Int} (h0:0≤n) (h1:n≤9999):∃t,s9b n=some t:=by
 rw[p6j];unfold q12
 by_cases c:n=0
 ·simp only[c,Ae,Ad]
  exact⟨_,rfl⟩
 ·have p:n<(10:Int)^4:=by show n<(10000:Int);omega
  obtain⟨t,e,ht⟩:=j4x 4 (n:=n) (decide (n<0)) (⟨#[]⟩:Hs) h0 (by omega) p (by decide)
  have d:decide (n<0)=false:=A7 (by omega)
  rw[d] at e
  simp only[c,Ah,Aa,d,e,zOb]
  exact⟨_,rfl⟩
theorem j3s {l:Hu PrT} (hl:l.length≤200) (hs:∀x∈l,x.1.size≤3∧x.2.size≤12):∀(d i:Nat) (acc:Hs),i+d=l.length→acc.size≤17*i→ ∃t,u9l (l,acc,(i:Int))=some (.inl t):=by
 intro d
 induction d with
 | zero=>
  intro i acc hi ha
  refine⟨acc,?_⟩
  rw[r2d];simp only[t44,u0b,show ¬i<l.length by omega,Ah,Aa]
 | succ d ih=>
  intro i acc hi ha
  have hlt:i<l.length:=by omega
  obtain⟨s1,s2⟩:=hs _ (Ag hlt)
  have z1:(⟨#[44]⟩:Hs).size=1:=rfl
  have z2:(⟨#[61]⟩:Hs).size=1:=rfl
  rw[r2d]
  simp only[t44,u0b,hlt,Ae,Ad,y7t hlt,zTn,y8k (t:=j5x) hlt,Af,z1,z2]
  rw[y7l (by omega)]
  by_cases c:(i:Int) >0
  ·simp only[c,Ae,Ad,show acc.size+1≤140737488355328 by omega,show acc.size+1+l[i].1.size≤140737488355328 by omega,show acc.size+1+l[i].1.size+1≤140737488355328 by omega,show acc.size+1+l[i].1.size+1+l[i].2.size≤140737488355328 by omega]
   exact ih (i+1) _ (by omega) (by simp only[Af,z1,z2];omega)
  ·simp only[c,Ah,Aa,Ae,Ad,show acc.size+l[i].1.size≤140737488355328 by omega,show acc.size+l[i].1.size+1≤140737488355328 by omega,show acc.size+l[i].1.size+1+l[i].2.size≤140737488355328 by omega]
   exact ih (i+1) _ (by omega) (by simp only[Af,z1,z2];omega)
theorem p5p {l:Hu PrT} (hl:l.length≤200) (hs:∀x∈l,x.1.size≤3∧x.2.size≤12):∃t,s6m l=some t:=by
 obtain⟨t,e⟩:=j3s hl hs l.length 0 (⟨#[]⟩:Hs) (by omega) (by decide)
 have e:u9l (l,(⟨#[]⟩:Hs),0)=some (.inl t):=e
 exact⟨t,by rw[p36];unfold r8k;simp only[e,zOb]⟩
theorem o82 {l:Hu u2b} (hl:u5i l=true) (k:Hs) (s:Int):(s6n l k s).1.size≤12:=by
 obtain⟨h1,_,_⟩:=j2n.mp hl
 have hr:=q0p l k s
 unfold s6n
 split
 ·exact(by decide:(emp).size≤12)
 ·rename_i c
  have c1: ¬t14 l k s<0:=fun q=>c (.inl q)
  have hlt:(t14 l k s).toNat<l.length:=by omega
  rw[y8k (t:=u0d) hlt]
  have:=h1 _ (Ag hlt)
  unfold r90 at this
  simp only[Ai,Ar] at this
  exact this.2.1
theorem o34 {t:u0c} {l:Hu u2b} (ht:TxnR t) (hl:u5i l=true) (k:Hs):(r09 t l k).1.size≤12:=by
 unfold r09
 split
 ·rename_i c
  rw[y8k (t:=u2i) c]
  have:=p16 ((j46.mp ht.ws).1 _ (Ag c))
  split
  ·exact(by decide:(emp).size≤12)
  ·exact this.2
 ·exact o82 hl k _
theorem o05 {t:u0c} {l:Hu u2b} (ht:TxnR t) (hl:u5i l=true) (r:s3m):(r9e t l r).length≤200∧ ∀x∈r9e t l r,x.1.size≤3∧x.2.size≤12:=by
 obtain⟨h1,_,h3⟩:=j2n.mp hl
 obtain⟨w1,_,w3⟩:=j46.mp ht.ws
 unfold r9e
 constructor
 ·rw[Da]
  refine A9 (Cs _ _) (A9 (q65 _) ?_)
  rw[Ba,Da,Da];omega
 ·intro x hx
  obtain⟨k,hk,rfl⟩:=Bx.mp hx
  refine⟨?_,o34 ht hl k⟩
  have hk:=((q0n _).2 k).mp (A6.mp hk).1
  rcases Ay.mp hk with hk | hk
  ·obtain⟨v,hv,rfl⟩:=Bx.mp hk
   have:=h1 v hv
   unfold r90 at this
   simp only[Ai] at this
   exact(u3f this.1).2
  ·obtain⟨w,hw,rfl⟩:=Bx.mp hk
   exact(p16 (w1 w hw)).1
theorem p42 {e:u3e} (hE:EngR e) (id:Int) (r:s3m):(o59 e id r).2.1.length≤200∧ ∀x∈(o59 e id r).2.1,x.1.size≤3∧x.2.size≤12:=by
 unfold o59
 split
 ·rename_i c
  obtain⟨j,hj,e1,e2,e3⟩:=u2q (j8j c)
  have ht:u1m e id∈e.2:=by rw[e2];exact Ag hj
  exact o05 (hE.open_ _ ht).1 hE.base.vs r
 ·exact⟨by show 0≤200;omega,fun x hx=>by cases hx⟩
theorem j1r (e:u3e) (id:Int) (r:s3m):(o59 e id r).1=(s66 e id r (u3s r)).1:=by
 unfold o59;split<;>rfl
theorem j26 (e:u3e) (id:Int) (k:Hs):(j8e e id k).1=(s66 e id (k,k) (u7b k)).1:=by
 unfold j8e;split<;>rfl
structure EvR (e:j4r.den):Prop where
 kind:1≤e.1∧e.1≤12
 at0:0≤e.2.1
 key6:e.2.2.1.size≤6
 text:e.2.2.2.1.size≤20
 keep:e.2.2.2.2.length≤10
 nokeep:e.1≠12→e.2.2.2.2.length=0
theorem o75 {e:j4r.den} (h:EvR e):s9c e=some true:=by
 have l1:u0r (e.1,1,12)=some true:=by
  rw[q93];unfold r8e
  have:=h.kind
  simp[this.1,this.2]
 have a1:decide (e.2.1<0)=false:=A7 (Hk.mpr h.at0)
 have a2:decide ((e.2.2.1.size:Int) >6)=false:=A7 (by have:=h.key6;omega)
 have a3:decide ((e.2.2.2.1.size:Int) >20)=false:=A7 (by have:=h.text;omega)
 have a4:decide ((e.2.2.2.2.length:Int) >10)=false:=A7 (by have:=h.keep;omega)
 rw[p6l];unfold q14
 simp only[l1,a1,a2,a3,a4,zOb,Ap,Aa]
 by_cases c:e.1=12
 ·simp only[c,Ae,Ad,zOb]
 ·have:=h.nokeep c
  simp[c,this]
abbrev p9f:=Hu Int×Hu Hs
theorem o94 {k:Nat} {H:Hu u0c} {s:u01} (h:Life k H s) (r:p9f) {e:j4r.den} (he:EvR e) (h5:e.1≤5):
 ∃(code:Int) (said:Hs) (s' :u01),u8r ((s,H,r),e)=some (code,said,(s',H,r))∧Life (k+1) H s' :=by
 have hE:=h.ser.eng
 obtain⟨kd,at_,key,tx,kp⟩:=e
 have k1:(1:Int)≤kd:=he.kind.1
 have hk:key.size≤6:=he.key6
 have ht5:tx.size≤20:=he.text
 have h5:kd≤(5:Int):=h5
 have cs:∀q:Int,1≤q→q≤5→q=1∨q=2∨q=3∨q=4∨q=5:=fun q h1 h2=>by omega
 rw[p7k];unfold q24
 rcases cs kd k1 h5 with rfl | rfl | rfl | rfl | rfl
 ·simp only[Ae,Ad,o7w hE,zOb]
  by_cases c:(s3t s.1).2.2=0
  ·have hn:0≤(s3t s.1).2.1∧(s3t s.1).2.1≤9999:=by
    have:=hE.base.next
    unfold s3t;split
    ·exact⟨by show 0≤s.1.1.2.2.2.2;omega,this.2⟩
    ·exact⟨by show(0:Int)≤0;omega,by show(0:Int)≤9999;omega⟩
   obtain⟨t,ht⟩:=o1w hn.1 hn.2
   simp only[c,Ae,Ap,Aa,ht,zOb]
   exact⟨_,_,_,rfl,h.begin⟩
  ·simp only[c,Ah,Bh,Ad]
   exact⟨_,_,_,rfl,h.begin⟩
 ·have hL:=h.look (id:=at_) (r:=(key,key)) (right:=u7b key) (fun q=>by rw[o7f];exact q)
  rw[←j26] at hL
  simp only[show decide ((2:Int)=1)=false by decide,Aa,Ae,Ad,o5a hE at_ (show key.size≤1048576 by omega),zOb]
  obtain⟨g,hg⟩:∃g,g=j8e s.1 at_ key:=⟨_,rfl⟩
  rw[←hg] at hL ⊢
  by_cases c:g.2.2.2=0
  ·cases c2:g.2.2.1
   ·simp only[c,c2,Ae,Ad,zOb,Bh]
    exact⟨_,_,_,rfl,hL⟩
   ·simp only[c,c2,Ae,Ad,Aa,zOb,Ap]
    exact⟨_,_,_,rfl,hL⟩
  ·simp only[c,Ah,Aa,zOb]
   exact⟨_,_,_,rfl,hL⟩
 ·have hL:=h.look (id:=at_) (r:=(key,tx)) (right:=u3s (key,tx)) (fun q=>q)
  rw[←j1r] at hL
  obtain⟨t,ht⟩:=p5p (p42 hE at_ (key,tx)).1 (p42 hE at_ (key,tx)).2
  simp only[show decide ((3:Int)=1)=false by decide,show decide ((3:Int)=2)=false by decide,Aa,Ae,Ad,p9h hE at_ (r:=(key,tx)) ⟨by show key.size≤_;omega,by show tx.size≤_;omega⟩,ht,zOb]
  exact⟨_,_,_,rfl,hL⟩
 ·have hL:=h.put at_ (key,tx,false)
  simp only[show decide ((4:Int)=1)=false by decide,show decide ((4:Int)=2)=false by decide,show decide ((4:Int)=3)=false by decide,Aa,Ae,Ad,p2f hE at_ (w:=(key,tx,false)) (by show key.size≤_;omega),zOb]
  exact⟨_,_,_,rfl,hL⟩
 ·have hL:=h.put at_ (key,(⟨#[]⟩:Hs),true)
  simp only[show decide ((5:Int)=1)=false by decide,show decide ((5:Int)=2)=false by decide,show decide ((5:Int)=3)=false by decide,show decide ((5:Int)=4)=false by decide,Aa,p2f hE at_ (w:=(key,(⟨#[]⟩:Hs),true)) (by show key.size≤_;omega),zOb]
  exact⟨_,_,_,rfl,hL⟩
end
section
theorem p5u {n:Nat} (h:n≤100000000):Nat.ble n z7w=true:=Nat.ble_eq_true_of_le (A9 h (by decide))
theorem o7y {t:u0c} (h:r6x t):u02 t=some t:=by
 rw[q3b];unfold s8w
 have h1:Nat.ble (([] :Hu s3m).length+t.2.2.2.2.1.length) z7w=true:=p5u (by have:=h.1;rw[Cc];omega)
 have h2:Nat.ble (([] :Hu WrT).length+t.2.2.2.2.2.1.length) z7w=true:=p5u (by have:=h.2;rw[Cc];omega)
 simp only[h1,h2,Ad,Cf]
theorem q0h (s:u01) (H:Hu u0c) (r:p9f) (c:Int) {t:u0c} (ht:r6x t) (hn:H.length≤1000000):u34 ((s,H,r),c,t)=some (s,q3y H s.1 c t,r):=by
 have h1:Nat.ble (([] :Hu u0c).length+H.length) z7w=true:=p5u (by rw[Cc];omega)
 rw[q8t];unfold r0a q3y
 by_cases q:s.1.1.2.2.2.1=IntKind.i64.wrap (c+1)
 ·rw[Al q]
  have h2:∀x:u0c,Nat.ble (H.length+ [x].length) z7w=true:=fun x=>p5u (by rw[Aw];omega)
  simp only[q,Ae,Ap,Aa,o7y ht,zOb,h1,h2,Ad,Cf]
  rfl
 ·rw[Ao q]
  simp only[q,Ah,Bh,Ad]
theorem o4x:r6x u5j:=⟨by show 0≤1048576;omega,by show 0≤1048576;omega⟩
theorem j2q {k:Nat} {H:Hu u0c} {s:u01} (h:Life k H s) (hk:k≤1000) (r:p9f) {e:j4r.den} (he:EvR e) (h6:6≤e.1) (h10:e.1≤10):
 ∃(code:Int) (H' :Hu u0c) (s' :u01),t01 ((s,H,r),e)=some (code,(s',H',r))∧Life (k+1) H' s' :=by
 have hE:=h.ser.eng
 have hd:=h.log
 have hn:=h.few
 obtain⟨kd,at_,key,tx,kp⟩:=e
 have h6:(6:Int)≤kd:=h6
 have h10:kd≤(10:Int):=h10
 have key6:key.size≤6:=he.key6
 have fo:∀t∈s.1.2,r6x t:=fun t ht=>(hE.fewO).2 t ht
 have fr:∀t∈s.1.1.2.2.1,r6x t:=fun t ht=>(hE.fewB).2.2.2 t ht
 have hzero:((0,0,0,0, [], [],false,(⟨#[]⟩:Hs)):u0c)=u5j:=rfl
 rw[o0y];unfold q6e
 have cs:∀q:Int,6≤q→q≤10→q=6∨q=7∨q=8∨q=9∨q=10:=fun q h1 h2=>by omega
 have fin:∀y:Bool,∃(code:Int) (H' :Hu u0c) (s' :u01),((u15 (s.1.1,key)).bind fun y8=>(bif (decide (y8≥(0:Int))) then(bif (y4q y8 s.1.1.2.2.1.length) then((u71 ((s,H,r),(key,y))).bind fun y9=>((u34 (y9.2,(s.1.1.2.2.2.1,(rdL u0q s.1.1.2.2.1 (y8).toNat)))).bind fun y10=>(some (y9.1,y10)))) else none) else((u71 ((s,H,r),(key,y))).bind fun y11=>((u34 (y11.2,(s.1.1.2.2.2.1,u5j))).bind fun y12=>(some (y11.1,y12))))))=some (code,(s',H',r))∧Life (k+1) H' s' :=fun y=>by
  have hL:=h.fin key y u5j
  have e1:=t8q s.1.1 key (by have:=hE.base.rlen;omega)
  simp only[e1,zOb,p7n hE hd (H,r) (by omega:key.size≤100) y]
  by_cases c:u0i s.1.1 key<0
  ·rw[Al c] at hL
   have c1:decide (u0i s.1.1 key≥0)=false:=A7 (by omega)
   simp only[c1,Aa,q0h _ H r _ o4x (by omega),zOb]
   exact⟨_,_,_,rfl,hL⟩
  ·rw[Ao c] at hL
   have c1:decide (u0i s.1.1 key≥0)=true:=Bb (by omega)
   obtain⟨j,hj,e2,e3⟩:=s03 c
   have e4:(u0i s.1.1 key).toNat=j:=by omega
   have hf:r6x (rdL u0q s.1.1.2.2.1 (u0i s.1.1 key).toNat):=by
    rw[e4,y8k (t:=u0q) hj];exact fr _ (Ag hj)
   have hg:y4q (u0i s.1.1 key) s.1.1.2.2.1.length=true:=by rw[e2];exact y7t hj
   simp only[c1,Ad,hg,q0h _ H r _ hf (by omega),zOb]
   exact⟨_,_,_,rfl,hL⟩
 rcases cs kd h6 h10 with rfl | rfl | rfl | rfl | rfl
 ·have hL:=h.commit at_ u5j
  have e1:=t3l s.1 at_ (by have:=hE.olen;omega)
  simp only[Ae,Ad,e1,zOb,p7m hE hd (H,r) at_,hzero]
  by_cases c:u41 s.1.2 at_<0
  ·rw[Al c] at hL
   have c1:decide (u41 s.1.2 at_≥0)=false:=A7 (by omega)
   simp only[c1,Aa,q0h _ H r _ o4x (by omega),zOb]
   exact⟨_,_,_,rfl,hL⟩
  ·rw[Ao c] at hL
   have c1:decide (u41 s.1.2 at_≥0)=true:=Bb (by omega)
   obtain⟨j,hj,e2,e3,e5⟩:=u2q c
   have hf:r6x (u1m s.1 at_):=by rw[e3];exact fo _ (Ag hj)
   have hg:y4q (u41 s.1.2 at_) s.1.2.length=true:=by rw[e2];exact y7t hj
   have ha:rdL u0q s.1.2 (u41 s.1.2 at_).toNat=u1m s.1 at_:=rfl
   simp only[c1,Ad,hg,ha,q0h _ H r _ hf (by omega),zOb]
   exact⟨_,_,_,rfl,hL⟩
 ·have hL:=h.leave at_
  simp only[show decide ((7:Int)=6)=false by decide,Aa,Ae,Ad,o76 hE at_,zOb]
  exact⟨_,_,_,rfl,hL⟩
 ·have hL:=h.prep at_ key
  simp only[show decide ((8:Int)=6)=false by decide,show decide ((8:Int)=7)=false by decide,Aa,Ae,Ad,p4h hE hd (H,r) at_ (by omega:key.size≤1048576),zOb]
  exact⟨_,_,_,rfl,hL⟩
 ·have:=fin true
  simpa only[show decide ((9:Int)=6)=false by decide,show decide ((9:Int)=7)=false by decide,show decide ((9:Int)=8)=false by decide,Ae,Aa,hzero] using this
 ·have:=fin false
  simpa only[show decide ((10:Int)=6)=false by decide,show decide ((10:Int)=7)=false by decide,show decide ((10:Int)=8)=false by decide,show decide ((10:Int)=9)=false by decide,Aa,hzero] using this
theorem o93 {d:u0l} (hd:u2v d=true) (e:j4r.den):∃x,u8q (d,e)=some x∧u2v x=true∧u0e x=u0e d:=by
 have hw:=s1r hd
 obtain⟨x,hx⟩:∃x,x=u6t d (⟨#[120]⟩:Hs) 0 e.2.2.2.2 e.2.1:=⟨_,rfl⟩
 have e1:=p5m (d:=d) (t:=(⟨#[120]⟩:Hs)) hw (by decide) 0 e.2.2.2.2 e.2.1
 have w1:=o2y (d:=d) (t:=(⟨#[120]⟩:Hs)) hw 0 e.2.2.2.2 e.2.1
 rw[←hx] at e1 w1
 have k:u2v x=true∧u0e x=u0e d:=by
  rw[hx]
  cases ha:append_ d (⟨#[120]⟩:Hs) with
  | none=>rw[p5v ha];exact⟨hd,rfl⟩
  | some y=>
   have:=(p5w ha 0 e.2.2.2.2 e.2.1).1 rfl
   exact⟨this.1,this.tx⟩
 rw[p7j];unfold q23
 simp only[e1,p5q x d (by omega) (by omega),u67 d (by unfold u0m;omega),zOb]
 cases j1q x d
 ·exact⟨d,rfl,hd,rfl⟩
 ·exact⟨x,rfl,k⟩
theorem j5o {k:Nat} {H:Hu u0c} {s:u01} (h:Life k H s) (hk:k≤1000) (r:p9f) {e:j4r.den} (he:EvR e):
 ∃(code:Int) (said:Hs) (H' :Hu u0c) (s' :u01),r9j ((s,H,r),e)=some (code,said,(s',H',r))∧Life (k+1) H' s' :=by
 have hE:=h.ser.eng
 have hd:=h.log
 have k1:=he.kind
 have cs:∀q:Int,1≤q→q≤12→(q=1∨q=2∨q=3∨q=4∨q=5)∨q=11∨q=12∨(6≤q∧q≤10):=fun q h1 h2=>by omega
 rw[o3i];unfold q9y
 rcases cs e.1 k1.1 k1.2 with c | c | c | ⟨c1,c2⟩
 ·have c5:e.1≤(5:Int):=by
   have z:∀q:Int,(q=1∨q=2∨q=3∨q=4∨q=5)→q≤5:=fun q h=>by omega
   exact z e.1 c
  obtain⟨code,said,s',e1,e2⟩:=o94 h r he c5
  refine⟨code,said,H,s',?_,e2⟩
  rcases c with q | q | q | q | q<;>simp[q,e1]
 ·have hL:=h.fix
  simp only[c,show decide ((11:Int)=1)=false by decide,show decide ((11:Int)=2)=false by decide,show decide ((11:Int)=3)=false by decide,show decide ((11:Int)=4)=false by decide,show decide ((11:Int)=5)=false by decide,Aa,Ae,Ad,j2r hE hd,zOb]
  cases (j4y s).2
  ·exact⟨_,_,_,_,rfl,hL⟩
  ·exact⟨_,_,_,_,rfl,hL⟩
 ·obtain⟨x,x1,x2,x3⟩:=o93 hd e
  obtain⟨b,b1,b2⟩:=h.rise x2 x3
  have hr:riseR x=(((b, []),x),true):=by
   unfold riseR logR
   rw[b1,Al ⟨x2,rfl⟩]
  simp only[c,show decide ((12:Int)=1)=false by decide,show decide ((12:Int)=2)=false by decide,show decide ((12:Int)=3)=false by decide,show decide ((12:Int)=4)=false by decide,show decide ((12:Int)=5)=false by decide,show decide ((12:Int)=11)=false by decide,Aa,Ae,Ad,x1,o98 x (s1r x2),hr,zOb,Ap]
  exact⟨_,_,_,_,rfl,b2.mono (by omega)⟩
 ·have n:∀q:Int,6≤q→q≤10→decide (q=1)=false∧decide (q=2)=false∧decide (q=3)=false∧decide (q=4)=false∧decide (q=5)=false∧decide (q=11)=false∧decide (q=12)=false:=fun q h1 h2=>by
   simp only[Bu];omega
  obtain⟨n1,n2,n3,n4,n5,n6,n7⟩:=n e.1 c1 c2
  obtain⟨code,H',s',e1,e2⟩:=j2q h hk r he c1 c2
  simp only[n1,n2,n3,n4,n5,n6,n7,Aa,e1,zOb]
  exact⟨_,_,_,_,rfl,e2⟩
end
section
theorem r60 {kd at_:Int} {key tx:Hs} (h1:1≤kd) (h2:kd≤11) (h0:0≤at_) (hk:key.size≤6) (ht:tx.size≤6):EvR ((kd,at_,key,tx,([] :Hu Int)):j4r.den):=
 ⟨⟨h1,by show kd≤12;omega⟩,h0,hk,by show tx.size≤20;omega,by show 0≤10;omega,fun _=>rfl⟩
def K3:Hu Hs:= [⟨#[97]⟩,⟨#[98]⟩,⟨#[99]⟩]
def T3:Hu Hs:= [⟨#[111,110,101]⟩,⟨#[116,119,111]⟩,⟨#[116,104,114,101,101]⟩]
def PQ3:Hu Hs:= [⟨#[112]⟩,⟨#[113]⟩,⟨#[114]⟩]
theorem j1s {y a b c:Hs} (h:y∈ [a,b,c]) (ha:a.size≤6) (hb:b.size≤6) (hc:c.size≤6):y.size≤6:=by
 simp only[A8,Ep,Em] at h
 rcases h with rfl | rfl | rfl
 ·exact ha
 ·exact hb
 ·exact hc
theorem p2c {y:Hs} (h:y∈K3):y.size≤6:=j1s h (by decide) (by decide) (by decide)
theorem j5s {y:Hs} (h:y∈T3):y.size≤6:=j1s h (by decide) (by decide) (by decide)
theorem p9c {y:Hs} (h:y∈PQ3):y.size≤6:=j1s h (by decide) (by decide) (by decide)
theorem j6b (c:Src) (most:Int) (out:Hu j4r.den) (next:Int) (op:Hu Int) (id:Int) (ho:op.length≤4) (h0:∀x∈op,0≤x):
 ∀(d i:Nat) (l:Hu Int),i+d=op.length→l.length≤i→(∀x∈l,0≤x)→ ∃l' :Hu Int,u2j (c,most,out,next,op,id,l,(i:Int))=some (.inl (c,most,out,next,l'))∧l'.length≤4∧ ∀x∈l',0≤x:=by
 intro d
 induction d with
 | zero=>
  intro i l hi hl h
  refine⟨l,?_,by omega,h⟩
  rw[s61];simp only[t0k,u0b,show ¬i<op.length by omega,Ah,Aa]
 | succ d ih=>
  intro i l hi hl h
  have hlt:i<op.length:=by omega
  rw[s61]
  have hb:∀x:Int,Nat.ble (l.length+ [x].length) z7w=true:=fun x=>p5u (by rw[Aw];omega)
  simp only[t0k,u0b,hlt,Ae,Ad,y7t hlt,zTn,y8k (t:=Ty.int .i64) hlt,hb]
  rw[y7l (by omega)]
  by_cases q:op[i] =id
  ·simp only[q,Ae,Ap,Aa]
   exact ih (i+1) l (by omega) (by omega) h
  ·simp only[q,Ah,Bh,Ad]
   refine ih (i+1) _ (by omega) (by rw[Ba,Aw];omega) fun x hx=> ?_
   rcases Ay.mp hx with hx | hx
   ·exact h x hx
   ·rw[Ax.mp hx];exact h0 _ (Ag hlt)
def d1f (most:Int) (out:Hu j4r.den) (F:Ht (Hu j4r.den⊕Unit)) (next:Int):Prop:=
 ∃(c' :Src) (e:j4r.den) (next' :Int) (op' :Hu Int),F=u29 (c',most,out++ [e],next',op')∧c'.ok∧EvR e∧0≤next' ∧next' ≤next+1∧op'.length≤4∧ ∀x∈op',0≤x
theorem j55 {c:Src} (hc:c.ok) {most:Int} {out:Hu j4r.den} {next:Int} {op:Hu Int} (hlt:(out.length:Int)<most) (hm:most≤74) (n0:0≤next) (n1:next≤100) (ho:op.length≤4) (h0:∀x∈op,0≤x):
 d1f most out (u29 (c,most,out,next,op)) next:=by
 obtain⟨y2,c1,e2,k2,r2⟩:=r2e hc (n:=18) (by omega)
 have hb:∀x:j4r.den,Nat.ble (out.length+ [x].length) z7w=true:=fun x=>p5u (by rw[Aw];omega)
 have hb1:Nat.ble (([] :Hu Int).length+op.length) z7w=true:=p5u (by rw[Cc];omega)
 have hb2:∀x:Int,Nat.ble ((([] :Hu Int)++op).length+ [x].length) z7w=true:=fun x=>p5u (by rw[Aw,Cf];omega)
 have wn:IntKind.i64.wrap (next+1)=next+1:=y4y (by omega) (by omega)
 have opn:∀x∈op++ [next],0≤x:=fun x hx=>by
  rcases Ay.mp hx with hx | hx
  ·exact h0 x hx
  ·rw[Ax.mp hx];exact n0
 have ev1:EvR ((1,0,(⟨#[]⟩:Hs),(⟨#[]⟩:Hs),([] :Hu Int)):j4r.den):=r60 (by omega) (by omega) (by omega) (by decide) (by decide)
 rw[s8t]
 simp only[t22,hlt,Ae,Ad,e2,zOb]
 cases op with
 | nil=>
  obtain⟨y4,c2,e4,k4,r4⟩:=p9d k2 (l:=K3) (by decide)
  have e4:u1x (c1, [(⟨#[97]⟩:Hs),(⟨#[98]⟩:Hs),(⟨#[99]⟩:Hs)])=some (y4,c2):=e4
  simp only[Cc,show decide (((0:Nat):Int) >0)=false by decide,show decide (((0:Nat):Int)=0)=true by decide,Aa,Ad,e4,zOb,hb]
  simp only[Cc] at hb1 hb2
  simp only[hb1,hb2,Ad,wn]
  exact⟨c2,_,next+1,_,rfl,k4,ev1,by omega,by omega,by simp,opn⟩
 | cons o os=>
  obtain⟨op,hop⟩:∃op,op=o::os:=⟨_,rfl⟩
  rw[←hop] at ho h0 hb1 hb2 opn ⊢
  have hl0:0<op.length:=by rw[hop];simp
  have g1:decide ((op.length:Int) >0)=true:=Bb (by omega)
  have g2:decide ((op.length:Int)=0)=false:=A7 (by omega)
  obtain⟨y3,c3,e3,k3,r3⟩:=r2e k2 (n:=(op.length:Int)) (by omega)
  obtain⟨j,hj⟩:∃j:Nat,y3=(j:Int):=⟨y3.toNat,by omega⟩
  subst hj
  have hjl:j<op.length:=by omega
  obtain⟨y4,c4,e4,k4,r4⟩:=p9d k3 (l:=K3) (by decide)
  have e4:u1x (c3, [(⟨#[97]⟩:Hs),(⟨#[98]⟩:Hs),(⟨#[99]⟩:Hs)])=some (y4,c4):=e4
  have hid:0≤op[j] :=h0 _ (Ag hjl)
  simp only[g1,g2,Ad,Aa,e3,y7t hjl,zTn,y8k (t:=Ty.int .i64) hjl,e4,zOb,hb,hb1,hb2,wn]
  obtain⟨id,hidd⟩:∃id,id=op[j] :=⟨_,rfl⟩
  rw[←hidd] at hid ⊢
  obtain⟨bg,hbg⟩:∃bg,bg=(bif decide (y2<3) then some (decide ((op.length:Int)<4)) else some false:Ht Bool):=⟨_,rfl⟩
  have hbg2:bg=some (decide (y2<3)&&decide ((op.length:Int)<4)):=by rw[hbg];cases decide (y2<3)<;>rfl
  rw[←hbg,hbg2]
  simp only[zOb]
  by_cases b1:(decide (y2<3)&&decide ((op.length:Int)<4))=true
  ·simp only[b1,Ad]
   have:(op.length:Int)<4:=by simp at b1;omega
   exact⟨c4,_,next+1,_,rfl,k4,ev1,by omega,by omega,by simp;omega,opn⟩
  ·have b1:(decide (y2<3)&&decide ((op.length:Int)<4))=false:=by simpa using b1
   simp only[b1,Aa]
   by_cases b2:y2<6
   ·simp only[b2,Ae,Ad]
    exact⟨c4,_,next,op,rfl,k4,r60 (by omega) (by omega) hid (p2c r4) (by decide),n0,by omega,ho,h0⟩
   simp only[b2,Ah,Aa]
   by_cases b3:y2=6
   ·simp only[b3,Ae,Ad]
    exact⟨c4,_,next,op,rfl,k4,r60 (by omega) (by omega) hid (by decide) (p2c r4),n0,by omega,ho,h0⟩
   simp only[b3,Ah,Aa]
   by_cases b4:y2<10
   ·obtain⟨y6,c6,e6,k6,r6⟩:=p9d k4 (l:=T3) (by decide)
    have e6:u1x (c4, [(⟨#[111,110,101]⟩:Hs),(⟨#[116,119,111]⟩:Hs),(⟨#[116,104,114,101,101]⟩:Hs)])=some (y6,c6):=e6
    simp only[b4,Ae,Ad,e6,zOb,hb]
    exact⟨c6,_,next,op,rfl,k6,r60 (by omega) (by omega) hid (p2c r4) (j5s r6),n0,by omega,ho,h0⟩
   simp only[b4,Ah,Aa]
   by_cases b5:y2=10
   ·simp only[b5,Ae,Ad]
    exact⟨c4,_,next,op,rfl,k4,r60 (by omega) (by omega) hid (p2c r4) (by decide),n0,by omega,ho,h0⟩
   simp only[b5,Ah,Aa]
   have pq:∀ {s:Src},s.ok→ ∃(y:Hs) (s' :Src),u1x (s, [(⟨#[112]⟩:Hs),(⟨#[113]⟩:Hs),(⟨#[114]⟩:Hs)])=some (y,s')∧s'.ok∧y∈PQ3:=fun {s} hs=>by
    obtain⟨y,s',q1,q2,q3⟩:=p9d hs (l:=PQ3) (by decide)
    exact⟨y,s',q1,q2,q3⟩
   by_cases b6:y2<14
   ·obtain⟨y7,c7,e7,k7,r7⟩:=pq k4
    have lf:=fun(o:Hu j4r.den)=>j6b c7 most o next op id ho h0 op.length 0 [] (by omega) (by simp) (fun x hx=>by cases hx)
    simp only[b6,Ae,Ad,e7,zOb,hb]
    by_cases b7:y2=13
    ·simp only[b7,Ae,Ad]
     obtain⟨l',q1,q2,q3⟩:=lf (out++ [((8:Int),id,y7,(⟨#[]⟩:Hs),([] :Hu Int))])
     have q1:u2j (c7,most,out++ [((8:Int),id,y7,(⟨#[]⟩:Hs),([] :Hu Int))],next,op,id, [],(0:Int))=_:=q1
     simp only[q1,zOb]
     exact⟨c7,_,next,l',rfl,k7,r60 (by omega) (by omega) hid (p9c r7) (by decide),n0,by omega,q2,q3⟩
    ·simp only[b7,Ah,Aa]
     obtain⟨l',q1,q2,q3⟩:=lf (out++ [((6:Int),id,y7,(⟨#[]⟩:Hs),([] :Hu Int))])
     have q1:u2j (c7,most,out++ [((6:Int),id,y7,(⟨#[]⟩:Hs),([] :Hu Int))],next,op,id, [],(0:Int))=_:=q1
     simp only[q1,zOb]
     exact⟨c7,_,next,l',rfl,k7,r60 (by omega) (by omega) hid (p9c r7) (by decide),n0,by omega,q2,q3⟩
   simp only[b6,Ah,Aa]
   by_cases b8:y2=14
   ·obtain⟨y15,c5,e5,k5,r5⟩:=o79 k4 [9,10,9] (by decide) (by decide)
    obtain⟨y16,c6,e6,k6,r6⟩:=pq k5
    simp only[b8,Ae,Ad,e5,e6,zOb,hb]
    have hy:y15=9∨y15=10:=by
     simp only[A8,Ep,Em] at r5
     omega
    exact⟨c6,_,next,op,rfl,k6,r60 (by omega) (by omega) (by omega) (p9c r6) (by decide),n0,by omega,ho,h0⟩
   simp only[b8,Ah,Aa]
   by_cases b9:y2=15
   ·simp only[b9,Ae,Ad]
    exact⟨c4,_,next,op,rfl,k4,r60 (by omega) (by omega) (by omega) (by decide) (by decide),n0,by omega,ho,h0⟩
   simp only[b9,Ah,Aa]
   by_cases b10:y2=16
   ·obtain⟨y17,c5,e5,k5,_⟩:=j5q k4 (n:=3) (by omega)
    simp only[b10,Ae,Ad,e5,zOb]
    cases y17
    ·simp only[Aa]
     exact⟨c5,_,next,op,rfl,k5,r60 (by omega) (by omega) hid (by decide) (by decide),n0,by omega,ho,h0⟩
    ·obtain⟨y18,c6,e6,k6,r6⟩:=r2e k5 (n:=70) (by omega)
     obtain⟨y19,c7,e7,k7,r7⟩:=r2e k6 (n:=2) (by omega)
     simp only[Ad,e6,e7,zOb,hb]
     refine⟨c7,_,next, [],rfl,k7,⟨⟨by show(1:Int)≤12;omega,by show(12:Int)≤12;omega⟩,r6.1,(by decide:(⟨#[]⟩:Hs).size≤6),(by decide:(⟨#[]⟩:Hs).size≤20),by show 2≤10;omega,fun q=>absurd rfl q⟩,n0,by omega,by simp,fun x hx=>by cases hx⟩
   simp only[b10,Ah,Aa]
   exact⟨c4,_,next,op,rfl,k4,r60 (by omega) (by omega) (by omega) (p2c r4) (by decide),n0,by omega,ho,h0⟩
theorem d1r {most:Int} (hm:most≤74):∀(d:Nat) {c:Src} {out:Hu j4r.den} {next:Int} {op:Hu Int},c.ok→(out.length:Int)+d=most→0≤next→next≤(out.length:Int)+1→op.length≤4→(∀x∈op,0≤x)→(∀e∈out,EvR e)→
 ∃out' :Hu j4r.den,u29 (c,most,out,next,op)=some (.inl out')∧(out'.length:Int)=most∧ ∀e∈out',EvR e:=by
 intro d
 induction d with
 | zero=>
  intro c out next op hc hd n0 n1 ho h0 he
  refine⟨out,?_,by omega,he⟩
  rw[s8t]
  simp only[t22,show decide ((out.length:Int)<most)=false from A7 (by omega),Aa]
 | succ d ih=>
  intro c out next op hc hd n0 n1 ho h0 he
  obtain⟨c',e,next',op',q1,q2,q3,q4,q5,q6,q7⟩:=j55 hc (most:=most) (out:=out) (next:=next) (op:=op) (by omega) hm n0 (by omega) ho h0
  rw[q1]
  refine ih q2 (by rw[Ba,Aw];omega) q4 (by rw[Ba,Aw];omega) q6 q7 fun x hx=> ?_
  rcases Ay.mp hx with hx | hx
  ·exact he x hx
  ·rw[Ax.mp hx];exact q3
theorem o9q {l:Hu Int} (hl:l.length≤1048576):∃es:Hu j4r.den,s0y l=some es∧es.length≤74∧ ∀e∈es,EvR e:=by
 obtain⟨c,e1,k1⟩:=j7x hl
 have w0:Int.tdiv (l.length:Int) 3=(l.length:Int) / 3:=Int.tdiv_eq_ediv_of_nonneg (by omega)
 have w1:IntKind.i64.wrap ((l.length:Int) / 3)=(l.length:Int) / 3:=y4y (by omega) (by omega)
 have w2:IntKind.i64.wrap (16+(l.length:Int) / 3)=16+(l.length:Int) / 3:=y4y (by omega) (by omega)
 have run:∀most:Int,0≤most→most≤74→ ∃es:Hu j4r.den,u29 (c,most, [],1, [])=some (.inl es)∧es.length≤74∧ ∀e∈es,EvR e:=fun most h0 h1=>by
  obtain⟨es,q1,q2,q3⟩:=d1r h1 most.toNat (c:=c) (out:= []) (next:=1) (op:= []) k1 (by simp;omega) (by omega) (by simp) (by simp) (fun x hx=>by cases hx) (fun x hx=>by cases hx)
  exact⟨es,q1,by omega,q3⟩
 rw[q8j];unfold s90
 rw[p1r];unfold r4i
 simp only[e1,w0,w1,w2,zOb]
 by_cases b:16+(l.length:Int) / 3 >74
 ·obtain⟨es,q1,q2,q3⟩:=run 74 (by omega) (by omega)
  exact⟨es,by simp only[b,Ae,Ad,q1,zOb],q2,q3⟩
 ·obtain⟨es,q1,q2,q3⟩:=run (16+(l.length:Int) / 3) (by omega) (by omega)
  exact⟨es,by simp only[b,Ah,Aa,q1,zOb],q2,q3⟩
end
section
theorem o73 (w:d2a.den) (hb:smallB w.1.1.1) (ho:o0z w.1.1.2):s0t w=some true:=by
 have hl:=hb.2.2.1
 have hq:∀x∈w.1.1.1.2.2.1,t0z (x,w.1.1.1.1,w.1.1.1.2.1,w.1.1.1.2.2.1,w.1.1.1.2.2.2.1,w.1.1.1.2.2.2.2,w.1.1.2,w.1.2.1,w.1.2.2,w.2)=some false:=fun x hx=>by
  obtain⟨i,hi,rfl⟩:=B7 hx
  obtain⟨k,hk,hr⟩:=p8o w.1.1.1 (n:=w.1.1.1.2.2.1[i].2.2.2.2.2.2.2) hi rfl
  obtain⟨e,r,code,hf,hc⟩:=o49 w.1.1.1 w.1.1.2 w.1.1.1.2.2.1[i].2.2.2.2.2.2.2 hb ho hk hr
  rw[q4g];unfold s5b
  simp only[hf,zOb]
  rcases hc with rfl | rfl<;>rfl
 have L:=Q.first (T:=u0q) (W:=u05) (q:=t0z) (p:=fun _=>false) (fun x=>u8v x) w.1.1.1.2.2.1 _ (by omega) hq
 have hn: ¬u0s (fun _:u0q.den=>false) w.1.1.1.2.2.1<w.1.1.1.2.2.1.length:=fun h=>by
  have:=u8o h
  cases this
 rw[Ao hn] at L
 rw[q79];unfold s9q
 simp only[s23,t1v,u8c,u3a,u9p,u3w,L,zOb]
 rfl
end
section
theorem Ser.start {e:u3e} (hE:EngR e) (h1:e.1.2.1= []) (h2:e.1.2.2.1= []) (h3:e.2= []):Ser [] e:=by
 have np:∀ {P:Prop} {x:u0c},x∈e.1.2.1→P:=fun {P} {x} hx=>by rw[h1] at hx;cases hx
 have nr:∀ {P:Prop} {x:u0c},x∈e.1.2.2.1→P:=fun {P} {x} hx=>by rw[h2] at hx;cases hx
 have nh:∀ {P:Prop} {x:u0c},x∈([] :Hu u0c)→P:=fun {P} {x} hx=>by cases hx
 exact⟨hE,fun x hx=>nh hx,fun x hx=>nh hx,List.Pairwise.nil,by rw[h2,h3];exact List.Pairwise.nil,fun x hx=>nh hx,fun x hx=>np hx,fun x hx=>nh hx,fun x hx=>np hx,fun x hx=>nr hx,
  fun x hx=>nh hx,fun x hx=>nh hx,fun x hx=>nr hx,fun x hx=>nr hx,fun x hx=>nr hx,fun x hx=>nh hx,fun x hx=>nr hx,fun x hx=>nr hx⟩
theorem j7y:∃s,s6i ()=some s∧Life 0 [] s:=by
 obtain⟨d,h1,h2,h3⟩:=o5b
 have h0:s3c ()=some (o65, []):=by
  rw[p1e];unfold r34
  rw[q29];rfl
 have hE:EngR ((o65, []):u3e):=j8c.mp (by decide)
 have hL:Like0 o65 o65:=⟨by decide,rfl,rfl,rfl⟩
 refine⟨((o65, []),d),?_,Ser.start hE rfl rfl rfl,⟨o65,⟨hE,h2,by rw[h3];rfl,o3z,hL⟩,fun x hx=>by cases hx⟩,⟨?_,fun x hx=>by cases hx⟩,by simp⟩
 ·rw[p3v];unfold r77
  simp only[h0,h1,zOb]
 ·refine o06 (o1m (p4r _) _) (q7e _ _ _) fun k v=> ?_
  rw[q0q _ _ _ _ _ (fun x hx=>by cases hx)]
  constructor
  ·intro q
   have:=(A6.mp q).1
   cases this
  ·rintro⟨_,x,hx,_⟩
   cases hx
theorem d5b {es:Hu j4r.den} (z:d2a.den) (hn:es.length≤90) (he:∀e∈es,EvR e):∀(d i:Nat),i+d=es.length→u9h (es,z,true,(i:Int))=some (.inl (es,z,true)):=by
 intro d
 induction d with
 | zero=>
  intro i hi
  rw[r1x];simp only[t4x,u0b,show ¬i<es.length by omega,Ah,Aa,zOb]
 | succ d ih=>
  intro i hi
  have hlt:i<es.length:=by omega
  rw[r1x]
  simp only[t4x,u0b,hlt,Ae,Ad,y7t hlt,zTn,y8k (t:=j4r) hlt,o75 (he _ (Ag hlt)),zOb]
  rw[y7l (by omega)]
  exact ih (i+1) (by omega)
theorem d1u {es:Hu j4r.den} (z:d2a.den) (hn:es.length≤90) (he:∀e∈es,EvR e):∀(d i:Nat) {H:Hu u0c} {s:u01} {r:p9f},i+d=es.length→Life i H s→r.1.length≤1000+i→r.2.length≤1000+i→
 ∃(H' :Hu u0c) (s' :u01) (r' :p9f),u8b (es,z,(s,H,r),(i:Int))=some (.inl (z,(s',H',r')))∧Life es.length H' s' :=by
 intro d
 induction d with
 | zero=>
  intro i H s r hi hL r1 r2
  have hi:i=es.length:=by omega
  refine⟨H,s,r,?_,by rw[←hi];exact hL⟩
  rw[s8r];simp only[t20,u0b,show ¬i<es.length by omega,Ah,Aa]
 | succ d ih=>
  intro i H s r hi hL r1 r2
  have hlt:i<es.length:=by omega
  obtain⟨code,said,H',s',e1,e2⟩:=j5o hL (by omega) r (he _ (Ag hlt))
  have b1:Nat.ble (r.1.length+ [code].length) z7w=true:=p5u (by rw[Aw];omega)
  have b2:Nat.ble (r.2.length+ [said].length) z7w=true:=p5u (by rw[Aw];omega)
  rw[s8r]
  simp only[t20,u0b,hlt,Ae,Ad,y7t hlt,zTn,y8k (t:=j4r) hlt,e1,zOb,b1,b2]
  rw[y7l (by omega)]
  exact ih (i+1) (by omega) e2 (by simp only[Ba,Aw];omega) (by simp only[Ba,Aw];omega)
theorem j2w {es:Hu j4r.den} (hn:es.length≤74) (he:∀e∈es,EvR e):∃(H:Hu u0c) (s:u01) (r:p9f),s6g es=some ((s,H,r),true)∧Life 74 H s:=by
 obtain⟨s0,e0,h0⟩:=j7y
 have w0:s6k ()=some (s0, [], [], []):=by
  rw[p3x];unfold r8a
  simp only[e0,zOb]
 obtain⟨H,s,r,e1,hL⟩:=d1u (es:=es) ((((([], [], [],0,0), []),([], [])),([], [], [])):d2a.den) (by omega) he es.length 0 (H:= []) (s:=s0) (r:=([], [])) (by omega) h0 (by simp) (by simp)
 have e2:=d5b (es:=es) ((((([], [], [],0,0), []),([], [])),([], [], [])):d2a.den) (by omega) he es.length 0 (by omega)
 have e1:u8b (es,((((([], [], [],0,0), []),([], [])),([], [], [])):d2a.den),(s0, [],([], [])),(0:Int))=_:=e1
 have e2:u9h (es,((((([], [], [],0,0), []),([], [])),([], [], [])):d2a.den),true,(0:Int))=_:=e2
 refine⟨H,s,r,?_,hL.mono hn⟩
 rw[p3t];unfold r75
 have d:decide ((es.length:Int)≤90)=true:=Bb (by omega)
 simp only[d,e2,w0,e1,zOb,Ap,Aa]
theorem o95 {k:Nat} {H:Hu u0c} {s:u01} (h:Life k H s) (hk:k≤1000) (r:p9f):s27 (s,H,r)=some true:=by
 have hn:=h.few
 have sm:(H.map u0q.wt).sum≤H.length*50000:=s2s fun t ht=>(h.view.right t ht).tiny.wt
 have h1:(((s,H,r):d2a.den).2.1.map u0q.wt).sum≤100000000000:=by show(H.map u0q.wt).sum≤_;omega
 have h2:((s,H,r):d2a.den).2.1.length≤100000000000:=by show H.length≤_;omega
 have e1:=o8t (s,H,r) h1 h2
 rw[h.pastIt r] at e1
 have hv:s.1.1.1.length≤500000000000:=by have:=(j2n.mp h.ser.eng.base.vs).2.2;omega
 obtain⟨m,hm,hml⟩:∃m,m=s24 H∧m.length≤100000000000:=by
  rcases o52 (s,H,r) h1 with q | ⟨m,q,hm⟩
  ·rw[h.pastIt r] at q;cases q
  ·rw[h.pastIt r] at q
   unfold s5w at q
   have q:=Dj Prod.snd (Sum.inl.inj q)
   exact⟨m,q.symm,hm⟩
 rw[←hm] at e1
 have hvl:(s6r m o2q).length≤1099511627776:=A9 (Cs _ _) (by omega)
 have hall:((⟨#[97]⟩:Hs),(⟨#[122,122,122]⟩:Hs))=o2q:=rfl
 have heq:=h.view.eq
 rw[←hm] at heq
 have e3:=q70 (s6r m o2q) (t5y s.1.1.1 o2q s.1.1.2.2.2.1) hvl
 rw[heq] at e3
 rw[p0y];unfold r3p
 simp only[e1,s5w,zOb,q28,s8v,hall,p2m m o2q (by omega),r2i s.1.1.1 o2q _ hv,heq,e3,Ae]
theorem o90 {k:Nat} {H:Hu u0c} {s:u01} (h:Life k H s) (r:p9f):s25 (s,H,r)=some true:=by
 have hE:=h.ser.eng
 obtain⟨b,hY,_⟩:=h.disk
 have r1:=o97 s.2 (s1r hY.log)
 rw[hY.riseR] at r1
 have r3:=o99 hE hY.log
 rw[hY.storeOk] at r3
 have r4:=t3q s.1.1 [] hE.fewB (by simp)
 have r5:=o2b b (u2y s.1.1 []) hY.right.tiny (t8m hE.tinyO [])
 rw[hY.likeP] at r5
 rw[p0w];unfold r3n
 simp only[r1,r3,r4,r5,zOb,Ad]
theorem q8x (x:Hu Int) (hx:(Ty.sl (.int .u8)).fine x):s38 x=some true:=by
 rw[q05];unfold s3s
 rw[o8j];unfold p71
 simp only[zOb]
 by_cases hb:(x.length:Int) >1048576
 ·simp only[hb,Ae,Ad]
 simp only[hb,Ah,Aa]
 obtain⟨es,d1,d2,d3⟩:=o9q (l:=x) (by omega)
 obtain⟨H,s,r,d4,hL⟩:=j2w d2 d3
 obtain⟨u,ho,hu,hs⟩:=hL.sr
 have hE:=hL.ser.eng
 have hn:=hL.few
 have p1:∀t∈H,u0q.wt t≤u0m:=fun t ht=>by have:=(hL.view.right t ht).tiny.wt;unfold u0m;omega
 have p2:H.length+r3f H≤1048576:=by
  have:r3f H≤H.length*8:=s2s fun t ht=>(j46.mp (hL.view.right t ht).ws).2.2
  omega
 have p3:∀t∈H,t.2.2.2.2.1.length≤1048576:=fun t ht=>by have:=(hL.view.right t ht).rlen;omega
 have q1:=r3l p1 (by omega:H.length≤1048576)
 rw[ho] at q1
 have q2:=p0n p1 p2 p3
 rw[hs] at q2
 have q3:r2y (s,H,r)=some true:=by
  rw[p95];unfold q5k
  simp only[q2,zOb]
 have q4:=o95 hL (by omega) r
 have q5:=o90 hL r
 have vl:=(j2n.mp hE.base.vs).2.2
 have hfb:=hE.fewB
 have hsm:smallB s.1.1:=⟨by omega,⟨by have:=hE.base.plen;omega,hfb.2.1.2⟩,by have:=hE.base.rlen;omega,hfb.2.2.2⟩
 have q6:=o73 (s,H,r) hsm hE.fewO
 have hl:decide (((u11 u).length:Int)=(H.length:Int))=true:=by rw[u55,hu];simp
 simp only[d1,d4,q1,j06,q2,q3,q4,q5,q6,hl,zOb,Ad]
end
end
end Go.Proofs.YtkdpclfhapphhaaGreat.Ab
