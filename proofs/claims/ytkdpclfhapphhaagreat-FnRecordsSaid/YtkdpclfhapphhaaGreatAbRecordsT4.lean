import Derived.Test.YtkdpclfhapphhaaGreatAbRecordsT3
import Derived.Test.YtkdpclfhapphhaaGreatAbK2
import Derived.Test.YtkdpclfhapphhaaGreatAbF4
import Derived.Test.YtkdpclfhapphhaaGreatAbS2
import Derived.Test.YtkdpclfhapphhaaGreatAbS3
namespace Go.Proofs.YtkdpclfhapphhaaGreat.Ab
open Go
set_option linter.unusedVariables false
set_option linter.unusedSimpArgs false
set_option linter.unnecessarySimpa false
section
section
theorem p2a (b:u0i) (r:t8z) (hB:BaseR b) (hR:RecR r):s0n (b,r)=some (match u2f b r with
 | some x=>(x,true)
 | none=>(b,false)):=by
 have hb:=hB.tiny
 have thr:∀t:u0j,TxnR t→u4i (b,t)=some (u1n b t):=fun t ht=>by
  rw[r6b b t hb.few ht.tiny.few,q0k (q8y hB.cs) (r94 ht.id)]
 rw[q14];unfold r0t u2f
 cases hR with
 | thr t h hs=>
  simp only[Ae,Ad,Bl]
  rw[s3k (q8y hB.cs),thr t h]
  by_cases q:t.2.2.2.1=b.2.2.2.1+1
  ·rw[Bb q,Al q];rfl
  ·rw[A7 q,Ao q];rfl
 | rdy t h hs=>
  simp only[show decide ((2:Int)=1)=false from rfl,show((2:Int)=1)=False by simp,Ae,Ah,Ad,Aa,Bl,Bk]
  rw[t5m b _ (by have:=hB.rlen;omega)]
  simp only[zOb]
  rw[s9m b t _ hb.few h.tiny.few (r94 h.id)]
  simp only[zOb]
  by_cases q:b.2.2.1.length<3
  ·rw[A7 (show ¬(b.2.2.1.length:Int)≥3 by omega)]
   simp only[Aa,zOb]
   by_cases q2:u07 b t.2.2.2.2.2.2.2<0
   ·rw[A7 (show ¬u07 b t.2.2.2.2.2.2.2≥0 by omega),Al ⟨q,q2⟩];rfl
   ·rw[Bb (show u07 b t.2.2.2.2.2.2.2≥0 by omega),Ao (fun z=>q2 z.2)];rfl
  ·rw[Bb (show(b.2.2.1.length:Int)≥3 by omega),Ao (fun z=>q z.1)];rfl
 | fin n y h=>
  simp only[show decide ((3:Int)=1)=false from rfl,show decide ((3:Int)=2)=false from rfl,show((3:Int)=1)=False by simp,show((3:Int)=2)=False by simp,Ae,Ah,Ad,Aa,Bl,Bk]
  rw[t5m b _ (by have:=hB.rlen;omega)]
  simp only[zOb]
  by_cases q:u07 b n<0
  ·rw[Bb q,Al q];rfl
  ·rw[A7 q,Ao q]
   simp only[Aa]
   rw[r56 b n hb.few]
   simp only[zOb]
   have hk:(u07 b n).toNat<b.2.2.1.length:=by
    unfold u07 at q ⊢
    split
    ·rename_i z;rw[zTn];exact z
    ·rename_i z;rw[Ao z] at q;omega
   obtain⟨k,hkk⟩:∃k:Nat,u07 b n=k:=⟨(u07 b n).toNat,by omega⟩
   have hg:y4q (u07 b n) b.2.2.1.length=true:=by rw[hkk];exact y7t (by rw[hkk] at hk;simpa using hk)
   have hT:TxnR (rdL u1b b.2.2.1 (u07 b n).toNat):=by
    rw[y8k hk];exact(hB.ready _ (Ag hk)).1
   rw[hg,thr _ hT]
   cases y
   ·rfl
   ·rfl
 | bas c h=>
  simp only[show decide ((4:Int)=1)=false from rfl,show decide ((4:Int)=2)=false from rfl,show decide ((4:Int)=3)=false from rfl,show((4:Int)=1)=False by simp,show((4:Int)=2)=False by simp,show((4:Int)=3)=False by simp,Ah,Aa,Bk]
  rw[t2q c h.tiny.few];rfl
theorem p40 {b:u0i} {r:t8z} {x:u0i} (hB:BaseR b) (hR:RecR r) (h:u2f b r=some x):tinyB x:=by
 unfold u2f at h
 cases hR with
 | thr t ht hs=>
  simp only[Bl] at h
  split at h
  ·rw[←Ds h];exact s8m hB ht.tiny
  ·cases h
 | rdy t ht hs=>
  simp only[show((2:Int)=1)=False by simp,Bl,Bk] at h
  split at h
  ·rw[←Ds h];exact q3b hB ht.tiny (by have:=u2q (ht.name hs);omega)
  ·cases h
 | fin n y hn=>
  simp only[show((3:Int)=1)=False by simp,show((3:Int)=2)=False by simp,Bl,Bk] at h
  split at h
  ·cases h
  ·rename_i q
   have hk:(u07 b n).toNat<b.2.2.1.length:=by
    unfold u07 at q ⊢
    split
    ·rename_i z;rw[zTn];exact z
    ·rename_i z;rw[Ao z] at q;omega
   split at h
   ·rw[←Ds h]
    refine s8m hB ?_
    rw[y8k hk];exact(hB.ready _ (Ag hk)).1.tiny
   ·rw[←Ds h];exact q24 hB.tiny
 | bas c hc=>
  simp only[show((4:Int)=1)=False by simp,show((4:Int)=2)=False by simp,show((4:Int)=3)=False by simp,Bk] at h
  rw[←Ds h];exact hc.tiny
theorem q8f (b:u0i) (r:t8z) (hb:tinyB b) (hr:tinyR r):s28 (b,r)=some (r5w b r):=by
 have hq:u0l=1099511627776:=rfl
 rw[q4p];unfold r3a
 simp only
 rw[t2h b (by have:=hb.wt;omega),s2u r hr.wt,t2q b hb.few]
 simp only[zOb]
 cases h1:u4v b
 ·unfold r5w u6i
  rw[Ao (by simp[h1])];rfl
 ·cases h2:u3s r
  ·unfold r5w u6i
   rw[Ao (by simp[h2])];rfl
  ·have hB:=q2w.mp h1
   have hR:=p50.mp h2
   simp only[Ap,Aa,zOb]
   rw[p2a b r hB hR]
   simp only[zOb]
   unfold r5w u6i
   rw[Al ⟨h1,h2⟩]
   cases hx:u2f b r with
   | none=>rfl
   | some x=>
    have h3:=p40 hB hR hx
    simp only[Ap,Aa]
    rw[s2v _ _ h3.few (by simp)]
    simp only[zOb]
    rw[t2h _ (by have:=(q9b h3 []).wt;omega)]
    simp only[zOb]
    cases u4v (u4y x [])<;>rfl
theorem q94 {b x:u0i} {r:t8z} (h:u6i b r=some x):BaseR x∧RecR r:=by
 unfold u6i at h
 split at h
 ·rename_i q
  split at h
  ·cases h
  ·split at h
   ·rename_i z
    rw[←Ds h]
    exact⟨q2w.mp z,p50.mp q.2⟩
   ·cases h
 ·cases h
theorem q3c (t:Hs):tinyR (t2p t).1:=by
 unfold t2p
 cases h:u2r t with
 | none=>exact p4q
 | some r=>exact(s3c h).1.tiny
theorem p4k (b:u0i) (t:Hs) (l:Hu Hs):t72 b (t::l)=bif !(t2p t).2 || !(r5w b (t2p t).1).2 then none else t72 (r5w b (t2p t).1).1 l:=by
 unfold t2p r5w
 simp only[t72]
 cases u2r t with
 | none=>rfl
 | some r=>
  simp only
  cases u6i b r with
  | none=>rfl
  | some x=>rfl
def p2x (l:Hu Hs):u0i×Bool:=match t0p l with
 | some b=>(b,true)
 | none=>(u2k,false)
theorem q57 (d:u0k) (hd:o3d.wt d≤1073741824) (ht:∀t∈u0m d,t.size≤u0l) (hl:(u0m d).length≤1000000):t5c d=some (p2x (u0m d)):=by
 have L:=r7d u3w (u0m d).length (fun(b:u0i) i=>(u2k,b,u0m d,i)) (fun i b=>match t72 b ((u0m d).drop i) with
  | some x=> .inl (u2k,x)
  | none=> .inr (u2k,false)) (fun _ b=>BaseR b)
  (fun b hb=>by
   rw[s5v];simp only[t1k,u0b,Am,Ah,Aa]
   rw[F5];rfl)
  (fun i b hi hb=>by
   have hm:=Ag hi
   have hd:(u0m d).drop i=(u0m d)[i] ::(u0m d).drop (i+1):=Ce hi
   have hw:u3w (u2k,b,u0m d,(i:Int))=bif !(t2p (u0m d)[i]).2 || !(r5w b (t2p (u0m d)[i]).1).2 then some (.inr (u2k,false)) else u3w (u2k,(r5w b (t2p (u0m d)[i]).1).1,u0m d,((i+1:Nat):Int)):=by
    rw[s5v];simp only[t1k,u0b,hi,Ae,Ad,y7t hi,zTn,y8k (t:=Ty.str) hi,y7l (show i<4611686018427387904 by omega)]
    rw[s6i _ (ht _ hm)]
    simp only[zOb]
    rw[q8f b _ hb.tiny (q3c _)]
    simp only[zOb]
    cases (t2p (u0m d)[i]).2<;>cases (r5w b (t2p (u0m d)[i]).1).2<;>rfl
   rw[hw,hd,p4k]
   cases hc:(!(t2p (u0m d)[i]).2 || !(r5w b (t2p (u0m d)[i]).1).2)
   ·refine .inr ⟨(r5w b (t2p (u0m d)[i]).1).1,?_,?_,rfl⟩
    ·unfold r5w at hc ⊢
     cases hp:u6i b (t2p (u0m d)[i]).1 with
     | none=>rw[hp] at hc;simp at hc
     | some x=>exact(q94 hp).1
    ·simp only[Aa]
   ·exact .inl rfl) 0 q78 (Cn _) q9z
 rw[q1f];unfold s93
 rw[r02];unfold s9w
 rw[q3u d hd]
 simp only[zOb]
 have L' :u3w ((([], [], [],0,0):u0i),(([], [], [],0,1):u0i),u0m d,0)=_:=L
 rw[L',Fh]
 unfold p2x t0p
 cases t72 q78 (u0m d)<;>rfl
end
section
theorem q7u (t:Hs) (a:Int):(u0p t a).1.size≤20000:=by
 unfold u0p
 split
 ·rename_i hc
  have:=t20 hc.1
  simp only[Bd];omega
 ·exact Cn _
theorem r6q (t:Hs):∀(m:Nat) (a:Int) (acc:Hu Hs),(∀s∈acc,s.size≤20000)→ ∀s∈(u5j t m a acc).1,s.size≤20000
 | 0,a,acc,h=>h
 | m+1,a,acc,h=>by
  unfold u5j
  split
  ·refine r6q t m _ _ fun s hs=> ?_
   rcases Ay.mp hs with q | q
   ·exact h s q
   ·rw[Ax.mp q];exact q7u _ _
  ·intro s hs;cases hs
theorem q2j (d:u0k) (a:Int):∀s∈(u0c d a).1,s.size≤20000:=by
 unfold u0c
 split
 ·exact r6q _ _ _ _ fun s hs=>by cases hs
 ·intro s hs;cases hs
theorem q2g (d:u0k):∀s∈u0m d,s.size≤20000:=q2j d _
theorem q7h (d:u0k):(u0m d).length<256:=q7s d _
theorem p0q (d:u0k) (hd:o3d.wt d≤1073741824):t5c d=some (p2x (u0m d)):=
 q57 d hd (fun t ht=>by have:=q2g d t ht;unfold u0l;omega) (by have:=q7h d;omega)
theorem q93:∀ {l:Hu Hs} {b x:u0i},BaseR b→t72 b l=some x→BaseR x
 | [],b,x,hb,h=>by rw[←Ds h];exact hb
 | t::l,b,x,hb,h=>by
  simp only[t72] at h
  split at h
  ·cases h
  ·split at h
   ·cases h
   ·rename_i r _ y hy
    exact q93 (q94 hy).1 h
theorem q7o {l:Hu Hs} {x:u0i} (h:t0p l=some x):BaseR x:=q93 q9z h
theorem p2y (l:Hu Hs):tinyB (p2x l).1:=by
 unfold p2x
 cases h:t0p l with
 | none=>exact u3v
 | some b=>exact(q7o h).tiny
end
section
theorem p32 {y:Hs} (h:y∈K5):u4z y=true:=by
 simp only[K5,A8,Ep,Em] at h
 rcases h with rfl | rfl | rfl | rfl | rfl<;>decide
theorem q3t {s:Src} (h:s.ok):Dr (u2z s) (fun y=>y∈K5):=by
 rw[r35];unfold s2w
 obtain⟨y,s1,e1,k1,r1⟩:=s6f h (l:=K5) (by decide)
 have e1:u1g (s, [(⟨#[97]⟩:Hs),(⟨#[98]⟩:Hs),(⟨#[99]⟩:Hs),(⟨#[100]⟩:Hs),(⟨#[97,98]⟩:Hs)])=_:=e1
 simp only[e1,zOb]
 exact⟨_,_,rfl,k1,r1⟩
def o2y (r:t80):Prop:=r.1∈K5∧r.2∈K5∧u18 r=true
theorem q81 {a b:Hs} (ha:a∈K5) (hb:b∈K5) (h:y3c b a=false):o2y (a,b):=by
 refine⟨ha,hb,?_⟩
 unfold u18
 simp only[p32 ha,p32 hb,Bz,Cr]
 rcases r2j a b with q | rfl | q
 ·exact .inl q
 ·exact .inr (by simp[z7o])
 ·rw[q] at h;cases h
theorem p2b {s:Src} (h:s.ok):Dr (u3h s) o2y:=by
 rw[s7s];unfold t7l
 obtain⟨y1,s1,e1,k1,r1⟩:=q3t h
 obtain⟨y2,s2,e2,k2,r2⟩:=s2q k1 (n:=2) (by omega)
 obtain⟨y3,s3,e3,k3,r3⟩:=q3t k2
 simp only[e1,e2,e3,zOb]
 cases y2 with
 | true=>exact⟨_,_,rfl,k2,q81 r1 r1 (u7y _)⟩
 | false=>
  simp only[Aa]
  cases hc:y3c y3 y1 with
  | true=>exact⟨_,_,rfl,k3,q81 r3 r1 (s3f hc)⟩
  | false=>exact⟨_,_,rfl,k3,q81 r1 r3 hc⟩
def o3j (w:WrT):Prop:=w.1∈K5∧u19 w=true
theorem q6i {s:Src} (h:s.ok):Dr (u20 s) o3j:=by
 rw[s7t];unfold t7m
 obtain⟨y1,s1,e1,k1,r1⟩:=q3t h
 obtain⟨y2,s2,e2,k2,r2⟩:=s6f k1 (l:= [(⟨#[111,110,101]⟩:Hs),(⟨#[116,119,111]⟩:Hs),(⟨#[]⟩:Hs),(⟨#[120,0]⟩:Hs)]) (by decide)
 obtain⟨y3,s3,e3,k3,r3⟩:=s2q k2 (n:=5) (by omega)
 simp only[e1,e2,e3,zOb]
 have hz:y2.size≤12:=by
  simp only[A8,Ep,Em] at r2
  rcases r2 with rfl | rfl | rfl | rfl<;>decide
 have hk:=p32 r1
 cases y3 with
 | true=>exact⟨_,_,rfl,k3,r1,by simp[u19,hk,emp,ByteArray.size]⟩
 | false=>exact⟨_,_,rfl,k3,r1,by simp[u19,hk,hz]⟩
theorem p0u {s:Src} (h:s.ok):Dr (u7s s) (fun y=>u22 y=true∧ ∀w∈y,w.1∈K5):=by
 have key:∀(d i:Nat) (s:Src) (a:Hu WrT),s.ok→a.length≤i→4≤i+d→i≤3→u22 a=true→(∀w∈a,w.1∈K5)→
  ∃(s' :Src) (a' :Hu WrT),u2w (s,a,(i:Int))=some (.inl (s',a'))∧s'.ok∧u22 a' =true∧ ∀w∈a',w.1∈K5:=by
  intro d
  induction d with
  | zero=>intro i s a _ _ h1 h2;omega
  | succ d ih=>
   intro i s a hs ha hd hi hr hk
   obtain⟨y,s1,e1,k1,r1⟩:=u1t hs (n:=4) (by omega)
   rw[t94]
   simp only[u78,e1,zOb]
   by_cases hy:(i:Int)<y
   ·obtain⟨y2,s2,e2,k2,r2,r3⟩:=q6i k1
    have hl:=q5e a y2
    simp only[hy,Ae,Ad,e2,zOb,s2s a y2 (by omega)]
    rw[y7l (by omega)]
    exact ih (i+1) s2 (q0t a y2) k2 (by omega) (by omega) (by omega) (q83 hr r3 (by omega)) (fun w hw=>by
     rcases r4h hw with q | q
     ·exact hk w q
     ·rw[q];exact r2)
   ·simp only[hy,Ah,Aa]
    exact⟨_,_,rfl,k1,hr,hk⟩
 obtain⟨s',a',e1,k1,r1,r2⟩:=key 4 0 s [] h (by simp) (by omega) (by omega) (by decide) (fun w hw=>by cases hw)
 rw[s4d];unfold t55
 have e1:u2w (s, [],0)=_:=e1
 simp only[e1,zOb]
 exact⟨_,_,rfl,k1,r1,r2⟩
end
section
theorem u5x (b:u0i) (o:Hu u0j) (hb:fewB b) (ho:p01 o):u0n (b,o)=some (b,o):=by
 have h1:=t2q b hb
 have h2:=r1t o ho
 rw[q16];unfold r0v
 simp only[h1,h2,zOb]
end
section
theorem EngR.ot {e:u2s} (h:EngR e) {t:u0j} (ht:t∈e.2):tinyT t:=(h.open_ t ht).1.tiny
theorem EngR.fewO {e:u2s} (h:EngR e):p01 e.2:=r4o (by have:=h.olen;omega) fun t ht=>h.ot ht
theorem EngR.tinyO {e:u2s} (h:EngR e):tinyB e.1:=h.base.tiny
theorem EngR.fewB {e:u2s} (h:EngR e):Ab.fewB e.1:=h.base.tiny.few
theorem EngR.oth {e:u2s} (h:EngR e):∀t∈t70 e,tinyT t:=fun t ht=>by
 rcases Ay.mp ht with q | q
 ·exact(h.base.past t q).1.tiny
 ·exact(h.base.ready t q).1.tiny
theorem EngR.fewOth {e:u2s} (h:EngR e):p01 (t70 e):=r4o (by have:=h.base.plen;have:=h.base.rlen;simp only[t70,Ba];omega) h.oth
theorem t2i (e:u2s) (id:Int) (h:e.2.length≤4194304):u4d (e,id)=some (t0w e.2 id):=by
 have L:=r7d u8u (u1o (fun x:u0j=>decide (x.1=id)) e.2) (fun(_:Unit) i=>(id,e,i)) (fun _ _=>if u1o (fun x:u0j=>decide (x.1=id)) e.2<e.2.length then .inr ((u1o (fun x:u0j=>decide (x.1=id)) e.2:Nat):Int) else .inl ()) (fun _ _=>True)
  (fun a _=>by
   have hle:=t39 (fun x:u0j=>decide (x.1=id)) e.2
   rw[s8u]
   by_cases hk:u1o (fun x:u0j=>decide (x.1=id)) e.2<e.2.length
   ·have hy:=u8z hk
    simp only[u8n,u0b,hk,Ae,Ad,y7t hk,zTn,y8k (t:=u1b) hk,hy,Bl]
   ·simp only[u8n,u0b,hk,Ah,Aa,Bk])
  (fun i a hi _=> .inr ⟨(),trivial,rfl,by
   have hle:=t39 (fun x:u0j=>decide (x.1=id)) e.2
   have hil:i<e.2.length:=by omega
   have hn:=t69 hil hi
   rw[s8u]
   simp only[u8n,u0b,hil,Ae,Ad,y7t hil,zTn,y8k (t:=u1b) hil,hn,Aa]
   rw[y7l (by omega)]⟩) 0 () (Cn _) trivial
 have L:u8u (id,e,0)=_:=L
 rw[q4n];unfold r28 t0w
 simp only[L,zOb]
 by_cases hk:u1o (fun x:u0j=>decide (x.1=id)) e.2<e.2.length
 ·simp only[Al hk]
 ·simp only[Ao hk]
theorem p2m {e:u2s} :(decide ((e.2.length:Int)≥4)= !decide (e.2.length<4))∧(decide (e.1.2.2.2.2≥9999)= !decide (e.1.2.2.2.2<9999)):=by
 constructor
 ·by_cases h:e.2.length<4<;>simp[h] <;>omega
 ·by_cases h:e.1.2.2.2.2<9999<;>simp[h] <;>omega
theorem p0j {e:u2s} (h:EngR e):t2x e=some (s08 e):=by
 have ho:=h.olen
 have hn:=h.base.next
 have h1:=u5x e.1 e.2 h.fewB h.fewO
 have h2:=q3r e (by have:=h.tinyO.wt;have:=q5o (l:=e.2) (by omega) (fun t ht=>h.ot ht);have:=p5u e;omega)
 have h1:u0n e=some e:=h1
 have hk:=p79.mpr h
 rw[q6z];unfold r6g s08
 simp only[h1,h2,hk,zOb,Ap,Aa,p2m.1,p2m.2,Aw,u1c (show e.2.length+1≤1099511627776 by omega),Ad]
 by_cases c1:e.2.length<4
 ·by_cases c2:e.1.2.2.2.2<9999
  ·simp only[c1,c2,Ae,Ap,Aa,zOb,and_self,Bl,s3k (n:=e.1.2.2.2.2) (r94 hn)]
   rfl
  ·simp only[c1,c2,Ae,Ah,Ap,Bh,Aa,Ad,zOb,and_false,Bk]
 ·simp only[c1,Ah,Bh,Ad,zOb,false_and,Bk]
theorem o3e (l:Hu t80) (r:t80):(l.any fun x=>z7o x.1 r.1&&(z7o x.2 r.2&&true))=p9l l r:=by
 unfold p9l;simp only[Cz]
theorem s9n {t:u0j} {r:t80} (ht:TxnR t) (h1:t.2.1=1) (hr:u18 r=true):t2d (t,r)=some (t8x t r):=by
 have hy:=ht.tiny
 have hw:=hy.wt
 have hl:=ht.rlen
 have c0:=u63 t hy.few
 have c1:=t2t t (by unfold u0l;omega)
 have k:=u2q (s:=r.1) (by unfold u18 at hr;simp only[Ai] at hr;exact hr.1)
 have k' :=u2q (s:=r.2) (by unfold u18 at hr;simp only[Ai] at hr;exact hr.2.1)
 have c2:=s6g r (by unfold u0l;omega) (by unfold u0l;omega)
 have ok:=r4r.mpr ht
 have L:=s6c u5h t.2.2.2.2.1 (fun i=>(t,r,(u4e:u0j),t,i)) (fun x=>z7o x.1 r.1&&(z7o x.2 r.2&&true)) (.inr (t,true)) (.inl (t,r,u4e,t))
  (by rw[t93];simp only[u77,u0b,Am,Ah,Aa])
  (fun i hi=>by
   rw[t93]
   simp only[u77,u0b,hi,Ae,Ad,y7t hi,zTn,y8k (t:=u8f) hi]
   rw[y7l (by omega)])
 rw[o3e] at L
 have L:u5h (t,r,((0,0,0,0, [], [],false,(⟨#[]⟩:Hs)):u0j),t,0)=_:=L
 rw[r7t];unfold s33 t8x
 simp only[c0,c1,c2,ok,hr,h1,zOb,Ae,Ap,Aa,L]
 cases p9l t.2.2.2.2.1 r
 ·have e8:decide ((t.2.2.2.2.1.length:Int)≥8)= !decide (t.2.2.2.2.1.length<8):=by by_cases c:t.2.2.2.2.1.length<8<;>simp[c] <;>omega
  simp only[Aa,e8,Br,Bk]
  by_cases c:t.2.2.2.2.1.length<8
  ·simp only[c,Ae,Ap,Aa,Aw,u1c (show t.2.2.2.2.1.length+1≤1099511627776 by omega),Ad,Bl]
   rfl
  ·simp only[c,Ah,Bh,Ad,Bk]
 ·rfl
theorem q5w {l:Hu WrT} {w:WrT} (h:u22 l=true) (hw:u19 w=true):u22 (q0t l w)=decide ((q0t l w).length≤8):=by
 by_cases c:(q0t l w).length≤8
 ·rw[q83 h hw c,Bb c]
 ·rw[A7 c]
  cases q:u22 (q0t l w)
  ·rfl
  ·exact absurd (p52.mp q).2.2 c
theorem q5v {w:WrT} (h:u19 w=true):w.1.size≤3∧w.2.1.size≤12:=by
 unfold u19 at h
 simp only[Ai,Ar] at h
 exact⟨(u2q h.1).2,h.2.1⟩
theorem p3s {l:Hu WrT} (hn:l.length≤1000) (h:∀w∈l,u19 w=true):(Ty.sl u1x).wt l≤20000:=by
 have e:(Ty.sl u1x).wt l=l.length+(l.map u1x.wt).sum:=rfl
 have s:=s12 (f:=u1x.wt) (k:=15) (l:=l) fun w hw=>by
  have:=q5v (h w hw)
  have e:u1x.wt w=w.1.size+(w.2.1.size+0):=rfl
  omega
 omega
theorem p29 {l:Hu WrT} {w:WrT} (h:u22 l=true) (hw:u19 w=true):∀x∈q0t l w,u19 x=true:=fun x hx=>by
 rcases r4h hx with q | q
 ·exact(p52.mp h).1 x q
 ·rw[q];exact hw
theorem q3z {t:u0j} {w:WrT} (ht:TxnR t) (h1:t.2.1=1) (hw:u19 w=true):t8c (t,w)=some (s6a t w):=by
 have hy:=ht.tiny
 have ht8:=(p52.mp ht.ws).2.2
 have hl:=q5e t.2.2.2.2.2.1 w
 have c0:=u63 t hy.few
 have c1:=t2t t (by have:=hy.wt;unfold u0l;omega)
 have c2:=s6o w (by have:=q5v hw;unfold u0l;omega)
 have c3:=s2s t.2.2.2.2.2.1 w (by omega)
 have c4:=r2v (q0t t.2.2.2.2.2.1 w) (by have:=p3s (l:=q0t t.2.2.2.2.2.1 w) (by omega) (p29 ht.ws hw);unfold u0l;omega)
 have ok:=r4r.mpr ht
 rw[r9k];unfold s7d s6a
 simp only[c0,c1,c2,c3,c4,ok,hw,h1,zOb,Ae,Ap,Aa,q5w ht.ws hw]
 by_cases c:(q0t t.2.2.2.2.2.1 w).length≤8
 ·simp only[c,Ae,Ap,Aa,Bl]
  unfold o0p
  rw[h1]
 ·simp only[c,Ah,Bh,Ad,Bk]
end
section
def s8b (t:u0j) (l:Hu u2b) (k:Hs):Hs×Bool:=
 if u1o (fun w:WrT=>z7o w.1 k) t.2.2.2.2.2.1<t.2.2.2.2.2.1.length then
  (if(rdL u1x t.2.2.2.2.2.1 (u1o (fun w:WrT=>z7o w.1 k) t.2.2.2.2.2.1)).2.2=true then(emp,false) else((rdL u1x t.2.2.2.2.2.1 (u1o (fun w:WrT=>z7o w.1 k) t.2.2.2.2.2.1)).2.1,true))
 else q99 l k t.2.2.1
def r97 (t:u0j) (l:Hu u2b) (r:t80):Hu PrT:=
 ((q5a (l.map (fun v=>v.1)++t.2.2.2.2.2.1.map fun w=>w.1)).filter fun k=>(s8b t l k).2&&inR r k).map fun k=>(k,(s8b t l k).1)
theorem r8l (t:u0j) (l:Hu u2b) (k:Hs) (ht:q2c t) (hl:l.length≤4194304):t63 (t,l,k)=some (s8b t l k):=by
 have h8:=ht.2
 have L:=r7d u8v (u1o (fun w:WrT=>z7o w.1 k) t.2.2.2.2.2.1) (fun(_:Unit) i=>(l,k,t,i)) (fun _ _=>if u1o (fun w:WrT=>z7o w.1 k) t.2.2.2.2.2.1<t.2.2.2.2.2.1.length then .inr (if(rdL u1x t.2.2.2.2.2.1 (u1o (fun w:WrT=>z7o w.1 k) t.2.2.2.2.2.1)).2.2=true then(emp,false) else((rdL u1x t.2.2.2.2.2.1 (u1o (fun w:WrT=>z7o w.1 k) t.2.2.2.2.2.1)).2.1,true)) else .inl (l,k,t)) (fun _ _=>True)
  (fun a _=>by
   have hle:=t39 (fun w:WrT=>z7o w.1 k) t.2.2.2.2.2.1
   rw[s8v]
   by_cases hk:u1o (fun w:WrT=>z7o w.1 k) t.2.2.2.2.2.1<t.2.2.2.2.2.1.length
   ·have hy:=u8z hk
    simp only[u8o,u0b,hk,Ae,Ad,y7t hk,zTn,y8k (t:=u1x) hk,hy,Bl]
    cases (t.2.2.2.2.2.1[u1o (fun w:WrT=>z7o w.1 k) t.2.2.2.2.2.1]).2.2<;>rfl
   ·simp only[u8o,u0b,hk,Ah,Aa,Bk])
  (fun i a hi _=> .inr ⟨(),trivial,rfl,by
   have hle:=t39 (fun w:WrT=>z7o w.1 k) t.2.2.2.2.2.1
   have hil:i<t.2.2.2.2.2.1.length:=by omega
   have hn:=t69 hil hi
   rw[s8v]
   simp only[u8o,u0b,hil,Ae,Ad,y7t hil,zTn,y8k (t:=u1x) hil,hn,Aa]
   rw[y7l (by omega)]⟩) 0 () (Cn _) trivial
 have L:u8v (l,k,t,0)=_:=L
 rw[q4o];unfold r29 s8b
 simp only[L,zOb]
 by_cases hk:u1o (fun w:WrT=>z7o w.1 k) t.2.2.2.2.2.1<t.2.2.2.2.2.1.length
 ·simp only[Al hk]
 ·simp only[Ao hk,q8h l k _ (show l.length≤1099511627776 by omega),zOb]
theorem q56 (t:u0j) (l:Hu u2b) (r:t80) (ht:q2c t) (hl:l.length≤4194304):s0e (t,l,r)=some (r97 t l r):=by
 have h8:=ht.2
 have L:=t2v u7h t.2.2.2.2.2.1 (fun(a:Hu u2b) i=>(l,t,r,a,i)) (fun a (w:WrT)=>a++ [((w.1,emp,false,(0:Int)):u2b)]) (fun a=> .inl (l,t,r,a)) (fun i a=>a.length=l.length+i)
  (fun a _=>by rw[s5t];simp only[t1i,u0b,Am,Ah,Aa])
  (fun i hi a ha=>⟨by simp[ha];omega,by
   rw[s5t]
   simp only[t1i,u0b,hi,Ae,Ad,y7t hi,zTn,y8k (t:=u1x) hi,Aw,u1c (show a.length+1≤1099511627776 by omega)]
   rw[y7l (by omega)]
   rfl⟩) l rfl
 have fo:∀(ws:Hu WrT) (a:Hu u2b),ws.foldl (fun a (w:WrT)=>a++ [((w.1,emp,false,(0:Int)):u2b)]) a=a++ws.map fun w=>((w.1,emp,false,(0:Int)):u2b):=by
  intro ws
  induction ws with
  | nil=>intro a;simp
  | cons w ws ih=>intro a;rw[Bs,ih,C8,Bi];rfl
 rw[fo] at L
 obtain⟨all,ha⟩:∃all,all=l++t.2.2.2.2.2.1.map fun w:WrT=>((w.1,emp,false,(0:Int)):u2b):=⟨_,rfl⟩
 rw[←ha] at L
 have hal:all.length≤6000000:=by rw[ha];simp;omega
 have hmap:all.map (fun v=>v.1)=l.map (fun v=>v.1)++t.2.2.2.2.2.1.map fun w=>w.1:=by
  rw[ha,Dh,List.map_map];rfl
 obtain⟨ks,hks⟩:∃ks,ks=(q5a (all.map fun v=>v.1)).filter fun k=>inR r k:=⟨_,rfl⟩
 have hkl:ks.length≤all.length:=by
  rw[hks]
  refine A9 (Cs _ _) (A9 (p2w _) (by simp))
 have L2:=s6n t12 ks (fun a i=>(l,t,a,ks,i)) (fun k=>(s8b t l k).2) (fun k=>(k,(s8b t l k).1)) (fun a=> .inl a) (by omega)
  (fun a _=>by rw[s5u];simp only[t1j,u0b,Am,Ah,Aa])
  (fun i hi a ha=>by
   rw[s5u];simp only[t1j,u0b,hi,Ae,Ad,y7t hi,zTn,y8k (t:=Ty.str) hi,r8l t l _ ht hl,zOb,Aw,u1c (show a.length+1≤1099511627776 by omega)]
   rw[y7l (by omega)])
 have L:u7h (l,t,r,l,0)=_:=L
 rw[q1e];unfold s92
 simp only[Cc,Co,Cf,u1c (show l.length≤1099511627776 by omega),Ad,L,zOb,p18 all r (show all.length≤500000000000 by omega)]
 rw[←hks]
 simp only[L2,zOb]
 rw[hks,List.filter_filter,hmap]
 rfl
theorem q98 {k:Hs} :u18 (k,k)=u4z k:=by
 unfold u18
 have:z7o k k=true:=by simp[z7o]
 rw[this,Ew,Cz,Dt]
def o0l (e:u2s) (id:Int) (k:Hs):u2s×Hs×Bool×Int:=
 if(t8w e id (k,k) (u4z k)).2=0 then((t8w e id (k,k) (u4z k)).1,(s8b (u2x e id) e.1.1 k).1,(s8b (u2x e id) e.1.1 k).2,0)
 else((t8w e id (k,k) (u4z k)).1,emp,false,(t8w e id (k,k) (u4z k)).2)
def p6y (e:u2s) (id:Int) (r:t80):u2s×Hu PrT×Int:=
 if(t8w e id r (u18 r)).2=0 then((t8w e id r (u18 r)).1,r97 (u2x e id) e.1.1 r,0) else((t8w e id r (u18 r)).1, [],(t8w e id r (u18 r)).2)
theorem q0a {t:u0j} {r:t80} :(t8x t r).1.2.2.1=t.2.2.1∧(t8x t r).1.2.2.2.2.2.1=t.2.2.2.2.2.1:=by
 unfold t8x
 split
 ·exact⟨rfl,rfl⟩
 ·split<;>exact⟨rfl,rfl⟩
theorem r96 (t:u0j) (r:t80) (l:Hu u2b) (k:Hs):s8b (t8x t r).1 l k=s8b t l k:=by
 unfold s8b;rw[q0a.1,q0a.2]
theorem q7n (t:u0j) (r q:t80) (l:Hu u2b):r97 (t8x t r).1 l q=r97 t l q:=by
 unfold r97;rw[q0a.2];simp only[r96]
theorem q7t {t:u0j} {r:t80} (h:tinyT t):q2c (t8x t r).1:=by
 unfold t8x
 split
 ·exact h.few
 ·split
  ·refine⟨?_,h.few.2⟩
   show(t.2.2.2.2.1++ [r]).length≤1048576
   have:=h.rl
   simp;omega
  ·exact h.few
theorem q8c {e:u2s} (h:EngR e) (id:Int) {k:Hs} (hk:k.size≤1048576):t0a (e,id,k)=some (o0l e id k):=by
 have ho:=h.olen
 have h1:u0n e=some e:=u5x e.1 e.2 h.fewB h.fewO
 have h2:=t2i e id (by omega)
 have h3:=t2r k (by unfold u0l;omega)
 rw[q4l];unfold r26 o0l t8w
 simp only[h1,h2,h3,zOb]
 by_cases hn:t0w e.2 id<0
 ·simp only[hn,Ae,Ad,Bl]
  rfl
 ·obtain⟨j,hj,e1,e2,e3⟩:=u1v hn
  have hR:=h.open_ _ (Ag hj)
  simp only[hn,Ah,Aa,Bk]
  cases hok:u4z k with
  | false=>rfl
  | true=>
   have c:=s9n (r:=(k,k)) hR.1 hR.2.1 (by rw[q98];exact hok)
   simp only[Ap,Aa,e1,y7t hj,Ad,zTn,y8k (t:=u1b) hj,c,zOb,e2,Fm,Bk]
   cases hr:(t8x e.2[j] (k,k)).2 with
   | false=>rfl
   | true=>
    have g:=r8l (t8x e.2[j] (k,k)).1 e.1.1 k (q7t hR.1.tiny) (by have:=h.tinyO.vl;omega)
    simp only[Ap,Aa,g,zOb,Bl,r96]
    rfl
theorem q3v {e:u2s} (h:EngR e) (id:Int) {r:t80} (hk:r.1.size≤1048576∧r.2.size≤1048576):u6d (e,id,r)=some (p6y e id r):=by
 have ho:=h.olen
 have h1:u0n e=some e:=u5x e.1 e.2 h.fewB h.fewO
 have h2:=t2i e id (by omega)
 have h3:=s6g r (by unfold u0l;omega) (by unfold u0l;omega)
 rw[r9h];unfold s69 p6y t8w
 simp only[h1,h2,h3,zOb]
 by_cases hn:t0w e.2 id<0
 ·simp only[hn,Ae,Ad,Bl]
  rfl
 ·obtain⟨j,hj,e1,e2,e3⟩:=u1v hn
  have hR:=h.open_ _ (Ag hj)
  simp only[hn,Ah,Aa,Bk]
  cases hok:u18 r with
  | false=>rfl
  | true=>
   have c:=s9n (r:=r) hR.1 hR.2.1 hok
   simp only[Ap,Aa,e1,y7t hj,Ad,zTn,y8k (t:=u1b) hj,c,zOb,e2,Fm,Bk]
   cases hr:(t8x e.2[j] r).2 with
   | false=>rfl
   | true=>
    have g:=q56 (t8x e.2[j] r).1 e.1.1 r (q7t hR.1.tiny) (by have:=h.tinyO.vl;omega)
    simp only[Ap,Aa,g,zOb,Bl,q7n]
    rfl
theorem q8g {e:u2s} (h:EngR e) (id:Int) {w:WrT} (hw:w.1.size≤1048576):t0b (e,id,w)=some (q95 e id w):=by
 have ho:=h.olen
 have h1:u0n e=some e:=u5x e.1 e.2 h.fewB h.fewO
 have h2:=t2i e id (by omega)
 have h3:=s6o w (by unfold u0l;omega)
 rw[q4q];unfold r3b q95
 simp only[h1,h2,h3,zOb]
 by_cases hn:t0w e.2 id<0
 ·simp only[hn,Ae,Ad,Bl]
 ·obtain⟨j,hj,e1,e2,e3⟩:=u1v hn
  have hR:=h.open_ _ (Ag hj)
  simp only[hn,Ah,Aa,Bk]
  cases hok:u19 w with
  | false=>rfl
  | true=>
   have c:=q3z (w:=w) hR.1 hR.2.1 hok
   simp only[Ap,Aa,e1,y7t hj,Ad,zTn,y8k (t:=u1b) hj,c,zOb,e2,Fm,Bk]
   cases hr:(s6a e.2[j] w).2 with
   | false=>rfl
   | true=>rfl
theorem s2r (b:u0i) (o:Hu u0j) (id:Int) (hb:fewB b) (ho:o.length≤1000):u03 ((b,o),id)=some ((u4y b (o.filter fun x=> !decide (x.1=id))),o.filter fun x=> !decide (x.1=id)):=by
 have L:=s6n u8x o (fun a i=>((b,o),id,a,i)) (fun x:u0j=> !decide (x.1=id)) (fun x=>x) (fun a=> .inl ((b,o),a)) (by omega)
  (fun a _=>by rw[s8x];simp only[t29,u0b,Am,Ah,Aa])
  (fun i hi a ha=>by
   rw[s8x];simp only[t29,u0b,hi,Ae,Ad,y7t hi,zTn,y8k (t:=u1b) hi,Aw,u1c (show a.length+1≤1099511627776 by omega)]
   rw[y7l (by omega)])
 rw[Er] at L
 have L:u8x ((b,o),id, [],0)=_:=L
 have hl:=Cs (fun x:u0j=> !decide (x.1=id)) o
 rw[q46];unfold r3r
 simp only[L,zOb,s2v b (o.filter fun x=> !decide (x.1=id)) hb (by omega)]
theorem p0o {e:u2s} (h:EngR e) (id:Int):t2y (e,id)=some (r92 e id):=by
 have ho:=h.olen
 have h1:u0n e=some e:=u5x e.1 e.2 h.fewB h.fewO
 have h2:=t2i e id (by omega)
 have h3:u03 (e,id)=some (s1y e id):=s2r e.1 e.2 id h.fewB (by omega)
 rw[q62];unfold r6j r92
 simp only[h1,h2,h3,zOb]
 by_cases hn:t0w e.2 id<0
 ·simp only[hn,Ae,Ad,Bl]
 ·simp only[hn,Ah,Aa,Bk]
end
section
theorem p77 {E:Type} (l:Hu E) (f g:E→Bool):l.any (fun x=>f x || g x)=(l.any f || l.any g):=by
 induction l with
 | nil=>rfl
 | cons x l ih=>
  simp only[Gd,ih]
  cases f x<;>cases g x<;>cases l.any f<;>cases l.any g<;>rfl
theorem p36 {E:Type} (l:Hu E) (f g:E→Bool) (i:Bool):l.any (fun x=>f x&&(i || g x))=((i&&l.any f) || l.any fun x=>f x&&g x):=by
 cases i
 ·simp
 ·simp only[Dx,Cz,Bz]
  cases h:l.any f with
  | true=>rfl
  | false=>
   rw[Ct] at h
   symm
   rw[Ci,Ct]
   intro x hx
   have:=h x hx
   simp[this]
theorem q53 (t:u0j) (l:Hu u0j) (ht:q2c t) (hl:p01 l):s0d (t,l)=some (r8t t l):=by
 obtain⟨l1,l2⟩:=hl
 have L:=s6c u7e l (fun i=>(l,t,i)) (fun x=> !decide (x.1=t.1)&&((decide (x.2.1=2) || (decide (x.2.1=3)&&decide (x.2.2.2.1 >t.2.2.1)))&&r93 x.2.2.2.2.2.1 t.2.2.2.2.2.1)) (.inr true) (.inl ())
  (by rw[s5q];simp only[t1g,u0b,Am,Ah,Aa])
  (fun i hi=>by
   have h1:=p0p l[i].2.2.2.2.2.1 t.2.2.2.2.2.1 (s1c (l2 _ (Ag hi)).2) (s1c ht.2)
   rw[s5q]
   simp only[t1g,u0b,hi,Ae,Ad,y7t hi,zTn,y8k (t:=u1b) hi,h1,zOb]
   rw[y7l (by omega)]
   cases decide (l[i].1=t.1)<;>cases decide (l[i].2.1=2)<;>cases decide (l[i].2.1=3)<;>cases decide (l[i].2.2.2.1 >t.2.2.1)<;>cases r93 l[i].2.2.2.2.2.1 t.2.2.2.2.2.1<;>rfl)
 rw[q09];unfold s9x r8t
 have L:u7e (l,t,0)=_:=L
 simp only[L,zOb]
 cases l.any fun x:u0j=> !decide (x.1=t.1)&&((decide (x.2.1=2) || (decide (x.2.1=3)&&decide (x.2.2.2.1 >t.2.2.1)))&&r93 x.2.2.2.2.2.1 t.2.2.2.2.2.1)<;>rfl
theorem q55 (t:u0j) (l:Hu u0j) (ht:q2c t) (hl:p01 l):s26 (t,l)=some (p1v t l):=by
 obtain⟨l1,l2⟩:=hl
 have L:=s6c t3c l (fun i=>(l,t,i)) (fun x=>p6r x&&ahead x t) (.inr true) (.inl ())
  (by rw[r4w];simp only[t6x,u0b,Am,Ah,Aa])
  (fun i hi=>by
   have h1:=u9d l[i] t (s1c (l2 _ (Ag hi)).1) (s1c ht.2)
   rw[r4w]
   simp only[t6x,u0b,hi,Ae,Ad,y7t hi,zTn,y8k (t:=u1b) hi,h1,zOb,p6r]
   rw[y7l (by omega)]
   cases decide (l[i].2.1=2)<;>cases decide (l[i].2.1=3)<;>cases ahead l[i] t<;>rfl)
 rw[q8p];unfold r8p p1v
 have L:t3c (l,t,0)=_:=L
 simp only[L,zOb]
 cases l.any fun x=>p6r x&&ahead x t<;>rfl
def q39 (t:u0j) (l:Hu u0j) (p:u0j):Bool:=
 (p6r p&&(p.2.2.2.2.2.2.1&&ahead t p)) || (decide (p.2.1=2)&&(ahead p t&&(ahead t p || l.any fun x=>decide (x.2.1=2)&&(!decide (x.1=t.1)&&ahead x p))))
theorem p39 (t:u0j) (l:Hu u0j):r6u t l=((p1v t l&&q2h t l) || l.any (q39 t l)):=by
 unfold r6u q4a
 rw[←p77]
 rfl
theorem r8h (t:u0j) (l:Hu u0j) (ht:q2c t) (hl:p01 l):t62 (t,l)=some (r6u t l):=by
 obtain⟨l1,l2⟩:=hl
 have inner:∀(i:Nat) (hi:i<l.length),u42 (l,t,(i:Int),l[i],0)=some (bif (decide (l[i].2.1=2)&&ahead l[i] t)&&(l.any fun x=>decide (x.2.1=2)&&(!decide (x.1=t.1)&&ahead x l[i])) then .inr true else .inl (l,t,(i:Int))):=fun i hi=>by
  have g1:=u9d l[i] t (s1c (l2 _ (Ag hi)).1) (s1c ht.2)
  cases hg:(decide (l[i].2.1=2)&&ahead l[i] t) with
  | false=>
   have e0:u42 (l,t,(i:Int),l[i],0)=_:=t6f _
   rw[e0]
   simp only[u64,g1,zOb,Fx,Aa]
   cases decide ((0:Int)<(l.length:Int))
   ·rfl
   ·revert hg
    cases decide (l[i].2.1=2)<;>cases ahead l[i] t<;>simp
  | true=>
   rw[Ai,Ar] at hg
   obtain⟨q1,q2⟩:=hg
   have L:=s6c u42 l (fun k=>(l,t,(i:Int),l[i],k)) (fun x=>decide (x.2.1=2)&&(!decide (x.1=t.1)&&ahead x l[i])) (.inr true) (.inl (l,t,(i:Int)))
    (by rw[t6f];simp only[u64,u0b,Am,Ah,Aa,zOb])
    (fun k hk=>by
     have g2:=u9d l[k] l[i] (s1c (l2 _ (Ag hk)).1) (s1c (l2 _ (Ag hi)).2)
     rw[t6f]
     simp only[u64,u0b,hk,Ae,Ad,q1,g1,q2,g2,y7t hk,zTn,y8k (t:=u1b) hk,zOb]
     rw[y7l (by omega)]
     cases decide (l[k].2.1=2)<;>cases decide (l[k].1=t.1)<;>cases ahead l[k] l[i] <;>rfl)
   rw[Bz]
   exact L
 have L:=s6c u8t l (fun i=>(l,t,i)) (q39 t l) (.inr true) (.inl ())
  (by rw[s8r];simp only[t24,u0b,Am,Ah,Aa])
  (fun i hi=>by
   have g1:=u9d l[i] t (s1c (l2 _ (Ag hi)).1) (s1c ht.2)
   have g2:=u9d t l[i] (s1c ht.1) (s1c (l2 _ (Ag hi)).2)
   rw[s8r]
   simp only[t24,u0b,hi,Ae,Ad,y7t hi,zTn,y8k (t:=u1b) hi,g1,g2,inner i hi,zOb,q39,p6r]
   have ws:=y7l (i:=i) (by omega)
   cases decide (l[i].2.1=2)<;>cases decide (l[i].2.1=3)<;>cases l[i].2.2.2.2.2.2.1<;>cases ahead l[i] t<;>cases ahead t l[i] <;>cases (l.any fun x=>decide (x.2.1=2)&&(!decide (x.1=t.1)&&ahead x l[i]))<;>first | rfl | (simp only[Dt,Fy,Fx,Bz,Fp,Ew,Ci,Ad,Aa,zOb,ws]))
 rw[q4i];unfold r23
 have L:u8t (l,t,0)=_:=L
 simp only[q55 t l ht ⟨l1,l2⟩,r44 t l ht ⟨l1,l2⟩,L,zOb]
 rw[p39]
 cases p1v t l<;>cases q2h t l<;>cases l.any (q39 t l)<;>rfl
theorem r7b (t:u0j) (l:Hu u0j) (ht:q2c t) (hl:p01 l):t3r (t,l)=some (t8f t l):=by
 obtain⟨l1,l2⟩:=hl
 have inner:∀(i:Nat) (hi:i<l.length) (b:Bool),u3a (l,t,b,(i:Int),l[i],0)=some (bif (l.any fun y=>decide (y.2.1=2)&&(!decide (y.1=t.1)&&ahead l[i] y)) then .inr true else .inl (l,t,b,(i:Int))):=fun i hi b=>
  s6c u3a l (fun k=>(l,t,b,(i:Int),l[i],k)) (fun y=>decide (y.2.1=2)&&(!decide (y.1=t.1)&&ahead l[i] y)) (.inr true) (.inl (l,t,b,(i:Int)))
   (by rw[t51];simp only[u5d,u0b,Am,Ah,Aa,zOb])
   (fun k hk=>by
    have g2:=u9d l[i] l[k] (s1c (l2 _ (Ag hi)).1) (s1c (l2 _ (Ag hk)).2)
    rw[t51]
    simp only[u5d,u0b,hk,Ae,Ad,g2,y7t hk,zTn,y8k (t:=u1b) hk,zOb]
    rw[y7l (by omega)]
    cases decide (l[k].2.1=2)<;>cases decide (l[k].1=t.1)<;>cases ahead l[i] l[k] <;>rfl)
 have L:=s6c u33 l (fun i=>(l,t,p1v t l,i)) (fun x=>(decide (x.2.1=2)&&ahead t x)&&(p1v t l || l.any fun y=>decide (y.2.1=2)&&(!decide (y.1=t.1)&&ahead x y))) (.inr true) (.inl ())
  (by rw[t6w];simp only[u5s,u0b,Am,Ah,Aa])
  (fun i hi=>by
   have g2:=u9d t l[i] (s1c ht.1) (s1c (l2 _ (Ag hi)).2)
   rw[t6w]
   simp only[u5s,u0b,hi,Ae,Ad,y7t hi,zTn,y8k (t:=u1b) hi,g2,inner i hi (p1v t l),zOb]
   have ws:=y7l (i:=i) (by omega)
   cases decide (l[i].2.1=2)<;>cases ahead t l[i] <;>cases p1v t l<;>cases (l.any fun y=>decide (y.2.1=2)&&(!decide (y.1=t.1)&&ahead l[i] y))<;>first | rfl | (simp only[Dt,Fy,Fx,Bz,Fp,Ew,Ci,Ap,Bh,Ad,Aa,zOb,ws]))
 rw[p36] at L
 rw[r32];unfold t86 t8f r64
 have L:u33 (l,t,p1v t l,0)=_:=L
 simp only[r8h t l ht ⟨l1,l2⟩,q55 t l ht ⟨l1,l2⟩,L,zOb]
 have e:q4a (fun x:u0j=> !decide (x.1=t.1)) t l=r6u t l:=rfl
 rw[e]
 cases r6u t l<;>cases ((p1v t l&&l.any fun x=>decide (x.2.1=2)&&ahead t x) || l.any fun x=>(decide (x.2.1=2)&&ahead t x)&&l.any fun y=>decide (y.2.1=2)&&(!decide (y.1=t.1)&&ahead x y))<;>rfl
theorem q9j (b:u0i) (hb:fewB b):t0h b=some (b.2.1++b.2.2.1):=by
 have h1:=hb.2.1.1
 have h2:=hb.2.2.1
 rw[q45];unfold r3q
 simp only[Cc,Co,Cf,u1c (show b.2.1.length≤1099511627776 by omega),u1c (show b.2.1.length+b.2.2.1.length≤1099511627776 by omega),Ad]
theorem q2p {e:u2s} (h:EngR e) (id:Int):t9o (e,id)=some (r2c e id):=by
 have ho:=h.olen
 have h2:=t2i e id (by omega)
 have h3:=q9j e.1 h.fewB
 have h3:t0h e.1=some (t70 e):=h3
 have h4:=q7c e.1
 rw[q60];unfold r6h r2c
 simp only[h2,h3,zOb]
 by_cases hn:t0w e.2 id<0
 ·simp only[hn,Ae,Ad,Bl]
 ·obtain⟨j,hj,e1,e2,e3⟩:=u1v hn
  have hT:=(h.ot (Ag hj)).few
  simp only[hn,Ah,Aa,Bk,e1,y7t hj,Ad,zTn,y8k (t:=u1b) hj,q53 _ _ hT h.fewOth,r8h _ _ hT h.fewOth,h4,zOb,e2]
  have hn' : ¬((j:Int)<0):=by omega
  simp only[hn',Ah,Aa,Bk]
  cases r8t e.2[j] (t70 e)<;>cases r6u e.2[j] (t70 e)<;>cases r5r e.1<;>rfl
end
section
theorem q7v {b:u0i} {t:u0j} {n:Hs} (h: ¬(0≤u07 b n)):∃(k:Nat) (hk:k<(u2e b t n).2.2.1.length),u07 (u2e b t n) n=(k:Int)∧(u2e b t n).2.2.1[k] =u3r b t n:=by
 have hb:=p6x.mp (show u07 b n<0 by omega)
 have hm:u3r b t n∈(u2e b t n).2.2.1:=by
  show u3r b t n∈(b.2.2.1.filter fun x=>y3c x.2.2.2.2.2.2.2 n)++ [u3r b t n] ++(b.2.2.1.filter fun x=> !y3c x.2.2.2.2.2.2.2 n)
  simp
 have hn: ¬u07 (u2e b t n) n<0:=fun q=>p6x.mp q _ hm rfl
 obtain⟨k,hk,e1,e2⟩:=t4i hn
 refine⟨k,hk,e1,?_⟩
 have hx:=Ag hk
 have hx:(u2e b t n).2.2.1[k] ∈(b.2.2.1.filter fun x=>y3c x.2.2.2.2.2.2.2 n)++ [u3r b t n] ++(b.2.2.1.filter fun x=> !y3c x.2.2.2.2.2.2.2 n):=hx
 simp only[Ay,A6,Ax] at hx
 rcases hx with (q | q) | q
 ·exact absurd e2 (hb _ q.1)
 ·exact q
 ·exact absurd e2 (hb _ q.1)
theorem EngR.mids {e:u2s} (h:EngR e):p4n e.1.2.2.2.1:=q8y h.base.cs
theorem q9n {e:u2s} (h:EngR e) {t:u0j} (ht:t∈e.2∨t∈e.1.2.2.1):u4i (e.1,t)=some (u1n e.1 t):=by
 have hT:TxnR t:=by
  rcases ht with q | q
  ·exact(h.open_ t q).1
  ·exact(h.base.ready t q).1
 rw[r6b e.1 t h.fewB hT.tiny.few,q0k h.mids (r94 hT.id)]
theorem q9o {e:u2s} (h:EngR e) {t:u0j} (ht:t∈e.2∨t∈e.1.2.2.1):tinyB (u1n e.1 t):=by
 have hT:TxnR t:=by
  rcases ht with q | q
  ·exact(h.open_ t q).1
  ·exact(h.base.ready t q).1
 exact s8m h.base hT.tiny
theorem p24 (b:u0i) (t:u0j) (hb:b.2.1.length≤1000):∃(k:Nat) (hk:k<(u1n b t).2.1.length),IntKind.i64.wrap (((u1n b t).2.1.length:Int) - (1:Int))=(k:Int)∧(u1n b t).2.1[k] =t6y b t:=by
 have e:(u1n b t).2.1=b.2.1++ [t6y b t] :=rfl
 refine⟨b.2.1.length,by rw[e];simp,?_,?_⟩
 ·rw[e,Ba,Aw,y4y (by omega) (by omega)];omega
 ·simp[e]
theorem p2p {b:u0i} {t:u0j} (h:q2c t):q2c (t6y b t):=h
theorem q8b {e:u2s} (h:EngR e) (id:Int):s24 (e,id)=some (u39 e id):=by
 have ho:=h.olen
 have h1:u0n e=some e:=u5x e.1 e.2 h.fewB h.fewO
 have h2:=t2i e id (by omega)
 have hJ:=q2p h id
 have hO:u03 (e,id)=some (s1y e id):=s2r e.1 e.2 id h.fewB (by omega)
 rw[q4h];unfold r22 u39
 simp only[h1,hJ,zOb]
 by_cases c1:r2c e id=1
 ·simp only[c1,Ae,Ad,Bl]
  rfl
 ·simp only[c1,Ah,Aa,Bk]
  by_cases c0:r2c e id=0
  ·obtain⟨hn,_,_,_⟩:=r5t c0
   obtain⟨j,hj,e1,e2,e3⟩:=u1v hn
   have hm:e.2[j] ∈e.2∨e.2[j] ∈e.1.2.2.1:= .inl (Ag hj)
   have hT:=q9n h hm
   obtain⟨k,hk,f1,f2⟩:=p24 e.1 e.2[j] (by have:=h.base.plen;omega)
   have hC:=u63 (t6y e.1 e.2[j]) (p2p (h.ot (Ag hj)).few)
   have hO2:=s2r (u1n e.1 e.2[j]) e.2 id (q9o h hm).few (by omega)
   simp only[c0,Ae,Ap,Aa,Bl,h2,e1,y7t hj,Ad,zTn,y8k (t:=u1b) hj,hT,f1,y7t hk,y8k (t:=u1b) hk,f2,hC,hO2,zOb,e2]
   show some _=some (r8u e e.2[j],_)
   unfold r8u s8i
   rw[e3]
   rfl
  ·simp only[c0,Ah,Bh,Ad,Bk,hO,zOb]
   rfl
theorem q58 {e:u2s} (h:EngR e) (id:Int) {n:Hs} (hn1:n.size≤1048576):s0f (e,id,n)=some (t56 e id n):=by
 have ho:=h.olen
 have h1:u0n e=some e:=u5x e.1 e.2 h.fewB h.fewO
 have h2:=t2i e id (by omega)
 have hK:=t2r n (by unfold u0l;omega)
 have hA:u1r (e.1,n)=some (u07 e.1 n):=t5m e.1 n (by have:=h.base.rlen;omega)
 have hJ:=q2p h id
 have hL:t0h e.1=some (t70 e):=q9j e.1 h.fewB
 have hO:u03 (e,id)=some (s1y e id):=s2r e.1 e.2 id h.fewB (by omega)
 rw[q1g];unfold s94 t56
 simp only[h1,h2,zOb]
 by_cases c1:t0w e.2 id<0
 ·simp only[c1,Ae,Ad,Bl]
  rfl
 simp only[c1,Ah,Aa,Bk,hK,zOb]
 cases c2:u4z n with
 | false=>simp only[Bh,Ad,Bl];rfl
 | true=>
 simp only[Ap,Aa,Fm,Bk,hA,zOb]
 by_cases c3:0≤u07 e.1 n
 ·have c3' :decide (u07 e.1 n≥0)=true:=by simpa using c3
  simp only[c3,c3',Ad,Bl]
  rfl
 have c3' :decide (u07 e.1 n≥0)=false:=by simpa using c3
 simp only[c3,c3',Aa,Bk,hJ,zOb]
 unfold s86
 by_cases c4:r2c e id=0
 ·obtain⟨j,hj,e1,e2,e3⟩:=u1v c1
  have hT:=(h.ot (Ag hj))
  have hTR:=(h.open_ _ (Ag hj)).1
  have hD:=r7b e.2[j] (t70 e) hT.few h.fewOth
  have hr:=h.base.rlen
  simp only[c4,Ae,e1,y7t hj,Ad,zTn,y8k (t:=u1b) hj,hL,hD,zOb,e2,ne_eq,not_true_eq_false,Bk]
  cases c5:t8f e.2[j] (t70 e) with
  | true=>
   have d5:decide ((5:Int)=0)=false:=by decide
   simp only[Ad,d5,Aa,zOb,Bh,hO,Bl]
   rfl
  | false=>
   simp only[Aa,zOb,Br,Bk]
   have e6:decide ((e.1.2.2.1.length:Int)≥3)=decide (3≤e.1.2.2.1.length):=by simp;omega
   simp only[e6]
   by_cases c6:3≤e.1.2.2.1.length
   ·have d3:decide ((3:Int)=0)=false:=by decide
    simp only[c6,Ae,Ad,d3,Bh,hO,zOb,Bl]
    rfl
   ·have hM:=s9m e.1 e.2[j] n h.fewB hT.few (r94 hTR.id)
    obtain⟨k,hk,f1,f2⟩:=q7v (t:=e.2[j]) c3
    have hns:n.size≤100:=by have:=(u2q c2).2;omega
    have hMt:=q3b (t:=e.2[j]) h.base hT hns
    have hA2:u1r (u2e e.1 e.2[j] n,n)=some ((k:Nat):Int):=by rw[t5m _ n (by have:=hMt.rl;omega),f1]
    have hC:=u63 (u3r e.1 e.2[j] n) hT.few
    have hO2:=s2r (u2e e.1 e.2[j] n) e.2 id hMt.few (by omega)
    simp only[c6,Ah,Aa,Ae,Ap,y7t hj,Ad,y8k (t:=u1b) hj,hM,hA2,y7t hk,zTn,y8k (t:=u1b) hk,f2,hC,hO2,zOb,Bk,Bl]
    show some _=some (p26 e e.2[j] n,_)
    unfold p26 s8i
    rw[e3]
    rfl
 ·simp only[c4,Ah,Aa,zOb,Bh,Ad,hO,ne_eq,not_false_eq_true,Bl,Bk]
  rfl
theorem q3s {e:u2s} (h:EngR e) (n:Hs) (yes:Bool):s25 (e,n,yes)=some (r5q e n yes):=by
 have ho:=h.olen
 have h1:u0n e=some e:=u5x e.1 e.2 h.fewB h.fewO
 have hA:u1r (e.1,n)=some (u07 e.1 n):=t5m e.1 n (by have:=h.base.rlen;omega)
 have hF:=q7c e.1
 have hG:=r56 e.1 n h.fewB
 have hG2:=s2v (t98 e.1 n) e.2 (q24 h.tinyO).few (by omega)
 rw[q4k];unfold r25 r5q
 simp only[h1,hA,hF,zOb]
 by_cases c1:u07 e.1 n<0
 ·simp only[c1,Ae,Ad,Bl]
  rfl
 obtain⟨k,hk,f1,f2⟩:=t4i c1
 simp only[c1,Ah,Aa,Bk]
 cases yes with
 | false=>simp only[Aa,zOb,hG,hG2,Br,false_and,Bk];rfl
 | true=>
  have hm:e.1.2.2.1[k] ∈e.2∨e.1.2.2.1[k] ∈e.1.2.2.1:= .inr (Ag hk)
  have hT:=q9n h hm
  have hT2:=s2v (u1n e.1 e.1.2.2.1[k]) e.2 (q9o h hm).few (by omega)
  simp only[Ad,true_and]
  cases r5r e.1 with
  | true=>rfl
  | false=>
   simp only[Aa,Br,Bk,Bl,f1,y7t hk,Ad,zTn,y8k (t:=u1b) hk,hT,hT2,zOb]
   rfl
end
section
theorem s4e:emp.size≤100:=by decide
theorem t5k (r:t8z):(u0o r).1.size≤20000:=by
 cases h:u3s r with
 | false=>unfold u0o;rw[h];exact A9 s4e (by omega)
 | true=>
  have hR:=p50.mp h
  rw[u4m hR]
  have:=t7a hR
  show(s11 (s3d r)).size≤20000
  rw[r5z];omega
def q8l (b:u0i):t8z:=(4,u4e,emp,false,b)
theorem q6k {b:u0i} (h:tinyB b):tinyR (q8l b):=⟨t0i,s4e,h⟩
theorem q2o (d:u0k) (hd:o3d.wt d≤10000000):t30 d=some (orD d (p1u d)):=by
 have h1:=p0q d (by omega)
 have h2:=u5y (q8l (p2x (u0m d)).1) (q6k (p2y _)).wt
 have h3:=u9e d (by unfold u0l;omega)
 rw[r9r];unfold s7k
 simp only[h1,zOb]
 have h2:u11 (4,(0,0,0,0, [], [],false,(⟨#[]⟩:Hs)),(⟨#[]⟩:Hs),false,(p2x (u0m d)).1)=_:=h2
 simp only[h2,h3,zOb]
 unfold p1u
 cases hp:t0p (u0m d) with
 | none=>
  have e:(p2x (u0m d)).2=false:=by unfold p2x;rw[hp]
  simp only[e,Bh,Ad,zOb]
  rfl
 | some b=>
  have e:p2x (u0m d)=(b,true):=by unfold p2x;rw[hp]
  simp only[e,Ap,Aa,zOb]
  have e4:q8l b=(4,u4e,emp,false,b):=rfl
  rw[e4]
  cases ht:(u0o (4,u4e,emp,false,b)).2 with
  | false=>simp only[Bh,Ad,Br,Bk];rfl
  | true=>
   have h5:=q0y (d:=d) (l:= [(u0o (4,u4e,emp,false,b)).1]) hd (by simp) (fun t h=>by
    rw[Ax.mp h];have:=t5k (4,u4e,emp,false,b);omega)
   simp only[Ap,Aa,Bl,h5,zOb]
theorem p6m {d z:u0k} (h:p1u d=some z):u25 z=true:=by
 unfold p1u at h
 split at h
 ·cases h
 ·split at h
  ·exact(q3h h).2.1
  ·cases h
theorem r8k (s:u1s) (r:t8z) (hd:o3d.wt s.2≤10000000) (hr:tinyR r):t03 (s,r)=some ((t2l s.2 r).isSome,s.1,(t2l s.2 r).getD s.2):=by
 have h1:=u5y r hr.wt
 have hl:=t5k r
 have h2:=s9l s.2 (u0o r).1 hd (by omega)
 have h3:=q2o s.2 hd
 rw[q19];unfold r0y t2l
 simp only[h1,zOb]
 cases ht:(u0o r).2 with
 | false=>simp only[Bh,Ad,Br,Bk];rfl
 | true=>
  simp only[Ap,Aa,Bl,h2,zOb]
  cases ha:append_ s.2 (u0o r).1 with
  | some y=>rfl
  | none=>
   simp only[orD,Bh,Ad,h3,zOb]
   cases hz:p1u s.2 with
   | none=>rfl
   | some z=>
    have h4:=s9l z (u0o r).1 (s84 (p6m hz)) (by omega)
    simp only[orD,Ap,Aa,h4,zOb]
    cases hq:append_ z (u0o r).1<;>rfl
theorem t21:tinyR q5y:=⟨t0i,by decide,u3v⟩
theorem q6r {e:u2s} (h:EngR e) (id:Int):tinyR (u39 e id).2.1:=by
 unfold u39
 split
 ·exact t21
 ·split
  ·rename_i c1 c0
   obtain⟨hn,_,_,_⟩:=r5t c0
   obtain⟨j,hj,e1,e2,e3⟩:=u1v hn
   rw[e2]
   exact⟨(h.ot (Ag hj)).like rfl rfl s4e,s4e,u3v⟩
  ·exact t21
theorem p1e {e:u2s} (h:EngR e) (id:Int) (n:Hs):tinyR (t56 e id n).2.1:=by
 unfold t56
 split
 ·exact t21
 ·rename_i hn
  split
  ·exact t21
  ·rename_i hk
   split
   ·exact t21
   ·split
    ·obtain⟨j,hj,e1,e2,e3⟩:=u1v hn
     rw[e2]
     have hk:u4z n=true:=by simpa using hk
     have:=(u2q hk).2
     exact⟨(h.ot (Ag hj)).like rfl rfl (by show n.size≤100;omega),s4e,u3v⟩
    ·exact t21
theorem p2r {e:u2s} (n:Hs) (hn:n.size≤100) (y:Bool):tinyR (r5q e n y).2.1:=by
 unfold r5q
 split
 ·exact t21
 ·split
  ·exact t21
  ·split
   ·exact⟨t0i,hn,u3v⟩
   ·exact⟨t0i,hn,u3v⟩
theorem q2e {s:u1s} (h:EngR s.1) (hd:u25 s.2=true) (id:Int):u48 (s,id)=some ((t31 s id).2,(t31 s id).1):=by
 have ho:=h.olen
 have h1:=q8b h id
 have h2:=r8k s (u39 s.1 id).2.1 (s84 hd) (q6r h id)
 have h3:u0n s.1=some s.1:=u5x s.1.1 s.1.2 h.fewB h.fewO
 have hO:u03 (s.1,id)=some (s1y s.1 id):=s2r s.1.1 s.1.2 id h.fewB (by omega)
 rw[r70];unfold s4a t31
 simp only[h1,zOb]
 by_cases c:(u39 s.1 id).2.2=0
 ·simp only[c,Ae,Ad,Bl,h2,zOb]
  cases t2l s.2 (u39 s.1 id).2.1 with
  | none=>simp only[Option.isSome_none,Bh,Ad,h3,hO,zOb];rfl
  | some d=>rfl
 ·simp only[c,Ah,Aa,Bk]
theorem r90 {s:u1s} (h:EngR s.1) (hd:u25 s.2=true) (id:Int) {n:Hs} (hn:n.size≤1048576):u4r (s,id,n)=some ((s8k s id n).2,(s8k s id n).1):=by
 have ho:=h.olen
 have h1:=q58 h id hn
 have h2:=r8k s (t56 s.1 id n).2.1 (s84 hd) (p1e h id n)
 have h3:u0n s.1=some s.1:=u5x s.1.1 s.1.2 h.fewB h.fewO
 have hO:u03 (s.1,id)=some (s1y s.1 id):=s2r s.1.1 s.1.2 id h.fewB (by omega)
 rw[r5p];unfold s06 s8k
 simp only[h1,zOb]
 by_cases c:(t56 s.1 id n).2.2=0
 ·simp only[c,Ae,Ad,Bl,h2,zOb]
  cases t2l s.2 (t56 s.1 id n).2.1 with
  | none=>simp only[Option.isSome_none,Bh,Ad,h3,hO,zOb];rfl
  | some d=>rfl
 ·simp only[c,Ah,Aa,Bk]
theorem p6q {e:u2s} {n:Hs} {y:Bool} (c:(r5q e n y).2.2≠0):(r5q e n y).1=e:=by
 unfold r5q at c ⊢
 split
 ·rfl
 ·split
  ·rfl
  ·rename_i h1 h2
   rw[Ao h1,Ao h2] at c
   split at c<;>exact absurd rfl c
theorem q2f {s:u1s} (h:EngR s.1) (hd:u25 s.2=true) {n:Hs} (hn:n.size≤100) (y:Bool):u49 (s,n,y)=some ((q0h s n y).2,(q0h s n y).1):=by
 have h1:=q3s h n y
 have h2:=r8k s (r5q s.1 n y).2.1 (s84 hd) (p2r n hn y)
 rw[r71];unfold s4b q0h
 simp only[h1,zOb]
 by_cases c:(r5q s.1 n y).2.2=0
 ·simp only[c,Ae,Ad,Bl,h2,zOb]
  cases t2l s.2 (r5q s.1 n y).2.1 with
  | none=>rfl
  | some d=>rfl
 ·simp only[c,Ah,Aa,Bk,p6q c]
theorem p0m {s:u1s} (h:EngR s.1) (hd:o3d.wt s.2≤10000000):s0o s=some s:=by
 have h1:u0n s.1=some s.1:=u5x s.1.1 s.1.2 h.fewB h.fewO
 have h2:=u9e s.2 (by unfold u0l;omega)
 rw[q18];unfold r0x
 simp only[h1,h2,zOb]
theorem p3z {s:u1s} (h:EngR s.1) (hd:u25 s.2=true):u6b s=some (p4c s):=by
 have h1:=p0m h (s84 hd)
 have h2:=q2o s.2 (s84 hd)
 rw[r9a];unfold s62 p4c
 simp only[h1,h2,zOb]
 cases p1u s.2<;>rfl
end
section
def PQR:Hu Hs:= [⟨#[112]⟩,⟨#[113]⟩,⟨#[114]⟩]
theorem q9m {y:Hs} (h:y∈PQR):y.size≤100:=by
 simp only[PQR,A8,Ep,Em] at h
 rcases h with rfl | rfl | rfl<;>decide
theorem Stt.mono {k m:Nat} {s:u1s} (h:Stt k s) (hm:k≤m):Stt m s:=by
 obtain⟨b,h1,h2⟩:=h.sync
 exact⟨⟨b,h1,by omega⟩,h.dom,h.num.mono hm⟩
theorem Stt.log {k:Nat} {s:u1s} (h:Stt k s):u25 s.2=true:=by obtain⟨b,h1,_⟩:=h.sync;exact h1.log
def RN (e:u2s):Prop:= ∀x∈e.1.2.2.1,x.2.2.2.2.2.2.2∈PQR
theorem RN.sub {e e' :u2s} (h:RN e) (hs:∀x∈e'.1.2.2.1,∃y∈e.1.2.2.1,x.2.2.2.2.2.2.2=y.2.2.2.2.2.2.2):RN e' :=fun x hx=>by
 obtain⟨y,hy,q⟩:=hs x hx
 rw[q];exact h y hy
theorem RN.same {e e' :u2s} (h:RN e) (hs:e'.1.2.2.1=e.1.2.2.1):RN e' :=h.sub fun x hx=>⟨x,by rw[←hs];exact hx,rfl⟩
theorem RN.through {e:u2s} (h:RN e) (t:u0j) (o:Hu u0j):RN (u4y (u1n e.1 t) o,o):=h.sub fun x hx=>by
 have hx:x∈(e.1.2.2.1.filter fun x=> !decide (x.1=t.1)).map (p04 (t6y e.1 t)):=hx
 obtain⟨y,hy,rfl⟩:=Bx.mp hx
 exact⟨y,(A6.mp hy).1,rfl⟩
theorem RN.commit {e:u2s} (h:RN e) (id:Int):RN (u39 e id).1:=by
 unfold u39
 split
 ·exact h
 ·split
  ·exact h.through _ _
  ·exact h.same rfl
theorem RN.prep {e:u2s} (h:RN e) (id:Int) {n:Hs} (hn:n∈PQR):RN (t56 e id n).1:=by
 unfold t56
 split
 ·exact h
 ·split
  ·exact h
  ·split
   ·exact h
   ·split
    ·intro x hx
     have hx:x∈(e.1.2.2.1.filter fun x=>y3c x.2.2.2.2.2.2.2 n)++ [u3r e.1 (u2x e id) n] ++(e.1.2.2.1.filter fun x=> !y3c x.2.2.2.2.2.2.2 n):=hx
     simp only[Ay,A6,Ax] at hx
     rcases hx with (q | rfl) | q
     ·exact h x q.1
     ·exact hn
     ·exact h x q.1
    ·exact h.same rfl
theorem RN.fin {e:u2s} (h:RN e) (n:Hs) (y:Bool):RN (r5q e n y).1:=by
 unfold r5q
 split
 ·exact h
 ·split
  ·exact h
  ·split
   ·exact h.through _ _
   ·exact h.sub fun x hx=>⟨x,(A6.mp hx).1,rfl⟩
theorem RN.look {e:u2s} (h:RN e) {id:Int} {r:t80} {right:Bool} :RN (t8w e id r right).1:=by
 unfold t8w
 split
 ·exact h
 ·split
  ·exact h
  ·split<;>exact h
theorem RN.put {e:u2s} (h:RN e) {id:Int} {w:WrT} :RN (q95 e id w).1:=by
 unfold q95
 split
 ·exact h
 ·split
  ·exact h
  ·split<;>exact h
theorem RN.begin {e:u2s} (h:RN e):RN (s08 e).1:=by
 unfold s08
 split<;>exact h
theorem RN.leave {e:u2s} (h:RN e) (id:Int):RN (r92 e id).1:=by
 unfold r92
 split<;>exact h
structure SttN (k:Nat) (s:u1s):Prop extends Stt k s where
 rn:RN s.1
theorem SttN.mono {k m:Nat} {s:u1s} (h:SttN k s) (hm:k≤m):SttN m s:=⟨h.toStt.mono hm,h.rn⟩
theorem SttN.begin {k:Nat} {s:u1s} (h:SttN k s):SttN (k+1) ((s08 s.1).1,s.2):=⟨h.toStt.begin,h.rn.begin⟩
theorem SttN.look {k:Nat} {s:u1s} (h:SttN k s) {id:Int} {r:t80} {right:Bool} (hr:right=true→u18 r=true) (hk:r.1∈K5∧r.2∈K5):SttN (k+1) ((t8w s.1 id r right).1,s.2):=⟨h.toStt.look hr hk,h.rn.look⟩
theorem SttN.put {k:Nat} {s:u1s} (h:SttN k s) {id:Int} {w:WrT} (hk:w.1∈K5):SttN (k+1) ((q95 s.1 id w).1,s.2):=⟨h.toStt.put hk,h.rn.put⟩
theorem SttN.leave {k:Nat} {s:u1s} (h:SttN k s) (id:Int):SttN (k+1) ((r92 s.1 id).1,s.2):=⟨h.toStt.leave id,h.rn.leave id⟩
theorem SttN.fix {k:Nat} {s:u1s} (h:SttN k s):SttN (k+1) (p4c s).1:=⟨h.toStt.fix,by
 unfold p4c
 split<;>exact h.rn⟩
theorem SttN.commit {k:Nat} {s:u1s} (h:SttN k s) (id:Int):SttN (k+1) (t31 s id).1:=⟨h.toStt.commit id,by
 unfold t31
 split
 ·split
  ·exact h.rn.commit id
  ·exact h.rn.same rfl
 ·exact h.rn.commit id⟩
theorem SttN.prep {k:Nat} {s:u1s} (h:SttN k s) (id:Int) {n:Hs} (hn:n∈PQR):SttN (k+1) (s8k s id n).1:=⟨h.toStt.prep id n,by
 unfold s8k
 split
 ·split
  ·exact h.rn.prep id hn
  ·exact h.rn.same rfl
 ·exact h.rn.prep id hn⟩
theorem SttN.fin {k:Nat} {s:u1s} (h:SttN k s) (n:Hs) (y:Bool):SttN (k+1) (q0h s n y).1:=⟨h.toStt.fin n y,by
 unfold q0h
 split
 ·split
  ·exact h.rn.fin n y
  ·exact h.rn
 ·exact h.rn⟩
theorem q3w:∃s,t8b ()=some s∧SttN 0 s:=by
 obtain⟨d,h1,h2,h3⟩:=q8d
 have h0:t59 ()=some (q78, []):=by
  rw[r7p];unfold s3z
  rw[r02];rfl
 refine⟨((q78, []),d),?_,?_⟩
 ·rw[r9i];unfold s7a
  simp only[h0,h1,zOb]
 ·have hp:t0p (u0m d)=some q78:=by rw[h3];rfl
  have hE:EngR ((q78, []):u2s):=p79.mp (by decide)
  have hL:Like0 q78 q78:=⟨by decide,rfl,rfl,rfl⟩
  have hN:q78.2.2.2.2≤((0:Nat):Int)+1:=by decide
  have hM:Num 0 ((q78, []):u2s):=⟨by decide,by decide⟩
  have hD:DomE ((q78, []):u2s):=⟨⟨(fun v hv=>by cases hv),(fun t ht=>by cases ht)⟩,(fun t ht=>by cases ht)⟩
  exact⟨⟨⟨q78,⟨hE,h2,hp,q9z,hL⟩,hN⟩,hD,hM⟩,fun x hx=>by cases hx⟩
def DrS (F:Ht (Src×u1s)) (k:Nat):Prop:= ∃s t,F=some (s,t)∧s.ok∧SttN k t
theorem p31 {y:Hs} (h:y∈K5):y.size≤1048576:=by have:=(u2q (p32 h)).2;omega
theorem q70 {k:Nat} {s:u1s} (h:SttN k s) (id:Int) {c:Src} (hc:c.ok):DrS ((u0f (c,(16:Int))).bind fun(y20:(Int×((Hu Int)×(Int×Int))))=>(((bif (decide (id=(0:Int))) then(some true) else(some (decide (y20.1<(3:Int))))):Ht Bool).bind fun j21=>(bif j21 then((t2x s.1).bind fun y22=>(some (y20.2,(y22.1,s.2)))) else(bif (decide (y20.1<(6:Int))) then((u2z y20.2).bind fun y23=>((t0a (s.1,(id,y23.1))).bind fun y24=>(some (y23.2,(y24.1,s.2))))) else(bif (decide (y20.1<(7:Int))) then((u3h y20.2).bind fun y25=>((u6d (s.1,(id,y25.1))).bind fun y26=>(some (y25.2,(y26.1,s.2))))) else(bif (decide (y20.1<(10:Int))) then((u20 y20.2).bind fun y27=>((t0b (s.1,(id,y27.1))).bind fun y28=>(some (y27.2,(y28.1,s.2))))) else(bif (decide (y20.1<(13:Int))) then((u48 (s,id)).bind fun y29=>(some (y20.2,y29.2))) else(bif (decide (y20.1=(13:Int))) then((u1g (y20.2,PQR)).bind fun y30=>((u4r (s,(id,y30.1))).bind fun y31=>(some (y30.2,y31.2)))) else(bif (decide (y20.1=(14:Int))) then((u1g (y20.2,PQR)).bind fun y32=>((u1f (y32.2,(2:Int))).bind fun(y33:(Bool×((Hu Int)×(Int×Int))))=>((u49 (s,(y32.1,y33.1))).bind fun y34=>(some (y33.2,y34.2))))) else((u1f (y20.2,(3:Int))).bind fun(y35:(Bool×((Hu Int)×(Int×Int))))=>(bif y35.1 then((u6b s).bind fun y36=>(some (y35.2,y36.1))) else((t2y (s.1,id)).bind fun y37=>(some (y35.2,(y37.1,s.2))))))))))))))) (k+1):=by
 obtain⟨y,c1,e1,k1,r1⟩:=u1t hc (n:=16) (by omega)
 have hE:=h.eng
 simp only[e1,zOb]
 have key:∀j:Bool,DrS ((some j).bind fun j21=>(bif j21 then((t2x s.1).bind fun y22=>(some (c1,(y22.1,s.2)))) else(bif (decide (y<(6:Int))) then((u2z c1).bind fun y23=>((t0a (s.1,(id,y23.1))).bind fun y24=>(some (y23.2,(y24.1,s.2))))) else(bif (decide (y<(7:Int))) then((u3h c1).bind fun y25=>((u6d (s.1,(id,y25.1))).bind fun y26=>(some (y25.2,(y26.1,s.2))))) else(bif (decide (y<(10:Int))) then((u20 c1).bind fun y27=>((t0b (s.1,(id,y27.1))).bind fun y28=>(some (y27.2,(y28.1,s.2))))) else(bif (decide (y<(13:Int))) then((u48 (s,id)).bind fun y29=>(some (c1,y29.2))) else(bif (decide (y=(13:Int))) then((u1g (c1,PQR)).bind fun y30=>((u4r (s,(id,y30.1))).bind fun y31=>(some (y30.2,y31.2)))) else(bif (decide (y=(14:Int))) then((u1g (c1,PQR)).bind fun y32=>((u1f (y32.2,(2:Int))).bind fun(y33:(Bool×((Hu Int)×(Int×Int))))=>((u49 (s,(y32.1,y33.1))).bind fun y34=>(some (y33.2,y34.2))))) else((u1f (c1,(3:Int))).bind fun(y35:(Bool×((Hu Int)×(Int×Int))))=>(bif y35.1 then((u6b s).bind fun y36=>(some (y35.2,y36.1))) else((t2y (s.1,id)).bind fun y37=>(some (y35.2,(y37.1,s.2)))))))))))))) (k+1):=by
  intro j
  simp only[zOb]
  cases j with
  | true=>
   simp only[Ad,p0j hE,zOb]
   exact⟨_,_,rfl,k1,h.begin⟩
  | false=>
   simp only[Aa]
   cases decide (y<(6:Int)) with
   | true=>
    obtain⟨z,c2,e2,k2,r2⟩:=q3t k1
    simp only[Ad,e2,zOb,q8c hE id (p31 r2)]
    refine⟨_,_,rfl,k2,?_⟩
    have:=h.look (id:=id) (r:=(z,z)) (right:=u4z z) (fun hk=>by rw[q98];exact hk) ⟨r2,r2⟩
    unfold o0l
    split<;>exact this
   | false=>
   simp only[Aa]
   cases decide (y<(7:Int)) with
   | true=>
    obtain⟨z,c2,e2,k2,r2⟩:=p2b k1
    simp only[Ad,e2,zOb,q3v hE id ⟨p31 r2.1,p31 r2.2.1⟩]
    refine⟨_,_,rfl,k2,?_⟩
    have:=h.look (id:=id) (r:=z) (right:=u18 z) (fun hk=>hk) ⟨r2.1,r2.2.1⟩
    unfold p6y
    split<;>exact this
   | false=>
   simp only[Aa]
   cases decide (y<(10:Int)) with
   | true=>
    obtain⟨z,c2,e2,k2,r2⟩:=q6i k1
    simp only[Ad,e2,zOb,q8g hE id (p31 r2.1)]
    exact⟨_,_,rfl,k2,h.put r2.1⟩
   | false=>
   simp only[Aa]
   cases decide (y<(13:Int)) with
   | true=>
    simp only[Ad,q2e hE h.log,zOb]
    exact⟨_,_,rfl,k1,h.commit id⟩
   | false=>
   simp only[Aa]
   cases decide (y=(13:Int)) with
   | true=>
    obtain⟨z,c2,e2,k2,r2⟩:=s6f k1 (l:=PQR) (by decide)
    have hz:=q9m r2
    simp only[Ad,e2,zOb,r90 hE h.log id (show z.size≤1048576 by omega)]
    exact⟨_,_,rfl,k2,h.prep id r2⟩
   | false=>
   simp only[Aa]
   cases decide (y=(14:Int)) with
   | true=>
    obtain⟨z,c2,e2,k2,r2⟩:=s6f k1 (l:=PQR) (by decide)
    obtain⟨z2,c3,e3,k3,r3⟩:=s2q k2 (n:=2) (by omega)
    simp only[Ad,e2,e3,zOb,q2f hE h.log (q9m r2)]
    exact⟨_,_,rfl,k3,h.fin z z2⟩
   | false=>
    obtain⟨z2,c3,e3,k3,r3⟩:=s2q k1 (n:=3) (by omega)
    simp only[Aa,e3,zOb]
    cases z2 with
    | true=>
     simp only[Ad,p3z hE h.log,zOb]
     exact⟨_,_,rfl,k3,h.fix⟩
    | false=>
     simp only[Aa,p0o hE,zOb]
     exact⟨_,_,rfl,k3,h.leave id⟩
 cases decide (id=0) with
 | true=>simp only[Ad];exact key true
 | false=>simp only[Aa];exact key _
theorem p2e {k:Nat} {s:u1s} (h:SttN k s) {c:Src} (hc:c.ok):DrS (s0p (c,s)) (k+1):=by
 rw[q2a];unfold r0z
 cases hd:decide ((s.1.2.length:Int) >0) with
 | true=>
  have hl:0<s.1.2.length:=by simpa using hd
  obtain⟨y,c1,e1,k1,r1⟩:=u1t hc (n:=(s.1.2.length:Int)) (by omega)
  obtain⟨i,rfl⟩:∃i:Nat,y=(i:Int):=⟨y.toNat,by omega⟩
  have hi:i<s.1.2.length:=by omega
  simp only[hd,Ad,e1,zOb,y7t hi]
  exact q70 h _ k1
 | false=>
  simp only[hd,Aa]
  exact q70 h 0 hc
theorem p2h (m:Nat) (hm:1≤m∧m≤1000) {c:Src} (hc:c.ok):∃(s:u1s) (c' :Src),t5j (c,(m:Int))=some (s,c')∧c'.ok∧SttN (m+1) s:=by
 have key:∀(d i:Nat) (c:Src) (j s:u1s),c.ok→SttN i s→m+2≤i+d→i≤m+1→ ∃(c' :Src) (s' :u1s),u7q (c,(m:Int),j,s,(i:Int))=some (.inl (c',j,s'))∧c'.ok∧SttN (m+1) s' :=by
  intro d
  induction d with
  | zero=>intro i c j s _ _ h1 h2;omega
  | succ d ih=>
   intro i c j s hc hs hd hi
   obtain⟨y,c1,e1,k1,r1⟩:=u1t hc (n:=(m:Int)) (by omega)
   rw[r76]
   simp only[t53,e1,zOb]
   rw[y4y (n:=2+y) (by omega) (by omega)]
   by_cases hy:(i:Int)<2+y
   ·obtain⟨c2,s2,e2,k2,r2⟩:=p2e hs k1
    simp only[hy,Ae,Ad,e2,zOb]
    rw[y7l (by omega)]
    exact ih (i+1) c2 j s2 k2 r2 (by omega) (by omega)
   ·simp only[hy,Ah,Aa]
    exact⟨_,_,rfl,k1,hs.mono hi⟩
 obtain⟨s0,e0,h0⟩:=q3w
 obtain⟨c',s',e1,k1,r1⟩:=key (m+2) 0 c (((([], [], [],0,0):u0i), []),([], [])) s0 hc h0 (by omega) (by omega)
 rw[q2b];unfold r00
 have e1:u7q (c,(m:Int),(((([], [], [],0,0):u0i), []),([], [])),s0,0)=_:=e1
 simp only[e0,e1,zOb]
 exact⟨_,_,rfl,k1,r1⟩
end
section
theorem r9t {y:Int} (h:0≤y) {n:Nat} (hn:0<n):y4q (Int.tmod y (n:Int)) n=true:=by
 have:=s9a h (n:=(n:Int)) (by omega)
 exact y7s.mpr ⟨this.1,this.2⟩
theorem midTx.tiny {n:Nat} (hn:n≤100) {t:u0j} (h:midTx n t):tinyT t:=by
 obtain⟨h1,h2,h3,h4,h5⟩:=h
 refine⟨by omega,fun r hr=> ?_,by omega,fun w hw=> ?_,by omega⟩
 ·have:=h2 r hr;omega
 ·have:=h4 w hw;unfold p9n at this;omega
def q9c (l:Hu u2b):Prop:= ∀v∈l,v.1.size≤100∧v.2.1.size≤100
theorem p6j {s:Src} (h:s.ok):Dr (t3w s) (fun y=>y.length≤100∧q9c y):=by
 have key:∀(d i:Nat) (s:Src) (a:Hu u2b),s.ok→a.length≤8*i→8≤i+d→i≤7→q9c a→
  ∃(s' :Src) (a' :Hu u2b),u34 (s,a,(i:Int))=some (.inl (s',a'))∧s'.ok∧a'.length≤100∧q9c a' :=by
  intro d
  induction d with
  | zero=>intro i s a _ _ h1 h2;omega
  | succ d ih=>
   intro i s a hs ha hd hi ht
   obtain⟨y,s1,e1,k1,r1⟩:=u1t hs (n:=8) (by omega)
   rw[s9j]
   simp only[t0l,e1,zOb]
   by_cases hy:(i:Int)<y
   ·obtain⟨ws,s2,e2,k2,r2,r3⟩:=p0u k1
    obtain⟨w1,_,w3⟩:=p52.mp r2
    have hp:=r4g ws a ((i+1:Nat):Int)
    simp only[hy,Ae,Ad,e2,zOb]
    rw[y7l (by omega)]
    simp only[s3m a ws _ (show a.length+ws.length≤1000000000000 by omega),zOb]
    refine ih (i+1) s2 _ k2 (by omega) (by omega) (by omega) fun v hv=> ?_
    rcases(t3i _ _ _).mp hv with q | ⟨w,hw,rfl⟩
    ·exact ht v q
    ·have:=q5v (w1 w hw)
     show w.1.size≤100∧w.2.1.size≤100
     omega
   ·simp only[hy,Ah,Aa]
    exact⟨_,_,rfl,k1,by omega,ht⟩
 obtain⟨s',a',e1,k1,r1,r2⟩:=key 8 0 s [] h (by simp) (by omega) (by omega) (fun v hv=>by cases hv)
 rw[r36];unfold t88
 have e1:u34 (s, [],0)=_:=e1
 simp only[e1,zOb]
 exact⟨_,_,rfl,k1,r1,r2⟩
theorem r4p {l:Hu u2b} (h:q9c l) {i:Nat} {v:u2b} (hv:v.1.size≤100∧v.2.1.size≤100):q9c (l.set i v):=fun x hx=>by
 rcases E0 hx with q | rfl
 ·exact h x q
 ·exact hv
theorem p49 {l:Hu u2b} (h:q9c l) (i:Nat):(rdL u0d l i).1.size≤100∧(rdL u0d l i).2.1.size≤100:=by
 by_cases c:i<l.length
 ·rw[y8k (t:=u0d) c];exact h _ (Ag c)
 ·have:rdL u0d l i=u0d.zero:=by unfold rdL;rw[A5,Be (by omega)];rfl
  rw[this]
  decide
theorem q3i (a b c:Hs) (i:Nat) (ha:a.size≤100) (hb:b.size≤100) (hc:c.size≤100):(rdL Ty.str [a,b,c] i).size≤100:=by
 match i with
 | 0=>exact ha
 | 1=>exact hb
 | 2=>exact hc
 | n+3=>exact s4e
theorem p0t {s:Src} (h:s.ok):Dr (s3b s) (fun y=>y.length≤100∧q9c y):=by
 obtain⟨y1,s1,e1,k1,r1⟩:=u1t h (n:=10) (by omega)
 obtain⟨y2,s2,e2,k2,r2⟩:=u1t k1 (n:=60) (by omega)
 obtain⟨l,s3,e3,k3,m1,m2⟩:=p6j k2
 rw[q4y];unfold r3j
 simp only[e1,e2,e3,zOb,Cc,Co,Cf,u1c (show l.length≤1099511627776 by omega),Ad]
 by_cases hl:l.length=0
 ·have c0:decide ((l.length:Int) >0)=false:=A7 (by omega)
  simp only[c0,Aa]
  exact⟨_,_,rfl,k3,m1,m2⟩
 ·have c0:decide ((l.length:Int) >0)=true:=Bb (by omega)
  have c1:decide ((l.length:Int)=0)=false:=A7 (by omega)
  have g4:=r9t r2.1 (n:=4) (by omega)
  have g3:=r9t r2.1 (n:=3) (by omega)
  have gl:=r9t r2.1 (n:=l.length) (by omega)
  have g4:y4q (Int.tmod y2 4) ([(0:Int),9999,10000,3] :Hu Int).length=true:=g4
  have g3:y4q (Int.tmod y2 3) ([(⟨#[]⟩:Hs),(⟨#[65]⟩:Hs),(⟨#[122]⟩:Hs)] :Hu Hs).length=true:=g3
  obtain⟨lt,q4,q5⟩:=p19 13 97 (by omega)
  have q4:u7v (13,97)=some lt:=q4
  have hrd:=fun i=>p49 m2 i
  simp only[c0,c1,Ad,Bh]
  cases decide (y1=0) with
  | true=>
   simp only[Ad]
   rw[g4,gl]
   simp only[Ad]
   exact⟨_,_,rfl,k3,by rw[Dq];exact m1,r4p m2 (hrd _)⟩
  | false=>
  simp only[Aa]
  cases decide (y1=1) with
  | true=>
   simp only[Ad]
   rw[g3,gl]
   simp only[Ad]
   exact⟨_,_,rfl,k3,by rw[Dq];exact m1,r4p m2 ⟨q3i _ _ _ _ (by decide) (by decide) (by decide),(hrd _).2⟩⟩
  | false=>
  simp only[Aa]
  cases decide (y1=2) with
  | true=>
   simp only[Ad]
   rw[gl]
   simp only[Ad]
   exact⟨_,_,rfl,k3,by rw[Dq];exact m1,r4p m2 (hrd _)⟩
  | false=>
  simp only[Aa]
  cases decide (y1=3) with
  | true=>
   simp only[Ad,q4,zOb]
   rw[gl]
   simp only[Ad]
   exact⟨_,_,rfl,k3,by rw[Dq];exact m1,r4p m2 ⟨(hrd _).1,by show lt.size≤100;omega⟩⟩
  | false=>
   simp only[Aa]
   exact⟨_,_,rfl,k3,m1,m2⟩
theorem p3y {s:Src} (h:s.ok):∃(b:u0i) (s' :Src),t01 s=some (b,s')∧s'.ok∧BaseR b∧b.2.2.2.1≤25∧b.2.2.2.2≤26∧DomB b:=by
 obtain⟨st,c1,e2,k2,r2⟩:=p2h 24 (by omega) h
 have e2:t5j (s,24)=some (st,c1):=e2
 have hn:=r2.num
 have e:((24+1:Nat):Int)=25:=rfl
 refine⟨st.1.1,c1,?_,k2,r2.eng.base,by have:=hn.1;omega,by have:=hn.2;omega,r2.dom.base⟩
 rw[q11];unfold r0q
 simp only[e2,zOb]
theorem p1z {s:Src} (h:s.ok):∃(b:u0i) (s' :Src),t01 s=some (b,s')∧s'.ok∧BaseR b∧b.2.2.2.1≤25∧b.2.2.2.2≤26:=by
 obtain⟨b,s',h1,h2,h3,h4,h5,_⟩:=p3y h
 exact⟨b,s',h1,h2,h3,h4,h5⟩
theorem q7z {l:Hu u0j} {t:u0j} {n:Nat} (h:∀x∈l,tinyT x) (ht:tinyT t):∀x∈l++ [t],tinyT x:=fun x hx=>by
 rcases Ay.mp hx with q | q
 ·exact h x q
 ·rw[Ax.mp q];exact ht
theorem q2n {s:Src} (h:s.ok):Dr (t65 s) (fun b=>tinyB b∧ -1000000≤b.2.2.2.1∧b.2.2.2.1≤100000):=by
 obtain⟨y1,s1,e1,k1,r1⟩:=u1t h (n:=14) (by omega)
 obtain⟨y2,s2,e2,k2,r2⟩:=u1t k1 (n:=60) (by omega)
 obtain⟨b,s3,e3,k3,hB,hc,hn⟩:=p1z k2
 have hT:=hB.tiny
 have hc0:=hB.cs
 have hp:=hB.plen
 have hr:=hB.rlen
 have e4:=t2q b hT.few
 have g4:=r9t r2.1 (n:=4) (by omega)
 have g4:y4q (Int.tmod y2 4) ([(0:Int),1,9999,10000] :Hu Int).length=true:=g4
 rw[q43];unfold r3o
 simp only[e1,e2,e3,e4,zOb]
 have hbd: -1000000≤b.2.2.2.1∧b.2.2.2.1≤100000:=by omega
 cases decide (y1=0) with
 | true=>
  simp only[Ad]
  rw[g4]
  refine⟨_,_,rfl,k3,⟨hT.vl,hT.vs,hT.pl,hT.ps,hT.rl,hT.rs⟩,?_⟩
  have hq:=s9a r2.1 (n:=4) (by omega)
  have:(Int.tmod y2 4).toNat=0∨(Int.tmod y2 4).toNat=1∨(Int.tmod y2 4).toNat=2∨(Int.tmod y2 4).toNat=3:=by omega
  show -1000000≤rdL (Ty.int .i64) _ _∧rdL (Ty.int .i64) _ _≤100000
  rcases this with q | q | q | q<;>rw[q] <;>decide
 | false=>
 simp only[Aa]
 cases decide (y1=1) with
 | true=>exact⟨_,_,rfl,k3,⟨hT.vl,hT.vs,hT.pl,hT.ps,hT.rl,hT.rs⟩,hbd⟩
 | false=>
 simp only[Aa]
 cases decide (y1=2) with
 | true=>
  obtain⟨t,s5,e5,k5,m5⟩:=q3x k3
  simp only[Ad,e5,zOb,Aw,u1c (show b.2.1.length+1≤1099511627776 by omega)]
  exact⟨_,_,rfl,k5,⟨hT.vl,hT.vs,by show(b.2.1++ [t]).length≤1000;simp;omega,q7z (n:=0) hT.ps (m5.tiny (by omega)),hT.rl,hT.rs⟩,hbd⟩
 | false=>
 simp only[Aa]
 cases decide (y1=3) with
 | true=>
  obtain⟨t,s5,e5,k5,m5⟩:=q3x k3
  simp only[Ad,e5,zOb,Aw,u1c (show b.2.2.1.length+1≤1099511627776 by omega)]
  exact⟨_,_,rfl,k5,⟨hT.vl,hT.vs,hT.pl,hT.ps,by show(b.2.2.1++ [t]).length≤1000;simp;omega,q7z (n:=0) hT.rs (m5.tiny (by omega))⟩,hbd⟩
 | false=>
 simp only[Aa]
 cases decide (y1=4) with
 | true=>
  obtain⟨l,s5,e5,k5,m5,m6⟩:=p0t k3
  simp only[Ad,e5,zOb]
  exact⟨_,_,rfl,k5,⟨by show l.length≤10000;omega,m6,hT.pl,hT.ps,hT.rl,hT.rs⟩,hbd⟩
 | false=>exact⟨_,_,rfl,k3,hT,hbd⟩
theorem p70 {s:Src} (h:s.ok):Dr (t6e s) tinyR:=by
 obtain⟨y1,s1,e1,k1,r1⟩:=u1t h (n:=4) (by omega)
 rw[r7z];unfold s39
 simp only[e1,zOb]
 cases decide (IntKind.i64.wrap (1+y1)=1) with
 | true=>
  obtain⟨t,s2,e2,k2,m⟩:=p2g k1
  have hT:=m.tiny (by omega)
  simp only[Ad,e2,zOb]
  exact⟨_,_,rfl,k2,⟨hT.like rfl rfl s4e,s4e,u3v⟩⟩
 | false=>
 simp only[Aa]
 cases decide (IntKind.i64.wrap (1+y1)=2) with
 | true=>
  obtain⟨t,s2,e2,k2,m⟩:=p2g k1
  have hT:=m.tiny (by omega)
  simp only[Ad,e2,zOb]
  have hq:(⟨#[112]⟩:Hs).size≤100:=by decide
  exact⟨_,_,rfl,k2,⟨hT.like rfl rfl hq,s4e,u3v⟩⟩
 | false=>
 simp only[Aa]
 cases decide (IntKind.i64.wrap (1+y1)=3) with
 | true=>
  obtain⟨t,s2,e2,k2,m⟩:=s6f k1 (l:= [(⟨#[112]⟩:Hs),(⟨#[113]⟩:Hs)]) (by decide)
  obtain⟨y3,s3,e3,k3,_⟩:=s2q k2 (n:=2) (by omega)
  have hq:t.size≤100:=by
   simp only[A8,Ep,Em] at m
   rcases m with rfl | rfl<;>decide
  simp only[Ad,e2,e3,zOb]
  exact⟨_,_,rfl,k3,⟨t0i,hq,u3v⟩⟩
 | false=>
  obtain⟨b,s2,e2,k2,hB,_⟩:=p1z k1
  simp only[Aa,e2,zOb]
  exact⟨_,_,rfl,k2,⟨t0i,s4e,hB.tiny⟩⟩
theorem q6a {s:Src} (h:s.ok):Dr (t66 s) tinyR:=by
 obtain⟨y1,s1,e1,k1,r1⟩:=u1t h (n:=10) (by omega)
 obtain⟨y2,s2,e2,k2,r2⟩:=u1t k1 (n:=60) (by omega)
 obtain⟨r,s3,e3,k3,hR⟩:=p70 k2
 have g3:=r9t r2.1 (n:=3) (by omega)
 have g3:y4q (Int.tmod y2 3) ([(⟨#[]⟩:Hs),(⟨#[65]⟩:Hs),(⟨#[112]⟩:Hs)] :Hu Hs).length=true:=g3
 rw[q44];unfold r3p
 simp only[e1,e2,e3,zOb]
 cases decide (y1=0) with
 | true=>exact⟨_,_,rfl,k3,⟨hR.t,hR.n,hR.b⟩⟩
 | false=>
 simp only[Aa]
 cases decide (y1=1) with
 | true=>
  simp only[Ad]
  rw[g3]
  exact⟨_,_,rfl,k3,⟨hR.t,q3i _ _ _ _ (by decide) (by decide) (by decide),hR.b⟩⟩
 | false=>
 simp only[Aa]
 cases decide (y1=2) with
 | true=>
  obtain⟨t,s5,e5,k5,m5⟩:=q3x k3
  simp only[Ad,e5,zOb]
  exact⟨_,_,rfl,k5,⟨m5.tiny (by omega),hR.n,hR.b⟩⟩
 | false=>
 simp only[Aa]
 cases decide (y1=3) with
 | true=>exact⟨_,_,rfl,k3,⟨hR.t,hR.n,hR.b⟩⟩
 | false=>exact⟨_,_,rfl,k3,hR⟩
end
section
theorem sr (t:Hs):z7o t t=true:=by simp[z7o]
theorem q0e (a:Hu WrT) (ha:a.length≤1048576):t4f (a,a)=some true:=by
 rw[r5h];unfold s0y
 have L:=s6c u6s a (fun i=>(a,a,i)) (fun _=>false) (.inr false) (.inl ())
  (by rw[t8n];simp only[u6m,u0b,Am,Ah,Aa])
  (fun i hi=>by
   rw[t8n];simp only[u6m,u0b,hi,Ae,Ad,y7t hi,zTn,y8k (t:=u1x) hi,sr,beq_self_eq_true,Cz,Ap,Aa]
   rw[y7l (by omega)])
 have hn:(a.any fun _=>false)=false:=by simp
 rw[hn] at L
 simp only[Ae,Ap,Aa,L,zOb]
theorem r5y (a:Hu u2b) (ha:a.length≤1048576):t2m (a,a)=some true:=by
 rw[r1z];unfold t7i
 have L:=s6c u5f a (fun i=>(a,a,i)) (fun _=>false) (.inr false) (.inl ())
  (by rw[t50];simp only[u5c,u0b,Am,Ah,Aa])
  (fun i hi=>by
   rw[t50];simp only[u5c,u0b,hi,Ae,Ad,y7t hi,zTn,y8k (t:=u0d) hi,sr,beq_self_eq_true,Cz,Ap,Aa]
   rw[y7l (by omega)])
 have hn:(a.any fun _=>false)=false:=by simp
 rw[hn] at L
 simp only[Ae,Ap,Aa,L,zOb]
theorem r66 (t:u0j) (h:q2c t):t49 (t,t)=some true:=by
 have h1:=h.1
 have L:=s6c u7b t.2.2.2.2.1 (fun i=>(t,t,i)) (fun _=>false) (.inr false) (.inl ())
  (by rw[s5l];simp only[t1b,u0b,Am,Ah,Aa])
  (fun i hi=>by
   rw[s5l];simp only[t1b,u0b,hi,Ae,Ad,y7t hi,zTn,y8k (t:=u8f) hi,sr,Cz,Ap,Aa]
   rw[y7l (by omega)])
 have hn:(t.2.2.2.2.1.any fun _=>false)=false:=by simp
 rw[hn] at L
 have L:u7b (t,t,0)=_:=L
 rw[q08];unfold s9v
 simp only[Ae,Ap,Aa,beq_self_eq_true,sr,q0e _ h.2,L,zOb]
theorem r4m (a:Hu u0j) (h:p01 a):t3p (a,a)=some true:=by
 have h1:=h.1
 rw[r86];unfold s6y
 have L:=s6c u9z a (fun i=>(a,a,i)) (fun _=>false) (.inr false) (.inl ())
  (by rw[s19];simp only[u9j,u0b,Am,Ah,Aa])
  (fun i hi=>by
   rw[s19];simp only[u9j,u0b,hi,Ae,Ad,y7t hi,zTn,y8k (t:=u1b) hi,r66 _ (h.2 _ (Ag hi)),zOb,Ap,Aa]
   rw[y7l (by omega)])
 have hn:(a.any fun _=>false)=false:=by simp
 rw[hn] at L
 simp only[Ae,Ap,Aa,L,zOb]
theorem s3g (b:u0i) (h:tinyB b):u06 (b,b)=some true:=by
 have hf:=h.few
 rw[r85];unfold s6x
 simp only[r5y b.1 (by have:=h.vl;omega),r4m _ hf.2.1,r4m _ hf.2.2,zOb,Ad,Ae]
theorem q0d (r:t8z) (h:tinyR r):t4e (r,r)=some true:=by
 rw[r5g];unfold s0x
 simp only[r66 _ h.t.few,s3g _ h.b,sr,beq_self_eq_true,zOb,Ad,Ae]
end
section
theorem q6c {s:Src} (h:s.ok) (t:Hs) (ht:t.size≤1000000):Dr (t2f (s,t)) (fun y=>y.size≤t.size+1):=by
 obtain⟨y,s1,e1,k1,r1⟩:=u1t h (n:=12) (by omega)
 rw[r7w];unfold s36
 simp only[e1,zOb]
 have two:∀(F:Ht (Hs×Src)),F=(bif decide ((t.size:Int) >0) then((u0f (s1,(t.size:Int))).bind fun y4=>(bif decide ((0:Int)≤0)&&decide ((0:Int)≤y4.1)&&decide (y4.1≤(t.size:Int)) then((u4l (y4.2,(1:Int))).bind fun y5=>(bif decide ((t.extract ((0:Int)).toNat (y4.1).toNat).size+y5.1.size≤140737488355328) then(bif decide ((0:Int)≤(IntKind.i64.wrap (y4.1+(1:Int))))&&decide ((IntKind.i64.wrap (y4.1+(1:Int)))≤(t.size:Int))&&decide ((t.size:Int)≤(t.size:Int)) then(bif decide (((t.extract ((0:Int)).toNat (y4.1).toNat)++y5.1).size+(t.extract ((IntKind.i64.wrap (y4.1+(1:Int)))).toNat ((t.size:Int)).toNat).size≤140737488355328) then(some ((((t.extract ((0:Int)).toNat (y4.1).toNat)++y5.1)++(t.extract ((IntKind.i64.wrap (y4.1+(1:Int)))).toNat ((t.size:Int)).toNat)),y5.2)) else none) else none) else none)) else none)) else(some (t,s1)))→Dr F (fun y=>y.size≤t.size+1):=by
  intro F hF
  rw[hF]
  by_cases h0:t.size=0
  ·have c0:decide ((t.size:Int) >0)=false:=A7 (by omega)
   rw[c0]
   exact⟨_,_,rfl,k1,by omega⟩
  ·have c0:decide ((t.size:Int) >0)=true:=Bb (by omega)
   obtain⟨z,s2,e2,k2,r2⟩:=u1t k1 (n:=(t.size:Int)) (by omega)
   obtain⟨u,s3,e3,k3,r3⟩:=p2f k2 (n:=1) (by omega)
   have e3:u4l (s2,(1:Int))=some (u,s3):=e3
   obtain⟨i,rfl⟩:∃i:Nat,z=(i:Int):=⟨z.toNat,by omega⟩
   have hi:i<t.size:=by omega
   have w1:IntKind.i64.wrap ((i:Int)+(1:Int))=((i+1:Nat):Int):=y7l (by omega)
   have d1:decide ((0:Int)≤0)=true:=rfl
   have d2:decide ((0:Int)≤(i:Int))=true:=Bb (by omega)
   have d3:decide ((i:Int)≤(t.size:Int))=true:=Bb (by omega)
   have d4:decide ((0:Int)≤((i+1:Nat):Int))=true:=Bb (by omega)
   have d5:decide (((i+1:Nat):Int)≤(t.size:Int))=true:=Bb (by omega)
   have d6:decide ((t.size:Int)≤(t.size:Int))=true:=Bb (by omega)
   have z1:(t.extract ((0:Int)).toNat ((i:Int)).toNat).size=i:=by rw[Bd,zTn];simp;omega
   have z2:(t.extract (((i+1:Nat):Int)).toNat ((t.size:Int)).toNat).size=t.size - (i+1):=by rw[Bd,zTn,zTn];omega
   have d7:decide ((t.extract ((0:Int)).toNat ((i:Int)).toNat).size+u.size≤140737488355328)=true:=Bb (by rw[z1];omega)
   have d8:decide (((t.extract ((0:Int)).toNat ((i:Int)).toNat)++u).size+(t.extract (((i+1:Nat):Int)).toNat ((t.size:Int)).toNat).size≤140737488355328)=true:=Bb (by rw[Af,z1,z2];omega)
   rw[c0]
   simp only[Ad,e2,zOb,d1,d2,d3,Dt,e3,w1,d4,d5,d6]
   rw[d7]
   simp only[Ad]
   rw[d8]
   refine⟨_,_,rfl,k3,?_⟩
   show ByteArray.size _≤t.size+1
   rw[Af,Af,z1,z2];omega
 by_cases c0:y=0
 ·obtain⟨u,s3,e3,k3,r3⟩:=p2f k1 (n:=1) (by omega)
  have e3:u4l (s1,(1:Int))=some (u,s3):=e3
  have d1:decide (t.size+u.size≤140737488355328)=true:=Bb (by omega)
  simp only[c0,Ae,Ad,e3,zOb]
  rw[d1]
  exact⟨_,_,rfl,k3,by show ByteArray.size _≤t.size+1;rw[Af];omega⟩
 simp only[c0,Ah,Aa]
 by_cases c1:y=1
 ·have w1:IntKind.i64.wrap ((t.size:Int)+(1:Int))=((t.size+1:Nat):Int):=y7l (by omega)
  obtain⟨z,s2,e2,k2,r2⟩:=u1t k1 (n:=((t.size+1:Nat):Int)) (by omega)
  have d1:(decide ((0:Int)≤0)&&decide ((0:Int)≤z)&&decide (z≤(t.size:Int)))=true:=by
   rw[Bb (show(0:Int)≤z by omega),Bb (show z≤(t.size:Int) by omega)];rfl
  simp only[c1,Ae,Ad,w1,e2,zOb]
  rw[d1]
  exact⟨_,_,rfl,k2,by show ByteArray.size _≤t.size+1;rw[Bd];omega⟩
 simp only[c1,Ah,Aa]
 by_cases c2:y=2
 ·simp only[c2,Ae,Ad]
  exact two _ rfl
 simp only[c2,Ah,Aa]
 by_cases c3:y=3
 ·simp only[c3,Ae,Ad]
  exact two _ rfl
 ·simp only[c3,Ah,Aa]
  exact⟨_,_,rfl,k1,by omega⟩
theorem q9f {t s:Hs} (h:u62 t=some s):s.size≤20000:=s3i h
theorem r43 {l:Hu Int} (hl:l.length≤1048576):∃u,u86 l=some u∧u.size≤1000000:=by
 obtain⟨c0,z1,z2⟩:=q9l hl
 obtain⟨y,c1,e1,k1,r1⟩:=u1t z2 (n:=3) (by omega)
 obtain⟨r,c2,e2,k2,hR⟩:=q6a k1
 have h3:=u5y r hR.wt
 have hs:=t5k r
 have h4:=r2u (u0o r).1 (by unfold u0l;omega)
 rw[s7q];unfold t5o
 simp only[z1,e1,e2,h3,zOb]
 cases decide (y=0) with
 | false=>exact⟨_,rfl,by omega⟩
 | true=>
  simp only[Ad,h4,zOb]
  cases hu:u62 (u0o r).1 with
  | none=>exact⟨_,rfl,by omega⟩
  | some t=>
   have ht:=q9f hu
   obtain⟨v,c3,e3,k3,r3⟩:=q6c k2 t (by omega)
   have h5:=t7e v (by omega)
   simp only[Ad,e3,h5,zOb]
   refine⟨_,rfl,?_⟩
   unfold r67
   split
   ·show(s11 v).size≤1000000
    rw[r5z];omega
   ·exact A9 s4e (by omega)
def s07 (b:u0i):Hs×Bool:=if u4v b=true then(u7r b,true) else(emp,false)
theorem q6l (b:u0i):(s07 b).1.size≤10000:=by
 unfold s07
 split
 ·rename_i h
  have hb:=q2w.mp h
  have:=s8z hb
  have:=hb.plen
  have:=hb.rlen
  have:=(p3w.mp hb.vs).2.2
  show(u7r b).size≤10000
  omega
 ·exact A9 s4e (by omega)
theorem r8i {l:Hu Int} (hl:l.length≤1048576):∃(v:Hs) (a:Int),t2o l=some (v,a)∧v.size≤1000000∧inT v (a,false):=by
 obtain⟨c0,z1,z2⟩:=q9l hl
 obtain⟨y,c1,e1,k1,r1⟩:=u1t z2 (n:=4) (by omega)
 obtain⟨b,c2,e2,k2,hB,_⟩:=q2n k1
 have h3:u85 b=some (s07 b):=r2q b (by have:=hB.wt;omega)
 have hs:=q6l b
 rw[r19];unfold t7k
 simp only[z1,e1,e2,h3,zOb]
 cases decide (y=0) with
 | true=>
  obtain⟨v,c3,e3,k3,r3⟩:=q6c k2 (s07 b).1 (by omega)
  simp only[Ad,e3,zOb]
  exact⟨_,_,rfl,by omega,⟨Bv _,by show(0:Int)≤(v.size:Int);omega⟩⟩
 | false=>
 simp only[Aa]
 cases decide (y=1) with
 | true=>
  have s1:(⟨#[120]⟩:Hs).size=1:=rfl
  have d:decide ((⟨#[120]⟩:Hs).size+(s07 b).1.size≤140737488355328)=true:=Bb (by rw[s1];omega)
  simp only[Ad]
  rw[d]
  refine⟨_,_,rfl,by rw[Af,s1];omega,⟨by show(0:Int)≤1;decide,?_⟩⟩
  show(1:Int)≤(((⟨#[120]⟩:Hs)++(s07 b).1).size:Int)
  rw[Af,s1];omega
 | false=>
  have s1:(⟨#[109,111,114,101]⟩:Hs).size=4:=rfl
  have d:decide ((s07 b).1.size+(⟨#[109,111,114,101]⟩:Hs).size≤140737488355328)=true:=Bb (by rw[s1];omega)
  simp only[Aa]
  rw[d]
  refine⟨_,_,rfl,by rw[Af,s1];omega,⟨Bv _,?_⟩⟩
  show(0:Int)≤(((s07 b).1++(⟨#[109,111,114,101]⟩:Hs)).size:Int)
  omega
def rdB (s:Hs) (a:Int):u0i×Int×Bool:=if(u4x q5z s (a,false)).2.2=true then(u2k,0,false) else((u4x q5z s (a,false)).1,(u4x q5z s (a,false)).2.1,true)
theorem r2r {s:Hs} (hs:s.size≤1048576) {a:Int} (hc:inT s (a,false)):t3m (s,a)=some (rdB s a):=by
 have h1:=q6m hs hc
 rw[r8z];unfold s6r rdB
 simp only[h1,zOb]
 cases hI:(u4x p5w s (a,false)).2.2 with
 | false=>
  have e:=s85 q8x q5c hI
  rw[e,hI]
  rfl
 | true=>
  cases hS:(u4x q5z s (a,false)).2.2 with
  | true=>rfl
  | false=>
   have e:=s85 q5c q8x hS
   rw[e,hS] at hI;cases hI
theorem p41 (s:Hs) (a:Int):tinyB (rdB s a).1:=by
 unfold rdB
 split
 ·exact u3v
 ·rename_i h
  have h:(u4x q5z s (a,false)).2.2=false:=by simpa using h
  have:((t8e q5z s (a,false)).2.2 || !u4v (t8e q5z s (a,false)).1)=false:=h
  rw[Es] at this
  have hb:u4v (t8e q5z s (a,false)).1=true:=by simpa using this.2
  exact(q2w.mp hb).tiny
theorem p1f {b:u0i} (hb:BaseR b) (p q:Hs):rdB (p++u7r b++q) (p.size:Int)=(b,((p.size+(u7r b).size:Nat):Int),true):=by
 have h:=r61 q5c hb (q3f (a:=p) (s:=u7r b) (b:=q))
 have hk:u4x q5z (p++u7r b++q) ((p.size:Int),false)=(b,((p.size+(u7r b).size:Nat):Int),false):=by
  unfold u4x
  rw[h,q2w.mpr hb]
  rfl
 unfold rdB
 rw[hk]
 rfl
theorem q5m (r:t8z):(u0o r).2=u3s r:=by
 cases h:u3s r with
 | true=>rw[u4m (p50.mp h)]
 | false=>unfold u0o;rw[h];rfl
theorem p0n {l:Hu Int} (hl:l.length≤1048576):∃r,u87 l=some r∧tinyR r:=by
 obtain⟨c0,z1,z2⟩:=q9l hl
 obtain⟨r,c2,e2,k2,hR⟩:=q6a z2
 refine⟨r,?_,hR⟩
 rw[s7r];unfold t5p
 simp only[z1,e2,zOb]
theorem p10 {l:Hu Int} (hl:l.length≤1048576):∃b,t2n l=some b∧tinyB b:=by
 obtain⟨c0,z1,z2⟩:=q9l hl
 obtain⟨b,c2,e2,k2,hB,_⟩:=q2n z2
 refine⟨b,?_,hB⟩
 rw[r12];unfold t7j
 simp only[z1,e2,zOb]
theorem q5b (x:Hu Int) (hx:(Ty.sl (.int .u8)).fine x):s5f x=some true:=by
 rw[r7m];unfold s3w
 rw[p00];unfold q2r
 simp only[zOb]
 by_cases hb:(x.length:Int) >1048576
 ·simp only[hb,Ae,Ad]
 simp only[hb,Ah,Aa]
 obtain⟨r,d1,hR⟩:=p0n (l:=x) (by omega)
 obtain⟨u,d2,hu⟩:=r43 (l:=x) (by omega)
 obtain⟨b,d3,hB⟩:=p10 (l:=x) (by omega)
 obtain⟨v,a,d4,hv,hin⟩:=r8i (l:=x) (by omega)
 have hwb:=hB.wt
 have a1:=u8m r hR.wt
 have hl:=t5k r
 have a2:=s6h (u0o r).1 (by unfold u0l;omega)
 have a3:=s6h u (by unfold u0l;omega)
 have a4:=s6i u (by unfold u0l;omega)
 have a5:=u8m (t2p u).1 (q3c u).wt
 have a6:u83 b=some (s07 b):=r2p b (by omega)
 have hbl:=q6l b
 have s1:(⟨#[120]⟩:Hs).size=1:=rfl
 have s2:(⟨#[121]⟩:Hs).size=1:=rfl
 have g1:decide ((⟨#[120]⟩:Hs).size+(s07 b).1.size≤140737488355328)=true:=Bb (by rw[s1];omega)
 have g2:decide (((⟨#[120]⟩:Hs)++(s07 b).1).size+(⟨#[121]⟩:Hs).size≤140737488355328)=true:=Bb (by rw[Af,s1,s2];omega)
 have a7:=r2r (s:=(⟨#[120]⟩:Hs)++(s07 b).1++(⟨#[121]⟩:Hs)) (a:=1) (by rw[Af,Af,s1,s2];omega) ⟨by show(0:Int)≤1;decide,by show(1:Int)≤((_:Hs).size:Int);rw[Af,Af,s1,s2];omega⟩
 have a8:=r2r (by omega:v.size≤1048576) hin
 have a9:u88 (v,a)=some (rdB v a):=q6n (by omega) hin
 have b1:=s2u r hR.wt
 have b2:=r2s r hR.wt
 have b3:=t2h b (by omega)
 have e1:=q5m r
 have e2:=s3g _ (p41 v a)
 have w1:IntKind.i64.wrap (1+(((s07 b).1.size:Nat):Int))=((1+(s07 b).1.size:Nat):Int):=by rw[y4y (by omega) (by omega)];omega
 have e3:(s07 b).2=u4v b:=by
  unfold s07
  cases u4v b<;>rfl
 have f1:u3s r=true→t2p (u0o r).1=(r,true):=fun h=>by
  have hr:=p50.mp h
  rw[u4m hr]
  show t2p (s11 (s3d r))=(r,true)
  unfold t2p
  rw[t9t hr]
 have f2:(t2p u).2=true→z7o (u0o (t2p u).1).1 u=true:=fun h=>by
  unfold t2p at h ⊢
  cases hq:u2r u with
  | none=>rw[hq] at h;cases h
  | some r' =>
   obtain⟨q1,q2⟩:=s3c hq
   show z7o (u0o r').1 u=true
   rw[u4m q1]
   show z7o (s11 (s3d r')) u=true
   rw[←q2];exact sr u
 have f3:u4v b=true→rdB ((⟨#[120]⟩:Hs)++(s07 b).1++(⟨#[121]⟩:Hs)) 1=(b,((1+(s07 b).1.size:Nat):Int),true):=fun h=>by
  have e:s07 b=(u7r b,true):=by unfold s07;rw[Al h]
  rw[e]
  exact p1f (q2w.mp h) (⟨#[120]⟩:Hs) (⟨#[121]⟩:Hs)
 have e4:=q0d r hR
 have e5:=s3g b hB
 simp only[d1,d2,d3,d4,a1,a2,a3,a4,a5,a6,g1,g2,a7,a8,a9,b1,b2,b3,e1,e2,e3,w1,Ad,zOb,beq_self_eq_true,Ae]
 cases h1:u3s r<;>cases h2:(t2p u).2<;>cases h3:u4v b<;>simp only[Ap,Bh,Ad,Aa,zOb]
 ·rw[f3 h3];simp only[e5,Ad,Ae,zOb]
 ·simp only[f2 h2,Ad,zOb]
 ·rw[f3 h3];simp only[f2 h2,e5,Ad,Ae,zOb]
 ·rw[f1 h1];simp only[e4,Ad,zOb]
 ·rw[f1 h1,f3 h3];simp only[e4,e5,Ad,Ae,zOb]
 ·rw[f1 h1];simp only[f2 h2,e4,Ad,zOb]
 ·rw[f1 h1,f3 h3];simp only[f2 h2,e4,e5,Ad,Ae,zOb]
end
end
end Go.Proofs.YtkdpclfhapphhaaGreat.Ab
