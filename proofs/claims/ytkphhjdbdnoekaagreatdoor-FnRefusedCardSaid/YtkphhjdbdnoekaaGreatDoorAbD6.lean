import Derived.Test.YtkphhjdbdnoekaaGreatDoorAbD5
namespace Go.Proofs.YtkphhjdbdnoekaaGreatDoor.Ab
open Go
set_option linter.unusedVariables false
set_option linter.unusedSimpArgs false
set_option linter.unnecessarySimpa false
section
variable {P:Program} {A:Ann} {C:Cx} {env:List D} {H:z0a} {B:List (Option Nat)} {a:Act} {w w' :World} {H' :z0a} {B' :List (Option Nat)}
theorem St.drew (h:St C env H B a w):St C env H B a w.drew:=by
 have s:Step (C.N B) (C.Np B) (C.N B) (C.Np B) H B w H B w.drew:=
  ⟨⟨Au _,fun _ _ _=>rfl,fun _ _ q=>q⟩,⟨Au _,fun _ _ _=>rfl,fun _ _ q=>q⟩,Au _,fun id _ cells e=>⟨⟨_,e⟩,rfl⟩,
   fun id _ p st t l e=>⟨_,_,_,_,e,Au _,fun _=>⟨rfl,rfl,rfl⟩⟩,fun _ cs k=>⟨cs,k,rfl⟩⟩
 exact h.go s {lenB:=h.lenB,nodup:=h.nodup,alloc:=h.alloc,blk:=fun i b ob e1 e2=>(h.blk i b ob e1 e2).step s (fun _ _=>rfl),lb:=h.lb,lp:=h.lp,gl:=h.gl,gp:=h.gp,
               fr:=h.fr.trans' (Au _) (fun _ _ _=>rfl) (fun _ cs k=>⟨cs,k,rfl⟩) rfl rfl rfl}
theorem z2k (s:Step (C.N B) (C.Np B) (C.N B') (C.Np B') H B w H' B' w') (b:Bool):Goes (pk b (C.N B) (C.Np B)) (pk b (C.N B') (C.Np B')) w w' :=by
 cases b
 .exact s.g
 .exact s.gp
theorem Holds.lets {N Np Nt:Nat->Prop} {p:Bool} {e:Ty} {l:List e.den} {cs:Array Value} (h:Holds (pk p N Np) w e l cs) (hL:Lets N Np w p Nt):Holds Nt w e l cs:=
 ⟨h.1,fun i hi=>by obtain⟨us,k1,k2⟩:=h.2 i hi;exact⟨us,k1.lets hL,k2⟩⟩
theorem z5i (hlb:∀b,C.Lb b->C.Lp b) {p q:Bool} (hpq:imp p q=true):Lets (C.N B) (C.Np B) w q (pk p (C.N B) (C.Np B)):=by
 have:=z2u (C:=C) (B:=B) (w:=w) hlb [] hpq;simpa[killB] using this
theorem Dat.plain {N N' :Nat->Prop} :∀ {t:Ty} {x:t.den} {vs:List Value},t.plain=true->Dat N w t x vs->Dat N' w t x vs
 | .int _,_,_,_,h=>h | .bool,_,_,_,h=>h | .str,_,_,_,h=>h | .sl _,_,_,hp,_=>by cases hp
 | .pair a b,_,_,hp,h=>by
  simp only[Ty.plain,Ai] at hp;obtain⟨us,ws,rfl,h1,h2⟩:=h;exact⟨us,ws,rfl,Dat.plain hp.1 h1,Dat.plain hp.2 h2⟩
theorem Holds.plain {N Np:Nat->Prop} {q:Bool} {e:Ty} {l:List e.den} {cs:Array Value} (h:Holds (pk q N Np) w e l cs):Holds (pk (q || e.plain) N Np) w e l cs:=by
 cases hp:e.plain with
 | false=>rw[Fp];exact h | true=>exact⟨h.1,fun i hi=>by obtain⟨us,k1,k2⟩:=h.2 i hi;exact⟨us,k1.plain hp,k2⟩⟩
theorem y0x {N Np:Nat->Prop} {id st:Nat} {p:Bool} {e:Ty} {l:List e.den} {v:Value} {c:Nat} {a0:Option Addr} (hid:id<H.length) (hH:H[id]? =some (.arr p st e l)) (hv:v= .slice a0 l.length c) (hc:l.length<=c)
 (hr:RowP B w id e.size 0 c a0):CR N Np H B w (.hd id st) v:=by
 simp only[CR];refine⟨⟨hid,by rw[hv];rfl⟩,fun p' st' t' l' e1=> ?_⟩;rw[hH] at e1;injection e1 with e1
 injection e1 with q1 q2 q3 q4
 subst q1;subst q2;subst q3;cases q4;exact⟨Au _,fun _=>⟨a0,c,hv,hc,hr⟩⟩
theorem y1v (ok:TyOk P A) (h:St C env H B a w) {o:Oper} {cl:Call} {s x:Operand} {t t2:Nat} (ho:o.op= .call cl) (hcl:cl.callee= .builtin .append) (hargs:cl.args.toList= [s,x]) (hts:cl.argTypes.toList= [t,t2])
 {e:Ty} (ht:A.ty t=some (.sl e)) (ht2:y2n (A.ty t2)=true) {q0 q:Bool} (hq:q=(q0 || e.plain)) {xs:List e.den} (hx:z6e H e (opd env x)=some (q0,xs)) {id st:Nat} (hs:opd env s= .hd id st) {p:Bool} {l:List e.den} (hH:H[id]? =some (.arr p st e l))
 (hlim:l.length+xs.length<=1099511627776):EffGives P C env (H.set id (.arr (p&&q) (st+1) e (l++xs))) a w o (.hd id (st+1)):=by
 obtain⟨et,hu,hty⟩:=ok.sl _ _ ht;have hxr:=z0y h x;have hsr:=z0y h s;rw[hs] at hsr;simp only[CR] at hsr;have hsr' :=hsr;obtain⟨⟨hid,_⟩,hp⟩:=hsr;obtain⟨_,hp⟩:=hp _ _ _ _ hH;obtain⟨a0,c,hv,hc,hr⟩:=hp rfl;have hidB:id<B.length:=by rw[h.lenB];exact hid
 have hB:=A4 hidB;have hbr:=h.blk _ _ _ hH hB;obtain⟨new,n1,n2,n3,n4,n5⟩:=z6x (P:=P) h.toHS hxr hx;have n4:Holds (pk q (C.N B) (C.Np B)) w e xs new:=by rw[hq];exact n4.plain
 have hrows:=z7o hH hB hbr (y0k hH hsr');simp only[Fh,Cq] at hrows;obtain⟨old,o1,o2,o3,o4⟩:=hrows.load (P:=P);rw[hv] at o2;have happ:=z6v ok (fun i hi=>ok.small _ _ _ _ ht hu hi) hu hty ht2 hts (ty:=o.type) (base:=a0) hc hlim n2 (n3 w rfl) (n3 w.drew rfl) (o2 w.drew rfl);have hm:cl.args.map a.eval= #[.slice a0 l.length c,a.eval x] :=by
  apply Fj;rw[Eg,hargs];simp[hv]
 have hexec:∀v w',(Builtin.append_ cl.argTypes o.type #[.slice a0 l.length c,a.eval x]).run P w= .ok v w' ->(execOp a.eval o).run P w= .ok (.value v) w' :=by
  intro v w' e;simp only[execOp,ho,resolve,hcl,hm,invoke,Go.builtin,Sem.run_bind,Sem.run_pure,Result.andThen_ok,e]
 have hll:(l++xs).length=l.length+xs.length:=by simp
 have hkind:∃p0 st0 t0 l0,Blk.arr p st e l= .arr p0 st0 t0 l0/\st0<=st+1/\(st0=st+1->t0=e/\l0.length=(l++xs).length/\(B[id])=B[id]):=⟨_,_,_,_,rfl,by omega,fun z=>by omega⟩;rcases happ with ⟨hfit,hrun⟩ | ⟨hlt,nc,rest,hnc,hrs,hrun⟩
 .unfold RowP at hr;rw[hB] at hr;cases hob:B[id] with
  | none=>
   rw[hob] at hbr hr hB;simp only[BR] at hbr hr;obtain⟨rfl,rfl⟩:=hr;subst hbr;have hx0:xs= [] :=by cases xs with
    | nil=>rfl | cons _ _=>simp at hfit
   subst hx0;simp only[Sem.run_pure,Result.andThen_ok] at hrun;have hst:=h.upd (blk:= .arr (p&&q) (st+1) e ([] ++ [])) (ob' :=none) hH hB (Au _) (fun _ _ _=>rfl) (fun _ cs k=>⟨cs,k,rfl⟩) rfl rfl rfl (.inl rfl) ⟨_,_,_,_,rfl,by omega,fun z=>by omega⟩ (fun _=>by simp[BR]);refine⟨_,_,w, .inl (hexec _ _ hrun),hst,?_⟩;refine y0x (by simpa using hid) (by rw[Cb,Al rfl,Al hid]) (c:=0) (a0:=none) (by simp) (by simp) ?_;unfold RowP;rw[Cb,Al rfl,Al hidB];exact⟨rfl,rfl⟩
  | some rb=>
   rw[hob] at hbr hr hB;obtain⟨cs,hcs,hsz,hd⟩:=hbr;simp only at hr;obtain⟨rfl,cs1,hcs1,hroom⟩:=hr;have hsame:cs1=cs:=by
    obtain⟨e1,k1⟩:=hcs;obtain⟨e2,k2⟩:=hcs1;rw[k1] at k2;injection k2 with k2
    injection k2 with k2 _
    exact k2.symm
   subst hsame;have hpos:=e.size_pos;have hnew:(l.length+xs.length)*e.size<=cs1.size:=by
    refine A9 (Bo _ hfit) ?_;rw[Co] at hroom;exact hroom
   rw[Cl] at hnew;obtain⟨el,hel⟩:=hcs;have hst0:=run_storeCells_at (P:=P) rb (l.length*e.size) el new.toList 0 cs1 w hel (by simp;omega) n5;have hadd:(⟨rb,0*e.size,none⟩:Addr).add (l.length*e.size)=⟨rb,l.length*e.size,none⟩:=by rw[z2p];simp
   simp only[hadd] at hrun;rw[hst0] at hrun;simp only[Result.andThen_ok,Df,B6,n1] at hrun;have hsp:=z1l cs1.toList new.toList (l.length*e.size) (by simp;omega);obtain⟨k1,k2,k3,k4,k5,k6,k7⟩:=z1v (cs' :=(cs1.toList.take (l.length*e.size)++new.toList++cs1.toList.drop (l.length*e.size+xs.length*e.size)).toArray) (w:=w) ⟨el,hel⟩ (by
    simp at hsp ⊢;rw[n1] at hsp ⊢;omega)
   have hget:∀k:Nat,(cs1.toList.take (l.length*e.size)++new.toList++cs1.toList.drop (l.length*e.size+xs.length*e.size)).toArray[k]? =if l.length*e.size<=k/\k<l.length*e.size+xs.length*e.size then new[k - l.length*e.size]? else cs1[k]? :=by
    intro k;have:=z3g cs1.toList new.toList (l.length*e.size) k (by simp;omega);simp only[B6,n1,El] at this;rw[←this];simp
   have hH1:Holds (pk (p&&q) (C.N B) (C.Np B)) w e (l++xs) (cs1.toList.take (l.length*e.size)++new.toList++cs1.toList.drop (l.length*e.size+xs.length*e.size)).toArray:=by
    refine⟨?_,fun i hi=> ?_⟩
    .rw[hll,Cl];simp at hsp ⊢;rw[n1] at hsp ⊢;omega
    .by_cases z:i<l.length
     .obtain⟨us,m1,m2⟩:=hd i z;refine⟨us,?_,fun j hj=> ?_⟩
      .rw[Ck z];exact m1.lets (z5i h.lb (by cases p<;>cases q<;>rfl))
      .have:=z2d z hj;rw[hget,Ao (by omega)];exact m2 j hj
     .rw[hll] at hi;obtain⟨us,m1,m2⟩:=n4.2 (i - l.length) (by omega);refine⟨us,?_,fun j hj=> ?_⟩
      .rw[Cv (by omega)];exact m1.lets (z5i h.lb (by cases p<;>cases q<;>rfl))
      .have h3:i - l.length<xs.length:=by omega
       have h4:=z2d h3 hj;have h5:l.length*e.size+(i - l.length)*e.size=i*e.size:=by rw[←Cl];congr 1;omega
       rw[hget,Al (by omega),←m2 j hj];congr 1;omega
   have hst:=h.upd (blk:= .arr (p&&q) (st+1) e (l++xs)) (ob' :=some rb) hH hB k2 (fun b _ hne=>k3 b (fun z=>hne (by rw[z]))) k4 k5 k6 k7 (.inl rfl) ⟨_,_,_,_,rfl,by omega,fun z=>by omega⟩
    (fun s=>⟨_,k1,(hH1.mono (z2k s _)).1,(hH1.mono (z2k s _)).2⟩)
   refine⟨_,_,_, .inl (hexec _ _ hrun),hst,?_⟩;refine y0x (by simpa using hid) (by rw[Cb,Al rfl,Al hid]) (c:=c) (a0:=some ⟨rb,0*e.size,none⟩) (by rw[hll]) (by rw[hll];exact hfit) ?_;unfold RowP;rw[Cb,Al rfl,Al hidB];refine⟨rfl,_,k1,?_⟩;simp at hsp ⊢;rw[n1] at hsp ⊢;rw[Co] at hroom;omega
 .have hlen2:rest.size=(nc - (l.length+xs.length))*e.size:=hrs;have hHo:Holds (pk (p&&q) (C.N B) (C.Np B)) w e l old:=o3.lets (z5i h.lb (by cases p<;>cases q<;>rfl));have hHn:Holds (pk (p&&q) (C.N B) (C.Np B)) w e xs new:=n4.lets (z5i h.lb (by cases p<;>cases q<;>rfl));have hH1:=hHo.append (rest:=rest) hHn o1;have hdr:=h.drew;have hcell:Cells (w.drew.alloc (.cells (old++new++rest) et)) w.heap.size (old++new++rest):=⟨et,by show(w.heap.push _)[w.heap.size]? =_;simp⟩;have hheap:∀b,b<w.heap.size->(w.drew.alloc (.cells (old++new++rest) et)).heap[b]? =w.heap[b]? :=fun b hb=>Go.RowKit.Below.heap_alloc w.drew _ b hb
  have hsz:w.heap.size<(w.drew.alloc (.cells (old++new++rest) et)).heap.size:=hcell.lt;have hst:=h.upd (w' :=w.drew.alloc (.cells (old++new++rest) et)) (blk:= .arr (p&&q) (st+1) e (l++xs)) (ob' :=some w.heap.size) hH hB (by omega) (fun b hb _=>hheap b hb) (fun rb cs0 k=>by
   have:=k.lt;obtain⟨e0,k⟩:=k;exact⟨cs0,⟨e0,by rw[hheap rb this];exact k⟩,rfl⟩) rfl rfl rfl (.inr (.inr ⟨_,rfl,Au _,hsz⟩)) ⟨_,_,_,_,rfl,by omega,fun z=>by omega⟩
   (fun s=>⟨_,hcell,(hH1.mono (z2k s _)).1,(hH1.mono (z2k s _)).2⟩)
  refine⟨_,_,_, .inl (hexec _ _ hrun),hst,?_⟩;refine y0x (by simpa using hid) (by rw[Cb,Al rfl,Al hid]) (c:=nc) (a0:=some ⟨w.heap.size,0,none⟩) (by rw[hll]) (by rw[hll];exact hnc) ?_;unfold RowP;rw[Cb,Al rfl,Al hidB];refine⟨by simp,_,hcell,?_⟩;rw[Co];simp only[Fb,o1,n1,hlen2];rw[←Cl,←Cl];exact Bo _ (by omega)
end
end Go.Proofs.YtkphhjdbdnoekaaGreatDoor.Ab
