import Derived.Test.YtkphhjdbdnoekaaGreatDoorAbA3
import Derived.Laws.Cells
import Derived.Laws.Slices
import Derived.Laws.Append
import Derived.Laws.Small
namespace Go.Proofs.YtkphhjdbdnoekaaGreatDoor.Ab
open Go
set_option linter.unusedVariables false
set_option linter.unusedSimpArgs false
set_option linter.unnecessarySimpa false
theorem Ty.size_pos:∀t:Ty,0<t.size
 | .int _ | .bool | .str | .sl _=>Nat.zero_lt_one | .pair a b=>Bp (Ty.size_pos a) (Nat.le_add_right _ _)
def Dat (N:Nat->Prop) (w:World):(t:Ty)->t.den->List Value->Prop
 | .int k,n,vs=>vs= [.int k n] | .bool,b,vs=>vs= [.bool b] | .str,s,vs=>vs= [.string s]
 | .sl e,l,vs=> ∃A c,vs= [.slice A l.length c] /\l.length<=c/\
  (l= [] \/ ∃b o,A=some ⟨b,o,none⟩/\ ¬N b/\b<w.heap.size/\
   ∀i,(h:i<l.length)-> ∃us,Dat N w e l[i] us/\ ∀j,j<e.size->w.cell? ⟨b,o+i*e.size+j,none⟩=us[j]?)
 | .pair a b,x,vs=> ∃us ws,vs=us++ws/\Dat N w a x.1 us/\Dat N w b x.2 ws
theorem Dat.len {N:Nat->Prop} {w:World} :∀ {t:Ty} {x:t.den} {vs:List Value},Dat N w t x vs->vs.length=t.size
 | .int _,_,_,h=>by cases h;rfl
 | .bool,_,_,h=>by cases h;rfl
 | .str,_,_,h=>by cases h;rfl
 | .sl _,_,_,h=>by obtain⟨_,_,rfl,_⟩:=h;rfl
 | .pair a b,_,_,h=>by
  obtain⟨us,ws,rfl,h1,h2⟩:=h;simp[Ty.size,h1.len,h2.len]
def pk (p:Bool) (N Np:Nat->Prop):Nat->Prop:=match p with
 | true=>Np | false=>N
structure Goes (N N' :Nat->Prop) (w w' :World):Prop where
 size:w.heap.size<=w'.heap.size
 same:∀b,b<w.heap.size-> ¬N b->w'.heap[b]? =w.heap[b]?
 out:∀b,b<w.heap.size-> ¬N b-> ¬N' b
theorem Goes.refl (N:Nat->Prop) (w:World):Goes N N w w:=⟨Au _,fun _ _ _=>rfl,fun _ _ h=>h⟩
theorem Dat.mono {N N' :Nat->Prop} {w w' :World} (g:Goes N N' w w'):∀ {t:Ty} {x:t.den} {vs:List Value},Dat N w t x vs->Dat N' w' t x vs
 | .int _,_,_,h=>h | .bool,_,_,h=>h | .str,_,_,h=>h | .sl e,l,vs,h=>by
  obtain⟨A,c,hv,hc,h⟩:=h;refine⟨A,c,hv,hc,?_⟩;rcases h with h | ⟨b,o,hA,hn,hb,h⟩
  .exact .inl h
  .refine .inr ⟨b,o,hA,g.out b hb hn,Bp hb g.size,fun i hi=> ?_⟩;obtain⟨us,hd,hcell⟩:=h i hi;refine⟨us,hd.mono g,fun j hj=> ?_⟩;rw[←hcell j hj];exact World.cell?_of_block (w:=w) (g.same b hb hn)
 | .pair a b,x,vs,h=>by
  obtain⟨us,ws,rfl,h1,h2⟩:=h;exact⟨us,ws,rfl,h1.mono g,h2.mono g⟩
def Cells (w:World) (rb:Nat) (cs:Array Value):Prop:= ∃el,w.heap[rb]? =some (.cells cs el (0,0))
def RowP (B:List (Option Nat)) (w:World) (id:Nat) (size off c:Nat) (a:Option Addr):Prop:=
 match B[id]? with
 | some (some rb)=>a=some ⟨rb,off*size,none⟩/\ ∃cs,Cells w rb cs/\(off+c)*size<=cs.size | _=>a=none/\c=0
def HdP (H:z0a) (B:List (Option Nat)) (w:World) (id st:Nat) (v:Value):Prop:=
 (id<H.length/\v.oneCell' =true)/\ ∀p st' t l,H[id]? =some (.arr p st' t l)->st<=st' /\(st=st' ->
  ∃a c,v= .slice a l.length c/\l.length<=c/\RowP B w id t.size 0 c a)
def HdsP (H:z0a) (B:List (Option Nat)) (w:World) (id st off len:Nat) (v:Value):Prop:=
 (id<H.length/\v.oneCell' =true)/\ ∀p st' t l,H[id]? =some (.arr p st' t l)->st<=st' /\(st=st' ->
  off+len<=l.length/\ ∃a c,v= .slice a len c/\len<=c/\(off=0\/len≠0->RowP B w id t.size off c a))
def PtrP (H:z0a) (B:List (Option Nat)) (id off:Nat) (v:Value):Prop:=
 (id<H.length/\v.oneCell' =true)/\ ∀cells,H[id]? =some (.box cells)-> ∃rb,B[id]? =some (some rb)/\v= .pointer (some ⟨rb,off,none⟩)
def EptrP (H:z0a) (B:List (Option Nat)) (id st i c:Nat) (v:Value):Prop:=
 (id<H.length/\v.oneCell' =true)/\ ∀p st' t l,H[id]? =some (.arr p st' t l)->st<=st' /\(st=st' ->
  i<l.length/\ ∃rb,B[id]? =some (some rb)/\v= .pointer (some ⟨rb,i*t.size+c,none⟩))
mutual
def CR (N Np:Nat->Prop) (H:z0a) (B:List (Option Nat)) (w:World):D->Value->Prop
 | .undef,_=>True | .int k n,v=>v= .int k n | .bool b,v=>v= .bool b | .str s,v=>v= .string s | .sl p t l,v=>Dat (pk p N Np) w (.sl t) l [v] | .nilsl,v=>v= .slice none 0 0 | .hd id st,v=>HdP H B w id st v | .hds id st off len,v=>HdsP H B w id st off len v | .ptr id off,v=>PtrP H B id off v | .eptr id st i c,v=>EptrP H B id st i c v
 | .rptr cells off,v=> ∃rb ro,v= .pointer (some ⟨rb,ro+off,none⟩)/\ ¬N rb/\rb<w.heap.size/\
  ∃vs,CRs N Np H B w cells vs/\ ∀j,j<vs.length->w.cell? ⟨rb,ro+j,none⟩=vs[j]?
 | .clo g caps,v=> ∃vs:Array Value,v= .func (.func g) #[] vs/\CRs N Np H B w caps vs.toList | .agg cs,v=> ∃vs:Array Value,v= .agg vs/\CRs N Np H B w cs vs.toList | .tup ds,v=> ∃vs:Array Value,v= .tuple vs/\CRs N Np H B w ds vs.toList
def CRs (N Np:Nat->Prop) (H:z0a) (B:List (Option Nat)) (w:World):List D->List Value->Prop
 | [],vs=>vs= [] | d::ds,vs=> ∃u us,vs=u::us/\CR N Np H B w d u/\CRs N Np H B w ds us
end
structure Step (N Np N' Np' :Nat->Prop) (H:z0a) (B:List (Option Nat)) (w:World) (H' :z0a) (B' :List (Option Nat)) (w' :World):Prop where
 g:Goes N N' w w'
 gp:Goes Np Np' w w'
 len:H.length<=H'.length
 box:∀id,id<H.length-> ∀cells,H'[id]? =some (.box cells)->(∃cs,H[id]? =some (.box cs))/\B'[id]? =B[id]?
 arr:∀id,id<H.length-> ∀p st t l,H'[id]? =some (.arr p st t l)-> ∃p' st' t' l',H[id]? =some (.arr p' st' t' l')/\st' <=st/\
  (st' =st->t' =t/\l'.length=l.length/\B'[id]? =B[id]?)
 cells:∀rb cs,Cells w rb cs-> ∃cs',Cells w' rb cs' /\cs'.size=cs.size
section
variable {N Np N' Np' :Nat->Prop} {H H' :z0a} {B B' :List (Option Nat)} {w w' :World}
theorem RowP.step {id size off c:Nat} {a:Option Addr} (hB:B'[id]? =B[id]?) (hc:∀rb cs,Cells w rb cs-> ∃cs',Cells w' rb cs' /\cs'.size=cs.size)
 (h:RowP B w id size off c a):RowP B' w' id size off c a:=by
 unfold RowP at*;rw[hB];split at h
 .obtain⟨h1,cs,h2,h3⟩:=h;obtain⟨cs',h4,h5⟩:=hc _ _ h2;exact⟨h1,cs',h4,by omega⟩
 .exact h
theorem HdP.step (s:Step N Np N' Np' H B w H' B' w') {id st:Nat} {v:Value} (h:HdP H B w id st v):HdP H' B' w' id st v:=by
 obtain⟨h1,h2⟩:=h;refine⟨⟨Bp h1.1 s.len,h1.2⟩,fun p st' t l e=> ?_⟩;obtain⟨p0,st0,t0,l0,e0,hle,heq⟩:=s.arr id h1.1 p st' t l e;obtain⟨h3,h4⟩:=h2 _ _ _ _ e0;refine⟨A9 h3 hle,fun e1=> ?_⟩;have e2:st0=st' :=by omega
 obtain⟨rfl,hl,hB⟩:=heq e2;obtain⟨a,c,hv,hc,hr⟩:=h4 (by omega);exact⟨a,c,by rw[←hl];exact hv,by omega,hr.step hB s.cells⟩
theorem HdsP.step (s:Step N Np N' Np' H B w H' B' w') {id st off len:Nat} {v:Value} (h:HdsP H B w id st off len v):HdsP H' B' w' id st off len v:=by
 obtain⟨h1,h2⟩:=h;refine⟨⟨Bp h1.1 s.len,h1.2⟩,fun p st' t l e=> ?_⟩;obtain⟨p0,st0,t0,l0,e0,hle,heq⟩:=s.arr id h1.1 p st' t l e;obtain⟨h3,h4⟩:=h2 _ _ _ _ e0;refine⟨A9 h3 hle,fun e1=> ?_⟩;have e2:st0=st' :=by omega
 obtain⟨rfl,hl,hB⟩:=heq e2;obtain⟨ho,a,c,hv,hc,hr⟩:=h4 (by omega);exact⟨by omega,a,c,hv,hc,fun q=>(hr q).step hB s.cells⟩
theorem PtrP.step (s:Step N Np N' Np' H B w H' B' w') {id off:Nat} {v:Value} (h:PtrP H B id off v):PtrP H' B' id off v:=by
 obtain⟨h1,h2⟩:=h;refine⟨⟨Bp h1.1 s.len,h1.2⟩,fun cells e=> ?_⟩;obtain⟨⟨cs,e0⟩,hB⟩:=s.box id h1.1 cells e;obtain⟨rb,h3,h4⟩:=h2 _ e0;exact⟨rb,hB.trans h3,h4⟩
theorem EptrP.step (s:Step N Np N' Np' H B w H' B' w') {id st i c:Nat} {v:Value} (h:EptrP H B id st i c v):EptrP H' B' id st i c v:=by
 obtain⟨h1,h2⟩:=h;refine⟨⟨Bp h1.1 s.len,h1.2⟩,fun p st' t l e=> ?_⟩;obtain⟨p0,st0,t0,l0,e0,hle,heq⟩:=s.arr id h1.1 p st' t l e;obtain⟨h3,h4⟩:=h2 _ _ _ _ e0;refine⟨A9 h3 hle,fun e1=> ?_⟩;have e2:st0=st' :=by omega
 obtain⟨rfl,hl,hB⟩:=heq e2;obtain⟨hi,rb,hb,hv⟩:=h4 (by omega);exact⟨by omega,rb,hB.trans hb,hv⟩
mutual
theorem CR.step (s:Step N Np N' Np' H B w H' B' w'):∀ {d:D} {v:Value},CR N Np H B w d v->CR N' Np' H' B' w' d v
 | .undef,_,_=>by simp[CR]
 | .int _ _,_,h=>by simpa[CR] using h
 | .bool _,_,h=>by simpa[CR] using h
 | .str _,_,h=>by simpa[CR] using h
 | .sl p t l,v,h=>by
  simp only[CR] at h ⊢;cases p
  .exact Dat.mono s.g h
  .exact Dat.mono s.gp h
 | .nilsl,_,h=>by simpa[CR] using h
 | .hd _ _,_,h=>by simp only[CR] at h ⊢;exact h.step s
 | .hds _ _ _ _,_,h=>by simp only[CR] at h ⊢;exact h.step s
 | .ptr _ _,_,h=>by simp only[CR] at h ⊢;exact h.step s
 | .eptr _ _ _ _,_,h=>by simp only[CR] at h ⊢;exact h.step s
 | .rptr cells off,v,h=>by
  simp only[CR] at h ⊢;obtain⟨rb,ro,hv,hn,hb,vs,hvs,hc⟩:=h;refine⟨rb,ro,hv,s.g.out rb hb hn,Bp hb s.g.size,vs,hvs.step s,fun j hj=> ?_⟩;rw[←hc j hj];exact World.cell?_of_block (w:=w) (s.g.same rb hb hn)
 | .clo g caps,v,h=>by
  simp only[CR] at h ⊢;obtain⟨vs,hv,h⟩:=h;exact⟨vs,hv,h.step s⟩
 | .agg cs,v,h=>by
  simp only[CR] at h ⊢;obtain⟨vs,hv,h⟩:=h;exact⟨vs,hv,h.step s⟩
 | .tup ds,v,h=>by
  simp only[CR] at h ⊢;obtain⟨vs,hv,h⟩:=h;exact⟨vs,hv,h.step s⟩
theorem CRs.step (s:Step N Np N' Np' H B w H' B' w'):∀ {ds:List D} {vs:List Value},CRs N Np H B w ds vs->CRs N' Np' H' B' w' ds vs
 | [],_,h=>by simpa[CRs] using h
 | d::ds,vs,h=>by
  simp only[CRs] at h ⊢;obtain⟨u,us,e,h1,h2⟩:=h;exact⟨u,us,e,h1.step s,h2.step s⟩
end
def BR (N Np:Nat->Prop) (H:z0a) (B:List (Option Nat)) (w:World):Blk->Option Nat->Prop
 | .dead,_=>True | .box cells,ob=> ∃rb cs,ob=some rb/\Cells w rb cs/\CRs N Np H B w cells cs.toList | .arr p _ t l,ob=>match ob with
  | none=>l= []
  | some rb=> ∃cs,Cells w rb cs/\l.length*t.size<=cs.size/\
   ∀i,(h:i<l.length)-> ∃us,Dat (pk p N Np) w t l[i] us/\ ∀j,j<t.size->cs[i*t.size+j]? =us[j]?
end
structure Cx where
 w0:World
 W0:Nat->Prop
 Lb:Nat->Prop
 Lp:Nat->Prop
 nt:Nat
 fx:List Bool
 fv:Nat->Value
 gd:Guard
def Has (B:List (Option Nat)) (b:Nat):Prop:= ∃i:Nat,B[i]? =some (some b)
def Cx.N (C:Cx) (B:List (Option Nat)) (b:Nat):Prop:=Has B b\/C.Lb b
def Cx.Np (C:Cx) (B:List (Option Nat)) (b:Nat):Prop:=Has B b\/C.Lp b
structure Fr (W0:Nat->Prop) (w0 w:World):Prop where
 size:w0.heap.size<=w.heap.size
 same:∀b,b<w0.heap.size-> ¬W0 b->w.heap[b]? =w0.heap[b]?
 cells:∀rb cs,Cells w0 rb cs-> ∃cs',Cells w rb cs' /\cs'.size=cs.size
 os:w.os=w0.os
 tape:w.tape=w0.tape
 output:w.output=w0.output
theorem Fr.refl (W0:Nat->Prop) (w:World):Fr W0 w w:=⟨Au _,fun _ _ _=>rfl,fun _ cs h=>⟨cs,h,rfl⟩,rfl,rfl,rfl⟩
structure HS (C:Cx) (H:z0a) (B:List (Option Nat)) (w:World):Prop where
 lenB:B.length=H.length
 nodup:∀i j rb:Nat,B[i]? =some (some rb)->B[j]? =some (some rb)->i=j
 alloc:∀i rb:Nat,B[i]? =some (some rb)->rb<w.heap.size/\ ¬C.Lp rb/\(C.W0 rb\/C.w0.heap.size<=rb)
 blk:∀(i:Nat) b ob,H[i]? =some b->B[i]? =some ob->BR (C.N B) (C.Np B) H B w b ob
 lb:∀b,C.Lb b->C.Lp b
 lp:∀b,C.Lp b->b<C.w0.heap.size
 fr:Fr C.W0 C.w0 w
 gl:∀b,C.gd.G b->b<C.w0.heap.size/\ ¬C.W0 b/\ ¬C.Lp b
 gp:C.gd.pre C.w0
structure St (C:Cx) (env:List D) (H:z0a) (B:List (Option Nat)) (a:Act) (w:World):Prop extends HS C H B w where
 envs:∀t,CR (C.N B) (C.Np B) H B w (get env t) (a.tmps.getD t undef)
 envlen:env.length=a.tmps.size
 defers:a.defers= []
 siz:a.tmps.size=C.nt
 fix:∀t:Nat,C.fx.getD t false=true->a.tmps[t]? =some (C.fv t)
section
variable {C:Cx} {env:List D} {H H' :z0a} {B B' :List (Option Nat)} {a:Act} {w w' :World}
theorem Cx.N_Np (hl:∀b,C.Lb b->C.Lp b) {b:Nat} (h:C.N B b):C.Np B b:=h.imp id (hl b)
theorem BR.step {N Np N' Np' :Nat->Prop} (s:Step N Np N' Np' H B w H' B' w') {b:Blk} {ob:Option Nat} (hrb:∀rb,ob=some rb->w'.heap[rb]? =w.heap[rb]?)
 (h:BR N Np H B w b ob):BR N' Np' H' B' w' b ob:=by
 cases b with
 | dead=>trivial | box cells=>
  obtain⟨rb,cs,e,⟨el,hc⟩,hr⟩:=h;exact⟨rb,cs,e,⟨el,(hrb rb e).trans hc⟩,hr.step s⟩
 | arr p st t l=>
  cases ob with
  | none=>exact h | some rb=>
   obtain⟨cs,⟨el,hc⟩,hs,hd⟩:=h;refine⟨cs,⟨el,(hrb rb rfl).trans hc⟩,hs,fun i hi=> ?_⟩;obtain⟨us,h1,h2⟩:=hd i hi;refine⟨us,?_,h2⟩;cases p
   .exact Dat.mono s.g h1
   .exact Dat.mono s.gp h1
theorem St.go (h:St C env H B a w) (s:Step (C.N B) (C.Np B) (C.N B') (C.Np B') H B w H' B' w') (h' :HS C H' B' w'):St C env H' B' a w' where
 toHS:=h'
 envs:=fun t=>(h.envs t).step s
 envlen:=h.envlen
 defers:=h.defers
 siz:=h.siz
 fix:=h.fix
theorem z0m (env:List D) (t u:Nat) (d:D):get (env.set t d) u=if t=u/\u<env.length then d else get env u:=by
 unfold get;simp only[A5,Cb];by_cases e:t=u
 .subst e;by_cases hl:t<env.length
  .simp[hl]
  .simp[hl]
 .simp[e]
theorem St.put (h:St C env H B a w) {d:D} {v:Value} (hd:CR (C.N B) (C.Np B) H B w d v) (dst:Option Nat) (hf:∀t,dst=some t->C.fx.getD t false=false):St C (z1f env dst d) H B (a.put dst v) w:=by
 cases dst with
 | none=>exact h | some t=>
  refine {toHS:=h.toHS,envs:=fun u=> ?_,envlen:= ?_,defers:=h.defers,siz:=by simp[Act.put,h.siz],fix:=fun u hu=> ?_}
  .simp only[z1f,Act.put];rw[z0m];by_cases e:t=u/\u<env.length
   .obtain⟨rfl,hl⟩:=e;rw[Al ⟨rfl,hl⟩];have:t<a.tmps.size:=h.envlen ▸ hl;simp[this];exact hd
   .rw[Ao e];have:=h.envs u;by_cases hu:t=u
    .subst hu;have hl: ¬t<a.tmps.size:=fun q=>e ⟨rfl,h.envlen ▸ q⟩
     have e1:(a.tmps.setIfInBounds t v)=a.tmps:=by simp[Array.setIfInBounds,hl]
     rw[e1];exact this
    .have e1:(a.tmps.setIfInBounds t v).getD u undef=a.tmps.getD u undef:=by
      simp[Cy,Fd hu]
     rw[e1];exact this
  .simp[z1f,Act.put,h.envlen]
  .have hne:t≠u:=fun z=>by
    have:=hf t rfl;rw[z,hu] at this;cases this
   have:=h.fix u hu;simp only[Act.put];rw[Fd hne];exact this
theorem z0c {rb:Nat} {cs:Array Value} (h:Cells w rb cs) (o:Nat):w.cell? ⟨rb,o,none⟩=cs[o]? :=by
 obtain⟨el,h⟩:=h;simp[World.cell?,h]
theorem z0u {rb:Nat} {cs:Array Value} (h:Cells w rb cs) (o:Nat):w.frozen? ⟨rb,o,none⟩=false:=by
 obtain⟨el,h⟩:=h;simp[World.frozen?,h]
theorem Cells.lt {rb:Nat} {cs:Array Value} (h:Cells w rb cs):rb<w.heap.size:=by
 obtain⟨el,h⟩:=h;rcases B8 rb w.heap.size with q | q
 .exact q
 .simp[Array.getElem?_eq_none q] at h
def Lets (N Np:Nat->Prop) (w:World) (p:Bool) (Nt:Nat->Prop):Prop:=
 ∀b,b<w.heap.size-> ¬(pk p N Np) b-> ¬Nt b
theorem Lets.mono {N Np Nt:Nat->Prop} (hN:∀b,N b->Np b) {p q:Bool} (h:Lets N Np w p Nt) (hpq:imp p q=true):Lets N Np w q Nt:=by
 intro b hb hq;refine h b hb ?_;cases p<;>cases q
 .exact hq
 .exact fun x=>hq (hN b x)
 .exact absurd hpq (by simp[imp])
 .exact hq
theorem Dat.lets {N Np Nt:Nat->Prop} {p:Bool} (h:Lets N Np w p Nt) {t:Ty} {x:t.den} {vs:List Value} (hd:Dat (pk p N Np) w t x vs):Dat Nt w t x vs:=
 hd.mono ⟨Au _,fun _ _ _=>rfl,h⟩
theorem z9o {N Np Nt:Nat->Prop} {id st off len:Nat} {p:Bool} {t:Ty} {l:List t.den} {v:Value} {ob:Option Nat} (hH:H[id]? =some (.arr p st t l)) (hB:B[id]? =some ob)
 (hb:BR N Np H B w (.arr p st t l) ob) (hv:HdsP H B w id st off len v) (hL:Lets N Np w p Nt) (hn:∀rb,ob=some rb-> ¬Nt rb):
 Dat Nt w (.sl t) ((l.drop off).take len) [v] :=by
 obtain⟨h1,h2⟩:=hv;obtain⟨-,h3⟩:=h2 _ _ _ _ hH;obtain⟨ho,a,c,rfl,hc,hr⟩:=h3 rfl;have hlen:((l.drop off).take len).length=len:=by simp;omega
 refine⟨a,c,by rw[hlen],by omega,?_⟩;by_cases hz:len=0
 .left;rw[hz];simp
 .right;have hr:=hr (.inr hz);unfold RowP at hr;rw[hB] at hr;cases ob with
  | none=>
   have:l= [] :=hb;subst this;simp at ho;omega
  | some rb=>
   obtain⟨ha,cs0,hcs0,_⟩:=hr;obtain⟨cs,hcs,hsz,hd⟩:=hb;refine⟨rb,off*t.size,ha,hn rb rfl,hcs.lt,fun i hi=> ?_⟩;have hi' :i<len:=by omega
   obtain⟨us,hu,hcell⟩:=hd (off+i) (by omega);refine⟨us,?_,fun j hj=> ?_⟩
   .have e:((l.drop off).take len)[i] =l[off+i]'(by omega):=by simp
    rw[e];exact hu.lets hL
   .rw[z0c hcs,←hcell j hj];congr 1;rw[Cl]
theorem y0k {id st:Nat} {v:Value} {p:Bool} {t:Ty} {l:List t.den} (hH:H[id]? =some (.arr p st t l)) (h:HdP H B w id st v):HdsP H B w id st 0 l.length v:=by
 obtain⟨h1,h2⟩:=h;refine⟨h1,fun p' st' t' l' e=> ?_⟩;rw[hH] at e;obtain⟨rfl,rfl,rfl,hl⟩:p=p' /\st=st' /\t=t' /\HEq l l' :=by
  injection e with e;injection e with e1 e2 e3 e4;exact⟨e1,e2,e3,e4⟩
 cases hl;obtain⟨h3,h4⟩:=h2 _ _ _ _ hH;refine⟨h3,fun q=> ?_⟩;obtain⟨a,c,hv,hc,hr⟩:=h4 q;exact⟨by omega,a,c,hv,hc,fun _=>hr⟩
theorem y0j {N Np Nt:Nat->Prop} {id st:Nat} {p:Bool} {t:Ty} {l:List t.den} {v:Value} {ob:Option Nat} (hH:H[id]? =some (.arr p st t l)) (hB:B[id]? =some ob)
 (hb:BR N Np H B w (.arr p st t l) ob) (hv:HdP H B w id st v) (hL:Lets N Np w p Nt) (hn:∀rb,ob=some rb-> ¬Nt rb):
 Dat Nt w (.sl t) l [v] :=by
 have:=z9o hH hB hb (y0k hH hv) hL hn;simpa using this
theorem CRs.append {N Np:Nat->Prop} :∀ {ds:List D} {vs:List Value} {es:List D} {us:List Value},CRs N Np H B w ds vs->CRs N Np H B w es us->CRs N Np H B w (ds++es) (vs++us)
 | [],vs,es,us,h,k=>by simp only[CRs] at h;subst h;exact k
 | d::ds,vs,es,us,h,k=>by
  simp only[CRs] at h;obtain⟨u,us',rfl,h1,h2⟩:=h;simp only[Ef,CRs];exact⟨u,us' ++us,rfl,h1,h2.append k⟩
theorem CRs.length {N Np:Nat->Prop} :∀ {ds:List D} {vs:List Value},CRs N Np H B w ds vs->vs.length=ds.length
 | [],vs,h=>by simp only[CRs] at h;subst h;rfl
 | d::ds,vs,h=>by
  simp only[CRs] at h;obtain⟨u,us',rfl,h1,h2⟩:=h;simp[h2.length]
theorem CRs.drop {N Np:Nat->Prop} :∀(n:Nat) {ds:List D} {vs:List Value},CRs N Np H B w ds vs->CRs N Np H B w (ds.drop n) (vs.drop n)
 | 0,_,_,h=>h | n+1, [],vs,h=>by simp only[CRs] at h;subst h;simp[CRs]
 | n+1,d::ds,vs,h=>by
  simp only[CRs] at h;obtain⟨u,us',rfl,h1,h2⟩:=h;simpa using h2.drop n
theorem CRs.take {N Np:Nat->Prop} :∀(n:Nat) {ds:List D} {vs:List Value},CRs N Np H B w ds vs->CRs N Np H B w (ds.take n) (vs.take n)
 | 0,_,_,_=>by simp[CRs]
 | n+1, [],vs,h=>by simp only[CRs] at h;subst h;simp[CRs]
 | n+1,d::ds,vs,h=>by
  simp only[CRs] at h;obtain⟨u,us',rfl,h1,h2⟩:=h;simp only[List.take_succ_cons,CRs];exact⟨u,us'.take n,rfl,h1,h2.take n⟩
theorem CRs.get {N Np:Nat->Prop} :∀ {ds:List D} {vs:List Value},CRs N Np H B w ds vs-> ∀i,CR N Np H B w (get ds i) (vs.getD i undef)
 | [],vs,h,i=>by simp[Ab.get,CR]
 | d::ds,vs,h,i=>by
  simp only[CRs] at h;obtain⟨u,us',rfl,h1,h2⟩:=h;cases i with
  | zero=>simpa[Ab.get] using h1 | succ i=>simpa[Ab.get] using h2.get i
theorem z3u {N Np:Nat->Prop} (p:Bool):∀ {t:Ty} {x:t.den} {vs:List Value},Dat (pk p N Np) w t x vs->CRs N Np H B w (y1t p t x) vs
 | .int _,_,_,h=>by cases h;simp[y1t,CRs,CR]
 | .bool,_,_,h=>by cases h;simp[y1t,CRs,CR]
 | .str,_,_,h=>by cases h;simp[y1t,CRs,CR]
 | .sl _,l,_,h=>by
  have h' :=h;obtain⟨A,c,rfl,_⟩:=h;simp only[y1t,CRs];exact⟨_,_,rfl,by simp only[CR];exact h',rfl⟩
 | .pair a b,_,_,h=>by
  obtain⟨us,ws,rfl,h1,h2⟩:=h;exact(z3u p h1).append (z3u p h2)
theorem y6z {N:Nat->Prop} {t u:Ty} (h:t=u) {l:List t.den} {vs:List Value} (hd:Dat N w (.sl t) l vs):Dat N w (.sl u) (z2r h l) vs:=by
 subst h;exact hd
end
section
variable {N Np Nt Ntp:Nat->Prop} {H:z0a} {B:List (Option Nat)} {w:World}
theorem Step.app (hl:B.length=H.length) (X:z0a) (Y:List (Option Nat)):Step N Np N Np H B w (H++X) (B++Y) w where
 g:=Goes.refl _ _
 gp:=Goes.refl _ _
 len:=by simp
 box:=fun id h cells e=>by
  rw[Aj h] at e;exact⟨⟨_,e⟩,Aj (by omega)⟩
 arr:=fun id h p st t l e=>by
  rw[Aj h] at e;exact⟨_,_,_,_,e,Au _,fun _=>⟨rfl,rfl,Aj (by omega)⟩⟩
 cells:=fun rb cs h=>⟨cs,h,rfl⟩
theorem Lets.to {p q:Bool} (hN:∀b,N b->Np b) (h0:p=false->Lets N Np w false Nt) (h1:Lets N Np w true Ntp) (hpq:imp p q=true):Lets N Np w q (pk p Nt Ntp):=by
 cases p
 .exact(h0 rfl).mono hN (by cases q<;>rfl)
 .cases q
  .exact absurd hpq (by simp[imp])
  .exact h1
theorem z6i (hN:∀b,N b->Np b) (hl:B.length=H.length) (blk:∀(i:Nat) b ob,H[i]? =some b->B[i]? =some ob->BR N Np H B w b ob):
 ∀ {t:Ty} {ds:List D} {vs:List Value} {x:t.den} {r:List D} {p:Bool} {ids:List Nat},z1m H t ds=some (x,r,p,ids)->CRs N Np H B w ds vs->Lets N Np w p Nt->
  (∀id∈ids,∀rb,B[id]? =some (some rb)-> ¬Nt rb)-> ∃us vs',vs=us++vs' /\CRs N Np H B w r vs' /\Dat Nt w t x us
 | .int k,ds,vs,x,r,p,ids,h,hc,hL,hn=>by
  cases ds with
  | nil=>simp[z1m] at h | cons d ds=>
   cases d<;>simp only[z1m] at h<;>try (cases h;done)
   split at h
   .rename_i k' n e;subst e;simp only[Ac,Ak] at h;obtain⟨rfl,rfl,rfl,rfl⟩:=h;simp only[CRs,CR] at hc;obtain⟨u,us,rfl,rfl,h2⟩:=hc;exact⟨[_],us,rfl,h2,rfl⟩
   .exact absurd h (by simp)
 | .bool,ds,vs,x,r,p,ids,h,hc,hL,hn=>by
  cases ds with
  | nil=>simp[z1m] at h | cons d ds=>
   cases d<;>simp only[z1m] at h<;>try (cases h;done)
   simp only[Ac,Ak] at h;obtain⟨rfl,rfl,rfl,rfl⟩:=h;simp only[CRs,CR] at hc;obtain⟨u,us,rfl,rfl,h2⟩:=hc;exact⟨[_],us,rfl,h2,rfl⟩
 | .str,ds,vs,x,r,p,ids,h,hc,hL,hn=>by
  cases ds with
  | nil=>simp[z1m] at h | cons d ds=>
   cases d<;>simp only[z1m] at h<;>try (cases h;done)
   simp only[Ac,Ak] at h;obtain⟨rfl,rfl,rfl,rfl⟩:=h;simp only[CRs,CR] at hc;obtain⟨u,us,rfl,rfl,h2⟩:=hc;exact⟨[_],us,rfl,h2,rfl⟩
 | .sl e,ds,vs,x,r,p,ids,h,hc,hL,hn=>by
  cases ds with
  | nil=>simp[z1m] at h | cons d ds=>
   cases d<;>simp only[z1m] at h<;>try (cases h;done)
   .split at h
    .rename_i q t l e1;subst e1;simp only[Ac,Ak] at h;obtain⟨rfl,rfl,rfl,rfl⟩:=h;simp only[CRs,CR] at hc;obtain⟨u,us,rfl,h1,h2⟩:=hc;exact⟨[_],us,rfl,h2,h1.lets hL⟩
    .exact absurd h (by simp)
   .simp only[Ac,Ak] at h;obtain⟨rfl,rfl,rfl,rfl⟩:=h;simp only[CRs,CR] at hc;obtain⟨u,us,rfl,rfl,h2⟩:=hc;exact⟨[_],us,rfl,h2,none,0,rfl,Au _, .inl rfl⟩
   .rename_i id st;split at h
    .rename_i q st' t l hH;split at h
     .rename_i e0;subst e0;split at h
      .rename_i e1;subst e1;simp only[Ac,Ak] at h;obtain⟨rfl,rfl,rfl,rfl⟩:=h;simp only[CRs,CR] at hc;obtain⟨u,us,rfl,h1,h2⟩:=hc;have hid:id<B.length:=by have:=h1.1;omega
       exact⟨[_],us,rfl,h2,y0j hH (A4 hid) (blk _ _ _ hH (A4 hid)) h1 hL
        (fun rb e=>hn id (by simp) rb (by rw[A4 hid,e]))⟩
      .exact absurd h (by simp)
     .exact absurd h (by simp)
    .exact absurd h (by simp)
 | .pair a b,ds,vs,x,r,p,ids,h,hc,hL,hn=>by
  simp only[z1m] at h;split at h
  .rename_i x1 r1 p1 f1 e1;split at h
   .rename_i y r2 p2 f2 e2;simp only[Ac,Ak] at h;obtain⟨rfl,rfl,rfl,rfl⟩:=h;obtain⟨us,vs',rfl,h1,h2⟩:=z6i hN hl blk e1 hc (hL.mono hN (by cases p1<;>cases p2<;>rfl)) (fun id hi=>hn id (Bf _ hi));obtain⟨us2,vs2,rfl,h3,h4⟩:=z6i hN hl blk e2 h1 (hL.mono hN (by cases p1<;>cases p2<;>rfl)) (fun id hi=>hn id (Az _ hi));exact⟨us++us2,vs2,by simp,h3,us,us2,rfl,h2,h4⟩
   .exact absurd h (by simp)
  .exact absurd h (by simp)
def Used.excl (u:Used):Prop:= ∀id,(id,true)∈u->(id,false)∈u->False
theorem Used.has_iff {u:Used} {id:Nat} :u.has id=true↔ ∃b,(id,b)∈u:=by
 unfold Used.has;rw[Cm];constructor
 .rintro⟨⟨a,b⟩,h,e⟩
  have:=Av e;subst this;exact⟨b,h⟩
 .rintro⟨b,h⟩
  exact⟨_,h,by simp⟩
theorem Used.moved_iff {u:Used} {id:Nat} :u.moved id=true↔(id,true)∈u:=by
 unfold Used.moved;rw[Cm];constructor
 .rintro⟨⟨a,b⟩,h,e⟩
  simp only[Ai] at e;have:=Av e.1;subst this;have hb:b=true:=e.2;subst hb;exact h
 .intro h;exact⟨_,h,by simp⟩
structure Laid (H:z0a) (B:List (Option Nat)) (w:World) (N Np Nt Ntp:Nat->Prop) (u u' :Used) (es:List D) (us:List Value) (H2 H2' :z0a) (B2:List (Option Nat)) (Bn:List (Option Nat)):Prop where
 heap:∃Hn,H2' =H2++Hn/\Hn.length=Bn.length/\ ∀(i:Nat) b ob,Hn[i]? =some b->Bn[i]? =some ob->BR Nt Ntp H2' (B2++Bn) w b ob
 cells:CRs Nt Ntp H2' (B2++Bn) w es us
 from_:∃M:List (Option Nat),M.length=Bn.length/\(∀i id:Nat,M[i]? =some (some id)->(id,true)∈u' /\u.has id=false)/\
  (∀i rb:Nat,Bn[i]? =some (some rb)-> ∃id,M[i]? =some (some id)/\B[id]? =some (some rb))/\(∀i j id:Nat,M[i]? =some (some id)->M[j]? =some (some id)->i=j)
theorem Laid.nil {u u' :Used} {es:List D} {us:List Value} {H2:z0a} {B2:List (Option Nat)} (h:CRs Nt Ntp H2 B2 w es us):Laid H B w N Np Nt Ntp u u' es us H2 H2 B2 [] where
 heap:=⟨[],by simp,rfl,fun i b ob e=>by simp at e⟩
 cells:=by simpa using h
 from_:=⟨[],rfl,fun i id e=>by simp at e,fun i rb e=>by simp at e,fun i j id e=>by simp at e⟩
end
section
variable {N Np Nt Ntp:Nat->Prop} {H:z0a} {B:List (Option Nat)} {w:World}
theorem Laid.lenB {u u' :Used} {es:List D} {us:List Value} {H2 H2' :z0a} {B2 Bn:List (Option Nat)} (h:Laid H B w N Np Nt Ntp u u' es us H2 H2' B2 Bn) (hl:B2.length=H2.length):
 (B2++Bn).length=H2'.length:=by
 obtain⟨Hn,rfl,e,_⟩:=h.heap;simp;omega
theorem Used.has_mono {u u' :Used} (h:∀e∈u,e∈u') {id:Nat} (k:u'.has id=false):u.has id=false:=by
 cases e:u.has id with
 | false=>rfl | true=>
  obtain⟨b,hb⟩:=Used.has_iff.mp e;rw[Used.has_iff.mpr ⟨b,h _ hb⟩] at k;exact k
theorem Laid.append {u u1 u2:Used} {es1 es2:List D} {us1 us2:List Value} {H2 H3 H4:z0a} {B2 Bn1 Bn2:List (Option Nat)} (hl:B2.length=H2.length) (hu:∀e∈u,e∈u1) (hu' :∀e∈u1,e∈u2)
 (h1:Laid H B w N Np Nt Ntp u u1 es1 us1 H2 H3 B2 Bn1) (h2:Laid H B w N Np Nt Ntp u1 u2 es2 us2 H3 H4 (B2++Bn1) Bn2):
 Laid H B w N Np Nt Ntp u u2 (es1++es2) (us1++us2) H2 H4 B2 (Bn1++Bn2):=by
 have hl1:=h1.lenB hl;obtain⟨Hn1,e1,l1,b1⟩:=h1.heap;obtain⟨Hn2,e2,l2,b2⟩:=h2.heap;have st:Step Nt Ntp Nt Ntp H3 (B2++Bn1) w H4 (B2++(Bn1++Bn2)) w:=by
  rw[←Bi,e2];exact Step.app hl1 _ _
 refine⟨⟨Hn1++Hn2,by rw[e2,e1,Bi],by simp;omega,?_⟩,?_,?_⟩
 .intro i b ob hi hb;by_cases hlt:i<Hn1.length
  .rw[Aj hlt] at hi;rw[Aj (by omega)] at hb;exact(b1 i b ob hi hb).step st (fun _ _=>rfl)
  .rw[Aq (by omega)] at hi;rw[Aq (by omega)] at hb;have:=b2 _ b ob hi (by rw[←hb];congr 1;omega);rw[Bi] at this;exact this
 .have k:=h2.cells;rw[Bi] at k;exact(h1.cells.step st).append k
 .obtain⟨M1,m1,f1,g1,n1⟩:=h1.from_;obtain⟨M2,m2,f2,g2,n2⟩:=h2.from_;refine⟨M1++M2,by simp;omega,?_,?_,?_⟩
  .intro i id e;by_cases hlt:i<M1.length
   .rw[Aj hlt] at e;obtain⟨q1,q2⟩:=f1 i id e;exact⟨hu' _ q1,q2⟩
   .rw[Aq (by omega)] at e;obtain⟨q1,q2⟩:=f2 _ id e;exact⟨q1,Used.has_mono hu q2⟩
  .intro i rb e;by_cases hlt:i<Bn1.length
   .rw[Aj hlt] at e;obtain⟨id,q1,q2⟩:=g1 i rb e;exact⟨id,by rw[Aj (by omega)];exact q1,q2⟩
   .rw[Aq (by omega)] at e;obtain⟨id,q1,q2⟩:=g2 _ rb e;exact⟨id,by rw[Aq (by omega),←q1];congr 1;omega,q2⟩
  .have key:∀i j id:Nat,M1[i]? =some (some id)->M2[j]? =some (some id)->False:=by
    intro i j id e e';have q1:=(f1 i id e).1;have q2:=(f2 j id e').2;rw[Used.has_iff.mpr ⟨_,q1⟩] at q2;cases q2
   intro i j id e e';by_cases hi:i<M1.length<;>by_cases hj:j<M1.length
   .rw[Aj hi] at e;rw[Aj hj] at e';exact n1 i j id e e'
   .rw[Aj hi] at e;rw[Aq (by omega)] at e';exact(key _ _ _ e e').elim
   .rw[Aq (by omega)] at e;rw[Aj hj] at e';exact(key _ _ _ e' e).elim
   .rw[Aq (by omega)] at e;rw[Aq (by omega)] at e';have:=n2 _ _ id e e';omega
theorem Laid.snoc {u u1 u' :Used} {es:List D} {us:List Value} {d:D} {v:Value} {H2 H3:z0a} {B2 Bn:List (Option Nat)} (hl:B2.length=H2.length) (hu:∀e∈u,e∈u1) {b:Blk} {ob:Option Nat}
 (h:Laid H B w N Np Nt Ntp u1 u' es us H2 H3 B2 Bn)
 (hb:BR Nt Ntp (H3++ [b]) (B2++(Bn++ [ob])) w b ob) (hd:CR Nt Ntp (H3++ [b]) (B2++(Bn++ [ob])) w d v)
 (ho:∀rb,ob=some rb-> ∃id,B[id]? =some (some rb)/\(id,true)∈u' /\u.has id=false/\u1.has id=true):
 Laid H B w N Np Nt Ntp u u' [d] [v] H2 (H3++ [b]) B2 (Bn++ [ob]):=by
 have hl1:=h.lenB hl;obtain⟨Hn,e1,l1,b1⟩:=h.heap;have st:Step Nt Ntp Nt Ntp H3 (B2++Bn) w (H3++ [b]) (B2++(Bn++ [ob])) w:=by
  rw[←Bi];exact Step.app hl1 _ _
 refine⟨⟨Hn++ [b],by rw[e1,Bi],by simp;omega,?_⟩,?_,?_⟩
 .intro i b' ob' hi hb';by_cases hlt:i<Hn.length
  .rw[Aj hlt] at hi;rw[Aj (by omega)] at hb';exact(b1 i b' ob' hi hb').step st (fun _ _=>rfl)
  .rw[Aq (by omega)] at hi;rw[Aq (by omega)] at hb';have e0:i - Hn.length=0:=by
    rcases De (i - Hn.length) with q | q
    .exact q
    .rw[Be (by simp;omega)] at hi;cases hi
   have e0' :i - Bn.length=0:=by omega
   rw[e0] at hi;rw[e0'] at hb';simp at hi hb';subst hi;subst hb';exact hb
 .simp only[CRs];exact⟨v, [],rfl,hd,rfl⟩
 .obtain⟨M,m,f,g,n⟩:=h.from_;cases ob with
  | none=>
   refine⟨M++ [none],by simp;omega,?_,?_,?_⟩
   .intro i id e;by_cases hlt:i<M.length
    .rw[Aj hlt] at e;obtain⟨q1,q2⟩:=f i id e;exact⟨q1,Used.has_mono hu q2⟩
    .rw[Aq (by omega)] at e;rcases De (i - M.length) with q | q
     .rw[q] at e;simp at e
     .rw[Be (by simp;omega)] at e;cases e
   .intro i rb e;by_cases hlt:i<Bn.length
    .rw[Aj hlt] at e;obtain⟨id,q1,q2⟩:=g i rb e;exact⟨id,by rw[Aj (by omega)];exact q1,q2⟩
    .rw[Aq (by omega)] at e;rcases De (i - Bn.length) with q | q
     .rw[q] at e;simp at e
     .rw[Be (by simp;omega)] at e;cases e
   .have tail:∀i id:Nat,(M++ [none])[i]? =some (some id)->M[i]? =some (some id):=by
     intro i id e;by_cases hlt:i<M.length
     .rwa [Aj hlt] at e
     .rw[Aq (by omega)] at e;rcases De (i - M.length) with q | q
      .rw[q] at e;simp at e
      .rw[Be (by simp;omega)] at e;cases e
    exact fun i j id e e' =>n i j id (tail _ _ e) (tail _ _ e')
  | some rb0=>
   obtain⟨id0,i1,i2,i3,i4⟩:=ho rb0 rfl;have last:∀ {X:Type} {l:List X} {x y:X} {i:Nat},¬i<l.length->(l++ [x])[i]? =some y->i=l.length/\y=x:=by
    intro X l x y i hi e;rw[Aq (by omega)] at e;rcases De (i - l.length) with q | q
    .rw[q] at e;simp at e;exact⟨by omega,e.symm⟩
    .rw[Be (by simp;omega)] at e;cases e
   refine⟨M++ [some id0],by simp;omega,?_,?_,?_⟩
   .intro i id e;by_cases hlt:i<M.length
    .rw[Aj hlt] at e;obtain⟨q1,q2⟩:=f i id e;exact⟨q1,Used.has_mono hu q2⟩
    .obtain⟨-,q⟩:=last hlt e;cases q;exact⟨i2,i3⟩
   .intro i rb e;by_cases hlt:i<Bn.length
    .rw[Aj hlt] at e;obtain⟨id,q1,q2⟩:=g i rb e;exact⟨id,by rw[Aj (by omega)];exact q1,q2⟩
    .obtain⟨q0,q⟩:=last hlt e;cases q;exact⟨id0,by rw[Aq (by omega),q0,m];simp,i1⟩
   .have old:∀i:Nat,M[i]? =some (some id0)->False:=by
     intro i e;have:=(f i id0 e).2;rw[i4] at this;cases this
    intro i j id e e';by_cases hi:i<M.length<;>by_cases hj:j<M.length
    .rw[Aj hi] at e;rw[Aj hj] at e';exact n i j id e e'
    .rw[Aj hi] at e;obtain⟨-,q⟩:=last hj e';cases q;exact(old _ e).elim
    .obtain⟨-,q⟩:=last hi e;cases q;rw[Aj hj] at e';exact(old _ e').elim
    .obtain⟨q1,-⟩:=last hi e;obtain⟨q2,-⟩:=last hj e';omega
theorem Laid.cells' {u u1 u' :Used} {es es' :List D} {us us' :List Value} {H2 H3:z0a} {B2 Bn:List (Option Nat)} (hu:∀e∈u,e∈u1)
 (h:Laid H B w N Np Nt Ntp u1 u' es us H2 H3 B2 Bn) (hc:CRs Nt Ntp H3 (B2++Bn) w es' us'):Laid H B w N Np Nt Ntp u u' es' us' H2 H3 B2 Bn:=by
 obtain⟨M,m,f,g,n⟩:=h.from_;exact⟨h.heap,hc,M,m,fun i id e=>⟨(f i id e).1,Used.has_mono hu (f i id e).2⟩,g,n⟩
end
section
variable {N Np Nt Ntp:Nat->Prop} {H:z0a} {B:List (Option Nat)} {w:World}
theorem z1e {lend:Bool} :∀ {s:Sh} {ds:List D} {u u' :Used} {x:s.den} {r:List D},ext lend H s ds u=some (x,r,u')-> ∀e∈u,e∈u'
 | .int k,ds,u,u',x,r,h=>by
  cases ds with
  | nil=>simp[ext] at h | cons d ds=>
   cases d<;>simp only[ext] at h<;>try (cases h;done)
   split at h
   .simp only[Ac,Ak] at h;obtain⟨_,_,rfl⟩:=h;exact fun e he=>he
   .cases h
 | .bool,ds,u,u',x,r,h=>by
  cases ds with
  | nil=>simp[ext] at h | cons d ds=>
   cases d<;>simp only[ext] at h<;>try (cases h;done)
   simp only[Ac,Ak] at h;obtain⟨_,_,rfl⟩:=h;exact fun e he=>he
 | .str,ds,u,u',x,r,h=>by
  cases ds with
  | nil=>simp[ext] at h | cons d ds=>
   cases d<;>simp only[ext] at h<;>try (cases h;done)
   simp only[Ac,Ak] at h;obtain⟨_,_,rfl⟩:=h;exact fun e he=>he
 | .tr p t,ds,u,u',x,r,h=>by
  cases ds with
  | nil=>simp[ext] at h | cons d ds=>
   cases d<;>simp only[ext] at h<;>try (cases h;done)
   .split at h
    .split at h
     .simp only[Ac,Ak] at h;obtain⟨_,_,rfl⟩:=h;exact fun e he=>he
     .cases h
    .cases h
   .simp only[Ac,Ak] at h;obtain⟨_,_,rfl⟩:=h;exact fun e he=>he
   .split at h
    .split at h
     .split at h
      .simp only[Ac,Ak] at h;obtain⟨_,_,rfl⟩:=h;exact fun e he=>Bm _ he
      .cases h
     .cases h
    .cases h
   .split at h
    .split at h
     .split at h
      .simp only[Ac,Ak] at h;obtain⟨_,_,rfl⟩:=h;exact fun e he=>Bm _ he
      .cases h
     .cases h
    .cases h
 | .own p t,ds,u,u',x,r,h=>by
  cases ds with
  | nil=>simp[ext] at h | cons d ds=>
   cases d<;>simp only[ext] at h<;>try (cases h;done)
   .simp only[Ac,Ak] at h;obtain⟨_,_,rfl⟩:=h;exact fun e he=>he
   .split at h
    .split at h
     .split at h
      .simp only[Ac,Ak] at h;obtain⟨_,_,rfl⟩:=h;exact fun e he=>Bm _ he
      .cases h
     .cases h
    .cases h
   .split at h
    .split at h
     .split at h
      .simp only[Ac,Ak] at h;obtain⟨_,_,rfl⟩:=h;exact fun e he=>Bm _ he
      .cases h
     .cases h
    .cases h
 | .box s,ds,u,u',x,r,h=>by
  cases ds with
  | nil=>simp[ext] at h | cons d ds=>
   cases d<;>simp only[ext] at h<;>try (cases h;done)
   split at h
   .split at h
    .split at h
     .rename_i e1;split at h
      .cases h
      .simp only[Ac,Ak] at h;obtain⟨_,_,rfl⟩:=h;exact fun e he=>Bm _ (z1e e1 e he)
     .cases h
    .cases h
   .cases h
 | .rbox s,ds,u,u',x,r,h=>by
  cases ds with
  | nil=>simp[ext] at h | cons d ds=>
   cases d<;>simp only[ext] at h<;>try (cases h;done)
   .split at h
    .split at h
     .split at h
      .rename_i e1;simp only[Ac,Ak] at h;obtain⟨_,_,rfl⟩:=h;exact fun e he=>z1e e1 e (Bm _ he)
      .cases h
     .cases h
    .cases h
   .split at h
    .split at h
     .rename_i e1;simp only[Ac,Ak] at h;obtain⟨_,_,rfl⟩:=h;exact z1e e1
     .cases h
    .cases h
 | .clo g s,ds,u,u',x,r,h=>by
  cases ds with
  | nil=>simp[ext] at h | cons d ds=>
   cases d<;>simp only[ext] at h<;>try (cases h;done)
   split at h
   .split at h
    .rename_i e1;simp only[Ac,Ak] at h;obtain⟨_,_,rfl⟩:=h;exact z1e e1
    .cases h
   .cases h
 | .agg s,ds,u,u',x,r,h=>by
  cases ds with
  | nil=>simp[ext] at h | cons d ds=>
   cases d<;>simp only[ext] at h<;>try (cases h;done)
   split at h
   .rename_i e1;simp only[Ac,Ak] at h;obtain⟨_,_,rfl⟩:=h;exact z1e e1
   .cases h
 | .pair a b,ds,u,u',x,r,h=>by
  simp only[ext] at h;split at h
  .rename_i e1;split at h
   .rename_i e2;simp only[Ac,Ak] at h;obtain⟨_,_,rfl⟩:=h;exact fun e he=>z1e e2 e (z1e e1 e he)
   .cases h
  .cases h
 | .unit,ds,u,u',x,r,h=>by
  simp only[ext,Ac,Ak] at h;obtain⟨_,_,rfl⟩:=h;exact fun e he=>he
 | .ref k,ds,u,u',x,r,h=>by
  cases ds with
  | nil=>simp[ext] at h | cons d ds=>
   cases d<;>simp only[ext] at h<;>try (cases h;done)
   split at h
   .split at h
    .simp only[Ac,Ak] at h;obtain⟨_,_,rfl⟩:=h;exact fun e he=>he
    .cases h
   .cases h
 | .skip,ds,u,u',x,r,h=>by
  cases ds with
  | nil=>simp[ext] at h | cons d ds=>
   simp only[ext,Ac,Ak] at h;obtain⟨_,_,rfl⟩:=h;exact fun e he=>he
 | .nil,ds,u,u',x,r,h=>by
  cases ds with
  | nil=>simp[ext] at h | cons d ds=>
   cases d<;>simp only[ext] at h<;>try (cases h;done)
   simp only[Ac,Ak] at h;obtain⟨_,_,rfl⟩:=h;exact fun e he=>he
theorem z1z:∀(n:Nat) (X Y:z0a),z0d n (X++Y)=z0d n X++z0d (n+X.length) Y
 | n, [],Y=>by simp[z0d]
 | n, .box c::X,Y=>by
  simp only[Ef,z0d,Bc];rw[z1z (n+1) X Y,show n+1+X.length=n+(X.length+1) by omega]
 | n, .dead::X,Y=>by
  simp only[Ef,z0d,Bc];rw[z1z (n+1) X Y,show n+1+X.length=n+(X.length+1) by omega]
 | n, .arr p st t l::X,Y=>by
  simp only[Ef,z0d,Bc];rw[z1z (n+1) X Y,show n+1+X.length=n+(X.length+1) by omega]
theorem z2a:∀(n:Nat) (X:z0a) (j:Nat),j∈z0d n X->j<n+X.length
 | n, [],j,h=>by simp[z0d] at h
 | n, .box c::X,j,h=>by
  simp only[z0d,A8] at h;rcases h with rfl | h
  .simp
  .have:=z2a (n+1) X j h;simp only[Bc];omega
 | n, .dead::X,j,h=>by
  simp only[z0d] at h;have:=z2a (n+1) X j h;simp only[Bc];omega
 | n, .arr p st t l::X,j,h=>by
  simp only[z0d] at h;have:=z2a (n+1) X j h;simp only[Bc];omega
def Mp (H:z0a) (B:List (Option Nat)) (u:Used) (H2:z0a) (B2:List (Option Nat)):Prop:=
 (u.boxes H).length=(z0d 0 H2).length/\ ∀k id j:Nat,(u.boxes H).reverse[k]? =some id->(z0d 0 H2)[k]? =some j->B2[j]? =B[id]?
theorem Mp.start:Mp H B [] [] [] :=⟨rfl,fun k id j h=>by simp[Used.boxes] at h⟩
theorem z9h {u:Used} {id:Nat} :id∈u.boxes H->z2t H id=true:=by
 induction u with
 | nil=>intro h;simp[Used.boxes] at h | cons e u ih=>
  obtain⟨i,b⟩:=e;cases b with
  | false=>intro h;exact ih (by simpa[Used.boxes] using h) | true=>
   intro h;simp only[Used.boxes] at h;split at h
   .rename_i q;rcases A8.mp h with rfl | h
    .exact q
    .exact ih h
   .exact ih h
theorem Mp.lent {u:Used} {id:Nat} {H2:z0a} {B2:List (Option Nat)} (h:Mp H B u H2 B2):Mp H B ((id,false)::u) H2 B2:=h
theorem Mp.arr {u:Used} {H2:z0a} {B2:List (Option Nat)} {ob:Option Nat} {q:Bool} {st:Nat} {t:Ty} {l:List t.den} (hl:B2.length=H2.length) (h:Mp H B u H2 B2):Mp H B u (H2++ [.arr q st t l]) (B2++ [ob]):=by
 obtain⟨h1,h2⟩:=h;have e:z0d 0 (H2++ [.arr q st t l])=z0d 0 H2:=by rw[z1z];simp[z0d]
 refine⟨by rw[e];exact h1,fun k id j k1 k2=> ?_⟩;rw[e] at k2;have hj:=z2a 0 H2 j (Dn k2);rw[Aj (by omega)];exact h2 k id j k1 k2
theorem Mp.took {u:Used} {id:Nat} {H2:z0a} {B2:List (Option Nat)} {p:Bool} {st:Nat} {t:Ty} {l:List t.den} (hH:H[id]? =some (.arr p st t l)) (h:Mp H B u H2 B2):Mp H B ((id,true)::u) H2 B2:=by
 have e:Used.boxes H ((id,true)::u)=Used.boxes H u:=by simp[Used.boxes,z2t,hH]
 unfold Mp at h ⊢;rw[e];exact h
theorem Mp.box {u:Used} {id rb:Nat} {H2:z0a} {B2:List (Option Nat)} {cells cs:List D} (hH:H[id]? =some (.box cells)) (hB:B[id]? =some (some rb)) (hl:B2.length=H2.length) (h:Mp H B u H2 B2):Mp H B ((id,true)::u) (H2++ [.box cs]) (B2++ [some rb]):=by
 obtain⟨h1,h2⟩:=h;have e:z0d 0 (H2++ [.box cs])=z0d 0 H2++ [H2.length] :=by rw[z1z];simp[z0d]
 have e2:Used.boxes H ((id,true)::u)=id::Used.boxes H u:=by simp[Used.boxes,z2t,hH]
 refine⟨by rw[e,e2];simp[h1],fun k id' j k1 k2=> ?_⟩;rw[e] at k2;rw[e2,List.reverse_cons] at k1;by_cases hk:k<(z0d 0 H2).length
 .rw[Aj hk] at k2;rw[Aj (by simp;omega)] at k1;have hj:=z2a 0 H2 j (Dn k2);rw[Aj (by omega)];exact h2 k id' j k1 k2
 .rw[Aq (by omega)] at k2;rw[Aq (by simp;omega)] at k1;have hz:k - (z0d 0 H2).length=0:=by
   rcases De (k - (z0d 0 H2).length) with q | q
   .exact q
   .rw[Be (by simp;omega)] at k2;cases k2
  have hz' :k - (Used.boxes H u).reverse.length=0:=by simp;omega
  rw[hz] at k2;rw[hz'] at k1;simp at k1 k2;subst k1;subst k2;rw[Aq (by omega),hB,hl];simp
theorem y2m {p:Bool} {st len:Nat} {t:Ty} {l:List t.den} {id:Nat} {v:Value} {q:Bool} {ob:Option Nat} {H3:z0a} {B3:List (Option Nat)} (hH:H[id]? =some (.arr p st t l)) (hB:B[id]? =some ob)
 (hb:BR N Np H B w (.arr p st t l) ob) (hv:HdsP H B w id st 0 len v) (hq:Lets N Np w p (pk q Nt Ntp)) (hl3:B3.length=H3.length):
 BR Nt Ntp (H3++ [.arr q 0 t (l.take len)]) (B3++ [ob]) w (.arr q 0 t (l.take len)) ob/\CR Nt Ntp (H3++ [.arr q 0 t (l.take len)]) (B3++ [ob]) w (.hd H3.length 0) v:=by
 obtain⟨h1,h2⟩:=hv;obtain⟨-,h3⟩:=h2 _ _ _ _ hH;obtain⟨ho,a,c,rfl,hc,hr⟩:=h3 rfl;have hr:=hr (.inl rfl);have hlen:(l.take len).length=len:=by simp;omega
 have hB3:(B3++ [ob])[H3.length]? =some ob:=by rw[Aq (by omega),hl3];simp
 constructor
 .cases ob with
  | none=>
   have:l= [] :=hb;subst this;simp[BR]
  | some rb=>
   obtain⟨cs,hcs,hsz,hd⟩:=hb;refine⟨cs,hcs,?_,fun i hi=> ?_⟩
   .rw[hlen];exact A9 (Bo _ (by omega)) hsz
   .have hi' :i<l.length:=by omega
    obtain⟨us,hu,hcell⟩:=hd i hi';refine⟨us,?_,hcell⟩;have e:(l.take len)[i] =l[i] :=by simp
    rw[e];exact hu.lets hq
 .simp only[CR];refine⟨⟨by simp,rfl⟩,fun p' st' t' l' e=> ?_⟩;rw[Aq (Au _)] at e;simp only[Dw,Bt] at e;injection e with e
  injection e with e1 e2 e3 e4
  subst e1;subst e2;subst e3;cases e4;refine⟨Au _,fun _=>⟨a,c,by rw[hlen],by omega,?_⟩⟩;unfold RowP at hr ⊢;rw[hB3];rw[hB] at hr;cases ob with
  | none=>exact hr | some rb=>
   obtain⟨k1,cs,k2,k3⟩:=hr;exact⟨k1,cs,k2,k3⟩
theorem z2s {lend:Bool} (hN:∀b,N b->Np b) (hNt:∀b,Nt b->Ntp b) (hl:B.length=H.length) (blk:∀(i:Nat) b ob,H[i]? =some b->B[i]? =some ob->BR N Np H B w b ob)
 (h1:Lets N Np w true Ntp):
 ∀ {s:Sh} {ds:List D} {vs:List Value} {u u' :Used} {x:s.den} {r:List D},(s.perm=false->Lets N Np w false Nt)->ext lend H s ds u=some (x,r,u')->CRs N Np H B w ds vs->
  (∀id rb,(id,false)∈u' ->B[id]? =some (some rb)-> ¬Nt rb/\(lend=false-> ¬Ntp rb))->
  ∀(H2:z0a) (B2:List (Option Nat)),B2.length=H2.length->(s.norefs=true\/Mp H B u H2 B2)-> ∃us vs',vs=us++vs' /\CRs N Np H B w r vs' /\ ∃Bn,Laid H B w N Np Nt Ntp u u' (emb s x H2).1 us H2 (emb s x H2).2 B2 Bn/\
   (Mp H B u H2 B2->Mp H B u' (emb s x H2).2 (B2++Bn))
 | .int k,ds,vs,u,u',x,r,h0,h,hc,hF,H2,B2,hl2,hR=>by
  cases ds with
  | nil=>simp[ext] at h | cons d ds=>
   cases d<;>simp only[ext] at h<;>try (cases h;done)
   split at h
   .rename_i k' n e;subst e;simp only[Ac,Ak] at h;obtain⟨rfl,rfl,rfl⟩:=h;simp only[CRs,CR] at hc;obtain⟨v,us,rfl,rfl,h2⟩:=hc;exact⟨[_],us,rfl,h2, [], .nil (by simp[emb,CRs,CR]),fun q=>by simpa[emb] using q⟩
   .cases h
 | .bool,ds,vs,u,u',x,r,h0,h,hc,hF,H2,B2,hl2,hR=>by
  cases ds with
  | nil=>simp[ext] at h | cons d ds=>
   cases d<;>simp only[ext] at h<;>try (cases h;done)
   simp only[Ac,Ak] at h;obtain⟨rfl,rfl,rfl⟩:=h;simp only[CRs,CR] at hc;obtain⟨v,us,rfl,rfl,h2⟩:=hc;exact⟨[_],us,rfl,h2, [], .nil (by simp[emb,CRs,CR]),fun q=>by simpa[emb] using q⟩
 | .str,ds,vs,u,u',x,r,h0,h,hc,hF,H2,B2,hl2,hR=>by
  cases ds with
  | nil=>simp[ext] at h | cons d ds=>
   cases d<;>simp only[ext] at h<;>try (cases h;done)
   simp only[Ac,Ak] at h;obtain⟨rfl,rfl,rfl⟩:=h;simp only[CRs,CR] at hc;obtain⟨v,us,rfl,rfl,h2⟩:=hc;exact⟨[_],us,rfl,h2, [], .nil (by simp[emb,CRs,CR]),fun q=>by simpa[emb] using q⟩
 | .tr p t,ds,vs,u,u',x,r,h0,h,hc,hF,H2,B2,hl2,hR=>by
  cases ds with
  | nil=>simp[ext] at h | cons d ds=>
   cases d<;>simp only[ext] at h<;>try (cases h;done)
   .rename_i q t' l;split at h
    .rename_i e1;split at h
     .rename_i e2;subst e2;simp only[Ac,Ak] at h;obtain⟨rfl,rfl,rfl⟩:=h;simp only[CRs,CR] at hc;obtain⟨v,us,rfl,hd,h2⟩:=hc;refine⟨[_],us,rfl,h2, [], .nil ?_,fun q=>by rw[Bw];exact q⟩;simp only[emb,CRs,CR];exact⟨_,_,rfl,hd.lets (Lets.to hN h0 h1 e1),rfl⟩
     .cases h
    .cases h
   .simp only[Ac,Ak] at h;obtain⟨rfl,rfl,rfl⟩:=h;simp only[CRs,CR] at hc;obtain⟨v,us,rfl,rfl,h2⟩:=hc;refine⟨[_],us,rfl,h2, [], .nil ?_,fun q=>by rw[Bw];exact q⟩;simp only[emb,CRs,CR];exact⟨_,_,rfl,⟨none,0,rfl,Au _, .inl rfl⟩,rfl⟩
   .rename_i id st;split at h
    .rename_i q st' t' l hH;split at h
     .rename_i e1;simp only[Ai] at e1;have e0:=Av e1.1.1;subst e0;split at h
      .rename_i e2;subst e2;simp only[Ac,Ak] at h;obtain⟨rfl,rfl,rfl⟩:=h;simp only[CRs,CR] at hc;obtain⟨v,us,rfl,hd,h2⟩:=hc;have hid:id<B.length:=by have:=hd.1;omega
       have hB:=A4 hid;refine⟨[_],us,rfl,h2, [], .nil ?_,fun q=>by rw[Bw];exact q⟩;simp only[emb,CRs,CR];refine⟨_,_,rfl,y0j hH hB (blk _ _ _ hH hB) hd (Lets.to hN h0 h1 (by cases p<;>cases q<;>simp_all [imp])) ?_,rfl⟩;intro rb e;obtain⟨k1,k2⟩:=hF id rb (by simp) (by rw[hB,e]);cases p
       .exact k1
       .exact k2 (by cases q<;>cases lend<;>simp_all [imp])
      .cases h
     .cases h
    .cases h
   .rename_i id st off len;split at h
    .rename_i q st' t' l hH;split at h
     .rename_i e1;simp only[Ai] at e1;have e0:=Av e1.1.1;subst e0;split at h
      .rename_i e2;subst e2;simp only[Ac,Ak] at h;obtain⟨rfl,rfl,rfl⟩:=h;simp only[CRs,CR] at hc;obtain⟨v,us,rfl,hd,h2⟩:=hc;have hid:id<B.length:=by have:=hd.1;omega
       have hB:=A4 hid;refine⟨[_],us,rfl,h2, [], .nil ?_,fun q=>by rw[Bw];exact q⟩;simp only[emb,CRs,CR];refine⟨_,_,rfl,z9o hH hB (blk _ _ _ hH hB) hd (Lets.to hN h0 h1 (by cases p<;>cases q<;>simp_all [imp])) ?_,rfl⟩;intro rb e;obtain⟨k1,k2⟩:=hF id rb (by simp) (by rw[hB,e]);cases p
       .exact k1
       .exact k2 (by cases q<;>cases lend<;>simp_all [imp])
      .cases h
     .cases h
    .cases h
 | .own p t,ds,vs,u,u',x,r,h0,h,hc,hF,H2,B2,hl2,hR=>by
  cases ds with
  | nil=>simp[ext] at h | cons d ds=>
   cases d<;>simp only[ext] at h<;>try (cases h;done)
   .simp only[Ac,Ak] at h;obtain⟨rfl,rfl,rfl⟩:=h;simp only[CRs,CR] at hc;obtain⟨v,us,rfl,rfl,h2⟩:=hc;refine⟨[_],us,rfl,h2, [none],?_,fun q=>q.arr hl2⟩;have hB3:(B2++ [none])[H2.length]? =some none:=by rw[Aq (by omega),hl2];simp
    refine Laid.snoc (u1:=u) (es:= []) (us:= []) (H3:=H2) (Bn:= []) hl2 (fun _ q=>q) (.nil (by simp[CRs])) (by simp[BR]) ?_ (fun rb e=>by cases e);simp only[CR];refine⟨⟨by simp,rfl⟩,fun p' st' t' l' e=> ?_⟩;rw[Aq (Au _)] at e;simp only[Dw,Bt] at e;injection e with e
    injection e with e1 e2 e3 e4
    subst e1;subst e2;subst e3;cases e4;refine⟨Au _,fun _=>⟨none,0,rfl,Au _,?_⟩⟩;unfold RowP;simp only[Cf];rw[hB3];simp
   .rename_i id st;split at h
    .rename_i q st' t' l hH;split at h
     .rename_i e1;simp only[Ai] at e1;have e0:=Av e1.1.1;subst e0;split at h
      .rename_i e2;subst e2;simp only[Ac,Ak] at h;obtain⟨rfl,rfl,rfl⟩:=h;simp only[CRs,CR] at hc;obtain⟨v,us,rfl,hd,h2⟩:=hc;have hid:id<B.length:=by have:=hd.1;omega
       have hB:=A4 hid;have hun:u.has id=false:=by simpa using e1.2
       refine⟨[_],us,rfl,h2, [B[id]],?_,fun q=>(q.arr hl2).took hH⟩;obtain⟨k1,k2⟩:=y2m (B:=B) (H3:=H2) (B3:=B2) (q:=p) hH hB (blk _ _ _ hH hB) (y0k hH hd) (Lets.to hN h0 h1 e1.1.2) hl2;rw[Cq] at k1 k2;refine Laid.snoc (u1:=(id,true)::u) (es:= []) (us:= []) (H3:=H2) (Bn:= []) hl2 (fun _ q=>Bm _ q) (.nil (by simp[CRs])) k1 k2 ?_;intro rb e;exact⟨id,by rw[hB,e],by simp,hun,Used.has_iff.mpr ⟨true,by simp⟩⟩
      .cases h
     .cases h
    .cases h
   .rename_i id st off len;split at h
    .rename_i q st' t' l hH;split at h
     .rename_i e1;simp only[Ai] at e1;have e0:=Av e1.1.1.1.1;have e00:=Av e1.1.1.1.2;subst e0;subst e00;split at h
      .rename_i e2;subst e2;simp only[Ac,Ak] at h;obtain⟨rfl,rfl,rfl⟩:=h;simp only[CRs,CR] at hc;obtain⟨v,us,rfl,hd,h2⟩:=hc;have hid:id<B.length:=by have:=hd.1;omega
       have hB:=A4 hid;have hun:u.has id=false:=by simpa using e1.1.2
       refine⟨[_],us,rfl,h2, [B[id]],?_,fun q=>(q.arr hl2).took hH⟩;obtain⟨k1,k2⟩:=y2m (B:=B) (H3:=H2) (B3:=B2) (q:=p) hH hB (blk _ _ _ hH hB) hd (Lets.to hN h0 h1 e1.1.1.2) hl2;refine Laid.snoc (u1:=(id,true)::u) (es:= []) (us:= []) (H3:=H2) (Bn:= []) hl2 (fun _ q=>Bm _ q) (.nil (by simp[CRs])) k1 k2 ?_;intro rb e;exact⟨id,by rw[hB,e],by simp,hun,Used.has_iff.mpr ⟨true,by simp⟩⟩
      .cases h
     .cases h
    .cases h
 | .box s,ds,vs,u,u',x,r,h0,h,hc,hF,H2,B2,hl2,hR=>by
  cases ds with
  | nil=>simp[ext] at h | cons d ds=>
   cases d<;>simp only[ext] at h<;>try (cases h;done)
   rename_i id off;split at h
   .rename_i cells hH;split at h
    .rename_i e1;have e0:=Av e1;subst e0;split at h
     .rename_i y u1 e2;split at h
      .cases h
      rename_i hun;simp only[Ac,Ak] at h;obtain⟨rfl,rfl,rfl⟩:=h;simp only[CRs,CR] at hc;obtain⟨v,us,rfl,hd,h2⟩:=hc;have hid:id<B.length:=by have:=hd.1;omega
      have hB:=A4 hid;obtain⟨rb,cs,hrb,hcs,hcc⟩:=blk _ _ _ hH hB;obtain⟨us1,vs1,ecs,hnil,Bn,L,hM⟩:=z2s hN hNt hl blk h1 (fun q=>h0 (by first | exact q | rfl)) e2 hcc (fun id' rb' q=>hF id' rb' (Bm _ q)) H2 B2 hl2 (hR.imp (fun q=>q) (fun q=>q));simp only[CRs] at hnil;subst hnil;simp only[Bw] at ecs;have hl3:=L.lenB hl2;refine⟨[_],us,rfl,h2,Bn++ [some rb],?_,fun q=>by
       rw[←Bi];exact(hM q).box hH (by rw[hB,hrb]) hl3⟩
      have stp:Step Nt Ntp Nt Ntp (emb s y H2).2 (B2++Bn) w ((emb s y H2).2++ [.box (emb s y H2).1]) (B2++Bn++([] ++ [some rb])) w:=Step.app hl3 _ _;have hptr:CR Nt Ntp ((emb s y H2).2++ [.box (emb s y H2).1]) (B2++Bn++([] ++ [some rb])) w (.ptr (emb s y H2).2.length 0) v:=by
       simp only[CR];obtain⟨_,hp⟩:=hd;obtain⟨rb',hb',hv⟩:=hp _ hH;rw[hB,hrb] at hb';cases hb';refine⟨⟨by simp,by rw[hv];rfl⟩,fun cells' e=>⟨rb,?_,hv⟩⟩;rw[Aq (by omega),hl3];simp
      have S:Laid H B w N Np Nt Ntp u1 ((id,true)::u1) [.ptr (emb s y H2).2.length 0] [v] (emb s y H2).2 ((emb s y H2).2++ [.box (emb s y H2).1]) (B2++Bn) ([] ++ [some rb]):=by
       refine Laid.snoc (u1:=(id,true)::u1) (es:= []) (us:= []) (H3:=(emb s y H2).2) (Bn:= []) hl3 (fun _ q=>Bm _ q) (.nil (by simp[CRs])) ?_ hptr ?_
       .exact⟨rb,cs,rfl,hcs,by rw[ecs];exact L.cells.step stp⟩
       .intro rb' e;cases e;exact⟨id,by rw[hB,hrb],by simp,by simpa using hun,Used.has_iff.mpr ⟨true,by simp⟩⟩
      have T:=L.append hl2 (z1e e2) (fun _ q=>Bm _ q) S;exact T.cells' (fun _ q=>q) (by
       simp only[emb,CRs];refine⟨_,_,rfl,?_,rfl⟩;rw[←Bi];exact hptr)
     .cases h
    .cases h
   .cases h
 | .rbox s,ds,vs,u,u',x,r,h0,h,hc,hF,H2,B2,hl2,hR=>by
  cases ds with
  | nil=>simp[ext] at h | cons d ds=>
   cases d<;>simp only[ext] at h<;>try (cases h;done)
   .rename_i id off;split at h
    .rename_i cells hH;split at h
     .rename_i e1;simp only[Ai] at e1;have e0:=Av e1.1;subst e0;split at h
      .rename_i y u1 e2;simp only[Ac,Ak] at h;obtain⟨rfl,rfl,rfl⟩:=h;simp only[CRs,CR] at hc;obtain⟨v,us,rfl,hd,h2⟩:=hc;have hid:id<B.length:=by have:=hd.1;omega
       have hB:=A4 hid;obtain⟨rb,cs,hrb,hcs,hcc⟩:=blk _ _ _ hH hB;obtain⟨us1,vs1,ecs,hnil,Bn,L,hM⟩:=z2s hN hNt hl blk h1 (fun q=>h0 (by first | exact q | rfl)) e2 hcc hF H2 B2 hl2 (hR.imp (fun q=>q) (fun q=>q));simp only[CRs] at hnil;subst hnil;simp only[Bw] at ecs;refine⟨[_],us,rfl,h2,Bn,L.cells' (fun _ q=>Bm _ q) ?_,fun q=>hM q⟩;simp only[emb,CRs,CR];obtain⟨_,hp⟩:=hd;obtain⟨rb',hb',hv⟩:=hp _ hH;rw[hB,hrb] at hb';cases hb';refine⟨_,_,rfl,⟨rb,0,hv,(hF id rb (z1e e2 _ (by simp)) (by rw[hB,hrb])).1,hcs.lt,us1,L.cells,fun j hj=> ?_⟩,rfl⟩;rw[z0c hcs,←ecs];simp
      .cases h
     .cases h
    .cases h
   .rename_i cells off;split at h
    .rename_i e1;have e0:=Av e1;subst e0;split at h
     .rename_i y u1 e2;simp only[Ac,Ak] at h;obtain⟨rfl,rfl,rfl⟩:=h;simp only[CRs,CR] at hc;obtain⟨v,us,rfl,⟨rb,ro,hv,hn,hlt,ws,hws,hcell⟩,h2⟩:=hc;obtain⟨us1,vs1,ecs,hnil,Bn,L,hM⟩:=z2s hN hNt hl blk h1 (fun q=>h0 (by first | exact q | rfl)) e2 hws hF H2 B2 hl2 (hR.imp (fun q=>q) (fun q=>q));simp only[CRs] at hnil;subst hnil;simp only[Bw] at ecs;subst ecs;refine⟨[_],us,rfl,h2,Bn,L.cells' (fun _ q=>q) ?_,fun q=>hM q⟩;simp only[emb,CRs,CR];exact⟨_,_,rfl,⟨rb,ro,hv,h0 rfl rb hlt hn,hlt,ws,L.cells,hcell⟩,rfl⟩
     .cases h
    .cases h
 | .clo g s,ds,vs,u,u',x,r,h0,h,hc,hF,H2,B2,hl2,hR=>by
  cases ds with
  | nil=>simp[ext] at h | cons d ds=>
   cases d<;>simp only[ext] at h<;>try (cases h;done)
   rename_i g' caps;split at h
   .rename_i e1;have e0:=Av e1;subst e0;split at h
    .rename_i y u1 e2;simp only[Ac,Ak] at h;obtain⟨rfl,rfl,rfl⟩:=h;simp only[CRs,CR] at hc;obtain⟨v,us,rfl,⟨ws,hv,hws⟩,h2⟩:=hc;obtain⟨us1,vs1,ecs,hnil,Bn,L,hM⟩:=z2s hN hNt hl blk h1 (fun q=>h0 (by first | exact q | rfl)) e2 hws hF H2 B2 hl2 (hR.imp (fun q=>q) (fun q=>q));simp only[CRs] at hnil;subst hnil;simp only[Bw] at ecs;refine⟨[_],us,rfl,h2,Bn,L.cells' (fun _ q=>q) ?_,fun q=>hM q⟩;simp only[emb,CRs,CR];exact⟨_,_,rfl,⟨ws,hv,by rw[ecs];exact L.cells⟩,rfl⟩
    .cases h
   .cases h
 | .agg s,ds,vs,u,u',x,r,h0,h,hc,hF,H2,B2,hl2,hR=>by
  cases ds with
  | nil=>simp[ext] at h | cons d ds=>
   cases d<;>simp only[ext] at h<;>try (cases h;done)
   split at h
   .rename_i y u1 e2;simp only[Ac,Ak] at h;obtain⟨rfl,rfl,rfl⟩:=h;simp only[CRs,CR] at hc;obtain⟨v,us,rfl,⟨ws,hv,hws⟩,h2⟩:=hc;obtain⟨us1,vs1,ecs,hnil,Bn,L,hM⟩:=z2s hN hNt hl blk h1 (fun q=>h0 (by first | exact q | rfl)) e2 hws hF H2 B2 hl2 (hR.imp (fun q=>q) (fun q=>q));simp only[CRs] at hnil;subst hnil;simp only[Bw] at ecs;refine⟨[_],us,rfl,h2,Bn,L.cells' (fun _ q=>q) ?_,fun q=>hM q⟩;simp only[emb,CRs,CR];exact⟨_,_,rfl,⟨ws,hv,by rw[ecs];exact L.cells⟩,rfl⟩
   .cases h
 | .pair s t,ds,vs,u,u',x,r,h0,h,hc,hF,H2,B2,hl2,hR=>by
  simp only[ext] at h;split at h
  .rename_i x1 ds1 u1 e1;split at h
   .rename_i x2 ds2 u2 e2;simp only[Ac,Ak] at h;obtain⟨rfl,rfl,rfl⟩:=h;have hRs:s.norefs=true\/Mp H B u H2 B2:=hR.imp (fun q=>by simp only[Sh.norefs,Ai] at q;exact q.1) (fun q=>q);obtain⟨us1,vs1,rfl,k1,Bn1,L1,M1⟩:=z2s hN hNt hl blk h1 (fun q=>h0 (by simp[Sh.perm,q])) e1 hc (fun id rb hi=>hF id rb (z1e e2 _ hi)) H2 B2 hl2 hRs;have hRt:t.norefs=true\/Mp H B u1 (emb s x1 H2).2 (B2++Bn1):=hR.imp (fun q=>by simp only[Sh.norefs,Ai] at q;exact q.2) (fun q=>M1 q);obtain⟨us2,vs2,rfl,k2,Bn2,L2,M2⟩:=z2s hN hNt hl blk h1 (fun q=>h0 (by simp[Sh.perm,q])) e2 k1 hF _ _ (L1.lenB hl2) hRt;exact⟨us1++us2,vs2,by simp,k2,Bn1++Bn2,L1.append hl2 (z1e e1) (z1e e2) L2,fun q=>by rw[←Bi];exact M2 (M1 q)⟩
   .cases h
  .cases h
 | .unit,ds,vs,u,u',x,r,h0,h,hc,hF,H2,B2,hl2,hR=>by
  simp only[ext,Ac,Ak] at h;obtain⟨_,rfl,rfl⟩:=h;exact⟨[],vs,rfl,hc, [], .nil (by simp[emb,CRs]),fun q=>by simpa[emb] using q⟩
 | .ref k,ds,vs,u,u',x,r,h0,h,hc,hF,H2,B2,hl2,hR=>by
  cases ds with
  | nil=>simp[ext] at h | cons d ds=>
   cases d<;>simp only[ext] at h<;>try (cases h;done)
   rename_i id off;split at h
   .rename_i id' hk;split at h
    .rename_i e1;simp only[Ai] at e1;have e0:=Av e1.1;have e00:=Av e1.2;subst e0;subst e00;simp only[Ac,Ak] at h;obtain⟨_,rfl,rfl⟩:=h;simp only[CRs,CR] at hc;obtain⟨v,us,rfl,hd,h2⟩:=hc;refine⟨[_],us,rfl,h2, [], .nil ?_,fun q=>by simpa[emb] using q⟩;have hM:Mp H B u H2 B2:=hR.resolve_left (by simp[Sh.norefs]);have hbx:=z9h (u:=u) (List.mem_reverse.mp (Dn hk));unfold z2t at hbx;split at hbx
     .rename_i cells hH;have hkl:k<(z0d 0 H2).length:=by
       rw[←hM.1,←List.length_reverse];rcases B8 k (Used.boxes H u).reverse.length with q | q
       .exact q
       .rw[Be q] at hk;cases hk
      have hj:=A4 hkl;have hB2:=hM.2 k id _ hk hj;have hjl:=z2a 0 H2 _ (Dn hj);obtain⟨hd1,hp⟩:=hd;obtain⟨rb,hb,hv⟩:=hp _ hH;have hg:(z0d 0 H2).getD k 0=(z0d 0 H2)[k] :=by rw[A5,hj];rfl
      simp only[emb,CRs,CR,Bw,hg];refine⟨_,_,rfl,⟨⟨by omega,hd1.2⟩,fun cells' e=>⟨rb,by rw[hB2,hb],hv⟩⟩,rfl⟩
     .cases hbx
    .cases h
   .cases h
 | .skip,ds,vs,u,u',x,r,h0,h,hc,hF,H2,B2,hl2,hR=>by
  cases ds with
  | nil=>simp[ext] at h | cons d ds=>
   simp only[ext,Ac,Ak] at h;obtain⟨_,rfl,rfl⟩:=h;simp only[CRs] at hc;obtain⟨v,us,rfl,_,h2⟩:=hc;exact⟨[_],us,rfl,h2, [], .nil (by simp[emb,CRs,CR]),fun q=>by simpa[emb] using q⟩
 | .nil,ds,vs,u,u',x,r,h0,h,hc,hF,H2,B2,hl2,hR=>by
  cases ds with
  | nil=>simp[ext] at h | cons d ds=>
   cases d<;>simp only[ext] at h<;>try (cases h;done)
   simp only[Ac,Ak] at h;obtain⟨_,rfl,rfl⟩:=h;simp only[CRs,CR] at hc;obtain⟨v,us,rfl,rfl,h2⟩:=hc;exact⟨[_],us,rfl,h2, [], .nil (by simp[emb,CRs,CR]),fun q=>by simpa[emb] using q⟩
theorem z5h {lend:Bool} :∀ {s:Sh} {ds:List D} {u u' :Used} {x:s.den} {r:List D},ext lend H s ds u=some (x,r,u')->u.excl->u'.excl:=by
 have tr:∀ {u:Used} {id:Nat},u.moved id=false->u.excl->Used.excl ((id,false)::u):=by
  intro u id hm hu i h1 h2;simp only[A8,Ak] at h1 h2;rcases h1 with ⟨_,h⟩ | h1
  .cases h
  rcases h2 with ⟨rfl,_⟩ | h2
  .rw[Used.moved_iff.mpr h1] at hm;cases hm
  .exact hu i h1 h2
 have mv:∀ {u:Used} {id:Nat},u.has id=false->u.excl->Used.excl ((id,true)::u):=by
  intro u id hm hu i h1 h2;simp only[A8,Ak] at h1 h2;rcases h2 with ⟨_,h⟩ | h2
  .cases h
  rcases h1 with ⟨rfl,_⟩ | h1
  .rw[Used.has_iff.mpr ⟨_,h2⟩] at hm;cases hm
  .exact hu i h1 h2
 intro s
 induction s with
 | int k=>
  intro ds u u' x r h hu;cases ds with
  | nil=>simp[ext] at h | cons d ds=>
   cases d<;>simp only[ext] at h<;>try (cases h;done)
   split at h
   .simp only[Ac,Ak] at h;obtain⟨_,_,rfl⟩:=h;exact hu
   .cases h
 | bool=>
  intro ds u u' x r h hu;cases ds with
  | nil=>simp[ext] at h | cons d ds=>
   cases d<;>simp only[ext] at h<;>try (cases h;done)
   simp only[Ac,Ak] at h;obtain⟨_,_,rfl⟩:=h;exact hu
 | str=>
  intro ds u u' x r h hu;cases ds with
  | nil=>simp[ext] at h | cons d ds=>
   cases d<;>simp only[ext] at h<;>try (cases h;done)
   simp only[Ac,Ak] at h;obtain⟨_,_,rfl⟩:=h;exact hu
 | tr p t=>
  intro ds u u' x r h hu;cases ds with
  | nil=>simp[ext] at h | cons d ds=>
   cases d<;>simp only[ext] at h<;>try (cases h;done)
   .split at h
    .split at h
     .simp only[Ac,Ak] at h;obtain⟨_,_,rfl⟩:=h;exact hu
     .cases h
    .cases h
   .simp only[Ac,Ak] at h;obtain⟨_,_,rfl⟩:=h;exact hu
   .split at h
    .split at h
     .rename_i e1;simp only[Ai,Bj] at e1;split at h
      .simp only[Ac,Ak] at h;obtain⟨_,_,rfl⟩:=h;exact tr e1.2 hu
      .cases h
     .cases h
    .cases h
   .split at h
    .split at h
     .rename_i e1;simp only[Ai,Bj] at e1;split at h
      .simp only[Ac,Ak] at h;obtain⟨_,_,rfl⟩:=h;exact tr e1.2 hu
      .cases h
     .cases h
    .cases h
 | own p t=>
  intro ds u u' x r h hu;cases ds with
  | nil=>simp[ext] at h | cons d ds=>
   cases d<;>simp only[ext] at h<;>try (cases h;done)
   .simp only[Ac,Ak] at h;obtain⟨_,_,rfl⟩:=h;exact hu
   .split at h
    .split at h
     .rename_i e1;simp only[Ai,Bj] at e1;split at h
      .simp only[Ac,Ak] at h;obtain⟨_,_,rfl⟩:=h;exact mv e1.2 hu
      .cases h
     .cases h
    .cases h
   .split at h
    .split at h
     .rename_i e1;simp only[Ai,Bj] at e1;split at h
      .simp only[Ac,Ak] at h;obtain⟨_,_,rfl⟩:=h;exact mv e1.1.2 hu
      .cases h
     .cases h
    .cases h
 | box s ih=>
  intro ds u u' x r h hu;cases ds with
  | nil=>simp[ext] at h | cons d ds=>
   cases d<;>simp only[ext] at h<;>try (cases h;done)
   split at h
   .split at h
    .split at h
     .rename_i e2;split at h
      .cases h
      rename_i hun;simp only[Ac,Ak] at h;obtain⟨_,_,rfl⟩:=h;exact mv (by simpa using hun) (ih e2 hu)
     .cases h
    .cases h
   .cases h
 | rbox s ih=>
  intro ds u u' x r h hu;cases ds with
  | nil=>simp[ext] at h | cons d ds=>
   cases d<;>simp only[ext] at h<;>try (cases h;done)
   .split at h
    .split at h
     .rename_i e1;simp only[Ai,Bj] at e1;split at h
      .rename_i e2;simp only[Ac,Ak] at h;obtain⟨_,_,rfl⟩:=h;exact ih e2 (tr e1.2 hu)
      .cases h
     .cases h
    .cases h
   .split at h
    .split at h
     .rename_i e2;simp only[Ac,Ak] at h;obtain⟨_,_,rfl⟩:=h;exact ih e2 hu
     .cases h
    .cases h
 | clo g s ih=>
  intro ds u u' x r h hu;cases ds with
  | nil=>simp[ext] at h | cons d ds=>
   cases d<;>simp only[ext] at h<;>try (cases h;done)
   split at h
   .split at h
    .rename_i e2;simp only[Ac,Ak] at h;obtain⟨_,_,rfl⟩:=h;exact ih e2 hu
    .cases h
   .cases h
 | agg s ih=>
  intro ds u u' x r h hu;cases ds with
  | nil=>simp[ext] at h | cons d ds=>
   cases d<;>simp only[ext] at h<;>try (cases h;done)
   split at h
   .rename_i e2;simp only[Ac,Ak] at h;obtain⟨_,_,rfl⟩:=h;exact ih e2 hu
   .cases h
 | pair a b iha ihb=>
  intro ds u u' x r h hu;simp only[ext] at h;split at h
  .rename_i e1;split at h
   .rename_i e2;simp only[Ac,Ak] at h;obtain⟨_,_,rfl⟩:=h;exact ihb e2 (iha e1 hu)
   .cases h
  .cases h
 | unit=>
  intro ds u u' x r h hu;simp only[ext,Ac,Ak] at h;obtain⟨_,_,rfl⟩:=h;exact hu
 | ref k=>
  intro ds u u' x r h hu;cases ds with
  | nil=>simp[ext] at h | cons d ds=>
   cases d<;>simp only[ext] at h<;>try (cases h;done)
   split at h
   .split at h
    .simp only[Ac,Ak] at h;obtain⟨_,_,rfl⟩:=h;exact hu
    .cases h
   .cases h
 | skip=>
  intro ds u u' x r h hu;cases ds with
  | nil=>simp[ext] at h | cons d ds=>
   simp only[ext,Ac,Ak] at h;obtain⟨_,_,rfl⟩:=h;exact hu
 | nil=>
  intro ds u u' x r h hu;cases ds with
  | nil=>simp[ext] at h | cons d ds=>
   cases d<;>simp only[ext] at h<;>try (cases h;done)
   simp only[Ac,Ak] at h;obtain⟨_,_,rfl⟩:=h;exact hu
end
end Go.Proofs.YtkphhjdbdnoekaaGreatDoor.Ab
