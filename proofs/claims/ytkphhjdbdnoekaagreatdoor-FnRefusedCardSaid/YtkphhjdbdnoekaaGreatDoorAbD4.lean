import Derived.Test.YtkphhjdbdnoekaaGreatDoorAbC5
import Derived.Laws.CopyRow
namespace Go.Proofs.YtkphhjdbdnoekaaGreatDoor.Ab
open Go
set_option linter.unusedVariables false
set_option linter.unusedSimpArgs false
set_option linter.unnecessarySimpa false
section
variable {P:Program} {A:Ann} {C:Cx} {env:List D} {H:z0a} {B:List (Option Nat)} {a:Act} {w w' :World}
theorem Has.set {id:Nat} {ob:Option Nat} {b:Nat} (h:Has (B.set id ob) b):Has B b\/ob=some b:=by
 obtain⟨i,e⟩:=h;rw[Cb] at e;split at e
 .split at e
  .right;simpa using e
  .cases e
 .exact .inl ⟨i,e⟩
theorem Has.append {X:List (Option Nat)} {b:Nat} (h:Has (B++X) b):Has B b\/some b∈X:=by
 obtain⟨i,e⟩:=h;rcases B8 i B.length with q | q
 .rw[Aj q] at e;exact .inl ⟨i,e⟩
 .rw[Aq q] at e;exact .inr (Dn e)
theorem Fr.trans' {W0:Nat->Prop} {w0:World} (h:Fr W0 w0 w) (hsz:w.heap.size<=w'.heap.size) (hsame:∀b,b<w0.heap.size-> ¬W0 b->w'.heap[b]? =w.heap[b]?)
 (hc:∀rb cs,Cells w rb cs-> ∃cs',Cells w' rb cs' /\cs'.size=cs.size) (h1:w'.os=w.os) (h2:w'.tape=w.tape) (h3:w'.output=w.output):Fr W0 w0 w' where
 size:=A9 h.size hsz
 same:=fun b hb hn=>(hsame b hb hn).trans (h.same b hb hn)
 cells:=fun rb cs k=>by
  obtain⟨cs1,k1,e1⟩:=h.cells rb cs k;obtain⟨cs2,k2,e2⟩:=hc rb cs1 k1;exact⟨cs2,k2,e2.trans e1⟩
 os:=h1.trans h.os
 tape:=h2.trans h.tape
 output:=h3.trans h.output
theorem St.upd (h:St C env H B a w) {id:Nat} {old blk:Blk} {ob ob' :Option Nat} (hH:H[id]? =some old) (hB:B[id]? =some ob)
 (hsz:w.heap.size<=w'.heap.size) (hsame:∀b,b<w.heap.size->ob≠some b->w'.heap[b]? =w.heap[b]?)
 (hc:∀rb cs,Cells w rb cs-> ∃cs',Cells w' rb cs' /\cs'.size=cs.size) (h1:w'.os=w.os) (h2:w'.tape=w.tape) (h3:w'.output=w.output)
 (hob:ob' =ob\/ob' =none\/ ∃nb,ob' =some nb/\w.heap.size<=nb/\nb<w'.heap.size)
 (hk:match blk with
  | .dead=>True | .box _=>(∃cs,old= .box cs)/\ob' =ob | .arr p st t l=> ∃p0 st0 t0 l0,old= .arr p0 st0 t0 l0/\st0<=st/\(st0=st->t0=t/\l0.length=l.length/\ob' =ob))
 (hbr:Step (C.N B) (C.Np B) (C.N (B.set id ob')) (C.Np (B.set id ob')) H B w (H.set id blk) (B.set id ob') w' ->BR (C.N (B.set id ob')) (C.Np (B.set id ob')) (H.set id blk) (B.set id ob') w' blk ob'):
 St C env (H.set id blk) (B.set id ob') a w' :=by
 have hid:id<H.length:=by
  rcases B8 id H.length with q | q
  .exact q
  .rw[Be q] at hH;cases hH
 have hidB:id<B.length:=by rw[h.lenB];exact hid
 have hHas:∀b,b<w.heap.size->Has (B.set id ob') b->Has B b:=by
  intro b hb k;rcases k.set with q | q
  .exact q
  .rcases hob with rfl | rfl | ⟨nb,rfl,k1,k2⟩
   .exact⟨id,by rw[hB,q]⟩
   .cases q
   .cases q;omega
 have hnot:∀b,¬C.N B b->ob≠some b:=fun b hb e=>hb (.inl ⟨id,by rw[hB,e]⟩)
 have s:Step (C.N B) (C.Np B) (C.N (B.set id ob')) (C.Np (B.set id ob')) H B w (H.set id blk) (B.set id ob') w' :=by
  refine⟨⟨hsz,fun b hb hn=>hsame b hb (hnot b hn),fun b hb hn k=>hn (k.imp (hHas b hb) (fun q=>q))⟩,
   ⟨hsz,fun b hb hn=>hsame b hb (fun e=>hn (.inl ⟨id,by rw[hB,e]⟩)),fun b hb hn k=>hn (k.imp (hHas b hb) (fun q=>q))⟩,by simp,?_,?_,hc⟩
  .intro i hi cells e;rw[Cb] at e;by_cases q:id=i
   .subst q;rw[Al rfl,Al hid] at e;cases e;obtain⟨⟨cs,rfl⟩,e2⟩:=hk;exact⟨⟨cs,hH⟩,by rw[Cb,Al rfl,Al hidB,hB,e2]⟩
   .rw[Ao q] at e;exact⟨⟨_,e⟩,by simp[q]⟩
  .intro i hi p st t l e;rw[Cb] at e;by_cases q:id=i
   .subst q;rw[Al rfl,Al hid] at e;cases e;obtain⟨p0,st0,t0,l0,rfl,k1,k2⟩:=hk;refine⟨p0,st0,t0,l0,hH,k1,fun e=> ?_⟩;obtain⟨k3,k4,k5⟩:=k2 e;exact⟨k3,k4,by rw[Cb,Al rfl,Al hidB,hB,k5]⟩
   .rw[Ao q] at e;exact⟨_,_,_,_,e,Au _,fun _=>⟨rfl,rfl,by simp[q]⟩⟩
 refine h.go s {lenB:=by simp[h.lenB],nodup:= ?_,alloc:= ?_,blk:= ?_,lb:=h.lb,lp:=h.lp,gl:=h.gl,gp:=h.gp,fr:= ?_}
 .intro i j rb e1 e2;rw[Cb] at e1 e2;have hnew:∀nb,w.heap.size<=nb-> ∀i,B[i]? =some (some nb)->False:=fun nb hn i e=>by
   have:=(h.alloc i nb e).1;omega
  by_cases q1:id=i<;>by_cases q2:id=j
  .omega
  .subst q1;rw[Al rfl,Al hidB] at e1;rw[Ao q2] at e2;rcases hob with rfl | rfl | ⟨nb,rfl,k1,k2⟩
   .exact h.nodup _ _ rb (by rw[hB];exact e1) e2
   .cases e1
   .cases e1;exact(hnew _ k1 _ e2).elim
  .subst q2;rw[Al rfl,Al hidB] at e2;rw[Ao q1] at e1;rcases hob with rfl | rfl | ⟨nb,rfl,k1,k2⟩
   .exact h.nodup _ _ rb e1 (by rw[hB];exact e2)
   .cases e2
   .cases e2;exact(hnew _ k1 _ e1).elim
  .rw[Ao q1] at e1;rw[Ao q2] at e2;exact h.nodup _ _ rb e1 e2
 .intro i rb e;rw[Cb] at e;by_cases q1:id=i
  .subst q1;rw[Al rfl,Al hidB] at e;rcases hob with rfl | rfl | ⟨nb,rfl,k1,k2⟩
   .obtain⟨p1,p2,p3⟩:=h.alloc _ rb (by rw[hB];exact e);exact⟨Bp p1 hsz,p2,p3⟩
   .cases e
   .cases e;refine⟨k2,fun k=> ?_, .inr (A9 h.fr.size k1)⟩;have:=h.lp _ k;have:=h.fr.size;omega
  .rw[Ao q1] at e;obtain⟨p1,p2,p3⟩:=h.alloc _ rb e;exact⟨Bp p1 hsz,p2,p3⟩
 .intro i b ob1 e1 e2;rw[Cb] at e1 e2;by_cases q1:id=i
  .subst q1;rw[Al rfl,Al hid] at e1;rw[Al rfl,Al hidB] at e2;cases e1;cases e2;exact hbr s
  .rw[Ao q1] at e1 e2;refine(h.blk i b ob1 e1 e2).step s (fun rb e=> ?_);subst e;have hb:=(h.alloc i rb e2).1;refine hsame rb hb (fun e=>q1 (h.nodup id i rb (by rw[hB,e]) e2))
 .refine h.fr.trans' hsz (fun b hb hn=> ?_) hc h1 h2 h3;refine hsame b (Bp hb h.fr.size) (fun e=> ?_);rcases(h.alloc id b (by rw[hB,e])).2.2 with k | k
  .exact hn k
  .omega
def killB (B:List (Option Nat)):List Nat->List (Option Nat)
 | [] =>B | id::r=>killB (B.set id none) r
theorem St.kill1 (h:St C env H B a w) (id:Nat):St C env (H.set id .dead) (B.set id none) a w:=by
 cases hH:H[id]? with
 | none=>
  have e:H.length<=id:=List.getElem?_eq_none_iff.mp hH;have e1:H.set id .dead=H:=Gb e;have e2:B.set id none=B:=Gb (by rw[h.lenB];exact e);rw[e1,e2];exact h
 | some old=>
  have hid:id<B.length:=by
   rw[h.lenB];rcases B8 id H.length with q | q
   .exact q
   .rw[Be q] at hH;cases hH
  exact h.upd hH (A4 hid) (Au _) (fun _ _ _=>rfl) (fun _ cs k=>⟨cs,k,rfl⟩) rfl rfl rfl (.inr (.inl rfl)) trivial (fun _=>trivial)
theorem St.kill:∀(ids:List Nat) {H:z0a} {B:List (Option Nat)},St C env H B a w->St C env (kill H ids) (killB B ids) a w
 | [],_,_,h=>h | id::r,_,_,h=>St.kill r (h.kill1 id)
theorem z5v:∀(ids:List Nat) (B:List (Option Nat)),(killB B ids).length=B.length
 | [],_=>rfl | _::r,B=>by simp[killB,z5v r]
theorem z3f:∀(ids:List Nat) (H:z0a),(Ab.kill H ids).length=H.length
 | [],_=>rfl | _::r,H=>by simp[Ab.kill,z3f r]
theorem z0v:∀(ids:List Nat) (B:List (Option Nat)) (i:Nat),(killB B ids)[i]? =if i∈ids/\i<B.length then some none else B[i]?
 | [],B,i=>by simp[killB]
 | id::r,B,i=>by
  simp only[killB];rw[z0v r,Cb];simp only[Dq,A8];by_cases e:id=i
  .subst e;by_cases hl:id<B.length
   .simp[hl]
   .simp[hl]
  .have: ¬i=id:=fun q=>e q.symm
   simp[e,this]
theorem z0w:∀(ids:List Nat) (H:z0a) (i:Nat),(Ab.kill H ids)[i]? =if i∈ids/\i<H.length then some .dead else H[i]?
 | [],B,i=>by simp[Ab.kill]
 | id::r,B,i=>by
  simp only[Ab.kill];rw[z0w r,Cb];simp only[Dq,A8];by_cases e:id=i
  .subst e;by_cases hl:id<B.length
   .simp[hl]
   .simp[hl]
  .have: ¬i=id:=fun q=>e q.symm
   simp[e,this]
theorem Has.killB {ids:List Nat} {b:Nat} (h:Has (killB B ids) b):∃i,B[i]? =some (some b)/\i ∉ ids:=by
 obtain⟨i,e⟩:=h;rw[z0v] at e;split at e
 .cases e
 .rename_i k;refine⟨i,e,fun hi=>k ⟨hi,?_⟩⟩;rcases B8 i B.length with q | q
  .exact q
  .rw[Be q] at e;cases e
theorem St.newBlk (h:St C env H B a w) {blk:Blk} {cs:Array Value} {el:TypeId}
 (hbr:Step (C.N B) (C.Np B) (C.N (B++ [some w.heap.size])) (C.Np (B++ [some w.heap.size])) H B w (H++ [blk]) (B++ [some w.heap.size]) (w.alloc (.cells cs el))->
  Cells (w.alloc (.cells cs el)) w.heap.size cs->
  BR (C.N (B++ [some w.heap.size])) (C.Np (B++ [some w.heap.size])) (H++ [blk]) (B++ [some w.heap.size]) (w.alloc (.cells cs el)) blk (some w.heap.size)):
 St C env (H++ [blk]) (B++ [some w.heap.size]) a (w.alloc (.cells cs el)):=by
 have hheap:∀b,b<w.heap.size->(w.alloc (.cells cs el)).heap[b]? =w.heap[b]? :=fun b hb=>Go.RowKit.Below.heap_alloc w _ b hb
 have hsz:w.heap.size<=(w.alloc (.cells cs el)).heap.size:=by show w.heap.size<=(w.heap.push _).size;simp
 have hnew:Cells (w.alloc (.cells cs el)) w.heap.size cs:=⟨el,by show(w.heap.push _)[w.heap.size]? =_;simp⟩;have hcells:∀rb cs0,Cells w rb cs0-> ∃cs',Cells (w.alloc (.cells cs el)) rb cs' /\cs'.size=cs0.size:=by
  intro rb cs0 k;have:=k.lt;obtain⟨e,k⟩:=k;exact⟨cs0,⟨e,by rw[hheap rb this];exact k⟩,rfl⟩
 have hHas:∀b,b<w.heap.size->Has (B++ [some w.heap.size]) b->Has B b:=by
  intro b hb k;rcases k.append with q | q
  .exact q
  .simp at q;omega
 have s:Step (C.N B) (C.Np B) (C.N (B++ [some w.heap.size])) (C.Np (B++ [some w.heap.size])) H B w (H++ [blk]) (B++ [some w.heap.size]) (w.alloc (.cells cs el)):=by
  refine⟨⟨hsz,fun b hb _=>hheap b hb,fun b hb hn k=>hn (k.imp (hHas b hb) (fun q=>q))⟩,⟨hsz,fun b hb _=>hheap b hb,fun b hb hn k=>hn (k.imp (hHas b hb) (fun q=>q))⟩,by simp,?_,?_,hcells⟩
  .intro i hi cells e;rw[Aj hi] at e;exact⟨⟨_,e⟩,Aj (by rw[h.lenB];exact hi)⟩
  .intro i hi p st t l e;rw[Aj hi] at e;exact⟨_,_,_,_,e,Au _,fun _=>⟨rfl,rfl,Aj (by rw[h.lenB];exact hi)⟩⟩
 have last:∀ {X:Type} {l:List X} {x y:X} {i:Nat},¬i<l.length->(l++ [x])[i]? =some y->i=l.length/\y=x:=by
  intro X l x y i hi e;rw[Aq (by omega)] at e;rcases De (i - l.length) with q | q
  .rw[q] at e;simp at e;exact⟨by omega,e.symm⟩
  .rw[Be (by simp;omega)] at e;cases e
 refine h.go s {lenB:=by simp[h.lenB],nodup:= ?_,alloc:= ?_,blk:= ?_,lb:=h.lb,lp:=h.lp,gl:=h.gl,gp:=h.gp,fr:= ?_}
 .intro i j rb e1 e2;by_cases q1:i<B.length<;>by_cases q2:j<B.length
  .rw[Aj q1] at e1;rw[Aj q2] at e2;exact h.nodup i j rb e1 e2
  .rw[Aj q1] at e1;obtain⟨_,k⟩:=last q2 e2;cases k;have:=(h.alloc i _ e1).1;omega
  .rw[Aj q2] at e2;obtain⟨_,k⟩:=last q1 e1;cases k;have:=(h.alloc j _ e2).1;omega
  .obtain⟨k1,_⟩:=last q1 e1;obtain⟨k2,_⟩:=last q2 e2;omega
 .intro i rb e;by_cases q1:i<B.length
  .rw[Aj q1] at e;obtain⟨p1,p2,p3⟩:=h.alloc i rb e;exact⟨Bp p1 hsz,p2,p3⟩
  .obtain⟨_,k⟩:=last q1 e;cases k;refine⟨hnew.lt,fun k=> ?_, .inr h.fr.size⟩;have:=h.lp _ k;have:=h.fr.size;omega
 .intro i b ob e1 e2;by_cases q1:i<H.length
  .rw[Aj q1] at e1;rw[Aj (by rw[h.lenB];exact q1)] at e2;refine(h.blk i b ob e1 e2).step s (fun rb e=> ?_);subst e;exact hheap rb (h.alloc i rb e2).1
  .obtain⟨_,k1⟩:=last q1 e1;obtain⟨_,k2⟩:=last (by rw[h.lenB];exact q1) e2;subst k1;subst k2;exact hbr s hnew
 .exact h.fr.trans' hsz (fun b hb hn=>hheap b (Bp hb h.fr.size)) hcells rfl rfl rfl
theorem St.newNil (h:St C env H B a w) {blk:Blk} (hbr:BR (C.N (B++ [none])) (C.Np (B++ [none])) (H++ [blk]) (B++ [none]) w blk none):St C env (H++ [blk]) (B++ [none]) a w:=by
 have hHas:∀b,Has (B++ [none]) b->Has B b:=by
  intro b k;rcases k.append with q | q
  .exact q
  .simp at q
 have s:Step (C.N B) (C.Np B) (C.N (B++ [none])) (C.Np (B++ [none])) H B w (H++ [blk]) (B++ [none]) w:=by
  refine⟨⟨Au _,fun _ _ _=>rfl,fun b hb hn k=>hn (k.imp (hHas b) (fun q=>q))⟩,⟨Au _,fun _ _ _=>rfl,fun b hb hn k=>hn (k.imp (hHas b) (fun q=>q))⟩,by simp,?_,?_,fun _ cs k=>⟨cs,k,rfl⟩⟩
  .intro i hi cells e;rw[Aj hi] at e;exact⟨⟨_,e⟩,Aj (by rw[h.lenB];exact hi)⟩
  .intro i hi p st t l e;rw[Aj hi] at e;exact⟨_,_,_,_,e,Au _,fun _=>⟨rfl,rfl,Aj (by rw[h.lenB];exact hi)⟩⟩
 have last:∀ {X:Type} {l:List X} {x y:X} {i:Nat},¬i<l.length->(l++ [x])[i]? =some y->i=l.length/\y=x:=by
  intro X l x y i hi e;rw[Aq (by omega)] at e;rcases De (i - l.length) with q | q
  .rw[q] at e;simp at e;exact⟨by omega,e.symm⟩
  .rw[Be (by simp;omega)] at e;cases e
 have old:∀i rb:Nat,(B++ [none])[i]? =some (some rb)->B[i]? =some (some rb):=by
  intro i rb e;by_cases q:i<B.length
  .rwa [Aj q] at e
  .obtain⟨_,k⟩:=last q e;cases k
 refine h.go s {lenB:=by simp[h.lenB],nodup:=fun i j rb e1 e2=>h.nodup i j rb (old _ _ e1) (old _ _ e2),alloc:=fun i rb e=>h.alloc i rb (old _ _ e),blk:= ?_,lb:=h.lb,lp:=h.lp,gl:=h.gl,gp:=h.gp,fr:=h.fr};intro i b ob e1 e2;by_cases q1:i<H.length
 .rw[Aj q1] at e1;rw[Aj (by rw[h.lenB];exact q1)] at e2;exact(h.blk i b ob e1 e2).step s (fun _ _=>rfl)
 .obtain⟨_,k1⟩:=last q1 e1;obtain⟨_,k2⟩:=last (by rw[h.lenB];exact q1) e2;subst k1;subst k2;exact hbr
end
section
variable {P:Program} {A:Ann} {C:Cx} {env:List D} {H:z0a} {B:List (Option Nat)} {a:Act} {w w' :World}
theorem Dat.one {N:Nat->Prop} :∀ {t:Ty} {x:t.den} {vs:List Value},Dat N w t x vs-> ∀v∈vs,v.oneCell' =true
 | .int _,_,_,h=>by cases h;simp[Value.oneCell']
 | .bool,_,_,h=>by cases h;simp[Value.oneCell']
 | .str,_,_,h=>by cases h;simp[Value.oneCell']
 | .sl _,_,_,h=>by obtain⟨A0,c,rfl,_⟩:=h;simp[Value.oneCell']
 | .pair a b,_,_,h=>by
  obtain⟨us,ws,rfl,h1,h2⟩:=h;intro v hv;rcases Ay.mp hv with q | q
  .exact h1.one v q
  .exact h2.one v q
theorem z1b {N:Nat->Prop} :∀t:Ty,Dat N w t t.zero (z2n t)
 | .int _=>rfl | .bool=>rfl | .str=>rfl | .sl _=>⟨none,0,rfl,Au _, .inl rfl⟩ | .pair a b=>⟨_,_,rfl,z1b a,z1b b⟩
theorem Dat.world {N:Nat->Prop} (hw:w'.heap=w.heap) {t:Ty} {x:t.den} {vs:List Value} (h:Dat N w t x vs):Dat N w' t x vs:=
 h.mono ⟨by rw[hw];exact Au _,fun b _ _=>by rw[hw],fun _ _ q=>q⟩
theorem y1y {N Np:Nat->Prop} {d:D} {v:Value} (h:CR N Np H B w d v) (hd:z8a d=true):v.oneCell' =true:=by
 cases d<;>simp only[z8a,CR] at h hd<;>try (cases hd;done)
 case int=>subst h;rfl
 case bool=>subst h;rfl
 case str=>subst h;rfl
 case sl=>obtain⟨A0,c,e,_⟩:=h;injection e with e _;subst e;rfl
 case nilsl=>subst h;rfl
 case hd=>exact h.1.2
 case hds=>exact h.1.2
 case ptr=>exact h.1.2
 case eptr=>exact h.1.2
 case rptr=>obtain⟨rb,ro,rfl,_⟩:=h;rfl
 case clo=>obtain⟨vs,rfl,_⟩:=h;rfl
theorem CRs.one {N Np:Nat->Prop} :∀ {ds:List D} {vs:List Value},CRs N Np H B w ds vs->ds.all z8a=true-> ∀v∈vs,v.oneCell' =true
 | [],vs,h,_=>by simp only[CRs] at h;subst h;simp
 | d::ds,vs,h,hd=>by
  simp only[CRs] at h;obtain⟨u,us,rfl,h1,h2⟩:=h;simp only[Gc,Ai] at hd;intro v hv;rcases A8.mp hv with rfl | q
  .exact y1y h1 hd.1
  .exact h2.one hd.2 v q
theorem z1v {rb:Nat} {cs cs' :Array Value} (hc:Cells w rb cs) (hs:cs'.size=cs.size):
 Cells (w.setRow rb cs') rb cs' /\w.heap.size<=(w.setRow rb cs').heap.size/\(∀b,b≠rb->(w.setRow rb cs').heap[b]? =w.heap[b]?)/\
 (∀b cs0,Cells w b cs0-> ∃cs1,Cells (w.setRow rb cs') b cs1/\cs1.size=cs0.size)/\(w.setRow rb cs').os=w.os/\(w.setRow rb cs').tape=w.tape/\(w.setRow rb cs').output=w.output:=by
 obtain⟨el,hc⟩:=hc;have h1:Cells (w.setRow rb cs') rb cs' :=⟨el,setRow_heap w rb cs cs' el (0,0) hc⟩;have h2:∀b,b≠rb->(w.setRow rb cs').heap[b]? =w.heap[b]? :=by
  intro b hb;simp only[World.setRow,Gs];rw[Ao (by omega)]
 refine⟨h1,by simp[World.setRow],h2,?_,rfl,rfl,rfl⟩;intro b cs0 ⟨e,k⟩;by_cases q:b=rb
 .subst q;rw[hc] at k;injection k with k
  injection k with k1 k2
  subst k1;exact⟨cs',h1,hs⟩
 .exact⟨cs0,⟨e,by rw[h2 b q];exact k⟩,rfl⟩
def EffGives (P:Program) (C:Cx) (env:List D) (H' :z0a) (a:Act) (w:World) (o:Oper) (d:D):Prop:=
 ∃v B' w',((execOp a.eval o).run P w= .ok (.value v) w' \/((execOp a.eval o).run P w= .ok .skip w' /\v=undef))/\St C env H' B' a w' /\CR (C.N B') (C.Np B') H' B' w' d v
theorem z6f (ok:TyOk P A) {t n:Nat} {ag:Bool} (hl:A.lay t=some (n,ag)) {b o:Nat} {v:Value} {cs:Array Value} (hc:Cells w b cs) (hn:v.cells.size=n) (hle:o+n<=cs.size) (h1:∀u∈v.cells.toList,u.oneCell' =true):
 (Instr.storeAt t (.pointer (some ⟨b,o,none⟩)) v).run P w= .ok () (w.setRow b (cs.toList.take o++v.cells.toList++cs.toList.drop (o+n)).toArray):=by
 obtain⟨i,de,hi,hs,hu,hag⟩:=ok.lay t n ag hl;obtain⟨el,hc⟩:=hc;have hlen:v.cells.toList.length=n:=by simpa using hn
 have hr:=run_storeCells_at (P:=P) b o el v.cells.toList 0 cs w hc (by omega) h1;simp only[Df] at hr;rw[hlen] at hr;have hne: ¬v.cells.size≠n:=by omega
 simp only[Instr.storeAt,Instr.sureAddr,Sem.run_bind,Sem.run_pure,Result.andThen_ok,storeVar,z0b hi,hs,Sem.run_ite,Ao hne,hr]
theorem y3f:∀(off:Nat) (ds cs:List D),off+ds.length<=cs.length->spl off ds cs=cs.take off++ds++cs.drop (off+ds.length)
 | 0, [],cs,_=>by simp[spl]
 | 0,d::ds, [],h=>by simp at h
 | 0,d::ds,c::cs,h=>by
  have ih:=y3f 0 ds cs (by simpa using h);simp only[spl,ih];simp
 | off+1,ds, [],h=>by simp at h
 | off+1,ds,c::cs,h=>by
  have ih:=y3f off ds cs (by simp at h;omega);simp only[spl,ih];simp[Nat.add_right_comm]
theorem CRs.splice {N Np:Nat->Prop} {off:Nat} {ds cs:List D} {us vs:List Value} (h1:CRs N Np H B w ds us) (h2:CRs N Np H B w cs vs) (hle:off+ds.length<=cs.length):
 CRs N Np H B w (spl off ds cs) (vs.take off++us++vs.drop (off+ds.length)):=by
 rw[y3f _ _ _ hle];exact((h2.take off).append h1).append (h2.drop _)
theorem y3s (ok:TyOk P A) (h:St C env H B a w) {o:Oper} {t:Nat} {y:Ty} (ho:o.op= .alloc t) (hy:A.tz t=some y):EffGives P C env (H++ [.box (z2g y)]) a w o (.ptr H.length 0):=by
 obtain⟨i,z,hi,hs,hz,hzc⟩:=ok.tzi _ _ hy;have hst:=h.newBlk (blk:= .box (z2g y)) (cs:=z.cells) (el:=t) (fun s hn=>⟨_,z.cells,rfl,hn,by rw[hzc];exact z2z y⟩);refine⟨.pointer (some ⟨w.heap.size,0,none⟩),_,_, .inl ?_,hst,?_⟩
 .simp[execOp,ho,Instr.alloc,zeroValue,typeInfo,hi,hz,newVar,newRow]
 .simp only[CR];refine⟨⟨by simp,rfl⟩,fun cells _=>⟨w.heap.size,?_,rfl⟩⟩;rw[Aq (by rw[h.lenB];exact Au _),h.lenB];simp
theorem y1u (ok:TyOk P A) (h:St C env H B a w) {o:Oper} {t:Nat} (ho:o.op= .alloc t) (hl:A.lay t=some (1,false)):EffGives P C env (H++ [.box [.undef]]) a w o (.ptr H.length 0):=by
 obtain⟨i,z,hi,hz,hs⟩:=ok.zer _ _ _ hl;have hu:∃u,z.cells.toList= [u] :=by
  have hlen:z.cells.toList.length=1:=by rw[B6];exact hs
  match hq:z.cells.toList,hlen with
  | [u],_=>exact⟨u,rfl⟩
 obtain⟨u,hu⟩:=hu;have hst:=h.newBlk (blk:= .box [.undef]) (cs:=z.cells) (el:=t) (fun s hn=>⟨_,z.cells,rfl,hn,by rw[hu];exact⟨u, [],rfl,by simp[CR],by simp[CRs]⟩⟩);refine⟨.pointer (some ⟨w.heap.size,0,none⟩),_,_, .inl ?_,hst,?_⟩
 .simp[execOp,ho,Instr.alloc,zeroValue,typeInfo,hi,hz,newVar,newRow]
 .simp only[CR];refine⟨⟨by simp,rfl⟩,fun cells _=>⟨w.heap.size,?_,rfl⟩⟩;rw[Aq (by rw[h.lenB];exact Au _),h.lenB];simp
theorem y6y (h:St C env H B a w) {o:Oper} {t:Nat} {x:Operand} (ho:o.op= .box t x) (hx:okD (opd env x)=true):EffGives P C env (H++ [.box (cellsOf (opd env x))]) a w o (.ptr H.length 0):=by
 have hc:=z2b (z0y h x) (fun e=>by rw[e] at hx;exact absurd hx (by simp[okD]));have hst:=h.newBlk (blk:= .box (cellsOf (opd env x))) (cs:=(a.eval x).cells) (el:=t) (fun s hn=>⟨_,_,rfl,hn,hc.step s⟩);refine⟨.pointer (some ⟨w.heap.size,0,none⟩),_,_, .inl ?_,hst,?_⟩
 .simp[execOp,ho,Instr.box,newVar,newRow]
 .simp only[CR];refine⟨⟨by simp,rfl⟩,fun cells _=>⟨w.heap.size,?_,rfl⟩⟩;rw[Aq (by rw[h.lenB];exact Au _),h.lenB];simp
end
section
variable {P:Program} {A:Ann} {C:Cx} {env:List D} {H:z0a} {B:List (Option Nat)} {a:Act} {w w' :World}
theorem z3g {X:Type} (xs us:List X) (o k:Nat) (h:o+us.length<=xs.length):
 (xs.take o++us++xs.drop (o+us.length))[k]? =if o<=k/\k<o+us.length then us[k - o]? else xs[k]? :=by
 rw[Bi];by_cases h1:k<o
 .rw[Aj (by simp;omega),Ao (by omega),Ca,Al h1]
 .rw[Aq (by simp;omega)];have e:k - (xs.take o).length=k - o:=by simp;omega
  rw[e];by_cases h2:k<o+us.length
  .rw[Aj (by omega),Al (by omega)]
  .rw[Aq (by omega),Ao (by omega),Dg];congr 1;omega
theorem z1l {X:Type} (xs us:List X) (o:Nat) (h:o+us.length<=xs.length):(xs.take o++us++xs.drop (o+us.length)).length=xs.length:=by
 simp;omega
theorem z4o (h:HS C H B w) {f:List Nat} {id rb:Nat} (hf:id∈f) (e:B[id]? =some (some rb)): ¬C.Np (killB B f) rb:=by
 rintro(k | k)
 .obtain⟨i,e1,e2⟩:=Has.killB k;have:=h.nodup id i rb e e1;subst this;exact e2 hf
 .exact(h.alloc id rb e).2.1 k
theorem z8k {f:List Nat} {b:Nat} (k:Has (killB B f) b):Has B b:=by
 obtain⟨i,e1,_⟩:=Has.killB k;exact⟨i,e1⟩
theorem z2u (hlb:∀b,C.Lb b->C.Lp b) (f:List Nat) {p q:Bool} (hpq:imp p q=true):Lets (C.N B) (C.Np B) w q (pk p (C.N (killB B f)) (C.Np (killB B f))):=by
 intro b hb hn k;cases p
 .have k:C.N (killB B f) b:=k;have k2:C.N B b:=k.imp z8k (fun x=>x);cases q
  .exact hn k2
  .exact hn (Cx.N_Np hlb k2)
 .cases q
  .exact absurd hpq (by simp[imp])
  .have k:C.Np (killB B f) b:=k;exact hn (k.imp z8k (fun x=>x))
theorem y0l:∀(f:List Nat) (H:z0a) (id:Nat) (X:Blk),id ∉ f->kill (H.set id X) f=(kill H f).set id X
 | [],_,_,_,_=>rfl | i::f,H,id,X,h=>by
  have h1:id≠i:=fun e=>h (by simp[e])
  have h2:id ∉ f:=fun e=>h (by simp[e])
  simp only[kill];rw[List.set_comm _ _ h1,y0l f _ _ _ h2]
theorem EffGives.skip {o:Oper} {H' :z0a} {B' :List (Option Nat)} (hr:(execOp a.eval o).run P w= .ok .skip w') (hs:St C env H' B' a w'):EffGives P C env H' a w o .undef:=
 ⟨undef,B',w', .inr ⟨hr,rfl⟩,hs,by simp[CR]⟩
theorem y3h (ok:TyOk P A) (h:St C env H B a w) {o:Oper} {t n:Nat} {ag:Bool} {ad x:Operand} (ho:o.op= .store t ad x) (hl:A.lay t=some (n,ag)) (hn:(cellsOf (opd env x)).length=n)
 (hc:(cellsOf (opd env x)).all z8a=true) {id off:Nat} {cells:List D} (ha:opd env ad= .ptr id off) (hH:H[id]? =some (.box cells)) (hle:off+n<=cells.length):
 EffGives P C env (H.set id (.box (spl off (cellsOf (opd env x)) cells))) a w o .undef:=by
 have hx:=z0y h x;have hxu:opd env x≠ .undef:=fun e=>by rw[e] at hc;exact absurd hc (by simp[cellsOf,z8a])
 have hcc:=z2b hx hxu;have had:=z0y h ad;rw[ha] at had;simp only[CR] at had;obtain⟨_,hp⟩:=had;obtain⟨rb,hb,hv⟩:=hp _ hH;obtain⟨rb',cs,e1,hcs,hcr⟩:=h.blk _ _ _ hH hb;cases e1;have hlv:=hcc.length;have hlc:=hcr.length;have hlc' :cs.size=cells.length:=by simpa using hlc
 have hvs:(a.eval x).cells.size=n:=by rw[←hn,←hlv];simp
 have hrun:=z6f (P:=P) ok hl hcs (v:=a.eval x) (o:=off) hvs (by omega) (hcc.one hc);have hlen:off+(cellsOf (opd env x)).length<=cells.length:=by omega
 obtain⟨k1,k2,k3,k4,k5,k6,k7⟩:=z1v (cs' :=(cs.toList.take off++(a.eval x).cells.toList++cs.toList.drop (off+n)).toArray) hcs (by
  have:=z1l cs.toList (a.eval x).cells.toList off (by simp;omega);simp at this ⊢;rw[hvs] at this ⊢;omega)
 refine .skip (B' :=B.set id (some rb)) ?_ (h.upd hH hb k2 (fun b _ hne=>k3 b (fun e=>hne (by rw[e]))) k4 k5 k6 k7 (.inl rfl) ⟨⟨_,rfl⟩,rfl⟩ (fun s=>⟨rb,_,rfl,k1,?_⟩))
 .simp only[execOp,ho,Sem.run_bind,hv,hrun,Result.andThen_ok,Sem.run_pure]
 .have:=(hcc.splice hcr hlen).step s;rw[hn] at this;simpa using this
theorem y1l (ok:TyOk P A) (h:St C env H B a w) {o:Oper} {t n:Nat} {ag:Bool} {ad x:Operand} (ho:o.op= .store t ad x) (hl:A.lay t=some (n,ag)) (hn:(cellsOf (opd env x)).length=n)
 (hc:(cellsOf (opd env x)).all z8a=true) {id st i c:Nat} {p:Bool} {ty:Ty} {l:List ty.den} (ha:opd env ad= .eptr id st i c) (hH:H[id]? =some (.arr p st ty l)) (hle:c+n<=ty.size)
 {y:ty.den} {q:Bool} {f:List Nat} (hu:z1m H ty (spl c (cellsOf (opd env x)) (y1t p ty (rdL ty l i)))=some (y, [],q,f)) (hf:id ∉ f):
 EffGives P C env (kill (H.set id (.arr (p&&q) st ty (l.set i y))) f) a w o .undef:=by
 have hx:=z0y h x;have hxu:opd env x≠ .undef:=fun e=>by rw[e] at hc;exact absurd hc (by simp[cellsOf,z8a])
 have hcc:=z2b hx hxu;have had:=z0y h ad;rw[ha] at had;simp only[CR] at had;obtain⟨_,hp⟩:=had;obtain⟨_,hp⟩:=hp _ _ _ _ hH;obtain⟨hi,rb,hb,hv⟩:=hp rfl;obtain⟨cs,hcs,hsz,hd⟩:=h.blk _ _ _ hH hb;have hlv:=hcc.length;have hvs:(a.eval x).cells.size=n:=by rw[←hn,←hlv];simp
 have hrow:i*ty.size+ty.size<=cs.size:=by
  have:(i+1)*ty.size<=l.length*ty.size:=Bo _ hi;rw[Cl] at this;omega
 have hrun:=z6f (P:=P) ok hl hcs (v:=a.eval x) (o:=i*ty.size+c) hvs (by omega) (hcc.one hc);obtain⟨k1,k2,k3,k4,k5,k6,k7⟩:=z1v (cs' :=(cs.toList.take (i*ty.size+c)++(a.eval x).cells.toList++cs.toList.drop (i*ty.size+c+n)).toArray) hcs (by
  have:=z1l cs.toList (a.eval x).cells.toList (i*ty.size+c) (by simp;omega);simp at this ⊢;rw[hvs] at this ⊢;omega)
 have hk:=h.kill f;have hlt:id<H.length:=by
  rcases B8 id H.length with z | z
  .exact z
  .rw[Be z] at hH;cases hH
 have hH' :(kill H f)[id]? =some (.arr p st ty l):=by rw[z0w,Ao (fun z=>hf z.1)];exact hH
 have hB' :(killB B f)[id]? =some (some rb):=by rw[z0v,Ao (fun z=>hf z.1)];exact hb
 rw[y0l _ _ _ _ hf];refine .skip (B' :=(killB B f).set id (some rb)) ?_ (hk.upd hH' hB' k2 (fun b _ hne=>k3 b (fun e=>hne (by rw[e]))) k4 k5 k6 k7 (.inl rfl) ⟨_,_,_,_,rfl,Au _,fun _=>⟨rfl,by simp,rfl⟩⟩ (fun s=>⟨_,k1,?_,?_⟩))
 .simp only[execOp,ho,Sem.run_bind,hv,hrun,Result.andThen_ok,Sem.run_pure]
 .have:=z1l cs.toList (a.eval x).cells.toList (i*ty.size+c) (by simp;omega);simp at this ⊢;rw[hvs] at this ⊢;omega
 .intro j hj;simp only[Dq] at hj;obtain⟨us0,hu0,hcell0⟩:=hd i hi;have hrd:rdL ty l i=l[i] :=by simp[rdL,hi]
  rw[hrd] at hu;have hl0:=hu0.len;have hfl:=z3u (H:=H) (B:=B) p hu0;have hfll:(y1t p ty l[i]).length=ty.size:=by rw[←hfl.length,hl0]
  have hsp:=hcc.splice hfl (off:=c) (by omega);obtain⟨us1,vs1,e1,hnil,hd1⟩:=z6i (fun b=>Cx.N_Np h.lb) h.lenB h.blk hu hsp (Nt:=pk (p&&q) (C.N (killB B f)) (C.Np (killB B f))) (z2u h.lb f (by cases p<;>cases q<;>rfl)) (fun id0 hi0 rb0 e0 k=>by
   have:=z4o h.toHS hi0 e0;cases hpq:(p&&q)
   .rw[hpq] at k;exact this (Cx.N_Np h.lb k)
   .rw[hpq] at k;exact this k)
  simp only[CRs] at hnil;subst hnil;rw[Bw] at e1;have hget:∀k:Nat,(cs.toList.take (i*ty.size+c)++(a.eval x).cells.toList++cs.toList.drop (i*ty.size+c+n)).toArray[k]? =if i*ty.size+c<=k/\k<i*ty.size+c+n then(a.eval x).cells[k - (i*ty.size+c)]? else cs[k]? :=by
   intro k;have:=z3g cs.toList (a.eval x).cells.toList (i*ty.size+c) k (by simp;omega);simp only[B6,hvs,El] at this;rw[←this];simp
  have gk:∀(b:Bool),Goes (pk b (C.N (killB B f)) (C.Np (killB B f))) (pk b (C.N ((killB B f).set id (some rb))) (C.Np ((killB B f).set id (some rb)))) w (w.setRow rb (cs.toList.take (i*ty.size+c)++(a.eval x).cells.toList++cs.toList.drop (i*ty.size+c+n)).toArray):=by
   intro b;cases b
   .exact s.g
   .exact s.gp
  by_cases e:j=i
  .subst e;refine⟨us1,?_,fun m hm=> ?_⟩
   .have e2:(l.set j y)[j]'(by simpa using hi)=y:=by simp
    rw[e2];exact hd1.mono (gk _)
   .rw[hget,←e1];have:=z3g us0 (a.eval x).cells.toList c m (by simp;omega);simp only[B6,hvs,El] at this;rw[hn] at*;rw[this];by_cases z:c<=m/\m<c+n
    .rw[Al z,Al (by omega)];congr 1;omega
    .rw[Ao z,Ao (by omega)];exact hcell0 m hm
  .obtain⟨us,hus,hcell⟩:=hd j hj;refine⟨us,?_,fun m hm=> ?_⟩
   .have e2:(l.set i y)[j]'(by simpa using hj)=l[j] :=by
     rw[List.getElem_set_ne (fun z=>e z.symm)]
    rw[e2];have:=hus.lets (z2u (C:=C) (w:=w) h.lb f (p:=p&&q) (q:=p) (by cases p<;>cases q<;>rfl));exact this.mono (gk _)
   .rw[hget,Ao ?_]
    .exact hcell m hm
    .intro z;rcases Hd e with q1 | q1
     .have:(j+1)*ty.size<=i*ty.size:=Bo _ q1;rw[Cl] at this;omega
     .have:(i+1)*ty.size<=j*ty.size:=Bo _ q1;rw[Cl] at this;omega
end
section
variable {P:Program} {A:Ann} {C:Cx} {env:List D} {H:z0a} {B:List (Option Nat)} {a:Act} {w w' :World}
def Holds (N:Nat->Prop) (w:World) (e:Ty) (l:List e.den) (cs:Array Value):Prop:=
 l.length*e.size<=cs.size/\ ∀i,(h:i<l.length)-> ∃us,Dat N w e l[i] us/\ ∀j,j<e.size->cs[i*e.size+j]? =us[j]?
theorem z2d {i j n s:Nat} (hi:i<n) (hj:j<s):i*s+j<n*s:=by
 have:(i+1)*s<=n*s:=Bo _ hi;rw[Cl] at this;omega
theorem y1q (h:St C env H B a w) {e:Ty} {x:Operand} {y:e.den} {q:Bool} {g:List Nat} (hu:z1m H e (cellsOf (opd env x))=some (y, [],q,g)) {f:List Nat} (hg:∀id∈g,id∈f) {p:Bool} (hpq:imp p q=true):
 Dat (pk p (C.N (killB B f)) (C.Np (killB B f))) w e y (a.eval x).cells.toList:=by
 have hxu:opd env x≠ .undef:=by
  intro z;rw[z] at hu;have:∀t:Ty,z1m H t (cellsOf .undef)=none:=by
   intro t
   induction t with
   | pair a b iha _=>simp only[z1m,iha] | _=>simp[cellsOf,z1m]
  rw[this] at hu;cases hu
 have hcc:=z2b (z0y h x) hxu;obtain⟨us1,vs1,e1,hnil,hd1⟩:=z6i (fun b=>Cx.N_Np h.lb) h.lenB h.blk hu hcc (z2u h.lb f hpq) (fun id0 hi0 rb0 e0 k=>by
  have:=z4o h.toHS (hg id0 hi0) e0;cases p
  .exact this (Cx.N_Np h.lb k)
  .exact this k)
 simp only[CRs] at hnil;subst hnil;rw[Bw] at e1;rw[e1];exact hd1
theorem z3e {e:Ty} :∀ {parts:List (Nat×D)} {p p' :Bool} {l l' :List e.den} {f f' :List Nat},z3h H e parts p l f=some (p',l',f')->(∀id∈f,id∈f')/\imp p' p=true/\l'.length=l.length
 | [],p,p',l,l',f,f',h=>by
  simp only[z3h,Ac,Ak] at h;obtain⟨rfl,rfl,rfl⟩:=h;exact⟨fun _ q=>q,by cases p<;>rfl,rfl⟩
 | (i,x)::r,p,p',l,l',f,f',h=>by
  simp only[z3h] at h;split at h
  .rename_i y q g hu;split at h
   .obtain⟨k1,k2,k3⟩:=z3e h;exact⟨fun id hi=>k1 id (Bf _ hi),by cases p<;>cases q<;>cases p' <;>simp_all [imp],by simpa using k3⟩
   .cases h
  .cases h
theorem z7e (h:St C env H B a w) {e:Ty} :∀ {parts:List (Nat×Operand)} {p p' :Bool} {l l' :List e.den} {f f' :List Nat} {cs:Array Value},
 z3h H e (parts.map fun q=>(q.1,opd env q.2)) p l f=some (p',l',f')->Holds (pk p' (C.N (killB B f')) (C.Np (killB B f'))) w e l cs->
 ∃cs',Instr.fill (fun i=>some (i*e.size,e.size)) cs (parts.map fun q=>(q.1,a.eval q.2))=some cs' /\Holds (pk p' (C.N (killB B f')) (C.Np (killB B f'))) w e l' cs' /\cs'.size=cs.size
 | [],p,p',l,l',f,f',cs,hf,hc=>by
  simp only[Eh,z3h,Ac,Ak] at hf;obtain⟨rfl,rfl,rfl⟩:=hf;exact⟨cs,rfl,hc,rfl⟩
 | (i,x)::r,p,p',l,l',f,f',cs,hf,hc=>by
  simp only[C8,z3h] at hf;split at hf
  .rename_i y q g hu;split at hf
   .rename_i hi;obtain⟨k1,k2,k3⟩:=z3e hf;have hd:=y1q h hu (f:=f') (fun id hi=>k1 id (Az _ hi)) (p:=p') (by cases p<;>cases q<;>cases p' <;>simp_all [imp]);have hl:=hd.len;have hvs:(a.eval x).cells.size=e.size:=by simpa using hl
    obtain⟨hsz,hh⟩:=hc;have hrow:i*e.size+e.size<=cs.size:=by
     have:(i+1)*e.size<=l.length*e.size:=Bo _ hi;rw[Cl] at this;omega
    have hget:=z5r (i*e.size) (a.eval x).cells.toList 0 cs;have hfs:=z4n (i*e.size) ((a.eval x).cells.toList.zipIdx 0) cs;simp only[Df,B6,hvs] at hget;have hc' :Holds (pk p' (C.N (killB B f')) (C.Np (killB B f'))) w e (l.set i y) (((a.eval x).cells.toList.zipIdx 0).foldl (fun cs (x:Value×Nat)=>cs.setIfInBounds (i*e.size+x.2) x.1) cs):=by
     refine⟨by rw[hfs,Dq];exact hsz,fun j hj=> ?_⟩;simp only[Dq] at hj;by_cases z:j=i
     .subst z;refine⟨(a.eval x).cells.toList,?_,fun m hm=> ?_⟩
      .have e2:(l.set j y)[j]'(by simpa using hi)=y:=by simp
       rw[e2];exact hd
      .rw[hget _ (by omega),Al (by omega)];congr 1;omega
     .obtain⟨us,hus,hcell⟩:=hh j hj;refine⟨us,?_,fun m hm=> ?_⟩
      .have e2:(l.set i y)[j]'(by simpa using hj)=l[j] :=by rw[List.getElem_set_ne (fun q=>z q.symm)]
       rw[e2];exact hus
      .rw[hget _ (by omega),Ao ?_]
       .exact hcell m hm
       .intro q;rcases Hd z with q1 | q1
        .have:(j+1)*e.size<=i*e.size:=Bo _ q1;rw[Cl] at this;omega
        .have:(i+1)*e.size<=j*e.size:=Bo _ q1;rw[Cl] at this;omega
    obtain⟨cs',m1,m2,m3⟩:=z7e h hf hc';refine⟨cs',?_,m2,m3.trans hfs⟩;rw[C8,Instr.fill];simp only;rw[Ao (by rw[hvs];simp;omega),←m1];congr 1;rw[←Array.foldl_toList];simp[Array.toList_zipIdx]
   .cases hf
  .cases hf
theorem z8y (z:Array Value) {n i j:Nat} (hz:0<z.size) (hi:i<n) (hj:j<z.size):((Array.range (n*z.size)).map (fun k=>z[k % z.size]!))[i*z.size+j]? =z[j]? :=by
 have h1:=z2d hi hj;have h2:(i*z.size+j) % z.size=j:=by rw[Fk,Nat.mul_add_mod];exact Nat.mod_eq_of_lt hj
 simp[h1,h2,hj]
theorem z3a {N:Nat->Prop} (e:Ty) (z:Value) (hz:z.cells.toList=z2n e) (n:Nat):Holds N w e (List.replicate n e.zero) ((Array.range (n*e.size)).map (fun k=>z.cells[k % z.cells.size]!)):=by
 have hd:=z1b (N:=N) (w:=w) e;have hl:=hd.len;have hzs:z.cells.size=e.size:=by rw[←B6,hz];exact hl
 refine⟨by simp,fun i hi=>⟨z2n e,?_,fun j hj=> ?_⟩⟩
 .simpa using hd
 .have:=z8y z.cells (n:=n) (i:=i) (j:=j) (by rw[hzs];exact e.size_pos) (by simpa using hi) (by omega);rw[hzs] at this ⊢;rw[this,←hz];simp
theorem y2l {N Np:Nat->Prop} {p:Bool} {e:Ty} {l:List e.den} {cs:Array Value} {nb:Nat} (hl:B.length=H.length) (hc:Cells w nb cs) (hs:l.length*e.size<=cs.size):
 CR N Np (H++ [.arr p 0 e l]) (B++ [some nb]) w (.hd H.length 0) (.slice (some ⟨nb,0,none⟩) l.length l.length):=by
 simp only[CR];refine⟨⟨by simp,rfl⟩,fun p' st' t' l' e1=> ?_⟩;rw[Aq (Au _)] at e1;simp only[Dw,Bt] at e1;injection e1 with e1
 injection e1 with q1 q2 q3 q4
 subst q1;subst q2;subst q3;cases q4;refine⟨Au _,fun _=>⟨_,_,rfl,Au _,?_⟩⟩;unfold RowP;rw[Aq (by omega),hl];simp only[Dw,Bt];exact⟨by simp,cs,hc,by rw[Co];exact hs⟩
theorem z7b (ok:TyOk P A) (h:St C env H B a w) {o:Oper} {t len:Nat} {parts:Array (Nat×Operand)} (ho:o.op= .buildSlice t len parts) {e:Ty} (ht:A.ty t=some (.sl e)) (hlen:len<=1024)
 {p:Bool} {l:List e.den} {f:List Nat} (hf:z3h H e (parts.toList.map fun q=>(q.1,opd env q.2)) true (List.replicate len e.zero) [] =some (p,l,f)):
 EffGives P C env (kill H f++ [.arr p 0 e l]) a w o (.hd H.length 0):=by
 obtain⟨et,hu,hty⟩:=ok.sl _ _ ht;obtain⟨ie,z,hie,hs,hz,hzc,hb⟩:=ok.tyi _ _ hty;have hH0:=z3a (N:=pk p (C.N (killB B f)) (C.Np (killB B f))) (w:=w) e z hzc len;obtain⟨cs,m1,m2,m3⟩:=z7e h hf hH0;have hll:=(z3e hf).2.2;simp only[Fq] at hll;have hk:=h.kill f;have hklen:(kill H f).length=H.length:=z3f _ _;have hst:=hk.newBlk (blk:= .arr p 0 e l) (cs:=cs) (el:=et) (fun s hn=>⟨cs,hn,m2.1,fun i hi=>by
  obtain⟨us,hus,hcell⟩:=m2.2 i hi;refine⟨us,?_,hcell⟩;cases p
  .exact Dat.mono s.g hus
  .exact Dat.mono s.gp hus⟩)
 have hzs:z.cells.size=e.size:=by
  have:=(z1b (N:=fun _=>False) (w:=w) e).len;rw[←B6,hzc];exact this
 have hrun:(Instr.buildSlice t len (parts.map fun(i,x)=>(i,a.eval x))).run P w= .ok (.slice (some ⟨w.heap.size,0,none⟩) len len) (w.alloc (.cells cs et)):=by
  have hparts:(parts.map fun(i,x)=>(i,a.eval x)).toList=parts.toList.map fun q=>(q.1,a.eval q.2):=by
   rw[Eg]
  have hsm: ¬len*ie.size >2^24:=by
   rw[hs];have:len*e.size<=1024*64:=Ei hlen hb.2;omega
  rcases De len with h0 | h0
  .subst h0;have hr0:Array.range 0= #[] :=rfl;simp only[Nat.zero_mul,hr0,List.map_toArray,Eh] at m1;simp[Instr.buildSlice,run_underlying hu,z0b hie,hparts,hs,m1,newRow,hr0]
  .have hpos: ¬len*e.size=0:=by
    have:=Nat.mul_pos h0 e.size_pos;omega
   rw[hs] at hsm;have hz0:(zeroValue et).run P w= .ok z w:=by simp[zeroValue,typeInfo,hie,hz]
   simp only[Instr.buildSlice,Sem.run_bind,run_underlying hu,z0b hie,hs,Result.andThen_ok,Sem.run_ite,Ao hsm,Ao hpos,hz0,Sem.run_pure,hparts,m1];simp[newRow]
 have hcell:Cells (w.alloc (.cells cs et)) w.heap.size cs:=⟨et,by show(w.heap.push _)[w.heap.size]? =_;simp⟩;have hcr:=y2l (N:=C.N (killB B f++ [some w.heap.size])) (Np:=C.Np (killB B f++ [some w.heap.size])) (p:=p) (H:=kill H f) (B:=killB B f) hk.lenB hcell m2.1;rw[hll,hklen] at hcr;exact⟨_,_,_, .inl (by simp only[execOp,ho];exact y3b hrun),hst,hcr⟩
theorem y1s {n:Int} (h0:0<=n) (h1:n<=1099511627776):IntKind.i64.wrap n=n:=by
 simp[IntKind.wrap,IntKind.bits,IntKind.signed];omega
theorem z8m (ok:TyOk P A) (h:St C env H B a w) {o:Oper} {t:Nat} {lo co:Operand} (ho:o.op= .makeSlice t lo co) {e:Ty} (ht:A.ty t=some (.sl e)) {k:IntKind} {n:Int} (hn:opd env lo= .int k n)
 (hs:y3c lo co=true) (h0:0<=n) (h1:n<=1099511627776):EffGives P C env (H++ [.arr true 0 e (List.replicate n.toNat e.zero)]) a w o (.hd H.length 0):=by
 obtain⟨et,hu,hty⟩:=ok.sl _ _ ht;obtain⟨ie,z,hie,hsz,hz,hzc,_,hb2⟩:=ok.tyi _ _ hty;have hb:=ok.small _ _ _ _ ht hu hie;have hlo:=z0y h lo;rw[hn] at hlo;simp only[CR] at hlo;have hco:∃k',a.eval co= .int k' n:=by
  unfold y3c at hs;split at hs
  .rename_i x y;have:=Av hs;subst this;exact⟨k,hlo⟩
  .rename_i k1 x k2 y;have:=Ej hs;subst this;simp only[Act.eval] at hlo ⊢;injection hlo with _ q
   exact⟨k2,by rw[q]⟩
  .cases hs
 obtain⟨k',hco⟩:=hco;have hzs:z.cells.size=e.size:=by
  have:=(z1b (N:=fun _=>False) (w:=w) e).len;rw[←B6,hzc];exact this
 have hH0:=fun(N:Nat->Prop)=>z3a (N:=N) (w:=w) e z hzc n.toNat
 have hw:=y1s h0 h1;have hbig: ¬(ie.bytes:Int)*n >2^48:=by
  have h3:(ie.bytes:Int)<=128:=by omega
  have h4:(ie.bytes:Int)*n<=128*n:=Int.mul_le_mul_of_nonneg_right h3 h0;omega
 have hbig2: ¬281474976710656<(ie.bytes:Int)*n:=by omega
 have hneg: ¬n<0:=by omega
 have hz0:(zeroValue et).run P w= .ok z w:=by simp[zeroValue,typeInfo,hie,hz]
 have hti:(typeInfo et).run P w= .ok ie w:=by simp[typeInfo,hie]
 have hrun:(Instr.makeSlice t (.int k n) (.int k' n)).run P w= .ok (.slice (some ⟨w.heap.size,0,none⟩) n.toNat n.toNat)
  (w.alloc (.cells ((Array.range (n.toNat*e.size)).map (fun k=>z.cells[k % z.cells.size]!)) et)):=by
  rcases De n.toNat with q | q
  .have hr0:Array.range 0= #[] :=rfl;simp[Instr.makeSlice,run_underlying hu,asInt,asIntOf,hti,hw,hneg,hbig2,z0b hie,hsz,q,newRow,hr0]
  .have hpos: ¬(n.toNat*e.size=0):=by
    have:=Nat.mul_pos q e.size_pos;omega
   simp[Instr.makeSlice,run_underlying hu,asInt,asIntOf,hti,hw,hneg,hbig2,z0b hie,hsz,hz0,newRow,hpos]
 have hst:=h.newBlk (blk:= .arr true 0 e (List.replicate n.toNat e.zero)) (cs:=(Array.range (n.toNat*e.size)).map (fun k=>z.cells[k % z.cells.size]!)) (el:=et) (fun s hn=>⟨_,hn,(hH0 (fun _=>False)).1,fun i hi=>by
  obtain⟨us,hus,hcell⟩:=(hH0 (C.Np B)).2 i hi;exact⟨us,Dat.mono s.gp hus,hcell⟩⟩)
 have hcell:Cells (w.alloc (.cells ((Array.range (n.toNat*e.size)).map (fun k=>z.cells[k % z.cells.size]!)) et)) w.heap.size ((Array.range (n.toNat*e.size)).map (fun k=>z.cells[k % z.cells.size]!)):=⟨et,by show(w.heap.push _)[w.heap.size]? =_;simp⟩;have hcr:=y2l (N:=C.N (B++ [some w.heap.size])) (Np:=C.Np (B++ [some w.heap.size])) (p:=true) (H:=H) (B:=B) h.lenB hcell (hH0 (fun _=>False)).1;rw[Fq] at hcr;exact⟨_,_,_, .inl (by simp only[execOp,ho,hlo,hco];exact y3b hrun),hst,hcr⟩
end
end Go.Proofs.YtkphhjdbdnoekaaGreatDoor.Ab
