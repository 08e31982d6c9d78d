import Derived.Test.YtkphhjdbdnoekaaGreatDoorAbA3
namespace Go.Proofs.YtkphhjdbdnoekaaGreatDoor.Ab
open Go
set_option linter.unusedVariables false
set_option linter.unusedSimpArgs false
set_option linter.unnecessarySimpa false
def Le {R:Type} (a b:Option R):Prop:= ∀y,a=some y->b=some y
theorem Le.refl {R:Type} (a:Option R):Le a a:=fun _ h=>h
theorem Le.none {R:Type} (a:Option R):Le none a:=fun _ h=>by cases h
theorem Le.trans {R:Type} {a b c:Option R} (h1:Le a b) (h2:Le b c):Le a c:=fun y h=>h2 y (h1 y h)
theorem Le.eq {R:Type} {a b:Option R} {y:R} (h:Le a b) (e:a=some y):b=a:=by rw[e];exact h y e
structure CT {R:Type} (F:Nat->Option R) (a:Option R):Prop where
 mono:∀i j,i<=j->Le (F i) (F j)
 hit:∀y,a=some y-> ∃k,F k=some y
 le:∀k,Le (F k) a
theorem CT.const {R:Type} (a:Option R):CT (fun _=>a) a:=⟨fun _ _ _=>Le.refl _,fun y h=>⟨0,h⟩,fun _=>Le.refl _⟩
theorem CT.uniq {R:Type} {F:Nat->Option R} {a b:Option R} (h:CT F a) (g:CT F b):a=b:=by
 cases ha:a with
 | none=>
  cases hb:b with
  | none=>rfl | some y=>
   obtain⟨k,hk⟩:=g.hit y hb;have:=h.le k y hk;rw[ha] at this;cases this
 | some y=>
  obtain⟨k,hk⟩:=h.hit y ha;exact(g.le k y hk).symm
theorem CT.bind {R S:Type} {F:Nat->Option R} {a:Option R} {G:Nat->R->Option S} {H:R->Option S} (h:CT F a) (g:∀y,CT (fun k=>G k y) (H y)):CT (fun k=>(F k).bind (G k)) (a.bind H):=by
 refine⟨fun i j hij z hz=> ?_,fun z hz=> ?_,fun k z hz=> ?_⟩
 .obtain⟨y,hy,hg⟩:=Dy.mp hz;exact Dy.mpr ⟨y,h.mono i j hij y hy,(g y).mono i j hij z hg⟩
 .obtain⟨y,hy,hg⟩:=Dy.mp hz;obtain⟨k,hk⟩:=h.hit y hy;obtain⟨l,hl⟩:=(g y).hit z hg;exact⟨max k l,Dy.mpr ⟨y,h.mono k _ (by omega) y hk,(g y).mono l _ (by omega) z hl⟩⟩
 .obtain⟨y,hy,hg⟩:=Dy.mp hz;exact Dy.mpr ⟨y,h.le k y hy,(g y).le k z hg⟩
theorem CT.cond {R:Type} {F G:Nat->Option R} {a b:Option R} (c:Bool) (h:CT F a) (g:CT G b):CT (fun k=>cond c (F k) (G k)) (cond c a b):=by
 cases c
 .exact g
 .exact h
theorem CT.shift {R:Type} {F:Nat->Option R} {a:Option R} (h:CT F a):CT (fun k=>F (k+1)) a:=
 ⟨fun i j hij=>h.mono _ _ (by omega),fun y hy=>by
   obtain⟨k,hk⟩:=h.hit y hy;exact⟨k,h.mono k (k+1) (by omega) y hk⟩,fun k=>h.le (k+1)⟩
theorem CT.congr {R:Type} {F G:Nat->Option R} {a:Option R} (e:∀k,F k=G k) (h:CT F a):CT G a:=by
 have:F=G:=funext e;rw[←this];exact h
def two {X:Type} (a b:X) (k:Nat):X:=match k with
 | 0=>a | _+1=>b
theorem CT.two {R:Type} {F:Nat->Option R} {a b:Option R} (h0:F 0=a) (h1:∀k,F (k+1)=b) (h:Le a b):CT F b:=by
 refine⟨fun i j hij=> ?_,fun y hy=>⟨1,by rw[h1];exact hy⟩,fun k=> ?_⟩
 .cases i with
  | zero=>
   cases j with
   | zero=>exact Le.refl _ | succ j=>rw[h0,h1];exact h
  | succ i=>
   cases j with
   | zero=>omega | succ j=>rw[h1,h1];exact Le.refl _
 .cases k with
  | zero=>rw[h0];exact h | succ k=>rw[h1];exact Le.refl _
open Classical in
noncomputable def lim {R:Type} (F:Nat->Option R):Option R:=if h:∃k y,F k=some y then F h.choose else none
theorem CT.lim {R:Type} {F:Nat->Option R} (h:∀i j,i<=j->Le (F i) (F j)):CT F (lim F):=by
 have key:∀k y,F k=some y->Ab.lim F=some y:=by
  intro k y hk;have hx:∃k y,F k=some y:=⟨k,y,hk⟩;unfold Ab.lim;rw[dif_pos hx];obtain⟨z,hz⟩:=hx.choose_spec;rcases Nat.le_total k hx.choose with hl | hl
  .exact h _ _ hl y hk
  .have:=h _ _ hl z hz;rw[hk] at this;rw[hz];exact this.symm
 refine⟨h,fun y hy=> ?_,fun k y hk=>key k y hk⟩;unfold Ab.lim at hy;split at hy
 .exact⟨_,hy⟩
 .cases hy
theorem y9j {R:Type} {F:Nat->Option R} {a:Option R} (h:CT F a):lim F=a:=CT.uniq (CT.lim h.mono) h
abbrev Lp:=(X S:Type)->((X->Option S)->X->Option S)->X->Option S
def lpN (n:Nat):Lp:=fun _ _ step=>z0x step n
noncomputable def lpW:Lp:=fun _ _ step x=>lim fun n=>z0x step n x
structure Cont {X S:Type} (st:Nat->(X->Option S)->X->Option S) (sw:(X->Option S)->X->Option S):Prop where
 fam:∀(F:Nat->X->Option S) (a:X->Option S),(∀x,CT (fun k=>F k x) (a x))-> ∀x,CT (fun k=>st k (F k) x) (sw a x)
 mono:∀k a b,(∀x,Le (a x) (b x))-> ∀x,Le (st k a x) (st k b x)
def y4r (lp:Nat->Lp) (lw:Lp):Prop:= ∀X S st sw,Cont st sw-> ∀x,CT (fun k=>lp k X S (st k) x) (lw X S sw x)
theorem Cont.n {X S:Type} {st:Nat->(X->Option S)->X->Option S} {sw:(X->Option S)->X->Option S} (h:Cont st sw):∀n x,CT (fun k=>z0x (st k) n x) (z0x sw n x)
 | 0,x=>CT.const none | n+1,x=>h.fam (fun k=>z0x (st k) n) (z0x sw n) (h.n n) x
theorem Cont.up {X S:Type} {st:Nat->(X->Option S)->X->Option S} {sw:(X->Option S)->X->Option S} (h:Cont st sw) (k:Nat):∀n x,Le (z0x (st k) n x) (z0x (st k) (n+1) x)
 | 0,x=>Le.none _ | n+1,x=>h.mono k _ _ (h.up k n) x
theorem Cont.up' {X S:Type} {st:Nat->(X->Option S)->X->Option S} {sw:(X->Option S)->X->Option S} (h:Cont st sw) (k:Nat) (x:X):∀n m,n<=m->Le (z0x (st k) n x) (z0x (st k) m x):=by
 intro n m hnm;obtain⟨d,rfl⟩:∃d,m=n+d:=⟨m - n,by omega⟩;clear hnm
 induction d with
 | zero=>exact Le.refl _ | succ d ih=>exact ih.trans (h.up k (n+d) x)
theorem Cont.upw {X S:Type} {st:Nat->(X->Option S)->X->Option S} {sw:(X->Option S)->X->Option S} (h:Cont st sw) (x:X) (n m:Nat) (hnm:n<=m):Le (z0x sw n x) (z0x sw m x):=fun y hy=>by
 obtain⟨k,hk⟩:=(h.n n x).hit y hy;exact(h.n m x).le k y (h.up' k x n m hnm y hk)
theorem y0i (n:Nat->Nat) (hn:∀i j,i<=j->n i<=n j):y4r (fun k=>lpN (n k)) (fun _ _ step x=>lim fun k=>z0x step (n k) x):=by
 intro X S st sw h x;have hl:CT (fun k=>z0x sw (n k) x) (lim fun k=>z0x sw (n k) x):=CT.lim fun i j hij=>h.upw x _ _ (hn i j hij)
 refine⟨fun i j hij=> ?_,fun y hy=> ?_,fun k y hy=> ?_⟩
 .exact Le.trans (h.up' i x _ _ (hn i j hij)) ((h.n (n j) x).mono i j hij)
 .obtain⟨k0,h0⟩:=hl.hit y hy;obtain⟨k1,h1⟩:=(h.n (n k0) x).hit y h0;exact⟨max k0 k1,h.up' _ x (n k0) _ (hn _ _ (by omega)) y ((h.n (n k0) x).mono k1 _ (by omega) y h1)⟩
 .exact hl.le k y ((h.n (n k) x).le k y hy)
theorem y7f:y4r (fun k=>lpN k) lpW:=y0i (fun k=>k) fun _ _ h=>h
theorem y4w (n:Nat):y4r (fun _=>lpN n) (lpN n):=fun _ _ _ _ h x=>h.n n x
theorem y2k:y4r (fun _=>lpW) lpW:=by
 intro X S st sw h x;have hl:CT (fun k=>z0x sw k x) (lim fun k=>z0x sw k x):=CT.lim fun i j hij=>h.upw x _ _ hij
 have hk:∀k,CT (fun m=>z0x (st k) m x) (lim fun m=>z0x (st k) m x):=fun k=>CT.lim fun i j hij=>h.up' k x _ _ hij
 refine⟨fun i j hij y hy=> ?_,fun y hy=> ?_,fun k y hy=> ?_⟩
 .obtain⟨m,hm⟩:=(hk i).hit y hy;exact(hk j).le m y ((h.n m x).mono i j hij y hm)
 .obtain⟨m,hm⟩:=hl.hit y hy;obtain⟨k,hk'⟩:=(h.n m x).hit y hm;exact⟨k,(hk k).le m y hk'⟩
 .obtain⟨m,hm⟩:=(hk k).hit y hy;exact hl.le m y ((h.n m x).le k y hm)
theorem y7h {X S:Type} {step:(X->Option S)->X->Option S} (h:Cont (fun _=>step) step) (x:X):lpW X S step x=step (lpW X S step) x:=by
 have hl:∀x,CT (fun k=>z0x step k x) (lpW X S step x):=fun x=>CT.lim fun i j hij=>h.upw x _ _ hij
 have h1:CT (fun k=>z0x step (k+1) x) (lpW X S step x):=(hl x).shift;have h2:CT (fun k=>step (z0x step k) x) (step (lpW X S step) x):=h.fam (fun k=>z0x step k) _ hl x;exact CT.uniq h1 h2
end Go.Proofs.YtkphhjdbdnoekaaGreatDoor.Ab
