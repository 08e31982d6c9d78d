import Derived.Test.YtkphhjdbdnoekaaGreatDoorAbS1
import Derived.Shelf.Slices.In.SortNone
namespace Go.Proofs.YtkphhjdbdnoekaaGreatDoor.Ab
open Go
set_option linter.unusedVariables false
set_option linter.unusedSimpArgs false
set_option linter.unnecessarySimpa false
section
variable {P:Program} {C:Cx} {H:z0a} {B:List (Option Nat)} {w w' :World}
def Cx.bare (C:Cx):Cx:= {C with nt:=0,fx:= []}
theorem HS.st (h:HS C H B w):St C.bare [] H B {tmps:= #[],defers:= []} w where
 lenB:=h.lenB
 nodup:=h.nodup
 alloc:=h.alloc
 blk:=h.blk
 lb:=h.lb
 lp:=h.lp
 fr:=h.fr
 gl:=h.gl
 gp:=h.gp
 envs:=fun t=>z5j
 envlen:=rfl
 defers:=rfl
 siz:=rfl
 fix:=fun t ht=>by simp[Cx.bare] at ht
theorem St.hs {env:List D} {a:Act} (h:St C.bare env H B a w):HS C H B w where
 lenB:=h.lenB
 nodup:=h.nodup
 alloc:=h.alloc
 blk:=h.blk
 lb:=h.lb
 lp:=h.lp
 fr:=h.fr
 gl:=h.gl
 gp:=h.gp
theorem HS.row (h:HS C H B w) {id rb:Nat} {p:Bool} {st:Nat} {t:Ty} {l l' :List t.den} (hH:H[id]? =some (.arr p st t l)) (hB:B[id]? =some (some rb)) (hl:l'.length=l.length) {cs cs' :Array Value} (hc:Cells w rb cs)
 (hc' :Cells w' rb cs') (hs:cs'.size=cs.size) (hsz:w.heap.size<=w'.heap.size) (hsame:∀b,b<w.heap.size->b≠rb->w'.heap[b]? =w.heap[b]?) (h1:w'.os=w.os) (h2:w'.tape=w.tape) (h3:w'.output=w.output)
 (hd:∀i,(hi:i<l'.length)-> ∃us,Dat (pk p (C.N B) (C.Np B)) w t l'[i] us/\ ∀j,j<t.size->cs'[i*t.size+j]? =us[j]?):
 HS C (H.set id (.arr p st t l')) (B.set id (some rb)) w' :=by
 obtain⟨cs0,hcs0,hsz0,_⟩:=h.blk _ _ _ hH hB;have he:cs0=cs:=by
  obtain⟨_,z⟩:=hc;obtain⟨_,z0⟩:=hcs0;rw[z] at z0;injection z0 with z0
  injection z0 with z0
  exact z0.symm
 subst he;have hall:∀b cs1,Cells w b cs1-> ∃cs2,Cells w' b cs2/\cs2.size=cs1.size:=by
  intro b cs1 k;by_cases q:b=rb
  .subst q;obtain⟨_,z⟩:=hc;obtain⟨_,k⟩:=k;rw[z] at k;injection k with k
   injection k with k
   subst k;exact⟨cs',hc',hs⟩
  .have hlt:=k.lt;obtain⟨el,k⟩:=k;exact⟨cs1,⟨el,by rw[hsame b hlt q];exact k⟩,rfl⟩
 have:=h.st.upd (blk:= .arr p st t l') (ob' :=some rb) hH hB hsz (fun b hb hne=>hsame b hb (fun q=>hne (by rw[q]))) hall h1 h2 h3 (.inl rfl) ⟨_,_,_,_,rfl,Au _,fun _=>⟨rfl,hl.symm,rfl⟩⟩
  (fun s=>⟨cs',hc',by rw[hl,hs];exact hsz0,fun i hi=>by
   obtain⟨us,k1,k2⟩:=hd i hi;exact⟨us,k1.mono (z2k s p),k2⟩⟩)
 exact this.hs
theorem z4y {α:Type} [Inhabited α] (enc:α->Value) {rb off q:Nat} (d:Array α) {cs:Array Value} (hc:Cells w rb cs) (os:Array Obj):
 Cells (Go.Sort.grow (Go.Sort.putRow enc (Go.Sort.ahead w q) rb off d) os) rb (Go.Sort.putCells enc off d cs)/\(∀b,b<w.heap.size->b≠rb->(Go.Sort.grow (Go.Sort.putRow enc (Go.Sort.ahead w q) rb off d) os).heap[b]? =w.heap[b]?)/\w.heap.size<=(Go.Sort.grow (Go.Sort.putRow enc (Go.Sort.ahead w q) rb off d) os).heap.size:=by
 have hlt:=hc.lt;obtain⟨el,hc⟩:=hc;have hheap:(Go.Sort.grow (Go.Sort.putRow enc (Go.Sort.ahead w q) rb off d) os).heap=w.heap.modify rb (Go.Sort.onCells (Go.Sort.putCells enc off d))++os:=rfl;refine⟨⟨el,?_⟩,fun b hb hne=> ?_,?_⟩
 .rw[hheap,C6 (by simpa using hlt),Gs,Al rfl,hc];rfl
 .rw[hheap,C6 (by simpa using hb),Gs,Ao (fun q=>hne q.symm)]
 .rw[hheap];simp
theorem z5a {α:Type} [Inhabited α] (enc:α->Value) (d:Array α) (cs:Array Value) (k:Nat) (hk:k<d.size) (hs:d.size<=cs.size):(Go.Sort.putCells enc 0 d cs)[k]? =some (enc d[k]!):=by
 have:k<cs.size:=by omega
 simp[Go.Sort.putCells,this,hk]
theorem z8i {N:Nat->Prop} {rb:Nat} {x:List ByteArray} {cs:Array Value} (hc:Cells w rb cs) (hd:∀i,(hi:i<x.length)-> ∃us,Dat N w .str x[i] us/\ ∀j,j<Ty.str.size->cs[i*Ty.str.size+j]? =us[j]?):
 Go.Sort.Holds Go.Proofs.encStr w rb 0 (x.map toS).toArray:=by
 intro j hj;have hj' :j<x.length:=by simpa using hj
 obtain⟨us,k1,k2⟩:=hd j hj';simp only[Dat] at k1;subst k1;have:=k2 0 (by simp[Ty.size]);simp only[Ty.size,Nat.mul_one,Df,Bt] at this;refine⟨?_,z0u hc _⟩;rw[Co,z0c hc,this];have e:((x.map toS).toArray)[j]! =toS x[j] :=by
  rw[Fl _ j hj];simp
 rw[e];rfl
theorem y9g (b:ByteArray):unS (toS b)=b:=by
 obtain⟨⟨b⟩⟩:=b;rfl
theorem y9e (l:List UInt8):toS (unS l)=l:=rfl
def z9p:Sig:= {ins:= .own true .str,inout:= [true],out:= .own true .str,nres:=0}
theorem y8c {ρ:Go.Shelf.Ren} (L:Go.Proofs.Lays.n190 P ρ) {gd:Guard} {x y:List ByteArray} (h:y7m x=some y):z1n P gd (ρ.f 190) z9p x y:=by
 unfold y7m at h;cases hb:Nat.ble x.length z7z with
 | false=>rw[hb] at h;cases h | true=>
  rw[hb] at h;simp only[Ad,Ac] at h;have hlen:x.length<=1099511627776:=Cw hb;intro C B args hgd hs hc;have hs:HS C [.arr true 0 .str x] B C.w0:=hs;have hc:CRs (C.N B) (C.Np B) [.arr true 0 .str x] B C.w0 [.hd 0 0] args:=hc;simp only[CRs,CR] at hc;obtain⟨v,us,rfl,hv,rfl⟩:=hc;obtain⟨⟨_,hone⟩,hp⟩:=hv;have hH0:([.arr true 0 .str x] :z0a)[0]? =some (.arr true 0 .str x):=rfl;obtain⟨_,hp⟩:=hp _ _ _ _ hH0;obtain⟨a,c,rfl,hcl,hr⟩:=hp rfl;have hBl:B.length=1:=hs.lenB;obtain⟨ob,hB⟩:∃ob,B[0]? =some ob:=⟨_,A4 (by omega)⟩;have hyl:y.length=x.length:=by rw[←h];simp[y4n]
  have hbr:=hs.blk 0 _ _ hH0 hB;unfold RowP at hr;rw[hB] at hr;cases ob with
  | none=>
   simp only at hr;obtain⟨rfl,rfl⟩:=hr;simp only[BR] at hbr;subst hbr;have hy:y= [] :=List.eq_nil_of_length_eq_zero (by simpa using hyl);subst hy;refine Calls.mono (Go.Proofs.Any.slices_Sort_string_none L none 0 C.w0) ?_
   rintro e w' ⟨rfl,rfl⟩
   refine⟨_,B, [.hd 0 0], [], [(0,true)],hs,?_,rfl,rfl,rfl⟩;simp only[z0z,z9p,CRs,CR,Cf];exact⟨_,_,rfl,⟨⟨by simp,rfl⟩,fun p st t l e=>by
    cases e;exact⟨Au _,fun _=>⟨none,0,rfl,Au _,by unfold RowP;rw[hB];exact⟨rfl,rfl⟩⟩⟩⟩,rfl⟩
  | some rb=>
   simp only at hr;obtain⟨rfl,cs0,hcs0,hroom⟩:=hr;obtain⟨cs,hcs,hsz,hd⟩:=hbr;have hh:=z8i hcs hd;have hsz' :x.length<=cs.size:=by simpa[Ty.size] using hsz
   have hz:(⟨rb,0*Ty.str.size,none⟩:Addr)=⟨rb,0,none⟩:=by simp
   rw[hz];have hcall:=Go.Proofs.Any.slices_Sort_string L rb 0 c (x.map toS) C.w0 hh hcs.lt (by simp;omega);simp only[Da] at hcall;refine Calls.mono hcall ?_
   rintro e w' ⟨rfl,n,os,rfl⟩
   have hds:((x.map toS).mergeSort fun x y=>decide (x<=y)).toArray.size=x.length:=by simp
   obtain⟨g1,g2,g3⟩:=z4y Go.Proofs.encStr (off:=0) (q:=n) ((x.map toS).mergeSort fun x y=>decide (x<=y)).toArray hcs os;have hrow:=hs.row (t:= .str) (l' :=y) hH0 hB hyl hcs g1 (by simp[Go.Sort.putCells]) g3 g2 rfl rfl rfl (fun i hi=>by
    refine⟨[.string y[i]],by simp[Dat],fun j hj=> ?_⟩;have hj0:j=0:=by simp[Ty.size] at hj;omega
    subst hj0;simp only[Ty.size,Nat.mul_one,Df,Bt];rw[z5a _ _ _ _ (by rw[hds];omega) (by rw[hds];exact hsz')];have e1:y[i] =unS (((x.map toS).mergeSort fun x y=>decide (x<=y))[i]'(by simp;omega)):=by
     have:y=y4n x:=h.symm;subst this;simp[y4n]
    rw[e1,Fl _ i (by rw[hds];omega)];simp[unS])
   refine⟨([.arr true 0 .str y] :z0a),_, [.hd 0 0], [], [(0,true)],hrow,?_,rfl,rfl,rfl⟩;simp only[z0z,z9p,CRs,CR,Cf];refine⟨_,_,rfl,⟨⟨by simp,rfl⟩,fun p st t l e=> ?_⟩,rfl⟩;simp only[Bt] at e;cases e;refine⟨Au _,fun _=>⟨_,c,by rw[hyl],by omega,?_⟩⟩;unfold RowP;have hB' :(B.set 0 (some rb))[0]? =some (some rb):=by rw[Cb];simp[show 0<B.length by omega]
   rw[hB'];refine⟨by simp,_,g1,?_⟩;have:cs0=cs:=by
    obtain⟨_,z⟩:=hcs;obtain⟨_,z0⟩:=hcs0;rw[z] at z0;injection z0 with z0
    injection z0 with z0
    exact z0.symm
   subst this;simpa[Go.Sort.putCells] using hroom
def z4t:Sig:= {ins:= .own true .str,inout:= [],out:= .own true .str,nres:=1}
theorem z5l {rb:Nat} {cs cs' :Array Value} (h:Cells w rb cs) (h' :Cells w rb cs'):cs=cs' :=by
 obtain⟨_,z⟩:=h;obtain⟨_,z'⟩:=h';rw[z] at z';injection z' with z'
 injection z' with z'
theorem z6j (x:List ByteArray):(y7b x).length<=x.length:=by
 simp only[y7b,Da,Lib.compact,Lib.compactUpTo];refine A9 (Cs _ _) (by simp)
theorem y5j {ρ:Go.Shelf.Ren} (L:Go.Proofs.Lays.n194 P ρ) {gd:Guard} {x y:List ByteArray} (h:y0p x=some y):z1n P gd (ρ.f 194) z4t x y:=by
 unfold y0p at h;cases hb:Nat.ble x.length z7z with
 | false=>rw[hb] at h;cases h | true=>
  rw[hb] at h;simp only[Ad,Ac] at h;have hlen:x.length<=1099511627776:=Cw hb;intro C B args hgd hs hc;have hs:HS C [.arr true 0 .str x] B C.w0:=hs;have hc:CRs (C.N B) (C.Np B) [.arr true 0 .str x] B C.w0 [.hd 0 0] args:=hc;have hc0:=hc;simp only[CRs,CR] at hc;obtain⟨v,us,rfl,hv,rfl⟩:=hc;obtain⟨⟨_,hone⟩,hp⟩:=hv;have hH0:([.arr true 0 .str x] :z0a)[0]? =some (.arr true 0 .str x):=rfl;obtain⟨_,hp⟩:=hp _ _ _ _ hH0;obtain⟨a,c,rfl,hcl,hr⟩:=hp rfl;have hBl:B.length=1:=hs.lenB;obtain⟨ob,hB⟩:∃ob,B[0]? =some ob:=⟨_,A4 (by omega)⟩;have hbr:=hs.blk 0 _ _ hH0 hB;by_cases hx0:x= []
  .subst hx0;have hy:y= [] :=by rw[←h];rfl
   subst hy;refine Calls.mono (Go.Proofs.Any.slices_Compact_string_empty L a c C.w0) ?_
   rintro e w' ⟨rfl,rfl⟩
   refine⟨_,B, [.hd 0 0], [.slice a 0 c], [(0,true)],hs,?_,rfl,rfl,rfl⟩;simpa[z0z,z4t] using hc0
  .unfold RowP at hr;rw[hB] at hr;cases ob with
   | none=>
    simp only[BR] at hbr;exact absurd hbr hx0
   | some rb=>
    simp only at hr;obtain⟨rfl,cs0,hcs0,hroom⟩:=hr;obtain⟨cs,hcs,hsz,hd⟩:=hbr;have hcc:=z5l hcs0 hcs;subst hcc;have hh:=z8i hcs hd;have hsz' :x.length<=cs0.size:=by simpa[Ty.size] using hsz
    have hz:(⟨rb,0*Ty.str.size,none⟩:Addr)=⟨rb,0,none⟩:=by simp
    rw[hz];have hcall:=Go.Proofs.Any.slices_Compact_string L rb 0 c (x.map toS) C.w0 hh (by simp;omega) (by simpa using hcl);simp only[Da] at hcall;refine Calls.mono hcall ?_
    rintro e w' ⟨rfl,n,rfl⟩
    have hdl:(Lib.compact (x.map toS)).length<=x.length:=by
     have:=z6j x;simpa[y7b] using this
    obtain⟨d,hd0⟩:∃d,d=(Lib.compact (x.map toS)++List.replicate (x.length - (Lib.compact (x.map toS)).length) []):=⟨_,rfl⟩;have hdlen:d.length=x.length:=by rw[hd0];simp;omega
    rw[←hd0];have g:=z4y Go.Proofs.encStr (off:=0) (q:=n) d.toArray hcs #[];rw[Go.Sort.grow_empty] at g;obtain⟨g1,g2,g3⟩:=g;have hrow:=hs.row (t:= .str) (l' :=d.map unS) hH0 hB (by simpa using hdlen) hcs g1 (by simp[Go.Sort.putCells]) g3 g2 rfl rfl rfl (fun i hi=>by
     have hi' :i<d.length:=by simpa using hi
     refine⟨[.string (unS d[i])],by simp[Dat],fun j hj=> ?_⟩;have hj0:j=0:=by simp[Ty.size] at hj;omega
     subst hj0;simp only[Ty.size,Nat.mul_one,Df,Bt];rw[z5a _ _ _ _ (by simpa using hi') (by simp;omega)];rw[Fl _ i (by simpa using hi')];simp[unS])
    have hyl:y=(d.map unS).take (Lib.compact (x.map toS)).length:=by
     rw[←h,hd0];simp[y7b]
    refine⟨([.arr true 0 .str (d.map unS)] :z0a),_, [.hds 0 0 0 (Lib.compact (x.map toS)).length], [_], [(0,true)],hrow,?_,by rw[hyl];rfl,rfl,rfl⟩;simp only[z0z,z4t,CRs,CR,Bw];refine⟨_,_,rfl,⟨⟨by simp,rfl⟩,fun p st t l e=> ?_⟩,rfl⟩;simp only[Bt] at e;cases e;refine⟨Au _,fun _=>⟨by simp;omega,_,c,rfl,by omega,fun _=> ?_⟩⟩;unfold RowP;have hB' :(B.set 0 (some rb))[0]? =some (some rb):=by rw[Cb];simp[show 0<B.length by omega]
    rw[hB'];refine⟨by simp,_,g1,?_⟩;simpa[Go.Sort.putCells] using hroom
end
end Go.Proofs.YtkphhjdbdnoekaaGreatDoor.Ab
