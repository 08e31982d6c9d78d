import Derived.Test.YtkphhjdbdnoekaaGreatDoorAbD4
namespace Go.Proofs.YtkphhjdbdnoekaaGreatDoor.Ab
open Go
set_option linter.unusedVariables false
set_option linter.unusedSimpArgs false
set_option linter.unnecessarySimpa false
section
variable {P:Program} {A:Ann} {C:Cx} {env:List D} {H:z0a} {B:List (Option Nat)} {a:Act} {w w' :World}
def RowsAt (N:Nat->Prop) (w:World) (e:Ty) (l:List e.den) (v:Value):Prop:=
 ∃a0 c,v= .slice a0 l.length c/\(l= [] \/ ∃b o,a0=some ⟨b,o,none⟩/\ ∀i,(h:i<l.length)-> ∃us,Dat N w e l[i] us/\ ∀j,j<e.size->w.cell? ⟨b,o+i*e.size+j,none⟩=us[j]?)
theorem Dat.rows {N:Nat->Prop} {e:Ty} {l:List e.den} {v:Value} (h:Dat N w (.sl e) l [v]):RowsAt N w e l v:=by
 obtain⟨a0,c,e1,_,h⟩:=h;injection e1 with e1 _
 refine⟨a0,c,e1,h.imp id ?_⟩
 rintro⟨b,o,h1,_,_,h2⟩
 exact⟨b,o,h1,h2⟩
theorem z7o {N Np:Nat->Prop} {id st off len:Nat} {p:Bool} {t:Ty} {l:List t.den} {v:Value} {ob:Option Nat} (hH:H[id]? =some (.arr p st t l)) (hB:B[id]? =some ob)
 (hb:BR N Np H B w (.arr p st t l) ob) (hv:HdsP H B w id st off len v):RowsAt (pk p N Np) w t ((l.drop off).take len) v:=by
 obtain⟨h1,h2⟩:=hv;obtain⟨-,h3⟩:=h2 _ _ _ _ hH;obtain⟨ho,a,c,rfl,hc,hr⟩:=h3 rfl;have hlen:((l.drop off).take len).length=len:=by simp;omega
 refine⟨a,c,by rw[hlen],?_⟩;by_cases hz:len=0
 .left;rw[hz];simp
 .right;have hr:=hr (.inr hz);unfold RowP at hr;rw[hB] at hr;cases ob with
  | none=>
   have:l= [] :=hb;subst this;simp at ho;omega
  | some rb=>
   obtain⟨ha,cs0,hcs0,_⟩:=hr;obtain⟨cs,hcs,hsz,hd⟩:=hb;refine⟨rb,off*t.size,ha,fun i hi=> ?_⟩;have hi' :i<len:=by omega
   obtain⟨us,hu,hcell⟩:=hd (off+i) (by omega);refine⟨us,?_,fun j hj=> ?_⟩
   .have e:((l.drop off).take len)[i] =l[off+i]'(by omega):=by simp
    rw[e];exact hu
   .rw[z0c hcs,←hcell j hj];congr 1;rw[Cl]
theorem RowsAt.world {N:Nat->Prop} {e:Ty} {l:List e.den} {v:Value} (hw:w'.heap=w.heap) (h:RowsAt N w e l v):RowsAt N w' e l v:=by
 obtain⟨a0,c,e1,h⟩:=h;refine⟨a0,c,e1,h.imp id ?_⟩
 rintro⟨b,o,h1,h2⟩
 refine⟨b,o,h1,fun i hi=> ?_⟩;obtain⟨us,k1,k2⟩:=h2 i hi;refine⟨us,k1.world hw,fun j hj=> ?_⟩;rw[←k2 j hj];exact World.cell?_of_block (w:=w) (by rw[hw])
theorem RowsAt.load {N:Nat->Prop} {e:Ty} {l:List e.den} {v:Value} (h:RowsAt N w e l v):
 ∃cs:Array Value,cs.size=l.length*e.size/\(∀w' :World,w'.heap=w.heap->(Builtin.firstCells e.size l.length v).run P w' = .ok cs w')/\Holds N w e l cs/\ ∀u∈cs.toList,u.oneCell' =true:=by
 obtain⟨a0,c,rfl,h⟩:=h;rcases h with rfl | ⟨b,o,rfl,h⟩
 .refine⟨#[],by simp,?_,⟨by simp,fun i hi=>by simp at hi⟩,by simp⟩;intro w' _;cases a0 with
  | none=>simp[Builtin.firstCells] | some a0=>
   have:=run_loadCells_list (P:=P) w' a0 [] (fun j v e=>by simp at e);simpa[Builtin.firstCells] using this
 .have hpos:=e.size_pos
  let f:Nat->Value:=fun k=>(w.cell? ⟨b,o+k,none⟩).getD undef
  have hcell:∀k,k<l.length*e.size-> ∃us,(∃h:k / e.size<l.length,Dat N w e l[k / e.size] us)/\w.cell? ⟨b,o+k,none⟩=us[k % e.size]? /\us.length=e.size:=by
   intro k hk;have h1:k / e.size<l.length:=by rw[Nat.div_lt_iff_lt_mul hpos];exact hk
   have h2:k % e.size<e.size:=Ev _ hpos;obtain⟨us,k1,k2⟩:=h _ h1;refine⟨us,⟨h1,k1⟩,?_,k1.len⟩;rw[←k2 _ h2];congr 2;have:k=k / e.size*e.size+k % e.size:=by rw[Fk];exact(Nat.div_add_mod k e.size).symm
   omega
  have hf:∀k,k<l.length*e.size->w.cell? ⟨b,o+k,none⟩=some (f k):=by
   intro k hk;obtain⟨us,_,k2,k3⟩:=hcell k hk;have h2:k % e.size<us.length:=by rw[k3];exact Ev _ hpos
   simp only[f,k2,A4 h2,Eb]
  refine⟨((List.range (l.length*e.size)).map f).toArray,by simp,?_,⟨by simp,fun i hi=> ?_⟩,?_⟩
  .intro w' hw;have:=run_loadCells (P:=P) w' ⟨b,o,none⟩ (l.length*e.size) f (fun j hj=>by
    rw[z2p,←hf j hj];exact World.cell?_of_block (w:=w) (by rw[hw]))
   simpa[Builtin.firstCells] using this
  .obtain⟨us,k1,k2⟩:=h i hi;refine⟨us,k1,fun j hj=> ?_⟩;have hlt:=z2d hi hj;have:=hf _ hlt;rw[←D9,k2 j hj] at this;simp only[List.getElem?_toArray,Et,List.getElem?_range hlt,Dc];exact this.symm
  .intro u hu;simp only[Bx,Bq] at hu;obtain⟨k,hk,rfl⟩:=hu;obtain⟨us,⟨h1,k1⟩,k2,k3⟩:=hcell k hk;have:=hf k hk;rw[k2] at this;exact k1.one _ (Dn this)
theorem z6x (h:HS C H B w) {e:Ty} {x:D} {v:Value} {q:Bool} {l:List e.den} (hx:CR (C.N B) (C.Np B) H B w x v) (he:z6e H e x=some (q,l)):
 ∃cs:Array Value,cs.size=l.length*e.size/\(Builtin.lenOf v).run P w= .ok l.length w/\(∀w' :World,w'.heap=w.heap->(Builtin.firstCells e.size l.length v).run P w' = .ok cs w')/\Holds (pk q (C.N B) (C.Np B)) w e l cs/\ ∀u∈cs.toList,u.oneCell' =true:=by
 have main:RowsAt (pk q (C.N B) (C.Np B)) w e l v-> ∃cs:Array Value,cs.size=l.length*e.size/\(Builtin.lenOf v).run P w= .ok l.length w/\(∀w' :World,w'.heap=w.heap->(Builtin.firstCells e.size l.length v).run P w' = .ok cs w')/\Holds (pk q (C.N B) (C.Np B)) w e l cs/\ ∀u∈cs.toList,u.oneCell' =true:=by
  intro hr;obtain⟨cs,k1,k2,k3,k4⟩:=hr.load (P:=P);refine⟨cs,k1,?_,k2,k3,k4⟩;obtain⟨a0,c,rfl,_⟩:=hr;simp[Builtin.lenOf]
 cases x<;>simp only[z6e] at he<;>try (cases he;done)
 case nilsl=>
  simp only[Ac,Ak] at he;obtain⟨rfl,rfl⟩:=he;simp only[CR] at hx;subst hx;exact main ⟨none,0,rfl, .inl rfl⟩
 case sl q0 t l0=>
  split at he
  .rename_i e0;subst e0;simp only[Ac,Ak] at he;obtain⟨rfl,rfl⟩:=he;simp only[CR] at hx;exact main hx.rows
  .cases he
 case hd id st=>
  split at he
  .rename_i q0 st' t l0 hH;split at he
   .rename_i e1;subst e1;split at he
    .rename_i e0;subst e0;simp only[Ac,Ak] at he;obtain⟨rfl,rfl⟩:=he;simp only[CR] at hx;have hid:id<B.length:=by rw[h.lenB];exact hx.1.1
     have hB:=A4 hid;have:=z7o hH hB (h.blk _ _ _ hH hB) (y0k hH hx);simp only[Fh,Cq] at this;exact main this
    .cases he
   .cases he
  .cases he
 case hds id st off len=>
  split at he
  .rename_i q0 st' t l0 hH;split at he
   .rename_i e1;subst e1;split at he
    .rename_i e0;subst e0;simp only[Ac,Ak] at he;obtain⟨rfl,rfl⟩:=he;simp only[CR] at hx;have hid:id<B.length:=by rw[h.lenB];exact hx.1.1
     have hB:=A4 hid;exact main (z7o hH hB (h.blk _ _ _ hH hB) hx)
    .cases he
   .cases he
  .cases he
 case str s=>
  split at he
  .rename_i e0;subst e0;simp only[Ac,Ak] at he;obtain⟨rfl,rfl⟩:=he;simp only[CR] at hx;subst hx;have hlen:(z2r (rfl:Ty.int .u8= .int .u8) (z7w s)).length=s.size:=by simp[z2r,z7w]
   refine⟨s.data.map fun b=> .int .u8 b.toNat,by rw[hlen];simp[Ty.size],by simp[Builtin.lenOf,hlen],?_,⟨by rw[hlen];simp[Ty.size],fun i hi=> ?_⟩,?_⟩
   .intro w' _;simp[Builtin.firstCells,hlen]
   .refine⟨[.int .u8 ((z7w s)[i]'hi)],rfl,fun j hj=> ?_⟩;simp only[Ty.size,Nat.lt_one_iff] at hj;subst hj;have hi' :i<s.data.size:=by rw[hlen] at hi;exact hi
    simp[Ty.size,z7w,hi'];exact⟨_,Do hi',rfl⟩
   .intro u hu;simp at hu;obtain⟨b,_,rfl⟩:=hu;rfl
  .cases he
theorem Holds.append {N:Nat->Prop} {e:Ty} {l m:List e.den} {cs ds rest:Array Value} (h1:Holds N w e l cs) (h2:Holds N w e m ds) (hs:cs.size=l.length*e.size):
 Holds N w e (l++m) (cs++ds++rest):=by
 have hpos:=e.size_pos;refine⟨?_,fun i hi=> ?_⟩
 .have:=h2.1;simp only[Ba,Cl,Fb];omega
 .have hsz2:=h2.1;by_cases q:i<l.length
  .obtain⟨us,k1,k2⟩:=h1.2 i q;refine⟨us,?_,fun j hj=> ?_⟩
   .rw[Ck q];exact k1
   .have:=z2d q hj;rw[He,C6 (by omega)];exact k2 j hj
  .obtain⟨us,k1,k2⟩:=h2.2 (i - l.length) (by simp at hi;omega);refine⟨us,?_,fun j hj=> ?_⟩
   .rw[Cv (by omega)];exact k1
   .have h3:i - l.length<m.length:=by simp at hi;omega
    have:=z2d h3 hj;have e1:i*e.size+j=cs.size+((i - l.length)*e.size+j):=by
     rw[hs];have:l.length*e.size+(i - l.length)*e.size=i*e.size:=by rw[←Cl];congr 1;omega
     omega
    rw[He,e1,Array.getElem?_append_right (by omega)];rw[show cs.size+((i - l.length)*e.size+j) - cs.size=(i - l.length)*e.size+j by omega];rw[C6 (by omega)];exact k2 j hj
theorem Holds.mono {N N' :Nat->Prop} {e:Ty} {l:List e.den} {cs:Array Value} (h:Holds N w e l cs) (g:Goes N N' w w'):Holds N' w' e l cs:=
 ⟨h.1,fun i hi=>by obtain⟨us,k1,k2⟩:=h.2 i hi;exact⟨us,k1.mono g,k2⟩⟩
theorem z6m (w:World) (need old el:Nat):∃t,need<=t/\(choose (.appendCap need old el)).run P w= .ok t w.drew:=by
 refine⟨_,?_,by simp[run_choose,Question.forced];rfl⟩;simp[Question.cut]
theorem z6v (ok:TyOk P A) {t t2 et:Nat} {e:Ty} (hsm:∀i,P.info? et=some i->i.bytes<=128) (hu:P.underlying t=some (.slice et)) (hty:A.ty et=some e) (ht2:y2n (A.ty t2)=true) {ts:Array TypeId} (hts:ts.toList= [t,t2]) {ty:TypeId}
 {base:Option Addr} {n c m:Nat} {x:Value} (hnc:n<=c) {old new:Array Value} (hnm:n+m<=1099511627776) (hl:(Builtin.lenOf x).run P w= .ok m w) (hnew0:(Builtin.firstCells e.size m x).run P w= .ok new w)
 (hnew:(Builtin.firstCells e.size m x).run P w.drew= .ok new w.drew) (hold:(Builtin.firstCells e.size n (.slice base n c)).run P w.drew= .ok old w.drew):
 (n+m<=c/\(Builtin.append_ ts ty #[.slice base n c,x]).run P w=((match base with | some a=>storeCells (a.add (n*e.size)) new.toList | none=>pure ()).run P w).andThen fun _ w' => .ok (.slice base (n+m) c) w')\/
 (c<n+m/\ ∃(nc:Nat) (rest:Array Value),n+m<=nc/\rest.size=(nc - (n+m))*e.size/\
  (Builtin.append_ ts ty #[.slice base n c,x]).run P w= .ok (.slice (some ⟨w.heap.size,0,none⟩) (n+m) nc) (w.drew.alloc (.cells (old++new++rest) et))):=by
 obtain⟨ie,z,hie,hsz,hz,hzc,_,hb2⟩:=ok.tyi _ _ hty;have hb:=hsm ie hie
 have h0:ts[0]? =some t:=by have:ts.toList[0]? =some t:=by rw[hts];rfl
                            simpa using this
 have h1:ts[1]? =some t2:=by have:ts.toList[1]? =some t2:=by rw[hts];rfl
                             simpa using this
 have hu2:P.underlying t2=some .string\/ ∃e2,P.underlying t2=some (.slice e2):=by
  cases h2:A.ty t2 with
  | none=>rw[h2] at ht2;cases ht2 | some y=>
   rw[h2] at ht2;cases y<;>simp only[y2n] at ht2<;>try (cases ht2;done)
   .exact .inl (ok.str _ h2)
   .obtain⟨e2,k,_⟩:=ok.sl _ _ h2;exact .inr ⟨_,k⟩
 have hz0:(zeroValue et).run P w.drew= .ok z w.drew:=by simp[zeroValue,typeInfo,hie,hz]
 have hti:∀w:World,(typeInfo et).run P w= .ok ie w:=fun w=>by simp[typeInfo,hie]
 by_cases hfit:n+m<=c
 .left;refine⟨hfit,?_⟩;rcases hu2 with hu2 | ⟨e2,hu2⟩<;>cases base<;>simp[Builtin.append_,h0,h1,run_underlying hu,run_underlying hu2,z0b hie,hsz,hl,hfit,hnew0]
 .right;refine⟨by omega,?_⟩;obtain⟨nc,hnc1,hch⟩:=z6m (P:=P) w (n+m) c et;have hgrow:=growslice_fits (need:=n+m) (old:=c) (bytes:=ie.bytes) (by omega) (by
   have:(n+m)*ie.bytes<=1099511627776*128:=Ei hnm hb;omega)
  have hmax: ¬(((n+m:Nat):Int) >IntKind.i64.max/\(false=true\/ie.bytes=0)):=by
   have:IntKind.i64.max=9223372036854775807:=by decide
   omega
  refine⟨nc,Builtin.zeroCells z.cells (nc - (n+m)),hnc1,?_,?_⟩
  .have hzs:z.cells.size=e.size:=by
    have:=(z1b (N:=fun _=>False) (w:=w) e).len;rw[←B6,hzc];exact this
   simp[Builtin.zeroCells,hzs]
  .have hg2: ¬Builtin.nextslicecap (n+m) c*ie.bytes >2^48:=by omega
   rcases hu2 with hu2 | ⟨e2,hu2⟩<;>simp[Builtin.append_,h0,h1,run_underlying hu,run_underlying hu2,z0b hie,hsz,hl,hfit,hti,hg2,hch,hold,hnew,hz0,newRow,-run_choose]
   .intro q;omega
   .intro q;omega
end
end Go.Proofs.YtkphhjdbdnoekaaGreatDoor.Ab
