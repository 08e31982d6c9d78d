import Derived.Test.YtkphhjdbdnoekaaGreatDoorAbD6
import Derived.Lib.AppendZeros
namespace Go.Proofs.YtkphhjdbdnoekaaGreatDoor.Ab
open Go
set_option linter.unusedVariables false
set_option linter.unusedSimpArgs false
set_option linter.unnecessarySimpa false
section
variable {P:Program} {A:Ann} {C:Cx} {env:List D} {H:z0a} {B:List (Option Nat)} {a:Act} {w w' :World}
theorem append_nil (ok:TyOk P A) (h:St C env H B a w) {o:Oper} {cl:Call} {s x:Operand} {t t2:Nat} (ho:o.op= .call cl) (hcl:cl.callee= .builtin .append) (hargs:cl.args.toList= [s,x]) (hts:cl.argTypes.toList= [t,t2])
 {e:Ty} (ht:A.ty t=some (.sl e)) (ht2:y2n (A.ty t2)=true) {q0 q:Bool} (hq:q=(q0 || e.plain)) {xs:List e.den} (hx:z6e H e (opd env x)=some (q0,xs)) (hs:opd env s= .nilsl)
 (hlim:xs.length<=1099511627776):EffGives P C env (H++ [.arr q 0 e xs]) a w o (.hd H.length 0):=by
 obtain⟨et,hu,hty⟩:=ok.sl _ _ ht;have hxr:=z0y h x;have hsr:=z0y h s;rw[hs] at hsr;simp only[CR] at hsr;obtain⟨new,n1,n2,n3,n4,n5⟩:=z6x (P:=P) h.toHS hxr hx;have n4:Holds (pk q (C.N B) (C.Np B)) w e xs new:=by rw[hq];exact n4.plain
 have o2:(Builtin.firstCells e.size 0 (.slice none 0 0)).run P w.drew= .ok #[] w.drew:=by simp[Builtin.firstCells]
 have happ:=z6v ok (fun i hi=>ok.small _ _ _ _ ht hu hi) hu hty ht2 hts (ty:=o.type) (base:=none) (n:=0) (c:=0) (Au _) (by omega) n2 (n3 w rfl) (n3 w.drew rfl) o2;have hm:cl.args.map a.eval= #[.slice none 0 0,a.eval x] :=by
  apply Fj;rw[Eg,hargs];simp[hsr]
 have hexec:∀v w',(Builtin.append_ cl.argTypes o.type #[.slice none 0 0,a.eval x]).run P w= .ok v w' ->(execOp a.eval o).run P w= .ok (.value v) w' :=by
  intro v w' e;simp only[execOp,ho,resolve,hcl,hm,invoke,Go.builtin,Sem.run_bind,Sem.run_pure,Result.andThen_ok,e]
 simp only[Co,Array.empty_append] at happ;rcases happ with ⟨hfit,hrun⟩ | ⟨hlt,nc,rest,hnc,hrs,hrun⟩
 .have hx0:xs= [] :=by cases xs with
   | nil=>rfl | cons _ _=>simp at hfit
  subst hx0;simp only[Sem.run_pure,Result.andThen_ok] at hrun;have hst:=h.newNil (blk:= .arr q 0 e []) rfl;refine⟨_,_,w, .inl (hexec _ _ hrun),hst,?_⟩;refine y0x (by simp) (p:=q) (e:=e) (l:= []) (by simp) (c:=0) (a0:=none) (by simp) (by simp) ?_;unfold RowP;rw[←h.lenB];simp
 .have hH1:Holds (pk q (C.N B) (C.Np B)) w e xs new:=n4;have hH1' :Holds (pk q (C.N B) (C.Np B)) w e xs (new++rest):=by
   have:=Holds.append (rest:=rest) (cs:= #[]) (l:= []) (N:=pk q (C.N B) (C.Np B)) (w:=w) ⟨by simp,fun i hi=>absurd hi (by simp)⟩ hH1 (by simp);simpa using this
  have hdr:=h.drew;have hst:=hdr.newBlk (blk:= .arr q 0 e xs) (cs:=new++rest) (el:=et) (fun s hn=>⟨_,hn,(hH1'.1),fun i hi=>by
   obtain⟨us,hus,hcell⟩:=hH1'.2 i hi;refine⟨us,?_,hcell⟩;have hus:Dat (pk q (C.N B) (C.Np B)) w.drew e xs[i] us:=Dat.world (w:=w) (w' :=w.drew) rfl hus;cases q
   .exact Dat.mono s.g hus
   .exact Dat.mono s.gp hus⟩)
  have hcell:Cells (w.drew.alloc (.cells (new++rest) et)) w.heap.size (new++rest):=⟨et,by show(w.heap.push _)[w.heap.size]? =_;simp⟩;refine⟨_,_,_, .inl (hexec _ _ hrun),hst,?_⟩;refine y0x (by simp) (p:=q) (e:=e) (l:=xs) (by simp) (c:=nc) (a0:=some ⟨w.heap.size,0,none⟩) rfl hnc ?_;unfold RowP;rw[←h.lenB];simp only[Aq (Au _),Dw,Bt];refine⟨by simp,_,hcell,?_⟩;simp only[Fb,n1,hrs,Co];rw[←Cl];exact Bo _ (by omega)
theorem z7u (ok:TyOk P A) (h:St C env H B a w) {o:Oper} {cl:Call} {s x:Operand} {t t2:Nat} (ho:o.op= .call cl) (hcl:cl.callee= .builtin .append) (hargs:cl.args.toList= [s,x]) (hts:cl.argTypes.toList= [t,t2])
 {e:Ty} (ht:A.ty t=some (.sl e)) {k2 k:IntKind} (ht2:A.ty t2=some (.int k2)) {n:Int} (hs:opd env s= .nilsl) (hx:opd env x= .int k n) (h1:1<=n) (h2:n<=1099511627776):
 EffGives P C env (H++ [.arr true 0 e (List.replicate n.toNat e.zero)]) a w o (.hd H.length 0):=by
 obtain⟨et,hu,hty⟩:=ok.sl _ _ ht;obtain⟨ie,z,hie,hsz,hz,hzc,_,hb2⟩:=ok.tyi _ _ hty;have hb:=ok.small _ _ _ _ ht hu hie;have hxr:=z0y h x;have hsr:=z0y h s;rw[hs] at hsr;rw[hx] at hxr;simp only[CR] at hsr hxr;have hn:((n.toNat:Nat):Int)=n:=by omega
 have hzs:z.cells.size=e.size:=by
  have:=(z1b (N:=fun _=>False) (w:=w) e).len;rw[←B6,hzc];exact this
 have happ:=Lib.run_append_nil_zeros (P:=P) w t t2 o.type et ie z k k2 hu (ok.int _ _ ht2) hie hz n.toNat (by omega) (by rw[hsz];exact e.size_pos) (by omega) (by
  have:n.toNat*ie.bytes<=1099511627776*128:=Ei (by omega) hb;omega)
 rw[hn] at happ;have hat:cl.argTypes= #[t,t2] :=by
  apply Fj;rw[hts]
 have hm:cl.args.map a.eval= #[.slice none 0 0, .int k n] :=by
  apply Fj;rw[Eg,hargs];simp[hsr,hxr]
 have hexec:∀v w',(Builtin.append_ #[t,t2] o.type #[.slice none 0 0, .int k n]).run P w= .ok v w' ->(execOp a.eval o).run P w= .ok (.value v) w' :=by
  intro v w' e;simp only[execOp,ho,resolve,hcl,hm,hat,invoke,Go.builtin,Sem.run_bind,Sem.run_pure,Result.andThen_ok,e]
 obtain⟨rest,hrest⟩:∃rest,rest=Builtin.zeroCells z.cells (grownCap w n.toNat 0 et - n.toNat):=⟨_,rfl⟩;have hnew:Builtin.zeroCells z.cells n.toNat=(Array.range (n.toNat*e.size)).map (fun k=>z.cells[k % z.cells.size]!):=by
  simp[Builtin.zeroCells,hzs]
 have hcap:=grownCap_ge w n.toNat 0 et;rw[←hrest,hnew] at happ;have hH0:=fun(N:Nat->Prop) (w:World)=>z3a (N:=N) (w:=w) e z hzc n.toNat
 have hH1:=fun(N:Nat->Prop) (w:World)=>(by
  have:=Holds.append (rest:=rest) (cs:= #[]) (l:= []) (N:=N) (w:=w) ⟨by simp,fun i hi=>absurd hi (by simp)⟩ (hH0 N w) (by simp);simpa using this:Holds N w e (List.replicate n.toNat e.zero) ((Array.range (n.toNat*e.size)).map (fun k=>z.cells[k % z.cells.size]!)++rest))
 have hdr:=h.drew;have hst:=hdr.newBlk (blk:= .arr true 0 e (List.replicate n.toNat e.zero)) (cs:=(Array.range (n.toNat*e.size)).map (fun k=>z.cells[k % z.cells.size]!)++rest) (el:=et) (fun s hn=>⟨_,hn,(hH1 (fun _=>False) w.drew).1,fun i hi=>by
  obtain⟨us,hus,hcell⟩:=(hH1 (C.Np B) w.drew).2 i hi;exact⟨us,Dat.mono s.gp hus,hcell⟩⟩)
 have hcell:Cells (w.drew.alloc (.cells ((Array.range (n.toNat*e.size)).map (fun k=>z.cells[k % z.cells.size]!)++rest) et)) w.heap.size ((Array.range (n.toNat*e.size)).map (fun k=>z.cells[k % z.cells.size]!)++rest):=⟨et,by show(w.heap.push _)[w.heap.size]? =_;simp⟩;refine⟨_,_,_, .inl (hexec _ _ happ),hst,?_⟩;refine y0x (by simp) (p:=true) (e:=e) (l:=List.replicate n.toNat e.zero) (by simp) (c:=grownCap w n.toNat 0 et) (a0:=some ⟨w.heap.size,0,none⟩) (by simp) (by simpa using hcap) ?_;unfold RowP;rw[←h.lenB];simp only[Aq (Au _),Dw,Bt];refine⟨by simp,_,hcell,?_⟩;have hz1:∀m,(Builtin.zeroCells z.cells m).size=m*e.size:=fun m=>by simp[Builtin.zeroCells,hzs]
 rw[←hnew,Fb,hrest,hz1,hz1,←Cl];exact Bo _ (by omega)
theorem z9b {f:List Nat} {id:Nat} (h:f.any (Nat.beq id)=false):id ∉ f:=by
 intro k;have:=Ct.mp h id k;exact this (Gi id)
theorem y1z (ok:TyOk P A) (h:St C env H B a w) {o:Oper} {cl:Call} {x:Operand} {t:Nat} (ho:o.op= .call cl) (hcl:cl.callee= .builtin .clear) (hargs:cl.args.toList= [x]) (hts:cl.argTypes.toList= [t])
 {e:Ty} (ht:A.ty t=some (.sl e)) {id st off len:Nat} {p:Bool} {l:List e.den} (hx:opd env x= .hds id st off len) (hH:H[id]? =some (.arr p st e l)):
 EffGives P C env (H.set id (.arr p st e (l.take off++List.replicate len e.zero++l.drop (off+len)))) a w o (.tup []):=by
 have hxv:=z0y h x;rw[hx] at hxv;simp only[CR] at hxv;have hxv0:=hxv;obtain⟨⟨hid,_⟩,hp⟩:=hxv;obtain⟨_,hp⟩:=hp _ _ _ _ hH;obtain⟨hol,a0,c,hv,hc,hr⟩:=hp rfl;obtain⟨et,hu,hty⟩:=ok.sl _ _ ht;obtain⟨ie,z,hie,hs,hz,hzc,hb⟩:=ok.tyi _ _ hty;have hargs' :cl.args.map a.eval= #[a.eval x] :=by
  apply Fj;rw[Eg,hargs];rfl
 have hts0:cl.argTypes[0]? =some t:=by
  have:cl.argTypes.toList[0]? =some t:=by rw[hts];rfl
  simpa using this
 have hnl:(l.take off++List.replicate len e.zero++l.drop (off+len)).length=l.length:=by simp;omega
 have hcr:∀ {N Np:Nat->Prop} {H' :z0a} {B' :List (Option Nat)} {w' :World},CR N Np H' B' w' (.tup []) (.tuple #[]):=by
  intros;simp only[CR];exact⟨_,rfl,by simp[CRs]⟩
 by_cases h0:len=0
 .subst h0;have e1:l.take off++List.replicate 0 e.zero++l.drop (off+0)=l:=by simp
  have e2:H.set id (.arr p st e (l.take off++List.replicate 0 e.zero++l.drop (off+0)))=H:=by
   rw[e1];apply Gj;intro i;rw[Cb];split
   .rename_i q;subst q;rw[hH]
   .rfl
  rw[e2];refine⟨.tuple #[],B,w, .inl ?_,h,hcr⟩;simp only[execOp,ho,resolve,hcl,hargs',invoke,Go.builtin,Sem.run_bind,Sem.run_pure,Result.andThen_ok];cases a0<;>simp[Builtin.clear_,hts0,hv,run_underlying hu]
 .have hlB:id<B.length:=by rw[h.lenB];exact hid
  have hB:=A4 hlB;have hr:=hr (.inr h0);have hbr:=h.blk _ _ _ hH hB;unfold RowP at hr;rw[hB] at hr;cases hob:B[id] with
  | none=>
   rw[hob] at hbr;simp only[BR] at hbr;subst hbr;simp at hol;omega
  | some rb=>
   rw[hob] at hr hB hbr;simp only at hr;obtain⟨ha,cs0,hcs0,hroom⟩:=hr;obtain⟨cs,hcs,hsz,hd⟩:=hbr;have hzd:=z1b (N:=fun _=>False) (w:=w) e;have hzs:z.cells.size=e.size:=by rw[←B6,hzc];exact hzd.len
   have hzl:(Builtin.zeroCells z.cells len).toList.length=len*e.size:=by simp[Builtin.zeroCells,hzs]
   have hpos:=e.size_pos;have hz1:∀v∈(Builtin.zeroCells z.cells len).toList,v.oneCell' =true:=by
    intro v hvm;simp only[Builtin.zeroCells,Eg,Bx] at hvm;obtain⟨k,_,rfl⟩:=hvm;have hk:k % z.cells.size<z.cells.size:=Ev _ (by omega);have hm:z.cells[k % z.cells.size]! ∈z2n e:=by
     rw[←hzc,Fl z.cells _ hk];simp
    exact hzd.one _ hm
   have hle:off*e.size+len*e.size<=cs.size:=by
    have:(off+len)*e.size<=l.length*e.size:=Bo _ hol;rw[Cl] at this;omega
   obtain⟨el,hcel⟩:=hcs;have hst:=run_storeCells_at (P:=P) rb (off*e.size) el (Builtin.zeroCells z.cells len).toList 0 cs w hcel (by rw[hzl];omega) hz1;simp only[Df] at hst;rw[hzl] at hst;obtain⟨k1,k2,k3,k4,k5,k6,k7⟩:=z1v (w:=w) (cs' :=(cs.toList.take (off*e.size)++(Builtin.zeroCells z.cells len).toList++cs.toList.drop (off*e.size+len*e.size)).toArray) ⟨el,hcel⟩ (by
    have:=z1l cs.toList (Builtin.zeroCells z.cells len).toList (off*e.size) (by rw[hzl];simpa using hle);rw[hzl] at this;simpa using this)
   have hB' :B[id]? =some (some rb):=by rw[A4 hlB,hob]
   have hup:=h.upd (blk:= .arr p st e (l.take off++List.replicate len e.zero++l.drop (off+len))) (ob' :=some rb) hH hB' k2 (fun b _ hne=>k3 b (fun q=>hne (by rw[q]))) k4 k5 k6 k7 (.inl rfl)
    ⟨_,_,_,_,rfl,Au _,fun _=>⟨rfl,hnl.symm,rfl⟩⟩ (fun s=>⟨_,k1,by
      rw[hnl];have:=z1l cs.toList (Builtin.zeroCells z.cells len).toList (off*e.size) (by rw[hzl];simpa using hle);rw[hzl] at this;simp at this ⊢;omega,fun i hi=>by
      rw[hnl] at hi;have hget:∀k:Nat,(cs.toList.take (off*e.size)++(Builtin.zeroCells z.cells len).toList++cs.toList.drop (off*e.size+len*e.size)).toArray[k]? =if off*e.size<=k/\k<off*e.size+len*e.size then(Builtin.zeroCells z.cells len)[k - off*e.size]? else cs[k]? :=by
       intro k;have:=z3g cs.toList (Builtin.zeroCells z.cells len).toList (off*e.size) k (by rw[hzl];simpa using hle);rw[hzl] at this;simpa using this
      have hgo:∀ {us:List Value},Dat (pk p (C.N B) (C.Np B)) w e l[i] us->Dat (pk p (C.N (B.set id (some rb))) (C.Np (B.set id (some rb)))) (w.setRow rb _) e l[i] us:=fun k=>k.mono (z2k s p)
      by_cases hin:off<=i/\i<off+len
      .refine⟨z2n e,?_,fun j hj=> ?_⟩
       .have e1:(l.take off++List.replicate len e.zero++l.drop (off+len))[i]'(by rw[hnl];exact hi)=e.zero:=by
         rw[Ck (by simp;omega),Cv (by simp;omega)];simp
        rw[e1];exact z1b e
       .rw[hget];have h1:off*e.size<=i*e.size:=Bo _ hin.1;have h2:(i+1)*e.size<=(off+len)*e.size:=Bo _ hin.2;rw[Cl,Cl] at h2;rw[Al (by omega)];have h3:i*e.size+j - off*e.size=(i - off)*z.cells.size+j:=by
         rw[hzs,Nat.sub_mul];omega
        rw[h3];have:=z8y z.cells (n:=len) (i:=i - off) (j:=j) (by omega) (by omega) (by omega);unfold Builtin.zeroCells;rw[this,←hzc];simp
      .obtain⟨us,q1,q2⟩:=hd i hi;refine⟨us,?_,fun j hj=> ?_⟩
       .have e1:(l.take off++List.replicate len e.zero++l.drop (off+len))[i]'(by rw[hnl];exact hi)=l[i] :=by
         rcases B8 i off with z1 | z1
         .rw[Ck (by simp;omega),Ck (by simp;omega)];simp
         .have:off+len<=i:=by omega
          rw[Cv (by simp;omega)];simp only[List.getElem_drop];congr 1;simp;omega
        rw[e1];exact hgo q1
       .rw[hget,Ao,q2 j hj]
        rintro⟨y1,y2⟩
        rcases B8 i off with z1 | z1
        .have:(i+1)*e.size<=off*e.size:=Bo _ z1;rw[Cl] at this;omega
        .have:(off+len)*e.size<=i*e.size:=Bo _ (by omega);rw[Cl] at this;omega⟩)
   refine⟨.tuple #[],_,_, .inl ?_,hup,hcr⟩;have hz0:(zeroValue et).run P w= .ok z w:=by simp[zeroValue,typeInfo,hie,hz]
   simp only[execOp,ho,resolve,hcl,hargs',invoke,Go.builtin,Sem.run_bind,Sem.run_pure,Result.andThen_ok];rw[hv,ha];cases len with
   | zero=>exact absurd rfl h0 | succ len=>simp[Builtin.clear_,hts0,run_underlying hu,hz0,hst]
theorem y4u (ok:TyOk P A) (h:St C env H B a w) {o:Oper} {g:Bool} {d:D} {H' :z0a} (e:eff A env H o.op=some (g,d,H')) (hg:g=true):EffGives P C env H' a w o d:=by
 subst hg;unfold eff at e;split at e
 .rename_i t hop;split at e
  .rename_i ty hty;injection e with e
   injection e with e1 e2
   injection e2 with e2 e3
   subst e2;subst e3;exact y3s ok h hop hty
  .split at e
   .rename_i hl;injection e with e
    injection e with e1 e2
    injection e2 with e2 e3
    subst e2;subst e3;exact y1u ok h hop hl
   .cases e
 .rename_i t x hop;split at e
  .rename_i hx;injection e with e
   injection e with e1 e2
   injection e2 with e2 e3
   subst e2;subst e3;exact y6y h hop hx
  .cases e
 .rename_i t ad x hop;split at e
  .rename_i n ag hl;split at e
   .rename_i hc;split at e
    .rename_i id off had;split at e
     .rename_i cells hH;split at e
      .rename_i hle;injection e with e
       injection e with e1 e2
       injection e2 with e2 e3
       subst e2;subst e3;exact y3h ok h hop hl hc.1 hc.2 had hH hle
      .cases e
     .cases e
    .rename_i id st i c had;split at e
     .rename_i p st' ty l hH;split at e
      .rename_i hle;obtain⟨rfl,hle⟩:=hle;split at e
       .rename_i y q f hu;split at e
        .cases e
        .rename_i hf;injection e with e
         injection e with e1 e2
         injection e2 with e2 e3
         subst e2;subst e3;exact y1l ok h hop hl hc.1 hc.2 had hH hle hu (z9b hf)
       .cases e
      .cases e
     .cases e
    .cases e
   .cases e
  .cases e
 .rename_i t len parts hop;split at e
  .rename_i et hty;split at e
   .rename_i hlen;split at e
    .rename_i p l f hf;injection e with e
     injection e with e1 e2
     injection e2 with e2 e3
     subst e2;subst e3;exact z7b ok h hop hty hlen hf
    .cases e
   .cases e
  .cases e
 .rename_i t lo co hop;split at e
  .rename_i et k n hty hlo hs;injection e with e
   injection e with e1 e2
   injection e2 with e2 e3
   subst e2;subst e3;simp only[Ai,Ar] at e1;exact z8m ok h hop hty hlo hs e1.1 e1.2
  .cases e
 .rename_i c hop;split at e
  .rename_i s x t t2 hcl hargs hts;split at e
   .rename_i et hty ht2;split at e
    .rename_i q xs hx;split at e
     .rename_i hs;injection e with e
      injection e with e1 e2
      injection e2 with e2 e3
      subst e2;subst e3;exact append_nil ok h hop hcl hargs hts hty ht2 rfl hx hs (Cw e1)
     .rename_i id st hs;split at e
      .rename_i p st' t' l hH;split at e
       .rename_i heq;split at e
        .rename_i hst;subst heq;subst hst;injection e with e
         injection e with e1 e2
         injection e2 with e2 e3
         subst e2;subst e3;exact y1v ok h hop hcl hargs hts hty ht2 rfl hx hs hH (Cw e1)
        .cases e
       .cases e
      .cases e
     .cases e
    .cases e
   .rename_i et hty ht2;split at e
    .rename_i k2 k n ht3 hs hx;injection e with e
     injection e with e1 e2
     injection e2 with e2 e3
     subst e2;subst e3;simp only[Ai,Ar] at e1;exact z7u ok h hop hcl hargs hts hty ht3 hs hx e1.1 e1.2
    .cases e
   .cases e
  .rename_i x t hcl hargs hts;split at e
   .rename_i et id st off len hty hx;split at e
    .rename_i p st' t' l hH;split at e
     .rename_i hq;obtain⟨rfl,rfl⟩:=hq;injection e with e
      injection e with e1 e2
      injection e2 with e2 e3
      subst e2;subst e3;exact y1z ok h hop hcl hargs hts hty hx hH
     .cases e
    .cases e
   .cases e
  .cases e
 .cases e
end
end Go.Proofs.YtkphhjdbdnoekaaGreatDoor.Ab
