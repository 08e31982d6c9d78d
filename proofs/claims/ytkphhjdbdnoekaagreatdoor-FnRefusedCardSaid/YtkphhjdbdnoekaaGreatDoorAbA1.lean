import Derived.Calls
import Derived.Orders
import Derived.Below
import Derived.Deep.LoopGhost
namespace Go.Proofs.YtkphhjdbdnoekaaGreatDoor.Ab
open Go
theorem zOb {α β : Type} (a : α) (f : α -> Option β) : (some a).bind f = f a := rfl
theorem zTn (n : Nat) : ((n : Int)).toNat = n := Int.toNat_natCast n
set_option linter.unusedVariables false
set_option linter.unusedSimpArgs false
set_option linter.unnecessarySimpa false
abbrev Aa:=@cond_false
abbrev Ac:=@Option.some.injEq
abbrev Ad:=@cond_true
abbrev Ae:=@decide_true
abbrev Af:=@ByteArray.size_append
abbrev Ag:=@List.getElem_mem
abbrev Ah:=@decide_false
abbrev Ai:=@Bool.and_eq_true
abbrev Aj:=@List.getElem?_append_left
abbrev Ak:=@Prod.mk.injEq
abbrev Al:=@if_pos
abbrev Am:=@Nat.lt_irrefl
abbrev Ao:=@if_neg
abbrev Ap:=@Bool.not_true
abbrev Aq:=@List.getElem?_append_right
abbrev Ar:=@decide_eq_true_eq
abbrev Au:=@Nat.le_refl
abbrev Av:=@Nat.eq_of_beq_eq_true
abbrev Aw:=@List.length_singleton
abbrev Ax:=@List.mem_singleton
abbrev Ay:=@List.mem_append
abbrev Az:=@List.mem_append_right
abbrev A4:=@List.getElem?_eq_getElem
abbrev A5:=@List.getD_eq_getElem?_getD
abbrev A6:=@List.mem_filter
abbrev A7:=@decide_eq_false
abbrev A8:=@List.mem_cons
abbrev A9:=@Nat.le_trans
abbrev Ba:=@List.length_append
abbrev Bb:=@decide_eq_true
abbrev Bc:=@List.length_cons
abbrev Bd:=@ByteArray.size_extract
abbrev Be:=@List.getElem?_eq_none
abbrev Bf:=@List.mem_append_left
abbrev Bg:=@List.all_eq_true
abbrev Bh:=@Bool.not_false
abbrev Bi:=@List.append_assoc
abbrev Bj:=@Bool.not_eq_true'
abbrev Bk:=@if_false
abbrev Bl:=@if_true
abbrev Bm:=@List.mem_cons_of_mem
abbrev Bo:=@Nat.mul_le_mul_right
abbrev Bp:=@Nat.lt_of_lt_of_le
abbrev Bq:=@List.mem_range
abbrev Br:=@Bool.false_eq_true
abbrev Bs:=@List.foldl_cons
abbrev Bt:=@List.getElem?_cons_zero
abbrev Bu:=@decide_eq_false_iff_not
abbrev Bv:=@Int.le_refl
abbrev Bw:=@List.append_nil
abbrev Bx:=@List.mem_map
abbrev Bz:=@Bool.true_and
abbrev B6:=@Array.length_toList
abbrev B7:=@List.getElem_of_mem
abbrev B8:=@Nat.lt_or_ge
abbrev B9:=@List.take_succ_eq_append_getElem
abbrev Ca:=@List.getElem?_take
abbrev Cb:=@List.getElem?_set
abbrev Cc:=@List.length_nil
abbrev Cd:=@Bool.eq_iff_iff
abbrev Ce:=@List.drop_eq_getElem_cons
abbrev Cf:=@List.nil_append
abbrev Cg:=@List.pairwise_append
abbrev Ch:=@List.pairwise_cons
abbrev Ci:=@Bool.false_or
abbrev Cj:=@Array.getElem?_eq_some_iff
abbrev Ck:=@List.getElem_append_left
abbrev Cl:=@Nat.add_mul
abbrev Cm:=@List.any_eq_true
abbrev Cn:=@Nat.zero_le
abbrev Co:=@Nat.zero_add
abbrev Cp:=@List.pairwise_iff_getElem
abbrev Cq:=@List.take_length
abbrev Cr:=@Bool.or_eq_true
abbrev Cs:=@List.length_filter_le
abbrev Ct:=@List.any_eq_false
abbrev Cu:=@decide_eq_decide
abbrev Cv:=@List.getElem_append_right
abbrev Cw:=@Nat.le_of_ble_eq_true
abbrev Cy:=@Array.getD_eq_getD_getElem?
abbrev Cz:=@Bool.and_true
abbrev C6:=@Array.getElem?_append_left
abbrev C7:=@Nat.succ_mul
abbrev C8:=@List.map_cons
abbrev C9:=@List.mem_cons_self
abbrev Da:=@List.length_map
abbrev Db:=@Array.mem_toList_iff
abbrev Dc:=@Option.map_some
abbrev De:=@Nat.eq_zero_or_pos
abbrev Df:=@Nat.add_zero
abbrev Dg:=@List.getElem?_drop
abbrev Dh:=@List.map_append
abbrev Di:=@List.filter_cons
abbrev Dj:=@congrArg
abbrev Dk:=@List.length_eq_zero_iff
abbrev Dl:=@List.pairwise_map
abbrev Dm:=@List.Sublist.refl
abbrev Dn:=@List.mem_of_getElem?
abbrev Do:=@Array.getElem?_eq_getElem
abbrev Dp:=@List.drop_eq_nil_of_le
abbrev Dq:=@List.length_set
abbrev Ds:=@Option.some.inj
abbrev Dt:=@Bool.and_self
abbrev Du:=@List.mem_nil_iff
abbrev Dv:=@Prod.mk.inj
abbrev Dw:=@Nat.sub_self
abbrev Dx:=@Bool.true_or
abbrev Dy:=@Option.bind_eq_some_iff
abbrev Dz:=@List.Pairwise.filter
abbrev D8:=@List.nodup_iff_pairwise_ne
abbrev D9:=@Nat.add_assoc
abbrev Ea:=@Option.map_eq_some_iff
abbrev Eb:=@Option.getD_some
abbrev Ec:=@List.length_take
abbrev Ed:=@Classical.byContradiction
abbrev Ee:=@Nat.not_lt_zero
abbrev Ef:=@List.cons_append
abbrev Eg:=@Array.toList_map
abbrev Eh:=@List.map_nil
abbrev Ei:=@Nat.mul_le_mul
abbrev Ej:=@of_decide_eq_true
abbrev El:=@Array.getElem?_toList
abbrev Em:=@or_false
abbrev En:=@List.take_append_drop
abbrev Eo:=@Option.getD_none
abbrev Ep:=@List.not_mem_nil
abbrev Er:=@List.map_id'
abbrev Es:=@Bool.or_eq_false_iff
abbrev Et:=@List.getElem?_map
abbrev Eu:=@List.pairwise_singleton
abbrev Ev:=@Nat.mod_lt
abbrev Ew:=@Bool.or_true
abbrev Ey:=@Bool.not_eq_true
abbrev Ez:=@List.Pairwise.sublist
abbrev E0:=@List.mem_or_eq_of_mem_set
abbrev Fa:=@List.suffix_nil
abbrev Fb:=@Array.size_append
abbrev Fc:=@List.getElem_take
abbrev Fd:=@Array.getElem?_setIfInBounds_ne
abbrev Fe:=@List.takeWhile_append_dropWhile
abbrev Ff:=@List.map_congr_left
abbrev Fg:=@List.filter_sublist
abbrev Fh:=@List.drop_zero
abbrev Fi:=@Array.eq_empty_of_size_eq_zero
abbrev Fj:=@Array.ext'
abbrev Fk:=@Nat.mul_comm
abbrev Fl:=@getElem!_pos
abbrev Fm:=@Bool.true_eq_false
abbrev Fn:=@List.sum_append
abbrev Fo:=@and_congr_right
abbrev Fp:=@Bool.or_false
abbrev Fq:=@List.length_replicate
abbrev Fs:=@List.singleton_append
abbrev Ft:=@ByteArray.data_append
abbrev Fu:=@ByteArray.extract_zero_size
abbrev Fv:=@List.le_iff_lt_or_eq
abbrev Fw:=@UInt8.toNat_lt
abbrev Fx:=@Bool.false_and
abbrev Fy:=@Bool.and_false
abbrev Fz:=@Nat.le_of_not_lt
abbrev F0:=@List.length_drop
abbrev F5:=@List.drop_length
abbrev F6:=@List.getElem_map
abbrev F7:=@List.extract_eq_take_drop
abbrev F8:=@List.takeWhile_cons
abbrev F9:=@List.filter_eq_self
abbrev Ga:=@List.flatten_append
abbrev Gb:=@List.set_eq_of_length_le
abbrev Gc:=@List.all_cons
abbrev Gd:=@List.any_cons
abbrev Ge:=@List.sum_cons
abbrev Gf:=@ByteArray.ext
abbrev Gg:=@UInt8.toNat_ofNat'
abbrev Gh:=@List.getElem?_cons_succ
abbrev Gi:=@Nat.beq_refl
abbrev Gj:=@List.ext_getElem?
abbrev Gk:=@Nat.lt_trichotomy
abbrev Gl:=@List.drop_drop
abbrev Gm:=@List.take_add_one
abbrev Gn:=@List.getElem_cons_zero
abbrev Gp:=@List.nodup_append
abbrev Gq:=@List.sum_nil
abbrev Gr:=@Nat.pow_succ
abbrev Gs:=@Array.getElem?_modify
abbrev Gt:=@List.suffix_cons
abbrev Gu:=@List.suffix_refl
abbrev Gv:=@Nat.lt_succ_self
abbrev Gw:=@List.ext_getElem
abbrev Gx:=@List.getElem?_set_ne
abbrev Gy:=@List.mem_iff_getElem
abbrev Gz:=@List.find?_some
abbrev G9:=@List.nil_suffix
abbrev Ha:=@Array.toList_append
abbrev Hb:=@Nat.mul_le_mul_left
abbrev Hc:=@and_congr
abbrev Hd:=@Nat.lt_or_gt_of_ne
abbrev He:=@Array.append_assoc
abbrev Hf:=@Bool.false_ne_true
abbrev Hg:=@List.drop_left
abbrev Hi:=@Nat.blt_eq
abbrev Hj:=@List.set_cons_zero
abbrev Hk:=@Int.not_lt
abbrev Hl:=@List.filter_append
abbrev Ho:=@Int.toNat_zero
abbrev Hp:=@Iff.rfl
abbrev Hq:=@beq_iff_eq
abbrev Hr:=@not_or
abbrev Hs:=ByteArray
abbrev Ht:=Option
abbrev Hu:=List
inductive Ty where
 | int (k:IntKind) | bool | str | sl (e:Ty) | pair (a b:Ty)
 deriving DecidableEq
@[reducible] def Ty.den:Ty->Type
 | .int _=>Int | .bool=>Bool | .str=>ByteArray | .sl e=>List e.den | .pair a b=>a.den×b.den
def Ty.size:Ty->Nat
 | .pair a b=>a.size+b.size | _=>1
def Ty.zero:(t:Ty)->t.den
 | .int _=>(0:Int) | .bool=>false | .str=>(⟨#[]⟩:ByteArray) | .sl _=> [] | .pair a b=>(a.zero,b.zero)
inductive D where
 | undef | int (k:IntKind) (n:Int) | bool (b:Bool) | str (s:ByteArray) | sl (p:Bool) (t:Ty) (l:List t.den) | nilsl | hd (id st:Nat) | hds (id st off len:Nat) | ptr (id off:Nat) | eptr (id st i c:Nat) | rptr (cells:List D) (off:Nat) | clo (g:Nat) (caps:List D) | agg (cs:List D) | tup (vs:List D)
inductive Blk where
 | dead | box (cells:List D) | arr (p:Bool) (st:Nat) (t:Ty) (l:List t.den)
inductive Sh where
 | int (k:IntKind) | bool | str | tr (p:Bool) (t:Ty) | own (p:Bool) (t:Ty) | box (s:Sh) | rbox (s:Sh) | clo (g:Nat) (s:Sh) | agg (s:Sh) | pair (a b:Sh) | unit | ref (k:Nat) | skip | nil
@[reducible] def Sh.den:Sh->Type
 | .int _=>Int | .bool=>Bool | .str=>ByteArray | .tr _ t=>List t.den | .own _ t=>List t.den | .box s=>s.den | .rbox s=>s.den | .clo _ s=>s.den | .agg s=>s.den | .pair a b=>a.den×b.den | .unit=>Unit | .ref _=>Unit | .skip=>Unit | .nil=>Unit
def y1t (p:Bool):(t:Ty)->t.den->List D
 | .int k,n=> [.int k n] | .bool,b=> [.bool b] | .str,s=> [.str s] | .sl e,l=> [.sl p e l] | .pair a b,x=>y1t p a x.1++y1t p b x.2
def z2r {t u:Ty} (h:t=u) (l:List t.den):List u.den:=h ▸ l
abbrev z0a:=List Blk
def z1m (H:z0a):(t:Ty)->List D->Option (t.den×List D×Bool×List Nat)
 | .int k, .int k' n::r=>if k' =k then some (n,r,true, []) else none
 | .bool, .bool b::r=>some (b,r,true, []) | .str, .str s::r=>some (s,r,true, []) | .sl e, .sl p t l::r=>if h:t=e then some (z2r h l,r,p, []) else none
 | .sl _, .nilsl::r=>some ([],r,true, []) | .sl e, .hd id st::r=>
  match H[id]? with
  | some (.arr p st' t l)=>if st' =st then(if h:t=e then some (z2r h l,r,p, [id]) else none) else none
  | _=>none
 | .pair a b,ds=>
  match z1m H a ds with
  | some (x,r,p,f)=>
   (match z1m H b r with
    | some (y,r',q,g)=>some ((x,y),r',p&&q,f++g) | none=>none)
  | none=>none
 | _,_=>none
abbrev Used:=List (Nat×Bool)
def Used.has (u:Used) (id:Nat):Bool:=u.any fun e=>Nat.beq e.1 id
def Used.moved (u:Used) (id:Nat):Bool:=u.any fun e=>Nat.beq e.1 id&&e.2
def Used.lent (u:Used):Bool:=u.any fun e=> !e.2
def z2t (H:z0a) (id:Nat):Bool:=match H[id]? with
 | some (.box _)=>true | _=>false
def Used.boxes (H:z0a):Used->List Nat
 | [] => [] | (id,true)::u=>(match z2t H id with
  | true=>id::Used.boxes H u | false=>Used.boxes H u)
 | (_,false)::u=>Used.boxes H u
def z0d:Nat->z0a->List Nat
 | _, [] => [] | n, .box _::r=>n::z0d (n+1) r | n,_::r=>z0d (n+1) r
def imp (p q:Bool):Bool:=match p with | true=>q | false=>true
def ext (lend:Bool) (H:z0a):(s:Sh)->List D->Used->Option (s.den×List D×Used)
 | .int k, .int k' n::r,u=>if k' =k then some (n,r,u) else none
 | .bool, .bool b::r,u=>some (b,r,u) | .str, .str s::r,u=>some (s,r,u) | .tr p t, .sl p' t' l::r,u=>match imp p p' with
  | true=>if h:t' =t then some (z2r h l,r,u) else none
  | false=>none
 | .tr _ _, .nilsl::r,u=>some ([],r,u) | .tr p t, .hd id st::r,u=>
  match H[id]? with
  | some (.arr p' st' t' l)=>
   (match Nat.beq st' st&&imp p (p' && !lend)&& !u.moved id with
    | true=>if h:t' =t then some (z2r h l,r,(id,false)::u) else none
    | false=>none)
  | _=>none
 | .tr p t, .hds id st off len::r,u=>
  match H[id]? with
  | some (.arr p' st' t' l)=>
   (match Nat.beq st' st&&imp p (p' && !lend)&& !u.moved id with
    | true=>if h:t' =t then some (z2r h ((l.drop off).take len),r,(id,false)::u) else none
    | false=>none)
  | _=>none
 | .own _ _, .nilsl::r,u=>some ([],r,u) | .own p t, .hd id st::r,u=>
  match H[id]? with
  | some (.arr p' st' t' l)=>
   (match Nat.beq st' st&&imp p p' && !u.has id with
    | true=>if h:t' =t then some (z2r h l,r,(id,true)::u) else none
    | false=>none)
  | _=>none
 | .own p t, .hds id st off len::r,u=>
  match H[id]? with
  | some (.arr p' st' t' l)=>
   (match Nat.beq st' st&&Nat.beq off 0&&imp p p' && !u.has id&& !lend with
    | true=>if h:t' =t then some (z2r h (l.take len),r,(id,true)::u) else none
    | false=>none)
  | _=>none
 | .box s, .ptr id off::r,u=>
  match H[id]? with
  | some (.box cells)=>
   (match Nat.beq off 0 with
    | true=>
     (match ext lend H s cells u with
      | some (x, [],u')=>(match u'.has id with
       | true=>none | false=>some (x,r,(id,true)::u'))
      | _=>none)
    | false=>none)
  | _=>none
 | .rbox s, .rptr cells off::r,u=>
  match Nat.beq off 0 with
  | true=>
   (match ext lend H s cells u with
    | some (x, [],u')=>some (x,r,u') | _=>none)
  | false=>none
 | .rbox s, .ptr id off::r,u=>
  match H[id]? with
  | some (.box cells)=>
   (match Nat.beq off 0&& !u.moved id with
    | true=>
     (match ext lend H s cells ((id,false)::u) with
      | some (x, [],u')=>some (x,r,u') | _=>none)
    | false=>none)
  | _=>none
 | .clo g s, .clo g' caps::r,u=>
  match Nat.beq g g' with
  | true=>
   (match ext lend H s caps u with
    | some (x, [],u')=>some (x,r,u') | _=>none)
  | false=>none
 | .agg s, .agg cs::r,u=>
  match ext lend H s cs u with
  | some (x, [],u')=>some (x,r,u') | _=>none
 | .pair a b,ds,u=>
  match ext lend H a ds u with
  | some (x,ds',u')=>
   (match ext lend H b ds' u' with
    | some (y,ds'',u'')=>some ((x,y),ds'',u'') | none=>none)
  | none=>none
 | .unit,ds,u=>some ((),ds,u) | .ref k, .ptr id off::r,u=>
  match (u.boxes H).reverse[k]? with
  | some id' =>(match Nat.beq id id' &&Nat.beq off 0 with
   | true=>some ((),r,u) | false=>none)
  | none=>none
 | .skip,_::r,u=>some ((),r,u) | .nil, .nilsl::r,u=>some ((),r,u) | _,_,_=>none
def emb:(s:Sh)->s.den->z0a->List D×z0a
 | .int k,n,H=>([.int k n],H) | .bool,b,H=>([.bool b],H) | .str,s,H=>([.str s],H) | .tr p t,l,H=>([.sl p t l],H) | .own p t,l,H=>([.hd H.length 0],H++ [.arr p 0 t l]) | .box s,x,H=>let r:=emb s x H;([.ptr r.2.length 0],r.2++ [.box r.1])
 | .rbox s,x,H=>let r:=emb s x H;([.rptr r.1 0],r.2)
 | .clo g s,x,H=>let r:=emb s x H;([.clo g r.1],r.2)
 | .agg s,x,H=>let r:=emb s x H;([.agg r.1],r.2)
 | .pair a b,x,H=>let r:=emb a x.1 H;let q:=emb b x.2 r.2;(r.1++q.1,q.2)
 | .unit,_,H=>([],H) | .ref k,_,H=>([.ptr ((z0d 0 H).getD k 0) 0],H) | .skip,_,H=>([.undef],H) | .nil,_,H=>([.nilsl],H)
def Sh.norefs:Sh->Bool
 | .ref _=>false | .box s | .rbox s | .clo _ s | .agg s=>s.norefs | .pair a b=>a.norefs&&b.norefs | _=>true
def Sh.still:Sh->Bool
 | .own _ _ | .box _=>false | .rbox s | .clo _ s | .agg s=>s.still | .pair a b=>a.still&&b.still | _=>true
end Go.Proofs.YtkphhjdbdnoekaaGreatDoor.Ab
