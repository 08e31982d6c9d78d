import Derived.Calls
import Derived.Orders
import Derived.Below
import Derived.Deep.LoopGhost
namespace Go.Proofs.Ytkphhjdbdnoekaa.Ab
open Go
theorem zOb {α β : Type} (a : α) (f : α → Option β) : (some a).bind f = f a := rfl
theorem zTn (n : Nat) : ((n : Int)).toNat = n := Int.toNat_natCast n
set_option linter.unusedVariables false
set_option linter.unusedSimpArgs false
set_option linter.unnecessarySimpa false
section
inductive Ty where
 | int (k:IntKind)
 | bool
 | str
 | sl (e:Ty)
 | pair (a b:Ty)
 deriving DecidableEq
@[reducible] def Ty.den:Ty→Type
 | .int _=>Int
 | .bool=>Bool
 | .str=>ByteArray
 | .sl e=>List e.den
 | .pair a b=>a.den×b.den
def Ty.size:Ty→Nat
 | .pair a b=>a.size+b.size
 | _=>1
def Ty.zero:(t:Ty)→t.den
 | .int _=>(0:Int)
 | .bool=>false
 | .str=>(⟨#[]⟩:ByteArray)
 | .sl _=> []
 | .pair a b=>(a.zero,b.zero)
inductive D where
 | undef
 | int (k:IntKind) (n:Int)
 | bool (b:Bool)
 | str (s:ByteArray)
 | sl (p:Bool) (t:Ty) (l:List t.den)
 | nilsl
 | hd (id st:Nat)
 | hds (id st off len:Nat)
 | ptr (id off:Nat)
 | eptr (id st i c:Nat)
 | rptr (cells:List D) (off:Nat)
 | clo (g:Nat) (caps:List D)
 | agg (cs:List D)
 | tup (vs:List D)
inductive Blk where
 | dead
 | box (cells:List D)
 | arr (p:Bool) (st:Nat) (t:Ty) (l:List t.den)
inductive Sh where
 | int (k:IntKind)
 | bool
 | str
 | tr (p:Bool) (t:Ty)
 | own (p:Bool) (t:Ty)
 | box (s:Sh)
 | rbox (s:Sh)
 | clo (g:Nat) (s:Sh)
 | agg (s:Sh)
 | pair (a b:Sh)
 | unit
 | ref (k:Nat)
 | skip
 | nil
@[reducible] def Sh.den:Sh→Type
 | .int _=>Int
 | .bool=>Bool
 | .str=>ByteArray
 | .tr _ t=>List t.den
 | .own _ t=>List t.den
 | .box s=>s.den
 | .rbox s=>s.den
 | .clo _ s=>s.den
 | .agg s=>s.den
 | .pair a b=>a.den×b.den
 | .unit=>Unit
 | .ref _=>Unit
 | .skip=>Unit
 | .nil=>Unit
def y1j (p:Bool):(t:Ty)→t.den→List D
 | .int k,n=> [.int k n]
 | .bool,b=> [.bool b]
 | .str,s=> [.str s]
 | .sl e,l=> [.sl p e l]
 | .pair a b,x=>y1j p a x.1++y1j p b x.2
def z3b {t u:Ty} (h:t=u) (l:List t.den):List u.den:=h ▸ l
abbrev z0a:=List Blk
def z1j (H:z0a):(t:Ty)→List D→Option (t.den×List D×Bool×List Nat)
 | .int k, .int k' n::r=>if k' =k then some (n,r,true, []) else none
 | .bool, .bool b::r=>some (b,r,true, [])
 | .str, .str s::r=>some (s,r,true, [])
 | .sl e, .sl p t l::r=>if h:t=e then some (z3b h l,r,p, []) else none
 | .sl _, .nilsl::r=>some ([],r,true, [])
 | .sl e, .hd id st::r=>
  match H[id]? with
  | some (.arr p st' t l)=>if st' =st then(if h:t=e then some (z3b h l,r,p, [id]) else none) else none
  | _=>none
 | .pair a b,ds=>
  match z1j H a ds with
  | some (x,r,p,f)=>
   (match z1j H b r with
    | some (y,r',q,g)=>some ((x,y),r',p&&q,f++g)
    | none=>none)
  | none=>none
 | _,_=>none
abbrev Used:=List (Nat×Bool)
def Used.has (u:Used) (id:Nat):Bool:=u.any fun e=>Nat.beq e.1 id
def Used.moved (u:Used) (id:Nat):Bool:=u.any fun e=>Nat.beq e.1 id&&e.2
def Used.lent (u:Used):Bool:=u.any fun e=> !e.2
def z2o (H:z0a) (id:Nat):Bool:=match H[id]? with
 | some (.box _)=>true
 | _=>false
def Used.boxes (H:z0a):Used→List Nat
 | [] => []
 | (id,true)::u=>(match z2o H id with
  | true=>id::Used.boxes H u
  | false=>Used.boxes H u)
 | (_,false)::u=>Used.boxes H u
def z0c:Nat→z0a→List Nat
 | _, [] => []
 | n, .box _::r=>n::z0c (n+1) r
 | n,_::r=>z0c (n+1) r
def imp (p q:Bool):Bool:=match p with | true=>q | false=>true
def ext (lend:Bool) (H:z0a):(s:Sh)→List D→Used→Option (s.den×List D×Used)
 | .int k, .int k' n::r,u=>if k' =k then some (n,r,u) else none
 | .bool, .bool b::r,u=>some (b,r,u)
 | .str, .str s::r,u=>some (s,r,u)
 | .tr p t, .sl p' t' l::r,u=>match imp p p' with
  | true=>if h:t' =t then some (z3b h l,r,u) else none
  | false=>none
 | .tr _ _, .nilsl::r,u=>some ([],r,u)
 | .tr p t, .hd id st::r,u=>
  match H[id]? with
  | some (.arr p' st' t' l)=>
   (match Nat.beq st' st&&imp p (p' && !lend)&& !u.moved id with
    | true=>if h:t' =t then some (z3b h l,r,(id,false)::u) else none
    | false=>none)
  | _=>none
 | .tr p t, .hds id st off len::r,u=>
  match H[id]? with
  | some (.arr p' st' t' l)=>
   (match Nat.beq st' st&&imp p (p' && !lend)&& !u.moved id with
    | true=>if h:t' =t then some (z3b h ((l.drop off).take len),r,(id,false)::u) else none
    | false=>none)
  | _=>none
 | .own _ _, .nilsl::r,u=>some ([],r,u)
 | .own p t, .hd id st::r,u=>
  match H[id]? with
  | some (.arr p' st' t' l)=>
   (match Nat.beq st' st&&imp p p' && !u.has id with
    | true=>if h:t' =t then some (z3b h l,r,(id,true)::u) else none
    | false=>none)
  | _=>none
 | .own p t, .hds id st off len::r,u=>
  match H[id]? with
  | some (.arr p' st' t' l)=>
   (match Nat.beq st' st&&Nat.beq off 0&&imp p p' && !u.has id&& !lend with
    | true=>if h:t' =t then some (z3b h (l.take len),r,(id,true)::u) else none
    | false=>none)
  | _=>none
 | .box s, .ptr id off::r,u=>
  match H[id]? with
  | some (.box cells)=>
   (match Nat.beq off 0 with
    | true=>
     (match ext lend H s cells u with
      | some (x, [],u')=>(match u'.has id with
       | true=>none
       | false=>some (x,r,(id,true)::u'))
      | _=>none)
    | false=>none)
  | _=>none
 | .rbox s, .rptr cells off::r,u=>
  match Nat.beq off 0 with
  | true=>
   (match ext lend H s cells u with
    | some (x, [],u')=>some (x,r,u')
    | _=>none)
  | false=>none
 | .rbox s, .ptr id off::r,u=>
  match H[id]? with
  | some (.box cells)=>
   (match Nat.beq off 0&& !u.moved id with
    | true=>
     (match ext lend H s cells ((id,false)::u) with
      | some (x, [],u')=>some (x,r,u')
      | _=>none)
    | false=>none)
  | _=>none
 | .clo g s, .clo g' caps::r,u=>
  match Nat.beq g g' with
  | true=>
   (match ext lend H s caps u with
    | some (x, [],u')=>some (x,r,u')
    | _=>none)
  | false=>none
 | .agg s, .agg cs::r,u=>
  match ext lend H s cs u with
  | some (x, [],u')=>some (x,r,u')
  | _=>none
 | .pair a b,ds,u=>
  match ext lend H a ds u with
  | some (x,ds',u')=>
   (match ext lend H b ds' u' with
    | some (y,ds'',u'')=>some ((x,y),ds'',u'')
    | none=>none)
  | none=>none
 | .unit,ds,u=>some ((),ds,u)
 | .ref k, .ptr id off::r,u=>
  match (u.boxes H).reverse[k]? with
  | some id' =>(match Nat.beq id id' &&Nat.beq off 0 with
   | true=>some ((),r,u)
   | false=>none)
  | none=>none
 | .skip,_::r,u=>some ((),r,u)
 | .nil, .nilsl::r,u=>some ((),r,u)
 | _,_,_=>none
def emb:(s:Sh)→s.den→z0a→List D×z0a
 | .int k,n,H=>([.int k n],H)
 | .bool,b,H=>([.bool b],H)
 | .str,s,H=>([.str s],H)
 | .tr p t,l,H=>([.sl p t l],H)
 | .own p t,l,H=>([.hd H.length 0],H++ [.arr p 0 t l])
 | .box s,x,H=>let r:=emb s x H;([.ptr r.2.length 0],r.2++ [.box r.1])
 | .rbox s,x,H=>let r:=emb s x H;([.rptr r.1 0],r.2)
 | .clo g s,x,H=>let r:=emb s x H;([.clo g r.1],r.2)
 | .agg s,x,H=>let r:=emb s x H;([.agg r.1],r.2)
 | .pair a b,x,H=>let r:=emb a x.1 H;let q:=emb b x.2 r.2;(r.1++q.1,q.2)
 | .unit,_,H=>([],H)
 | .ref k,_,H=>([.ptr ((z0c 0 H).getD k 0) 0],H)
 | .skip,_,H=>([.undef],H)
 | .nil,_,H=>([.nilsl],H)
def Sh.norefs:Sh→Bool
 | .ref _=>false
 | .box s | .rbox s | .clo _ s | .agg s=>s.norefs
 | .pair a b=>a.norefs&&b.norefs
 | _=>true
def Sh.still:Sh→Bool
 | .own _ _ | .box _=>false
 | .rbox s | .clo _ s | .agg s=>s.still
 | .pair a b=>a.still&&b.still
 | _=>true
end
end Go.Proofs.Ytkphhjdbdnoekaa.Ab
