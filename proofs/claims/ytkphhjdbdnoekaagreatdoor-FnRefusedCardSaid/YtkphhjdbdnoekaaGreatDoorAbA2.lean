import Derived.Test.YtkphhjdbdnoekaaGreatDoorAbA1
namespace Go.Proofs.YtkphhjdbdnoekaaGreatDoor.Ab
open Go
set_option linter.unusedVariables false
set_option linter.unusedSimpArgs false
set_option linter.unnecessarySimpa false
inductive Ek where
 | i | b | s
structure Sig where
 ins:Sh
 inout:List Bool
 out:Sh
 nres:Nat
structure Join where
 ts:List Nat
 sh:Sh
 al:List (Nat×Nat×Nat×Ty):= []
structure LoopA where
 head:Join
 exid:Nat
 out:Join
 ret:Join
structure Guard where
 G:Nat->Prop
 pre:World->Prop
 stable:∀w w' :World,(∀b,G b->w'.heap[b]? =w.heap[b]?)->pre w->pre w'
def z7l:Guard:= {G:=fun _=>False,pre:=fun _=>True,stable:=fun _ _ _ _=>trivial}
structure Ann where
 sig:Nat->Sig
 prim:(f:Nat)->Option ((sig f).ins.den->Option (sig f).out.den)
 ty:Nat->Option Ty
 tz:Nat->Option Ty
 lay:Nat->Option (Nat×Bool)
 fld:Nat->Nat->Option (Nat×Nat×Bool)
 eqt:Nat->Option (List Ek)
 join:Nat->Nat->Option Join
 loop:Nat->Nat->Option LoopA
 fn:Nat->Nat
 pick:Nat->List Nat->Nat
 pickF:Nat->Nat->List Nat->Nat
 gd:Guard
def Ann.at (A:Ann) (f:Nat):Ann:= {A with pick:=A.pickF f}
def Ty.plain:Ty->Bool
 | .sl _=>false | .pair a b=>a.plain&&b.plain | _=>true
def z7z:Nat:=1099511627776
def get (l:List D) (i:Nat):D:=l.getD i .undef
def y0c:Value->D
 | .int k n=> .int k n | .bool b=> .bool b | .string s=> .str s | .slice none 0 0=> .nilsl | _=> .undef
def y2b:Value->D
 | .agg cs=> .agg (cs.toList.map y0c) | v=>y0c v
def opd (env:List D):Operand->D
 | .tmp t=>get env t | .const v=>y2b v | .func f=> .clo f [] | .global _=> .undef
def cellsOf:D->List D
 | .agg cs=>cs | d=> [d]
def z2g:Ty->List D
 | .int k=> [.int k 0] | .bool=> [.bool false] | .str=> [.str ⟨#[]⟩] | .sl _=> [.nilsl] | .pair a b=>z2g a++z2g b
def spl:Nat->List D->List D->List D
 | 0, [],ds=>ds | 0,v::vs,_::ds=>v::spl 0 vs ds | 0,_::_, [] => [] | n+1,vs,d::ds=>d::spl n vs ds | _+1,_, [] => []
def rdL (t:Ty) (l:List t.den) (n:Nat):t.den:=l.getD n t.zero
def y4v (i:Int) (n:Nat):Bool:=decide (0<=i)&&decide (i<(n:Int))
def y8x (x y:Int):Int:=if y >x then y else x
def y8y (x y:Int):Int:=if y<x then y else x
def y3i (x y:ByteArray):Bool:=Op.bytesLess x.toList y.toList
def z7q (x y:ByteArray):Bool:=x.toList==y.toList
def z7w (s:ByteArray):List Int:=s.data.toList.map fun b=>(b.toNat:Int)
def y7s (l:List Int):ByteArray:=⟨(l.map fun n=>UInt8.ofNat n.toNat).toArray⟩
def z2v (ag:Bool) (cs:List D):Option D:=
 match ag with
 | true=>some (.agg cs) | false=>match cs with
  | [d] =>some d | _=>none
def y8t (op:BinOp) (k:IntKind) (x y:Int):Option (Bool×D):=
 match op with
 | .add=>some (true, .int k (k.wrap (x+y))) | .sub=>some (true, .int k (k.wrap (x - y))) | .mul=>some (true, .int k (k.wrap (x*y))) | .quo=>some (!decide (y=0), .int k (k.wrap (x.tdiv y))) | .rem=>some (!decide (y=0), .int k (x.tmod y)) | .and=>some (true, .int k (k.wrap (BitVec.ofInt k.bits x&&&BitVec.ofInt k.bits y).toNat)) | .or=>some (true, .int k (k.wrap (BitVec.ofInt k.bits x ||| BitVec.ofInt k.bits y).toNat)) | .xor=>some (true, .int k (k.wrap (BitVec.ofInt k.bits x^^^BitVec.ofInt k.bits y).toNat)) | .eql=>some (true, .bool (decide (x=y))) | .neq=>some (true, .bool (!decide (x=y))) | .lss=>some (true, .bool (decide (x<y)))
 | .leq=>some (true, .bool (decide (x<=y))) | .gtr=>some (true, .bool (decide (x >y))) | .geq=>some (true, .bool (decide (x>=y))) | _=>none
def y8u (op:BinOp) (x y:ByteArray):Option (Bool×D):=
 match op with
 | .add=>some (decide (x.size+y.size<=140737488355328), .str (x++y)) | .eql=>some (true, .bool (z7q x y)) | .neq=>some (true, .bool (!z7q x y)) | .lss=>some (true, .bool (y3i x y)) | .leq=>some (true, .bool (y3i x y || z7q x y)) | .gtr=>some (true, .bool (!(y3i x y || z7q x y))) | .geq=>some (true, .bool (!y3i x y)) | _=>none
def y0e:List Ek->List D->List D->Option Bool
 | [], [], [] =>some true | .i::ks, .int k x::r, .int k' y::q=>if k=k' then(match y0e ks r q with
  | some b=>some (decide (x=y)&&b) | none=>none) else none
 | .b::ks, .bool x::r, .bool y::q=>(match y0e ks r q with
  | some b=>some ((x==y)&&b) | none=>none)
 | .s::ks, .str x::r, .str y::q=>(match y0e ks r q with
  | some b=>some (z7q x y&&b) | none=>none)
 | _,_,_=>none
def y8s (A:Ann) (xt:Nat) (op:BinOp) (x y:D):Option (Bool×D):=
 match x,y with
 | .int k a, .int k' b=>
  (match op with
   | .shl=>some (decide (0<=b), .int k (k.wrap (a*2^(min b.toNat k.bits)))) | .shr=>some (decide (0<=b), .int k (a.fdiv (2^(min b.toNat k.bits)))) | op=>if k=k' then y8t op k a b else none)
 | .str a, .str b=>y8u op a b | .bool a, .bool b=>
  (match op,A.ty xt with
   | .eql,some .bool=>some (true, .bool (a==b)) | .neq,some .bool=>some (true, .bool (!(a==b))) | _,_=>none)
 | .agg cs, .agg ds=>
  (match A.eqt xt with
   | some ks=>(match op,y0e ks cs ds with
    | .eql,some b=>some (true, .bool b) | .neq,some b=>some (true, .bool (!b)) | _,_=>none)
   | none=>none)
 | _,_=>none
def unD (op:UnOp) (x:D):Option (Bool×D):=
 match op,x with
 | .neg, .int k n=>some (true, .int k (k.wrap (0 - n))) | .not, .bool b=>some (true, .bool (!b)) | _,_=>none
def z6e (H:z0a) (e:Ty) (x:D):Option (Bool×List e.den):=
 match x with
 | .nilsl=>some (true, []) | .sl p t l=>if h:t=e then some (p,z2r h l) else none
 | .hd id st=>(match H[id]? with
  | some (.arr p st' t l)=>if st' =st then(if h:t=e then some (p,z2r h l) else none) else none
  | _=>none)
 | .hds id st off len=>(match H[id]? with
  | some (.arr p st' t l)=>if st' =st then(if h:t=e then some (p,z2r h ((l.drop off).take len)) else none) else none
  | _=>none)
 | .str s=>if h:Ty.int .u8=e then some (true,z2r h (z7w s)) else none
 | _=>none
def y6t (H:z0a) (t:Option Ty) (x:D):Option Int:=
 match t,x with
 | some (.sl _), .nilsl=>some 0 | some .str, .str s=>some (s.size:Int) | some (.sl _), .sl _ _ l=>some (l.length:Int) | some (.sl _), .hd id st=>(match H[id]? with
  | some (.arr _ st' _ l)=>if st' =st then some (l.length:Int) else none
  | _=>none)
 | some (.sl _), .hds id st _ len=>(match H[id]? with
  | some (.arr _ st' _ _)=>if st' =st then some (len:Int) else none
  | _=>none)
 | _,_=>none
def z9j (H:z0a) (n:Nat) (ag:Bool) (x:D):Option D:=
 match x with
 | .ptr id off=>(match H[id]? with
  | some (.box cells)=>if off+n<=cells.length then z2v ag ((cells.drop off).take n) else none
  | _=>none)
 | .rptr cells off=>if off+n<=cells.length then z2v ag ((cells.drop off).take n) else none
 | .eptr id st i c=>(match H[id]? with
  | some (.arr p st' t l)=>if st' =st then(if c+n<=t.size then z2v ag (((y1t p t (rdL t l i)).drop c).take n) else none) else none
  | _=>none)
 | _=>none
def z1j (H:z0a) (e:Ty) (x:D) (i:Int):Option (Bool×D):=
 match x with
 | .nilsl=>some (false, .undef) | .sl p t l=>(match Nat.beq e.size t.size with
  | true=>some (y4v i l.length, .rptr (y1t p t (rdL t l i.toNat)) 0) | false=>none)
 | .hd id st=>(match H[id]? with
  | some (.arr _ st' t l)=>(match Nat.beq st' st&&Nat.beq e.size t.size with
   | true=>some (y4v i l.length, .eptr id st i.toNat 0) | false=>none)
  | _=>none)
 | .hds id st off len=>(match H[id]? with
  | some (.arr _ st' t _)=>(match Nat.beq st' st&&Nat.beq e.size t.size with
   | true=>some (y4v i len, .eptr id st (off+i.toNat) 0) | false=>none)
  | _=>none)
 | _=>none
def okD:D->Bool
 | .undef=>false | _=>true
def y2i (A:Ann) (t:Nat):List (Nat×D)->List D->Option (List D)
 | [],cs=>some cs | (i,x)::r,cs=>
  match A.fld t i with
  | some (off,n,_)=>if(cellsOf x).length=n/\off+n<=cs.length/\okD x=true then y2i A t r (spl off (cellsOf x) cs) else none
  | none=>none
def y6i:Option D->Option (Option Int)
 | none=>some none | some (.int _ n)=>some (some n) | some _=>none
def nev (A:Ann) (env:List D) (H:z0a) (op:Op):Option (Bool×D):=
 match op with
 | .move x | .assign x=>some (true,opd env x) | .pick c a b=>(match opd env c with
  | .bool true=>some (true,opd env a) | .bool false=>some (true,opd env b) | _=>none)
 | .binOp op xt x y _=>y8s A xt op (opd env x) (opd env y) | .unOp op _ x=>unD op (opd env x) | .convert src dst x=>(match A.ty src,A.ty dst,opd env x with
  | some _,some (.int k), .int _ n=>some (true, .int k (k.wrap n)) | some _,some .str, .str s=>some (true, .str s) | some (.sl (.int .u8)),some .str,d=>(match d with
   | .str _=>none | d=>(match z6e H (.int .u8) d with
    | some (_,l)=>some (true, .str (y7s l)) | none=>none))
  | _,_,_=>none)
 | .fieldAddr s x f=>(match A.fld s f with
  | some (o,_,_)=>(match opd env x with
   | .ptr id off=>(match H[id]? with
    | some (.box _)=>some (true, .ptr id (off+o)) | _=>none)
   | .eptr id st i c=>(match H[id]? with
    | some (.arr _ st' _ _)=>if st' =st then some (true, .eptr id st i (c+o)) else none
    | _=>none)
   | .rptr cells off=>some (true, .rptr cells (off+o)) | _=>none)
  | none=>none)
 | .field s x f=>(match A.fld s f,opd env x with
  | some (o,n,ag), .agg cs=>if o+n<=cs.length then(match z2v ag ((cs.drop o).take n) with
   | some d=>some (true,d) | none=>none) else none
  | _,_=>none)
 | .indexAddr t x i=>(match A.ty t,opd env i with
  | some (.sl e), .int _ n=>z1j H e (opd env x) n | _,_=>none)
 | .index t x i=>(match A.ty t,opd env x,opd env i with
  | some .str, .str s, .int _ n=>some (y4v n s.size, .int .u8 ((s.data.toList.getD n.toNat 0).toNat:Int)) | _,_,_=>none)
 | .load t a=>(match A.lay t with
  | some (n,ag)=>(match z9j H n ag (opd env a) with
   | some d=>some (true,d) | none=>none)
  | none=>none)
 | .extract x i=>(match opd env x with
  | .tup vs=>if i<vs.length then some (true,get vs i) else none
  | _=>none)
 | .nilCheck x=>(match opd env x with
  | .ptr id off=>(match H[id]? with
   | some (.box _)=>some (true, .ptr id off) | _=>none)
  | .rptr cs off=>some (true, .rptr cs off) | _=>none)
 | .slice t x lo hi none=>(match y6i (lo.map (opd env)),y6i (hi.map (opd env)) with
  | some lo,some hi=>
   (match A.ty t,opd env x with
    | some .str, .str s=>
     let l:Int:=lo.getD 0
     let h:Int:=hi.getD (s.size:Int)
     some (decide (0<=l)&&decide (l<=h)&&decide (h<=(s.size:Int)), .str (s.extract l.toNat h.toNat))
    | some (.sl e), .sl p t xs=>
     let l:Int:=lo.getD 0
     let h:Int:=hi.getD (xs.length:Int)
     (match Nat.beq e.size t.size with
      | true=>some (decide (0<=l)&&decide (l<=h)&&decide (h<=(xs.length:Int)), .sl p t ((xs.take h.toNat).drop l.toNat)) | false=>none)
    | some (.sl e), .hd id st=>(match H[id]? with
     | some (.arr _ st' t xs)=>
      let l:Int:=lo.getD 0
      let h:Int:=hi.getD (xs.length:Int)
      (match Nat.beq st' st&&Nat.beq e.size t.size with
       | true=>some (decide (0<=l)&&decide (l<=h)&&decide (h<=(xs.length:Int)), .hds id st l.toNat (h.toNat - l.toNat)) | false=>none)
     | _=>none)
    | some (.sl _), .nilsl=>some (decide (0<=lo.getD 0)&&decide (lo.getD 0<=hi.getD 0)&&decide (hi.getD 0<=0), .nilsl) | _,_=>none)
  | _,_=>none)
 | .build t parts=>(match A.tz t,A.fld t 0 with
  | some ty,some _=>(match y2i A t (parts.toList.map fun p=>(p.1,opd env p.2)) (z2g ty) with
   | some cs=>some (true, .agg cs) | none=>none)
  | _,_=>none)
 | .makeFunc (.func g) first caps=>(match first.toList with
  | [] =>some (true, .clo g (caps.toList.map (opd env))) | _=>none)
 | .call c=>(match c.callee,c.args.toList with
  | .builtin .len, [x] =>(match c.argTypes.toList with
   | t::_=>(match y6t H (A.ty t) (opd env x) with
    | some n=>some (true, .int .i64 n) | none=>none)
   | [] =>none)
  | .builtin .cap, [x] =>(match c.argTypes.toList with
   | t::_=>(match A.ty t,opd env x with
    | some (.sl _), .nilsl=>some (true, .int .i64 0) | _,_=>none)
   | [] =>none)
  | .builtin .max, [x,y] =>(match opd env x,opd env y with
   | .int k a, .int k' b=>if k=k' then some (true, .int k (y8x a b)) else none
   | _,_=>none)
  | .builtin .min, [x,y] =>(match opd env x,opd env y with
   | .int k a, .int k' b=>if k=k' then some (true, .int k (y8y a b)) else none
   | _,_=>none)
  | _,_=>none)
 | _=>none
def z8a:D->Bool
 | .undef | .agg _ | .tup _=>false | _=>true
def y2n:Option Ty->Bool
 | some (.sl _) | some .str=>true | _=>false
def kill (H:z0a):List Nat->z0a
 | [] =>H | id::r=>kill (H.set id .dead) r
def y3c:Operand->Operand->Bool
 | .tmp a, .tmp b=>Nat.beq a b | .const (.int _ a), .const (.int _ b)=>decide (a=b) | _,_=>false
def z3h (H:z0a) (e:Ty):List (Nat×D)->Bool->List e.den->List Nat->Option (Bool×List e.den×List Nat)
 | [],p,l,f=>some (p,l,f) | (i,x)::r,p,l,f=>
  match z1m H e (cellsOf x) with
  | some (y, [],q,g)=>if i<l.length then z3h H e r (p&&q) (l.set i y) (f++g) else none
  | _=>none
def eff (A:Ann) (env:List D) (H:z0a) (op:Op):Option (Bool×D×z0a):=
 match op with
 | .alloc t=>(match A.tz t with
  | some ty=>some (true, .ptr H.length 0,H++ [.box (z2g ty)]) | none=>(match A.lay t with
   | some (1,false)=>some (true, .ptr H.length 0,H++ [.box [.undef]]) | _=>none))
 | .box _ x=>(match okD (opd env x) with
  | true=>some (true, .ptr H.length 0,H++ [.box (cellsOf (opd env x))]) | false=>none)
 | .store t a x=>(match A.lay t with
  | some (n,_)=>
   if(cellsOf (opd env x)).length=n/\(cellsOf (opd env x)).all z8a=true then
    (match opd env a with
     | .ptr id off=>(match H[id]? with
      | some (.box cells)=>if off+n<=cells.length then some (true, .undef,H.set id (.box (spl off (cellsOf (opd env x)) cells))) else none
      | _=>none)
     | .eptr id st i c=>(match H[id]? with
      | some (.arr p st' ty l)=>
       if st' =st/\c+n<=ty.size then
        (match z1m H ty (spl c (cellsOf (opd env x)) (y1t p ty (rdL ty l i))) with
         | some (y, [],q,f)=>(match f.any (Nat.beq id) with
          | true=>none | false=>some (true, .undef,kill (H.set id (.arr (p&&q) st ty (l.set i y))) f))
         | _=>none)
       else none
      | _=>none)
     | _=>none)
   else none
  | none=>none)
 | .buildSlice t len parts=>(match A.ty t with
  | some (.sl e)=>
   if len<=1024 then
    (match z3h H e (parts.toList.map fun p=>(p.1,opd env p.2)) true (List.replicate len e.zero) [] with
     | some (p,l,f)=>some (true, .hd H.length 0,kill H f++ [.arr p 0 e l]) | none=>none)
   else none
  | _=>none)
 | .makeSlice t l c=>(match A.ty t,opd env l,y3c l c with
  | some (.sl e), .int _ n,true=>some (decide (0<=n)&&decide (n<=1099511627776), .hd H.length 0,H++ [.arr true 0 e (List.replicate n.toNat e.zero)]) | _,_,_=>none)
 | .call c=>(match c.callee,c.args.toList,c.argTypes.toList with
  | .builtin .append, [s,x], [t,t2] =>(match A.ty t,y2n (A.ty t2) with
   | some (.sl e),true=>(match z6e H e (opd env x) with
    | some (q,xs)=>(match opd env s with
     | .nilsl=>some (Nat.ble xs.length z7z, .hd H.length 0,H++ [.arr (q || e.plain) 0 e xs]) | .hd id st=>(match H[id]? with
      | some (.arr p st' t' l)=>
       if h:t' =e then
        (if st' =st then some (Nat.ble (l.length+xs.length) z7z, .hd id (st+1),H.set id (.arr (p&&(q || e.plain)) (st+1) e (z2r h l++xs))) else none)
       else none
      | _=>none)
     | _=>none)
    | none=>none)
   | some (.sl e),false=>(match A.ty t2,opd env s,opd env x with
    | some (.int _), .nilsl, .int _ n=>some (decide (1<=n)&&decide (n<=1099511627776), .hd H.length 0,H++ [.arr true 0 e (List.replicate n.toNat e.zero)]) | _,_,_=>none)
   | _,_=>none)
  | .builtin .clear, [x], [t] =>(match A.ty t,opd env x with
   | some (.sl e), .hds id st off len=>(match H[id]? with
    | some (.arr p st' t' l)=>
     if t' =e/\st' =st then some (true, .tup [],H.set id (.arr p st t' (l.take off++List.replicate len t'.zero++l.drop (off+len)))) else none
    | _=>none)
   | _,_=>none)
  | _,_,_=>none)
 | _=>none
end Go.Proofs.YtkphhjdbdnoekaaGreatDoor.Ab
