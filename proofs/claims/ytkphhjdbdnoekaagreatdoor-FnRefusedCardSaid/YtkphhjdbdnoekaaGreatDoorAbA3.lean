import Derived.Test.YtkphhjdbdnoekaaGreatDoorAbA2
namespace Go.Proofs.YtkphhjdbdnoekaaGreatDoor.Ab
open Go
set_option linter.unusedVariables false
set_option linter.unusedSimpArgs false
set_option linter.unnecessarySimpa false
inductive Ex where
 | normal | exit (id:Nat) | ret
structure Lvl (A:Ann) where
 call:(f:Nat)->(A.sig f).ins.den->Option (A.sig f).out.den
def Lvl.at {A:Ann} (V:Lvl A) (f:Nat):Lvl (A.at f):= {call:=V.call}
def z1f (env:List D) (dst:Option Nat) (d:D):List D:=
 match dst with
 | some t=>env.set t d | none=>env
def y5a:List D->D
 | [d] =>d | ds=> .tup ds
def Sh.perm:Sh->Bool
 | .tr p _ | .own p _=>p | .box s | .clo _ s | .agg s=>s.perm | .rbox _=>false | .pair a b=>a.perm&&b.perm | _=>true
def Used.ids:Used->List Nat
 | [] => [] | (id,true)::u=>id::Used.ids u | (_,false)::u=>Used.ids u
def wb1 (H0:z0a) (ids:List Nat) (c d:D) (H:z0a):Option (Option (Nat×Blk×Nat)):=
 match c,d with
 | .nilsl,_=>some none | .ptr id 0, .ptr id' 0=>(match H0[id]?,H[id']?,ids.any (Nat.beq id)&&Nat.ble H0.length id' with
  | some (.box _),some (.box cells),true=>some (some (id, .box cells,id')) | _,_,_=>none)
 | .hd id st, .hd id' st' =>(match H0[id]?,H[id']?,ids.any (Nat.beq id)&&Nat.ble H0.length id' with
  | some (.arr _ st0 t0 _),some (.arr q st1 t l),true=>if st0=st/\st1=st' /\t0=t then some (some (id, .arr q st t l,id')) else none
  | _,_,_=>none)
 | _,_=>none
mutual
def y3m (H0:z0a) (ids:List Nat) (H:z0a):D->D->Option (List (Nat×Blk×Nat))
 | .agg cs, .agg ds=>z1r H0 ids H cs ds | .clo _ cs, .clo _ ds=>z1r H0 ids H cs ds | .rptr cs 0, .rptr ds 0=>z1r H0 ids H cs ds | _, .undef=>some [] | .int _ _,_ | .bool _,_ | .str _,_ | .sl _ _ _,_=>some [] | c,d=>(match wb1 H0 ids c d H with
  | some (some e)=>some [e] | some none=>some [] | none=>none)
def z1r (H0:z0a) (ids:List Nat) (H:z0a):List D->List D->Option (List (Nat×Blk×Nat))
 | [], [] =>some [] | c::cs,d::ds=>(match y3m H0 ids H c d,z1r H0 ids H cs ds with
  | some q,some r=>(match q.any (fun e=>r.any (fun x=>Nat.beq e.1 x.1)) with
   | true=>none | false=>some (q++r))
  | _,_=>none)
 | _,_=>none
end
def z3t:List (Nat×Blk×Nat)->z0a->z0a
 | [],H=>H | e::r,H=>z3t r (H.set e.1 e.2.1)
def y1r (r:List (Nat×Blk×Nat)) (H:z0a):z0a:=kill (z3t r H) (r.map (·.2.2))
def keep:List Bool->List D->List D
 | true::bs,d::ds=>d::keep bs ds | false::bs,_::ds=>keep bs ds | _,_=> []
def z7s:(s:Sh)->s.den->List D
 | .int k,n=> [.int k n] | .bool,b=> [.bool b] | .str,s=> [.str s] | .tr p t,l=> [.sl p t l] | .own p t,l=> [.sl p t l] | .agg s,x=> [.agg (z7s s x)] | .pair a b,x=>z7s a x.1++z7s b x.2 | .box _,_ | .rbox _,_ | .clo _ _,_ | .unit,_ | .ref _,_ | .skip,_ | .nil,_=> []
def z3j:Sh->Bool
 | .int _ | .bool | .str | .tr _ _ | .own _ _ | .unit=>true | .agg s=>z3j s | .pair a b=>z3j a&&z3j b | _=>false
def z6y:Sh->Bool
 | .int _ | .bool | .str | .unit=>true | .pair a b=>z6y a&&z6y b | _=>false
def callee (env:List D) (c:Call):Option (Nat×List D):=
 match c.callee with
 | .value f=>(match opd env f with
  | .clo g caps=>some (g,c.args.toList.map (opd env)++caps) | _=>none)
 | _=>none
def y8e:List D->List Nat
 | [] => [] | .clo g _::r=>g::y8e r | _::r=>y8e r
def z0s (A:Ann) (env:List D) (c:Call):Option (Nat×List D):=
 match callee env c with
 | some (g,ds)=>(match Nat.beq (A.fn (A.pick g (y8e ds))) g with
  | true=>some (A.pick g (y8e ds),ds) | false=>none)
 | none=>none
def z5e (A:Ann) (V:Lvl A) (R:Type) (f:Nat) (ds:List D) (H:z0a) (K:D->z0a->Option R):Option R:=
 match ext true H (A.sig f).ins ds [] with
 | some (x, [],u)=>
  (match ((A.sig f).out.perm || !u.lent)&&(A.sig f).out.norefs with
   | true=>(V.call f x).bind fun y=>
    (match emb (A.sig f).out y (kill H u.ids) with
     | (rs,H2)=>(match z1r H u.ids H2 (keep (A.sig f).inout ds) (rs.drop (A.sig f).nres) with
      | some r=>K (y5a (rs.take (A.sig f).nres)) (y1r r H2) | none=>none))
   | false=>none)
 | _=>none
def z9e (A:Ann) (V:Lvl A) (R:Type) (f:Nat) (ds:List D) (H:z0a) (K:D->Option R):Option R:=
 match ext true H (A.sig f).ins ds [] with
 | some (x, [],u)=>
  (match ((A.sig f).out.perm || !u.lent)&&u.ids.isEmpty&&(A.sig f).inout.isEmpty&&z3j (A.sig f).out with
   | true=>(V.call f x).bind fun y=>K (y5a ((z7s (A.sig f).out y).take (A.sig f).nres))
   | false=>none)
 | _=>none
def z5b (R:Type) (ops:List Oper) (o:Oper) (env:List D) (yes no:List D->Option R):Option R:=
 match o.guard with
 | none=>yes env | some (j,want)=>
  match (ops[j]?).bind (·.dst) with
  | none=>none | some t=>
   match get env t with
   | .bool b=>(match want with
    | true=>cond b (yes (env.set t (.bool true))) (no (env.set t (.bool false))) | false=>cond b (no (env.set t (.bool true))) (yes (env.set t (.bool false))))
   | .tup [] =>no env | _=>none
def z8l (A:Ann) (env:List D) (H:z0a) (op:Op):Option D:=
 match op with
 | .buildSlice t len parts=>(match A.ty t with
  | some (.sl e)=>
   if len<=1024 then
    (match z3h H e (parts.toList.map fun p=>(p.1,opd env p.2)) true (List.replicate len e.zero) [] with
     | some (p,l, [])=>some (.sl p e l) | _=>none)
   else none
  | _=>none)
 | _=>none
def y6a:Operand->Bool
 | .const _=>true | _=>false
def y9d:Option Ty->Bool
 | some (.sl (.sl _))=>true | _=>false
def y8k (A:Ann) (env:List D) (H:z0a) (op:Op):Option D:=
 match op with
 | .buildSlice t (n+1) parts=>(match (parts.toList.all fun p=>y6a p.2) || y9d (A.ty t) with
  | true=>z8l A env H (.buildSlice t (n+1) parts) | false=>none)
 | _=>none
def z3y:List D->List Nat
 | [] => [] | .hd id _::r=>id::z3y r | _::r=>z3y r
def y6s (id st:Nat) (p:Bool) (t:Ty) (l:List t.den):D->D
 | .hd i s=>(match Nat.beq i id&&Nat.beq s st with
  | true=> .sl p t l | false=> .hd i s)
 | d=>d
def y7e (id st:Nat) (p:Bool) (t:Ty) (l:List t.den):D->D
 | .agg cs=> .agg (cs.map (y6s id st p t l)) | d=>y6s id st p t l d
def y3y (id st:Nat) (p:Bool) (t:Ty) (l:List t.den):Blk->Blk
 | .box cs=> .box (cs.map (y6s id st p t l)) | b=>b
def frz1 (id:Nat) (x:List D×z0a):List D×z0a:=
 match x.2[id]? with
 | some (.arr p st t l)=>(x.1.map (y7e id st p t l),(x.2.set id .dead).map (y3y id st p t l)) | _=>x
def frz:List Nat->List D×z0a->List D×z0a
 | [],x=>x | id::r,x=>frz r (frz1 id x)
def y1o (env:List D) (op:Op):List Nat:=
 match op with
 | .buildSlice _ _ parts=>parts.toList.flatMap fun p=>z3y (cellsOf (opd env p.2))
 | .store _ ad x=>(match opd env ad with
  | .eptr _ _ _ _=>z3y (cellsOf (opd env x)) | _=> [])
 | _=> []
def y2z (A:Ann) (V:Lvl A) (R:Type) (all:List Oper) (K:List D->z0a->Option R):List Oper->List D->z0a->Option R
 | [],env,H=>K env H | o::os,env,H=>
  z5b R all o env
   (fun env=>match nev A env H o.op with
    | some (g,d)=>cond g (y2z A V R all K os (z1f env o.dst d) H) none | none=>match y8k A env H o.op with
     | some d=>y2z A V R all K os (z1f env o.dst d) H | none=>match eff A (frz (y1o env o.op) (env,H)).1 (frz (y1o env o.op) (env,H)).2 o.op with
      | some (g,d,H')=>cond g (y2z A V R all K os (z1f (frz (y1o env o.op) (env,H)).1 o.dst d) H') none | none=>match o.op with
       | .call c=>(match z0s A env c with
        | some (f,ds)=>z5e A V R f ds H fun d H' =>y2z A V R all K os (z1f env o.dst d) H'
        | none=>none)
       | _=>none)
   (fun env=>y2z A V R all K os (z1f env o.dst (.tup [])) H)
def y2y (A:Ann) (V:Lvl A) (R:Type) (all:List Oper) (H:z0a) (K:List D->Option R):List Oper->List D->Option R
 | [],env=>K env | o::os,env=>
  z5b R all o env
   (fun env=>match nev A env H o.op with
    | some (g,d)=>cond g (y2y A V R all H K os (z1f env o.dst d)) none | none=>match z8l A env H o.op with
     | some d=>y2y A V R all H K os (z1f env o.dst d) | none=>match o.op with
      | .call c=>(match z0s A env c with
       | some (f,ds)=>z9e A V R f ds H fun d=>y2y A V R all H K os (z1f env o.dst d)
       | none=>none)
      | _=>none)
   (fun env=>y2y A V R all H K os (z1f env o.dst (.tup [])))
def z3k (env:List D) (H:z0a) (tb off:Nat) (T:Ty):Option (Nat×Nat):=
 match get env tb with
 | .ptr bid o=>(match Nat.beq o 0,H[bid]? with
  | true,some (.box cells)=>(match get cells off with
   | .hd id st=>(match H[id]? with
    | some (.arr _ st' t _)=>if st' =st/\t=T then some (id,st) else none
    | _=>none)
   | _=>none)
  | _,_=>none)
 | _=>none
def y7z (env:List D) (H:z0a):List (Nat×Nat×Nat×Ty)->Bool
 | [] =>true | (t,tb,off,T)::r=>(match z3k env H tb off T,get env t with
  | some (id,st), .hd id' st' =>Nat.beq id id' &&Nat.beq st st' | _,_=>false)&&y7z env H r
def y3q (H:z0a):List (Nat×Nat×Nat×Ty)->List D->List D
 | [],env=>env | (t,tb,off,T)::r,env=>y3q H r (match z3k env H tb off T with
  | some (id,st)=>env.set t (.hd id st) | none=>env)
def y2g (j:Join) (env:List D) (H:z0a):Option j.sh.den:=
 match ext false H j.sh (j.ts.map (get env)) [] with
 | some (x, [],_)=>some x | _=>none
def z3d (j:Join) (env:List D) (H:z0a):Option j.sh.den:=
 match y7z env H j.al with
 | true=>y2g j env H | false=>none
def z2w:List Nat->List D->List D->List D
 | t::ts,d::ds,env=>z2w ts ds (env.set t d) | _,_,env=>env
def y2e (j:Join) (n:Nat) (x:j.sh.den):List D×z0a:=
 let r:=emb j.sh x []
 (z2w j.ts r.1 (List.replicate n .undef),r.2)
def z4z (j:Join) (n:Nat) (x:j.sh.den):List D×z0a:=
 (y3q (y2e j n x).2 j.al (y2e j n x).1,(y2e j n x).2)
def z5d (o:Oper):List Nat:=o.op.operands.toList.filterMap fun | .tmp t=>some t | _=>none
def y9i:Op->Bool
 | .move _ | .assign _=>true | _=>false
def y8j:Op->Bool
 | .call c=>(match c.callee with
  | .builtin .append=>true | _=>false)
 | _=>false
def z0p (o:Oper) (j:Nat):Bool:=o.after.any fun e=>Nat.beq e.on j&&Region.binds .any e
def z6g (ops:List Oper):Bool:=
 (List.range ops.length).all fun i=>match ops[i]? with
  | none=>false
  | some o=>(o.after.all fun e=> !Region.binds .any e || Nat.blt e.on i)&&
   (List.range ops.length).all fun j=>match ops[j]? with
    | none=>false | some q=>match q.dst with
     | none=>false | some t=>
      (Nat.beq i j || o.dst !=some t)&&
      (!((z5d o).contains t || (match o.guard with
       | some (g,_)=>((ops[g]?).bind (·.dst))==some t | none=>false)) || (Nat.blt j i&&z0p o j) || (Nat.blt i j&&z0p q i))
def z5z:List Oper->List D->List D
 | [],env=>env | o::os,env=>z5z os (z1f env o.dst .undef)
def z1c:Code->Option Nat
 | .region id _ _=>some id | .seq a _=>z1c a | .block _ c=>z1c c | .loop c=>z1c c | _=>none
def z0x {X S:Type} (step:(X->Option S)->X->Option S):Nat->X->Option S
 | 0=>fun _=>none
 | n+1=>step (z0x step n)
def z4a:List Oper->List Nat->List Nat
 | [],acc=>acc | o::os,acc=>z4a os (acc++ [o.after.toList.foldl (fun m e=>match Region.binds .any e with
  | true=>(m ||| (1<<<e.on)) ||| acc.getD e.on 0
  | false=>m) 0])
def z4p (ops:List Oper):List Nat:=z4a ops []
def z0i (A:Ann) (o:Oper):Option (Nat×Blk):=
 match o.guard,o.dst,o.op with
 | none,some s, .alloc t=>(match A.tz t with
  | some y=>some (s, .box (z2g y)) | none=>none)
 | none,some s, .buildSlice t 0 parts=>(match A.ty t,parts.toList with
  | some (.sl e), [] =>some (s, .arr true 0 e []) | _,_=>none)
 | _,_,_=>none
def z1p (id:Nat):Blk->D
 | .box _=> .ptr id 0 | _=> .hd id 0
def z4l (o:Oper):Option Nat:=
 match o.guard,o.op with
 | none, .store _ (.tmp s) _=>some s | none, .call c=>(match c.callee,c.args.toList with
  | .builtin .append, [.tmp s,_] =>some s | _,_=>none)
 | _,_=>none
def z4b (ops:List Oper) (o:Oper) (s:Nat):Bool:=
 (z5d o).any (Nat.beq s) || (match o.guard with
  | some (g,_)=>((ops[g]?).bind (·.dst))==some s | none=>false)
def y5q (A:Ann) (ops:List Oper) (nd:List Nat) (a:Nat):Option Nat:=
 match (ops[a]?).bind (z0i A) with
 | none=>none | some (s,_)=>(match (List.range ops.length).find? (fun j=>Nat.blt a j&&(ops[j]?).bind z4l==some s) with
  | none=>none | some j=>(match Nat.testBit (nd.getD j 0) a&&(List.range ops.length).all (fun i=>Nat.beq i j || (match ops[i]? with
   | some o=> !z4b ops o s || (Nat.blt j i&&Nat.testBit (nd.getD i 0) j)
   | none=>false)) with
   | true=>some j | false=>none))
def z0g (A:Ann) (ops:List Oper):List (Option Nat):=(List.range ops.length).map (y5q A ops (z4p ops))
def z2h (conl:List (Option Nat)) (j:Nat):Option Nat:=(List.range conl.length).find? (fun a=>conl.getD a none==some j)
def y1m (ops:List Oper):Bool:=
 (List.range ops.length).all fun i=>match ops[i]? with
  | none=>false
  | some o=>(o.after.all fun e=> !Region.binds .any e || Nat.blt e.on i)&&
   (List.range ops.length).all fun j=>match ops[j]? with
    | none=>false | some q=>match q.dst with
     | none=>true | some t=>
      (Nat.beq i j || o.dst !=some t)&&
      (!((z5d o).contains t || (match o.guard with
       | some (g,_)=>((ops[g]?).bind (·.dst))==some t | none=>false)) || (Nat.blt j i&&z0p o j) || (Nat.blt i j&&z0p q i))
def z6q:Op->Bool
 | .move _ | .assign _ | .pick _ _ _ | .binOp _ _ _ _ _ | .unOp _ _ _ | .field _ _ _ | .extract _ _ | .index _ _ _=>true | _=>false
abbrev Ids:=Option (List Nat)
def y5r:Ids->Ids->Bool
 | some [],_=>true | _,some [] =>true | some a,some b=>a.all fun i=> !(b.any (Nat.beq i))
 | _,_=>false
def y3z:D->Ids
 | .ptr id _ | .eptr id _ _ _ | .hd id _ | .hds id _ _ _=>some [id] | .rptr _ _ | .sl _ _ _ | .nilsl | .str _=>some [] | _=>none
def z3p (env:List D) (op:Op):Ids:=
 match op with
 | .load _ x | .fieldAddr _ x _ | .indexAddr _ x _ | .nilCheck x=>y3z (opd env x) | .slice _ x _ _ _=>y3z (opd env x) | .call c=>(match c.callee,c.args.toList with
  | .builtin .len, [x] =>y3z (opd env x) | _,_=>none)
 | _=>none
def z2y (env:List D) (op:Op):Ids:=
 match op with
 | .alloc _ | .box _ _ | .makeSlice _ _ _=>some [] | .buildSlice _ _ parts=>some (parts.toList.flatMap fun p=>z3y (cellsOf (opd env p.2))) | .store _ a _=>(match opd env a with
  | .ptr id _=>some [id] | _=>none)
 | .call c=>(match c.callee,c.args.toList with
  | .builtin .append, [s,_] =>(match opd env s with
   | .nilsl=>some [] | .hd id _=>some [id] | _=>none)
  | _,_=>none)
 | _=>none
def z2e (A:Ann) (f:Nat) (ds:List D) (H:z0a):Ids:=
 match ext true H (A.sig f).ins ds [] with
 | some (_,_,u)=>some u.ids | none=>none
def y0o (n:Nat):Ids->Bool
 | some [id] =>Nat.beq id n | _=>false
def z3x (H0:z0a) (m:Nat):List (Nat×Ids×z0a)->z0a
 | [] =>H0 | e::r=>(match Nat.testBit m e.1 with
  | true=>e.2.2 | false=>z3x H0 m r)
def z7n (m:Nat) (hs:List (Nat×Ids×z0a)):Bool:=hs.all fun e=>Nat.testBit m e.1
def z7k (m:Nat) (r:Ids) (hs:List (Nat×Ids×z0a)):Bool:=hs.all fun e=>Nat.testBit m e.1 || y5r e.2.1 r
def z8f (m:Nat) (t:Ids) (ms:List (Nat×Ids)):Bool:=ms.all fun e=>Nat.testBit m e.1 || y5r t e.2
structure DCfg where
 all:List Oper
 nd:List Nat
 con:List (Option Nat)
 H0:z0a
def z8z (A:Ann) (V:Lvl A) (R:Type) (G:DCfg) (K:List D->z0a->Option R):List Oper->Nat->List (Nat×Ids×z0a)->List (Nat×Ids)->List D->z0a->Option R
 | [],_,_,_,env,H=>K env H | o::os,j,hs,ms,env,H=>
  match G.con.getD j none with
  | some _=>z8z A V R G K os (j+1) hs ms env H | none=>
   z5b R G.all o env
    (fun env=>match z6q o.op with
     | true=>(match nev A env [] o.op with
      | some (g,d)=>cond g (z8z A V R G K os (j+1) hs ms (z1f env o.dst d) H) none | none=>none)
     | false=>(match z2h G.con j with
      | some a=>(match (G.all[a]?).bind (z0i A),z7n (G.nd.getD j 0) hs with
       | some (s,blk),true=>(match y0o H.length (z2y (env.set s (z1p H.length blk)) o.op),eff A (env.set s (z1p H.length blk)) (H++ [blk]) o.op with
        | true,some (g,d,H')=>cond g (z8z A V R G K os (j+1) ((j,some [],H')::hs) ms (z1f (env.set s (z1p H.length blk)) o.dst d) H') none | _,_=>none)
       | _,_=>none)
      | none=>(match nev A env (z3x G.H0 (G.nd.getD j 0) hs) o.op with
       | some (g,d)=>(match z7k (G.nd.getD j 0) (z3p env o.op) hs with
        | true=>cond g (z8z A V R G K os (j+1) hs ((j,z3p env o.op)::ms) (z1f env o.dst d) H) none | false=>none)
       | none=>(match z8l A env (z3x G.H0 (G.nd.getD j 0) hs) o.op with
        | some d=>(match z7k (G.nd.getD j 0) none hs with
         | true=>z8z A V R G K os (j+1) hs ((j,none)::ms) (z1f env o.dst d) H | false=>none)
        | none=>(match eff A env H o.op with
         | some (g,d,H')=>(match z7n (G.nd.getD j 0) hs&&z8f (G.nd.getD j 0) (z2y env o.op) ms with
          | true=>cond g (z8z A V R G K os (j+1) ((j,z2y env o.op,H')::hs) ms (z1f env o.dst d) H') none | false=>none)
         | none=>(match o.op with
          | .call c=>(match z0s A env c with
           | some (f,ds)=>(match (A.sig f).out.still&&(A.sig f).inout.all (fun b=> !b) with
            | true=>(match z7k (G.nd.getD j 0) none hs with
             | true=>z9e A V R f ds (z3x G.H0 (G.nd.getD j 0) hs) fun d=>z8z A V R G K os (j+1) hs ((j,none)::ms) (z1f env o.dst d) H
             | false=>none)
            | false=>(match z7n (G.nd.getD j 0) hs&&z8f (G.nd.getD j 0) (z2e A f ds H) ms with
             | true=>z5e A V R f ds H fun d H' =>z8z A V R G K os (j+1) ((j,z2e A f ds H,H')::hs) ms (z1f env o.dst d) H'
             | false=>none))
           | none=>none)
          | _=>none))))))
    (fun env=>z8z A V R G K os (j+1) hs ms (z1f env o.dst (.tup [])) H)
def z0t (ops:List Oper) (con:List (Option Nat)):List Nat->List D->List D
 | [],env=>env | a::r,env=>z0t ops con r (match con.getD a none,(ops[a]?).bind (·.dst) with
  | some _,some s=>env.set s .undef | _,_=>env)
def y0h (ops:List Oper) (con:List (Option Nat)) (n:Nat):Bool:=
 (List.range ops.length).all fun a=>match con.getD a none,(ops[a]?).bind (·.dst) with
  | some _,some s=>Nat.blt s n | _,_=>true
def regTakes (ops:List Oper) (env:List D) (H:z0a):List Nat:=
 ops.flatMap fun o=>match o.op with
 | .buildSlice _ _ parts=>parts.toList.flatMap fun p=>(match p.2 with
  | .tmp t=>(match ops.find? fun q=>(match q.dst with
   | some u=>Nat.beq u t | none=>false) with
   | some q=>(match q.op with
    | .load _ x=>(match opd env x with
     | .ptr id _=>(match H[id]? with
      | some (.box cs)=>z3y cs | _=> [])
     | _=> [])
    | _=> [])
   | none=> [])
  | _=> [])
 | _=> []
def y5s (A:Ann) (V:Lvl A) (ops:List Oper) (R:Type) (K:List D->z0a->Option R) (env:List D) (H:z0a):Option R:=
 match y1m ops&&y0h ops (z0g A ops) env.length with
 | true=>z8z A V R ⟨ops,z4p ops,z0g A ops,H⟩ K ops 0 [] [] (z0t ops (z0g A ops) (List.range ops.length) env) H | false=>none
def z3q (A:Ann) (V:Lvl A) (fid id:Nat) (ops:List Oper) (draw:Bool) (R:Type) (K:List D->z0a->Option R) (env:List D) (H:z0a):Option R:=
 match A.join fid (2*id+1) with
 | some j=>
  (match z6y j.sh&&z6g ops with
   | true=>(y2y A V j.sh.den ops H (fun env=>z3d j env H) ops env).bind fun x=>
    K (z2w j.ts (z7s j.sh x) (z5z ops env)) H
   | false=>none)
 | none=>
  match draw with
  | false=>y2z A V R ops K ops env H | true=>y5s A V ops R K (frz (regTakes ops env H) (env,H)).1 (frz (regTakes ops env H) (env,H)).2
def run (A:Ann) (V:Lvl A) (fid n:Nat):Code->(R:Type)->(Ex->List D->z0a->Option R)->List D->z0a->Option R
 | .skip,_,K,env,H=>K .normal env H | .region id ops draw,R,K,env,H=>z3q A V fid id ops.toList draw R (K .normal) env H | .seq a b,R,K,env,H=>
  match (z1c b).bind (fun r=>A.join fid (2*r)) with
  | none=>run A V fid n a R (fun e env H=>match e with
   | .normal=>run A V fid n b R K env H | .exit i=>K (.exit i) env H | .ret=>K .ret env H) env H
  | some j=>(run A V fid n a j.sh.den (fun e env H=>match e with
   | .normal=>z3d j env H | _=>none) env H).bind fun x=>run A V fid n b R K (z4z j env.length x).1 (z4z j env.length x).2
 | .cond c a b,R,K,env,H=>
  (match opd env c with
   | .bool t=>cond t (run A V fid n a R K env H) (run A V fid n b R K env H) | _=>none)
 | .block id c,R,K,env,H=>run A V fid n c R (fun e env H=>match e with
  | .normal=>K .normal env H | .exit i=>(match Nat.beq i id with
   | true=>K .normal env H | false=>K (.exit i) env H)
  | .ret=>K .ret env H) env H
 | .loop c,R,K,env,H=>
  (match (z1c c).bind (A.loop fid) with
   | none=>none | some l=>(match z3d l.head env H with
    | none=>none | some x=>(z0x (S:=l.out.sh.den⊕l.ret.sh.den) (fun again x=>run A V fid n c (l.out.sh.den⊕l.ret.sh.den) (fun e env H=>match e with
     | .normal=>(z3d l.head env H).bind again | .exit i=>(match Nat.beq i l.exid with
      | true=>(z3d l.out env H).map .inl | false=>none)
     | .ret=>(z3d l.ret env H).map .inr) (z4z l.head env.length x).1 (z4z l.head env.length x).2) n x).bind fun r=>match r with
      | .inl y=>K (.exit l.exid) (z4z l.out env.length y).1 (z4z l.out env.length y).2 | .inr z=>K .ret (z4z l.ret env.length z).1 (z4z l.ret env.length z).2))
 | .exit id,_,K,env,H=>K (.exit id) env H | .ret,_,K,env,H=>K .ret env H | _,_,_,_,_=>none
def y3o (A:Ann) (env:List D) (H:z0a):List ResultVar->Option (List D)
 | [] =>some [] | .tmp t::r=>(match y3o A env H r with
  | some ds=>some (get env t::ds) | none=>none)
 | .cell a t::r=>(match A.lay t with
  | some (n,ag)=>(match z9j H n ag (get env a),y3o A env H r with
   | some d,some ds=>some (d::ds) | _,_=>none)
  | none=>none)
def z0n (bs:List Bool):Code->Bool
 | .region _ ops _=>ops.toList.all fun o=>match o.dst with
  | some t=> !(bs.getD t false) | none=>true
 | .seq a b=>z0n bs a&&z0n bs b | .cond _ a b=>z0n bs a&&z0n bs b | .block _ c=>z0n bs c | .loop c=>z0n bs c | _=>true
def y4o (bs:List Bool) (n:Nat) (c:Code):Bool:=
 match bs with
 | [] =>true | _=>Nat.ble bs.length n&&z0n bs c
def body (A:Ann) (V:Lvl A) (n f:Nat) (fn:Func) (x:(A.sig f).ins.den):Option (A.sig f).out.den:=
 match fn.body with
 | none=>none | some c=>
  let r:=emb (A.sig f).ins x []
  match y4o (A.sig f).inout r.1.length c with
  | false=>none | true=>run (A.at f) (V.at f) f n c (A.sig f).out.den (fun e env H=>match e with
   | .exit _=>none | _=>(match y3o A env H fn.results.toList with
    | some rs=>(match Nat.beq rs.length (A.sig f).nres,ext false H (A.sig f).out (rs++keep (A.sig f).inout env) [] with
     | true,some (y, [],_)=>some y | _,_=>none)
    | none=>none)) (r.1++List.replicate (fn.ntmps - r.1.length) .undef) r.2
def lvl (P:Program) (A:Ann):Nat->Lvl A
 | 0=> {call:=fun _ _=>none}
 | k+1=> {
  call:=fun f x=>match A.prim f with
   | some F=>F x | none=>match P.funcs[A.fn f]? with
    | some fn=>body A (lvl P A k) k f fn x | none=>none}
end Go.Proofs.YtkphhjdbdnoekaaGreatDoor.Ab
