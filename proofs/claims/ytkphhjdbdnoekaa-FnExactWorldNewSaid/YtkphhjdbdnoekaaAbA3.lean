import Derived.Test.YtkphhjdbdnoekaaAbA2
namespace Go.Proofs.Ytkphhjdbdnoekaa.Ab
open Go
set_option linter.unusedVariables false
set_option linter.unusedSimpArgs false
set_option linter.unnecessarySimpa false
section
inductive Ex where
 | normal
 | exit (id:Nat)
 | ret
structure Lvl (A:Ann) where
 call:(f:Nat)→(A.sig f).ins.den→Option (A.sig f).out.den
def Lvl.at {A:Ann} (V:Lvl A) (f:Nat):Lvl (A.at f):= {call:=V.call}
def z1b (env:List D) (dst:Option Nat) (d:D):List D:=
 match dst with
 | some t=>env.set t d
 | none=>env
def y4p:List D→D
 | [d] =>d
 | ds=> .tup ds
def Sh.perm:Sh→Bool
 | .tr p _ | .own p _=>p
 | .box s | .clo _ s | .agg s=>s.perm
 | .rbox _=>false
 | .pair a b=>a.perm&&b.perm
 | _=>true
def Used.ids:Used→List Nat
 | [] => []
 | (id,true)::u=>id::Used.ids u
 | (_,false)::u=>Used.ids u
def wb1 (H0:z0a) (ids:List Nat) (c d:D) (H:z0a):Option (Option (Nat×Blk×Nat)):=
 match c,d with
 | .nilsl,_=>some none
 | .ptr id 0, .ptr id' 0=>(match H0[id]?,H[id']?,ids.any (Nat.beq id)&&Nat.ble H0.length id' with
  | some (.box _),some (.box cells),true=>some (some (id, .box cells,id'))
  | _,_,_=>none)
 | .hd id st, .hd id' st' =>(match H0[id]?,H[id']?,ids.any (Nat.beq id)&&Nat.ble H0.length id' with
  | some (.arr _ st0 t0 _),some (.arr q st1 t l),true=>if st0=st∧st1=st' ∧t0=t then some (some (id, .arr q st t l,id')) else none
  | _,_,_=>none)
 | _,_=>none
mutual
def y3a (H0:z0a) (ids:List Nat) (H:z0a):D→D→Option (List (Nat×Blk×Nat))
 | .agg cs, .agg ds=>z1o H0 ids H cs ds
 | .clo _ cs, .clo _ ds=>z1o H0 ids H cs ds
 | .rptr cs 0, .rptr ds 0=>z1o H0 ids H cs ds
 | _, .undef=>some []
 | .int _ _,_ | .bool _,_ | .str _,_ | .sl _ _ _,_=>some []
 | c,d=>(match wb1 H0 ids c d H with
  | some (some e)=>some [e]
  | some none=>some []
  | none=>none)
def z1o (H0:z0a) (ids:List Nat) (H:z0a):List D→List D→Option (List (Nat×Blk×Nat))
 | [], [] =>some []
 | c::cs,d::ds=>(match y3a H0 ids H c d,z1o H0 ids H cs ds with
  | some q,some r=>(match q.any (fun e=>r.any (fun x=>Nat.beq e.1 x.1)) with
   | true=>none
   | false=>some (q++r))
  | _,_=>none)
 | _,_=>none
end
def z3o:List (Nat×Blk×Nat)→z0a→z0a
 | [],H=>H
 | e::r,H=>z3o r (H.set e.1 e.2.1)
def y1h (r:List (Nat×Blk×Nat)) (H:z0a):z0a:=kill (z3o r H) (r.map (·.2.2))
def keep:List Bool→List D→List D
 | true::bs,d::ds=>d::keep bs ds
 | false::bs,_::ds=>keep bs ds
 | _,_=> []
def z7k:(s:Sh)→s.den→List D
 | .int k,n=> [.int k n]
 | .bool,b=> [.bool b]
 | .str,s=> [.str s]
 | .tr p t,l=> [.sl p t l]
 | .own p t,l=> [.sl p t l]
 | .agg s,x=> [.agg (z7k s x)]
 | .pair a b,x=>z7k a x.1++z7k b x.2
 | .box _,_ | .rbox _,_ | .clo _ _,_ | .unit,_ | .ref _,_ | .skip,_ | .nil,_=> []
def z3f:Sh→Bool
 | .int _ | .bool | .str | .tr _ _ | .own _ _ | .unit=>true
 | .agg s=>z3f s
 | .pair a b=>z3f a&&z3f b
 | _=>false
def z6s:Sh→Bool
 | .int _ | .bool | .str | .unit=>true
 | .pair a b=>z6s a&&z6s b
 | _=>false
def callee (env:List D) (c:Call):Option (Nat×List D):=
 match c.callee with
 | .value f=>(match opd env f with
  | .clo g caps=>some (g,c.args.toList.map (opd env)++caps)
  | _=>none)
 | _=>none
def y7n:List D→List Nat
 | [] => []
 | .clo g _::r=>g::y7n r
 | _::r=>y7n r
def z0q (A:Ann) (env:List D) (c:Call):Option (Nat×List D):=
 match callee env c with
 | some (g,ds)=>(match Nat.beq (A.fn (A.pick g (y7n ds))) g with
  | true=>some (A.pick g (y7n ds),ds)
  | false=>none)
 | none=>none
def z4z (A:Ann) (V:Lvl A) (R:Type) (f:Nat) (ds:List D) (H:z0a) (K:D→z0a→Option R):Option R:=
 match ext true H (A.sig f).ins ds [] with
 | some (x, [],u)=>
  (match ((A.sig f).out.perm || !u.lent)&&(A.sig f).out.norefs with
   | true=>(V.call f x).bind fun y=>
    (match emb (A.sig f).out y (kill H u.ids) with
     | (rs,H2)=>(match z1o H u.ids H2 (keep (A.sig f).inout ds) (rs.drop (A.sig f).nres) with
      | some r=>K (y4p (rs.take (A.sig f).nres)) (y1h r H2)
      | none=>none))
   | false=>none)
 | _=>none
def z8u (A:Ann) (V:Lvl A) (R:Type) (f:Nat) (ds:List D) (H:z0a) (K:D→Option R):Option R:=
 match ext true H (A.sig f).ins ds [] with
 | some (x, [],u)=>
  (match ((A.sig f).out.perm || !u.lent)&&u.ids.isEmpty&&(A.sig f).inout.isEmpty&&z3f (A.sig f).out with
   | true=>(V.call f x).bind fun y=>K (y4p ((z7k (A.sig f).out y).take (A.sig f).nres))
   | false=>none)
 | _=>none
def z4w (R:Type) (ops:List Oper) (o:Oper) (env:List D) (yes no:List D→Option R):Option R:=
 match o.guard with
 | none=>yes env
 | some (j,want)=>
  match (ops[j]?).bind (·.dst) with
  | none=>none
  | some t=>
   match get env t with
   | .bool b=>(match want with
    | true=>cond b (yes (env.set t (.bool true))) (no (env.set t (.bool false)))
    | false=>cond b (no (env.set t (.bool true))) (yes (env.set t (.bool false))))
   | .tup [] =>no env
   | _=>none
def z8b (A:Ann) (env:List D) (H:z0a) (op:Op):Option D:=
 match op with
 | .buildSlice t len parts=>(match A.ty t with
  | some (.sl e)=>
   if len≤1024 then
    (match z3c H e (parts.toList.map fun p=>(p.1,opd env p.2)) true (List.replicate len e.zero) [] with
     | some (p,l, [])=>some (.sl p e l)
     | _=>none)
   else none
  | _=>none)
 | _=>none
def y5o:Operand→Bool
 | .const _=>true
 | _=>false
def y8n:Option Ty→Bool
 | some (.sl (.sl _))=>true
 | _=>false
def y7s (A:Ann) (env:List D) (H:z0a) (op:Op):Option D:=
 match op with
 | .buildSlice t (n+1) parts=>(match (parts.toList.all fun p=>y5o p.2) || y8n (A.ty t) with
  | true=>z8b A env H (.buildSlice t (n+1) parts)
  | false=>none)
 | _=>none
def z3t:List D→List Nat
 | [] => []
 | .hd id _::r=>id::z3t r
 | _::r=>z3t r
def y6d (id st:Nat) (p:Bool) (t:Ty) (l:List t.den):D→D
 | .hd i s=>(match Nat.beq i id&&Nat.beq s st with
  | true=> .sl p t l
  | false=> .hd i s)
 | d=>d
def y6p (id st:Nat) (p:Bool) (t:Ty) (l:List t.den):D→D
 | .agg cs=> .agg (cs.map (y6d id st p t l))
 | d=>y6d id st p t l d
def y3n (id st:Nat) (p:Bool) (t:Ty) (l:List t.den):Blk→Blk
 | .box cs=> .box (cs.map (y6d id st p t l))
 | b=>b
def frz1 (id:Nat) (x:List D×z0a):List D×z0a:=
 match x.2[id]? with
 | some (.arr p st t l)=>(x.1.map (y6p id st p t l),(x.2.set id .dead).map (y3n id st p t l))
 | _=>x
def frz:List Nat→List D×z0a→List D×z0a
 | [],x=>x
 | id::r,x=>frz r (frz1 id x)
def y1e (env:List D) (op:Op):List Nat:=
 match op with
 | .buildSlice _ _ parts=>parts.toList.flatMap fun p=>z3t (cellsOf (opd env p.2))
 | .store _ ad x=>(match opd env ad with
  | .eptr _ _ _ _=>z3t (cellsOf (opd env x))
  | _=> [])
 | _=> []
def y2p (A:Ann) (V:Lvl A) (R:Type) (all:List Oper) (K:List D→z0a→Option R):List Oper→List D→z0a→Option R
 | [],env,H=>K env H
 | o::os,env,H=>
  z4w R all o env
   (fun env=>match nev A env H o.op with
    | some (g,d)=>cond g (y2p A V R all K os (z1b env o.dst d) H) none
    | none=>match y7s A env H o.op with
     | some d=>y2p A V R all K os (z1b env o.dst d) H
     | none=>match eff A (frz (y1e env o.op) (env,H)).1 (frz (y1e env o.op) (env,H)).2 o.op with
      | some (g,d,H')=>cond g (y2p A V R all K os (z1b (frz (y1e env o.op) (env,H)).1 o.dst d) H') none
      | none=>match o.op with
       | .call c=>(match z0q A env c with
        | some (f,ds)=>z4z A V R f ds H fun d H' =>y2p A V R all K os (z1b env o.dst d) H'
        | none=>none)
       | _=>none)
   (fun env=>y2p A V R all K os (z1b env o.dst (.tup [])) H)
def y2o (A:Ann) (V:Lvl A) (R:Type) (all:List Oper) (H:z0a) (K:List D→Option R):List Oper→List D→Option R
 | [],env=>K env
 | o::os,env=>
  z4w R all o env
   (fun env=>match nev A env H o.op with
    | some (g,d)=>cond g (y2o A V R all H K os (z1b env o.dst d)) none
    | none=>match z8b A env H o.op with
     | some d=>y2o A V R all H K os (z1b env o.dst d)
     | none=>match o.op with
      | .call c=>(match z0q A env c with
       | some (f,ds)=>z8u A V R f ds H fun d=>y2o A V R all H K os (z1b env o.dst d)
       | none=>none)
      | _=>none)
   (fun env=>y2o A V R all H K os (z1b env o.dst (.tup [])))
def z3g (env:List D) (H:z0a) (tb off:Nat) (T:Ty):Option (Nat×Nat):=
 match get env tb with
 | .ptr bid o=>(match Nat.beq o 0,H[bid]? with
  | true,some (.box cells)=>(match get cells off with
   | .hd id st=>(match H[id]? with
    | some (.arr _ st' t _)=>if st' =st∧t=T then some (id,st) else none
    | _=>none)
   | _=>none)
  | _,_=>none)
 | _=>none
def y7j (env:List D) (H:z0a):List (Nat×Nat×Nat×Ty)→Bool
 | [] =>true
 | (t,tb,off,T)::r=>(match z3g env H tb off T,get env t with
  | some (id,st), .hd id' st' =>Nat.beq id id' &&Nat.beq st st'
  | _,_=>false)&&y7j env H r
def y3e (H:z0a):List (Nat×Nat×Nat×Ty)→List D→List D
 | [],env=>env
 | (t,tb,off,T)::r,env=>y3e H r (match z3g env H tb off T with
  | some (id,st)=>env.set t (.hd id st)
  | none=>env)
def y1x (j:Join) (env:List D) (H:z0a):Option j.sh.den:=
 match ext false H j.sh (j.ts.map (get env)) [] with
 | some (x, [],_)=>some x
 | _=>none
def z2x (j:Join) (env:List D) (H:z0a):Option j.sh.den:=
 match y7j env H j.al with
 | true=>y1x j env H
 | false=>none
def z2r:List Nat→List D→List D→List D
 | t::ts,d::ds,env=>z2r ts ds (env.set t d)
 | _,_,env=>env
def y1v (j:Join) (n:Nat) (x:j.sh.den):List D×z0a:=
 let r:=emb j.sh x []
 (z2r j.ts r.1 (List.replicate n .undef),r.2)
def z4u (j:Join) (n:Nat) (x:j.sh.den):List D×z0a:=
 (y3e (y1v j n x).2 j.al (y1v j n x).1,(y1v j n x).2)
def z4y (o:Oper):List Nat:=o.op.operands.toList.filterMap fun | .tmp t=>some t | _=>none
def y8s:Op→Bool
 | .move _ | .assign _=>true
 | _=>false
def y7r:Op→Bool
 | .call c=>(match c.callee with
  | .builtin .append=>true
  | _=>false)
 | _=>false
def z0n (o:Oper) (j:Nat):Bool:=o.after.any fun e=>Nat.beq e.on j&&Region.binds .any e
def z5z (ops:List Oper):Bool:=
 (List.range ops.length).all fun i=>match ops[i]? with
  | none=>false
  | some o=>(o.after.all fun e=> !Region.binds .any e || Nat.blt e.on i)&&
   (List.range ops.length).all fun j=>match ops[j]? with
    | none=>false
    | some q=>match q.dst with
     | none=>false
     | some t=>
      (Nat.beq i j || o.dst !=some t)&&
      (!((z4y o).contains t || (match o.guard with
       | some (g,_)=>((ops[g]?).bind (·.dst))==some t
       | none=>false)) || (Nat.blt j i&&z0n o j) || (Nat.blt i j&&z0n q i))
def z5t:List Oper→List D→List D
 | [],env=>env
 | o::os,env=>z5t os (z1b env o.dst .undef)
def z0y:Code→Option Nat
 | .region id _ _=>some id
 | .seq a _=>z0y a
 | .block _ c=>z0y c
 | .loop c=>z0y c
 | _=>none
def z0u {X S:Type} (step:(X→Option S)→X→Option S):Nat→X→Option S
 | 0=>fun _=>none
 | n+1=>step (z0u step n)
def z3u:List Oper→List Nat→List Nat
 | [],acc=>acc
 | o::os,acc=>z3u os (acc++ [o.after.toList.foldl (fun m e=>match Region.binds .any e with
  | true=>(m ||| (1<<<e.on)) ||| acc.getD e.on 0
  | false=>m) 0])
def z4j (ops:List Oper):List Nat:=z3u ops []
def z0i (A:Ann) (o:Oper):Option (Nat×Blk):=
 match o.guard,o.dst,o.op with
 | none,some s, .alloc t=>(match A.tz t with
  | some y=>some (s, .box (z2d y))
  | none=>none)
 | none,some s, .buildSlice t 0 parts=>(match A.ty t,parts.toList with
  | some (.sl e), [] =>some (s, .arr true 0 e [])
  | _,_=>none)
 | _,_,_=>none
def z1m (id:Nat):Blk→D
 | .box _=> .ptr id 0
 | _=> .hd id 0
def z4f (o:Oper):Option Nat:=
 match o.guard,o.op with
 | none, .store _ (.tmp s) _=>some s
 | none, .call c=>(match c.callee,c.args.toList with
  | .builtin .append, [.tmp s,_] =>some s
  | _,_=>none)
 | _,_=>none
def z3v (ops:List Oper) (o:Oper) (s:Nat):Bool:=
 (z4y o).any (Nat.beq s) || (match o.guard with
  | some (g,_)=>((ops[g]?).bind (·.dst))==some s
  | none=>false)
def y5e (A:Ann) (ops:List Oper) (nd:List Nat) (a:Nat):Option Nat:=
 match (ops[a]?).bind (z0i A) with
 | none=>none
 | some (s,_)=>(match (List.range ops.length).find? (fun j=>Nat.blt a j&&(ops[j]?).bind z4f==some s) with
  | none=>none
  | some j=>(match Nat.testBit (nd.getD j 0) a&&(List.range ops.length).all (fun i=>Nat.beq i j || (match ops[i]? with
   | some o=> !z3v ops o s || (Nat.blt j i&&Nat.testBit (nd.getD i 0) j)
   | none=>false)) with
   | true=>some j
   | false=>none))
def z0f (A:Ann) (ops:List Oper):List (Option Nat):=(List.range ops.length).map (y5e A ops (z4j ops))
def z2e (conl:List (Option Nat)) (j:Nat):Option Nat:=(List.range conl.length).find? (fun a=>conl.getD a none==some j)
def y1c (ops:List Oper):Bool:=
 (List.range ops.length).all fun i=>match ops[i]? with
  | none=>false
  | some o=>(o.after.all fun e=> !Region.binds .any e || Nat.blt e.on i)&&
   (List.range ops.length).all fun j=>match ops[j]? with
    | none=>false
    | some q=>match q.dst with
     | none=>true
     | some t=>
      (Nat.beq i j || o.dst !=some t)&&
      (!((z4y o).contains t || (match o.guard with
       | some (g,_)=>((ops[g]?).bind (·.dst))==some t
       | none=>false)) || (Nat.blt j i&&z0n o j) || (Nat.blt i j&&z0n q i))
def z6k:Op→Bool
 | .move _ | .assign _ | .pick _ _ _ | .binOp _ _ _ _ _ | .unOp _ _ _ | .field _ _ _ | .extract _ _ | .index _ _ _=>true
 | _=>false
abbrev Ids:=Option (List Nat)
def y5f:Ids→Ids→Bool
 | some [],_=>true
 | _,some [] =>true
 | some a,some b=>a.all fun i=> !(b.any (Nat.beq i))
 | _,_=>false
def y3o:D→Ids
 | .ptr id _ | .eptr id _ _ _ | .hd id _ | .hds id _ _ _=>some [id]
 | .rptr _ _ | .sl _ _ _ | .nilsl | .str _=>some []
 | _=>none
def z3k (env:List D) (op:Op):Ids:=
 match op with
 | .load _ x | .fieldAddr _ x _ | .indexAddr _ x _ | .nilCheck x=>y3o (opd env x)
 | .slice _ x _ _ _=>y3o (opd env x)
 | .call c=>(match c.callee,c.args.toList with
  | .builtin .len, [x] =>y3o (opd env x)
  | _,_=>none)
 | _=>none
def z2s (env:List D) (op:Op):Ids:=
 match op with
 | .alloc _ | .box _ _ | .makeSlice _ _ _=>some []
 | .buildSlice _ _ parts=>some (parts.toList.flatMap fun p=>z3t (cellsOf (opd env p.2)))
 | .store _ a _=>(match opd env a with
  | .ptr id _=>some [id]
  | _=>none)
 | .call c=>(match c.callee,c.args.toList with
  | .builtin .append, [s,_] =>(match opd env s with
   | .nilsl=>some []
   | .hd id _=>some [id]
   | _=>none)
  | _,_=>none)
 | _=>none
def z2b (A:Ann) (f:Nat) (ds:List D) (H:z0a):Ids:=
 match ext true H (A.sig f).ins ds [] with
 | some (_,_,u)=>some u.ids
 | none=>none
def y0e (n:Nat):Ids→Bool
 | some [id] =>Nat.beq id n
 | _=>false
def z3s (H0:z0a) (m:Nat):List (Nat×Ids×z0a)→z0a
 | [] =>H0
 | e::r=>(match Nat.testBit m e.1 with
  | true=>e.2.2
  | false=>z3s H0 m r)
def z7g (m:Nat) (hs:List (Nat×Ids×z0a)):Bool:=hs.all fun e=>Nat.testBit m e.1
def z7d (m:Nat) (r:Ids) (hs:List (Nat×Ids×z0a)):Bool:=hs.all fun e=>Nat.testBit m e.1 || y5f e.2.1 r
def z7v (m:Nat) (t:Ids) (ms:List (Nat×Ids)):Bool:=ms.all fun e=>Nat.testBit m e.1 || y5f t e.2
structure DCfg where
 all:List Oper
 nd:List Nat
 con:List (Option Nat)
 H0:z0a
def z8p (A:Ann) (V:Lvl A) (R:Type) (G:DCfg) (K:List D→z0a→Option R):List Oper→Nat→List (Nat×Ids×z0a)→List (Nat×Ids)→List D→z0a→Option R
 | [],_,_,_,env,H=>K env H
 | o::os,j,hs,ms,env,H=>
  match G.con.getD j none with
  | some _=>z8p A V R G K os (j+1) hs ms env H
  | none=>
   z4w R G.all o env
    (fun env=>match z6k o.op with
     | true=>(match nev A env [] o.op with
      | some (g,d)=>cond g (z8p A V R G K os (j+1) hs ms (z1b env o.dst d) H) none
      | none=>none)
     | false=>(match z2e G.con j with
      | some a=>(match (G.all[a]?).bind (z0i A),z7g (G.nd.getD j 0) hs with
       | some (s,blk),true=>(match y0e H.length (z2s (env.set s (z1m H.length blk)) o.op),eff A (env.set s (z1m H.length blk)) (H++ [blk]) o.op with
        | true,some (g,d,H')=>cond g (z8p A V R G K os (j+1) ((j,some [],H')::hs) ms (z1b (env.set s (z1m H.length blk)) o.dst d) H') none
        | _,_=>none)
       | _,_=>none)
      | none=>(match nev A env (z3s G.H0 (G.nd.getD j 0) hs) o.op with
       | some (g,d)=>(match z7d (G.nd.getD j 0) (z3k env o.op) hs with
        | true=>cond g (z8p A V R G K os (j+1) hs ((j,z3k env o.op)::ms) (z1b env o.dst d) H) none
        | false=>none)
       | none=>(match z8b A env (z3s G.H0 (G.nd.getD j 0) hs) o.op with
        | some d=>(match z7d (G.nd.getD j 0) none hs with
         | true=>z8p A V R G K os (j+1) hs ((j,none)::ms) (z1b env o.dst d) H
         | false=>none)
        | none=>(match eff A env H o.op with
         | some (g,d,H')=>(match z7g (G.nd.getD j 0) hs&&z7v (G.nd.getD j 0) (z2s env o.op) ms with
          | true=>cond g (z8p A V R G K os (j+1) ((j,z2s env o.op,H')::hs) ms (z1b env o.dst d) H') none
          | false=>none)
         | none=>(match o.op with
          | .call c=>(match z0q A env c with
           | some (f,ds)=>(match (A.sig f).out.still&&(A.sig f).inout.all (fun b=> !b) with
            | true=>(match z7d (G.nd.getD j 0) none hs with
             | true=>z8u A V R f ds (z3s G.H0 (G.nd.getD j 0) hs) fun d=>z8p A V R G K os (j+1) hs ((j,none)::ms) (z1b env o.dst d) H
             | false=>none)
            | false=>(match z7g (G.nd.getD j 0) hs&&z7v (G.nd.getD j 0) (z2b A f ds H) ms with
             | true=>z4z A V R f ds H fun d H' =>z8p A V R G K os (j+1) ((j,z2b A f ds H,H')::hs) ms (z1b env o.dst d) H'
             | false=>none))
           | none=>none)
          | _=>none))))))
    (fun env=>z8p A V R G K os (j+1) hs ms (z1b env o.dst (.tup [])) H)
def z0r (ops:List Oper) (con:List (Option Nat)):List Nat→List D→List D
 | [],env=>env
 | a::r,env=>z0r ops con r (match con.getD a none,(ops[a]?).bind (·.dst) with
  | some _,some s=>env.set s .undef
  | _,_=>env)
def z9x (ops:List Oper) (con:List (Option Nat)) (n:Nat):Bool:=
 (List.range ops.length).all fun a=>match con.getD a none,(ops[a]?).bind (·.dst) with
  | some _,some s=>Nat.blt s n
  | _,_=>true
def regTakes (ops:List Oper) (env:List D) (H:z0a):List Nat:=
 ops.flatMap fun o=>match o.op with
 | .buildSlice _ _ parts=>parts.toList.flatMap fun p=>(match p.2 with
  | .tmp t=>(match ops.find? fun q=>(match q.dst with
   | some u=>Nat.beq u t
   | none=>false) with
   | some q=>(match q.op with
    | .load _ x=>(match opd env x with
     | .ptr id _=>(match H[id]? with
      | some (.box cs)=>z3t cs
      | _=> [])
     | _=> [])
    | _=> [])
   | none=> [])
  | _=> [])
 | _=> []
def y5g (A:Ann) (V:Lvl A) (ops:List Oper) (R:Type) (K:List D→z0a→Option R) (env:List D) (H:z0a):Option R:=
 match y1c ops&&z9x ops (z0f A ops) env.length with
 | true=>z8p A V R ⟨ops,z4j ops,z0f A ops,H⟩ K ops 0 [] [] (z0r ops (z0f A ops) (List.range ops.length) env) H
 | false=>none
def z3l (A:Ann) (V:Lvl A) (fid id:Nat) (ops:List Oper) (draw:Bool) (R:Type) (K:List D→z0a→Option R) (env:List D) (H:z0a):Option R:=
 match A.join fid (2*id+1) with
 | some j=>
  (match z6s j.sh&&z5z ops with
   | true=>(y2o A V j.sh.den ops H (fun env=>z2x j env H) ops env).bind fun x=>
    K (z2r j.ts (z7k j.sh x) (z5t ops env)) H
   | false=>none)
 | none=>
  match draw with
  | false=>y2p A V R ops K ops env H
  | true=>y5g A V ops R K (frz (regTakes ops env H) (env,H)).1 (frz (regTakes ops env H) (env,H)).2
def run (A:Ann) (V:Lvl A) (fid n:Nat):Code→(R:Type)→(Ex→List D→z0a→Option R)→List D→z0a→Option R
 | .skip,_,K,env,H=>K .normal env H
 | .region id ops draw,R,K,env,H=>z3l A V fid id ops.toList draw R (K .normal) env H
 | .seq a b,R,K,env,H=>
  match (z0y b).bind (fun r=>A.join fid (2*r)) with
  | none=>run A V fid n a R (fun e env H=>match e with
   | .normal=>run A V fid n b R K env H
   | .exit i=>K (.exit i) env H
   | .ret=>K .ret env H) env H
  | some j=>(run A V fid n a j.sh.den (fun e env H=>match e with
   | .normal=>z2x j env H
   | _=>none) env H).bind fun x=>run A V fid n b R K (z4u j env.length x).1 (z4u j env.length x).2
 | .cond c a b,R,K,env,H=>
  (match opd env c with
   | .bool t=>cond t (run A V fid n a R K env H) (run A V fid n b R K env H)
   | _=>none)
 | .block id c,R,K,env,H=>run A V fid n c R (fun e env H=>match e with
  | .normal=>K .normal env H
  | .exit i=>(match Nat.beq i id with
   | true=>K .normal env H
   | false=>K (.exit i) env H)
  | .ret=>K .ret env H) env H
 | .loop c,R,K,env,H=>
  (match (z0y c).bind (A.loop fid) with
   | none=>none
   | some l=>(match z2x l.head env H with
    | none=>none
    | some x=>(z0u (S:=l.out.sh.den⊕l.ret.sh.den) (fun again x=>run A V fid n c (l.out.sh.den⊕l.ret.sh.den) (fun e env H=>match e with
     | .normal=>(z2x l.head env H).bind again
     | .exit i=>(match Nat.beq i l.exid with
      | true=>(z2x l.out env H).map .inl
      | false=>none)
     | .ret=>(z2x l.ret env H).map .inr) (z4u l.head env.length x).1 (z4u l.head env.length x).2) n x).bind fun r=>match r with
      | .inl y=>K (.exit l.exid) (z4u l.out env.length y).1 (z4u l.out env.length y).2
      | .inr z=>K .ret (z4u l.ret env.length z).1 (z4u l.ret env.length z).2))
 | .exit id,_,K,env,H=>K (.exit id) env H
 | .ret,_,K,env,H=>K .ret env H
 | _,_,_,_,_=>none
def y3c (A:Ann) (env:List D) (H:z0a):List ResultVar→Option (List D)
 | [] =>some []
 | .tmp t::r=>(match y3c A env H r with
  | some ds=>some (get env t::ds)
  | none=>none)
 | .cell a t::r=>(match A.lay t with
  | some (n,ag)=>(match z9b H n ag (get env a),y3c A env H r with
   | some d,some ds=>some (d::ds)
   | _,_=>none)
  | none=>none)
def z0l (bs:List Bool):Code→Bool
 | .region _ ops _=>ops.toList.all fun o=>match o.dst with
  | some t=> !(bs.getD t false)
  | none=>true
 | .seq a b=>z0l bs a&&z0l bs b
 | .cond _ a b=>z0l bs a&&z0l bs b
 | .block _ c=>z0l bs c
 | .loop c=>z0l bs c
 | _=>true
def y4c (bs:List Bool) (n:Nat) (c:Code):Bool:=
 match bs with
 | [] =>true
 | _=>Nat.ble bs.length n&&z0l bs c
def body (A:Ann) (V:Lvl A) (n f:Nat) (fn:Func) (x:(A.sig f).ins.den):Option (A.sig f).out.den:=
 match fn.body with
 | none=>none
 | some c=>
  let r:=emb (A.sig f).ins x []
  match y4c (A.sig f).inout r.1.length c with
  | false=>none
  | true=>run (A.at f) (V.at f) f n c (A.sig f).out.den (fun e env H=>match e with
   | .exit _=>none
   | _=>(match y3c A env H fn.results.toList with
    | some rs=>(match Nat.beq rs.length (A.sig f).nres,ext false H (A.sig f).out (rs++keep (A.sig f).inout env) [] with
     | true,some (y, [],_)=>some y
     | _,_=>none)
    | none=>none)) (r.1++List.replicate (fn.ntmps - r.1.length) .undef) r.2
def lvl (P:Program) (A:Ann):Nat→Lvl A
 | 0=> {call:=fun _ _=>none}
 | k+1=> {
  call:=fun f x=>match A.prim f with
   | some F=>F x
   | none=>match P.funcs[A.fn f]? with
    | some fn=>body A (lvl P A k) k f fn x
    | none=>none}
end
end Go.Proofs.Ytkphhjdbdnoekaa.Ab
