import Derived.Test.YtbkicjpdlchbgaaGreatAbA2
namespace Go.Proofs.YtbkicjpdlchbgaaGreat.Ab
open Go
set_option linter.unusedVariables false
set_option linter.unusedSimpArgs false
set_option linter.unnecessarySimpa false

inductive Ex where
  | normal
  | exit (id : Nat)
  | ret

structure Lvl (A : Ann) where
  call : (f : Nat) → (A.sig f).ins.den → Option (A.sig f).out.den

def putE (env : List D) (dst : Option Nat) (d : D) : List D :=
  match dst with
  | some t => env.set t d
  | none => env

def resD : List D → D
  | [d] => d
  | ds => .tup ds

def Sh.perm : Sh → Bool
  | .tr p _ | .own p _ => p
  | .box s | .clo _ s | .agg s => s.perm
  | .rbox _ => false
  | .pair a b => a.perm && b.perm
  | _ => true

def Used.ids : Used → List Nat
  | [] => []
  | (id, true) :: u => id :: Used.ids u
  | (_, false) :: u => Used.ids u

/-- What comes back behind a call: the block of the caller's, what it holds now, the block that it comes from. -/
def wb1 (H0 : Heap) (ids : List Nat) (c d : D) (H : Heap) : Option (Option (Nat × Blk × Nat)) :=
  match c, d with
  | .nilsl, _ => some none
  | .ptr id 0, .ptr id' 0 => (match H0[id]?, H[id']?, ids.any (Nat.beq id) && Nat.ble H0.length id' with
    | some (.box _), some (.box cells), true => some (some (id, .box cells, id'))
    | _, _, _ => none)
  | .hd id st, .hd id' st' => (match H0[id]?, H[id']?, ids.any (Nat.beq id) && Nat.ble H0.length id' with
    | some (.arr _ st0 t0 _), some (.arr q st1 t l), true => if st0 = st ∧ st1 = st' ∧ t0 = t then some (some (id, .arr q st t l, id')) else none
    | _, _, _ => none)
  | _, _ => none
mutual
def wbOne (H0 : Heap) (ids : List Nat) (H : Heap) : D → D → Option (List (Nat × Blk × Nat))
  | .agg cs, .agg ds => wbAll H0 ids H cs ds
  | .clo _ cs, .clo _ ds => wbAll H0 ids H cs ds
  | .rptr cs 0, .rptr ds 0 => wbAll H0 ids H cs ds
  | _, .undef => some []
  | .int _ _, _ | .bool _, _ | .str _, _ | .sl _ _ _, _ => some []
  | c, d => (match wb1 H0 ids c d H with
    | some (some e) => some [e]
    | some none => some []
    | none => none)
def wbAll (H0 : Heap) (ids : List Nat) (H : Heap) : List D → List D → Option (List (Nat × Blk × Nat))
  | [], [] => some []
  | c :: cs, d :: ds => (match wbOne H0 ids H c d, wbAll H0 ids H cs ds with
    | some q, some r => (match q.any (fun e => r.any (fun x => Nat.beq e.1 x.1)) with
      | true => none
      | false => some (q ++ r))
    | _, _ => none)
  | _, _ => none
end
def wbRev : List (Nat × Blk × Nat) → Heap → Heap
  | [], H => H
  | e :: r, H => wbRev r (H.set e.1 e.2.1)
def wbSet (r : List (Nat × Blk × Nat)) (H : Heap) : Heap := kill (wbRev r H) (r.map (·.2.2))

def keep : List Bool → List D → List D
  | true :: bs, d :: ds => d :: keep bs ds
  | false :: bs, _ :: ds => keep bs ds
  | _, _ => []

/-- What comes back where nothing may be made: rows that are read alone. -/
def embN : (s : Sh) → s.den → List D
  | .int k, n => [.int k n]
  | .bool, b => [.bool b]
  | .str, s => [.str s]
  | .tr p t, l => [.sl p t l]
  | .own p t, l => [.sl p t l]
  | .agg s, x => [.agg (embN s x)]
  | .pair a b, x => embN a x.1 ++ embN b x.2
  | .box _, _ | .rbox _, _ | .clo _ _, _ | .unit, _ | .ref _, _ | .skip, _ | .nil, _ => []

def nshape : Sh → Bool
  | .int _ | .bool | .str | .tr _ _ | .own _ _ | .unit => true
  | .agg s => nshape s
  | .pair a b => nshape a && nshape b
  | _ => false

def sshape : Sh → Bool
  | .int _ | .bool | .str | .unit => true
  | .pair a b => sshape a && sshape b
  | _ => false

def callee (env : List D) (c : Call) : Option (Nat × List D) :=
  match c.callee with
  | .value f => (match opd env f with
    | .clo g caps => some (g, c.args.toList.map (opd env) ++ caps)
    | _ => none)
  | _ => none

/-- The texts among what is handed over. -/
def clos : List D → List Nat
  | [] => []
  | .clo g _ :: r => g :: clos r
  | _ :: r => clos r

/-- The callee, told for the way in which it is called. -/
def calleeI (A : Ann) (env : List D) (c : Call) : Option (Nat × List D) :=
  match callee env c with
  | some (g, ds) => (match Nat.beq (A.fn (A.pick g (clos ds))) g with
    | true => some (A.pick g (clos ds), ds)
    | false => none)
  | none => none

/-- A call: what is handed over is taken out of the heap, what comes back is laid into it. -/
def callE (A : Ann) (V : Lvl A) (R : Type) (f : Nat) (ds : List D) (H : Heap) (K : D → Heap → Option R) : Option R :=
  match ext true H (A.sig f).ins ds [] with
  | some (x, [], u) =>
    (match ((A.sig f).out.perm || !u.lent) && (A.sig f).out.norefs with
     | true => (V.call f x).bind fun y =>
       (match emb (A.sig f).out y (kill H u.ids) with
        | (rs, H2) => (match wbAll H u.ids H2 (keep (A.sig f).inout ds) (rs.drop (A.sig f).nres) with
          | some r => K (resD (rs.take (A.sig f).nres)) (wbSet r H2)
          | none => none))
     | false => none)
  | _ => none

/-- A call where nothing may be made or written. -/
def callN (A : Ann) (V : Lvl A) (R : Type) (f : Nat) (ds : List D) (H : Heap) (K : D → Option R) : Option R :=
  match ext true H (A.sig f).ins ds [] with
  | some (x, [], u) =>
    (match ((A.sig f).out.perm || !u.lent) && u.ids.isEmpty && (A.sig f).inout.isEmpty && nshape (A.sig f).out with
     | true => (V.call f x).bind fun y => K (resD ((embN (A.sig f).out y).take (A.sig f).nres))
     | false => none)
  | _ => none

/-- A guard: run, or passed over, or both ways with the guard's answer laid in. -/
def guardE (R : Type) (ops : List Oper) (o : Oper) (env : List D) (yes no : List D → Option R) : Option R :=
  match o.guard with
  | none => yes env
  | some (j, want) =>
    match (ops[j]?).bind (·.dst) with
    | none => none
    | some t =>
      match get env t with
      | .bool b => (match want with
        | true => cond b (yes (env.set t (.bool true))) (no (env.set t (.bool false)))
        | false => cond b (no (env.set t (.bool true))) (yes (env.set t (.bool false))))
      | .tup [] => no env
      | _ => none

/-- What a literal slice holds, read alone. -/
def litN (A : Ann) (env : List D) (H : Heap) (op : Op) : Option D :=
  match op with
  | .buildSlice t len parts => (match A.ty t with
    | some (.sl e) =>
      if len ≤ 1024 then
        (match fillE H e (parts.toList.map fun p => (p.1, opd env p.2)) true (List.replicate len e.zero) [] with
         | some (p, l, []) => some (.sl p e l)
         | _ => none)
      else none
    | _ => none)
  | _ => none

def isConst : Operand → Bool
  | .const _ => true
  | _ => false

/-- A literal slice of constants alone is read as it stands. -/
def litC (A : Ann) (env : List D) (H : Heap) (op : Op) : Option D :=
  match op with
  | .buildSlice t (n + 1) parts => (match parts.toList.all fun p => isConst p.2 with
    | true => litN A env H (.buildSlice t (n + 1) parts)
    | false => none)
  | _ => none

/-- The rows that cells lead to. -/
def hdIds : List D → List Nat
  | [] => []
  | .hd id _ :: r => id :: hdIds r
  | _ :: r => hdIds r

/-- A row's handle, turned into what the row holds. -/
def frzC (id st : Nat) (p : Bool) (t : Ty) (l : List t.den) : D → D
  | .hd i s => (match Nat.beq i id && Nat.beq s st with
    | true => .sl p t l
    | false => .hd i s)
  | d => d
def frzD (id st : Nat) (p : Bool) (t : Ty) (l : List t.den) : D → D
  | .agg cs => .agg (cs.map (frzC id st p t l))
  | d => frzC id st p t l d
def frzB (id st : Nat) (p : Bool) (t : Ty) (l : List t.den) : Blk → Blk
  | .box cs => .box (cs.map (frzC id st p t l))
  | b => b
/-- A row is put among what is only read from here on. -/
def frz1 (id : Nat) (x : List D × Heap) : List D × Heap :=
  match x.2[id]? with
  | some (.arr p st t l) => (x.1.map (frzD id st p t l), (x.2.set id .dead).map (frzB id st p t l))
  | _ => x
def frz : List Nat → List D × Heap → List D × Heap
  | [], x => x
  | id :: r, x => frz r (frz1 id x)
/-- The rows that an operation lays into another row. -/
def takes (env : List D) (op : Op) : List Nat :=
  match op with
  | .buildSlice _ _ parts => parts.toList.flatMap fun p => hdIds (cellsOf (opd env p.2))
  | .store _ ad x => (match opd env ad with
    | .eptr _ _ _ _ => hdIds (cellsOf (opd env x))
    | _ => [])
  | _ => []

/-- Operations in the text's order. -/
def runO (A : Ann) (V : Lvl A) (R : Type) (all : List Oper) (K : List D → Heap → Option R) : List Oper → List D → Heap → Option R
  | [], env, H => K env H
  | o :: os, env, H =>
    guardE R all o env
      (fun env => match nev A env H o.op with
        | some (g, d) => cond g (runO A V R all K os (putE env o.dst d) H) none
        | none => match litC A env H o.op with
         | some d => runO A V R all K os (putE env o.dst d) H
         | none => match eff A (frz (takes env o.op) (env, H)).1 (frz (takes env o.op) (env, H)).2 o.op with
          | some (g, d, H') => cond g (runO A V R all K os (putE (frz (takes env o.op) (env, H)).1 o.dst d) H') none
          | none => match o.op with
            | .call c => (match calleeI A env c with
              | some (f, ds) => callE A V R f ds H fun d H' => runO A V R all K os (putE env o.dst d) H'
              | none => none)
            | _ => none)
      (fun env => runO A V R all K os (putE env o.dst (.tup [])) H)

/-- Operations that make and write nothing. -/
def runN (A : Ann) (V : Lvl A) (R : Type) (all : List Oper) (H : Heap) (K : List D → Option R) : List Oper → List D → Option R
  | [], env => K env
  | o :: os, env =>
    guardE R all o env
      (fun env => match nev A env H o.op with
        | some (g, d) => cond g (runN A V R all H K os (putE env o.dst d)) none
        | none => match litN A env H o.op with
          | some d => runN A V R all H K os (putE env o.dst d)
          | none => match o.op with
            | .call c => (match calleeI A env c with
              | some (f, ds) => callN A V R f ds H fun d => runN A V R all H K os (putE env o.dst d)
              | none => none)
            | _ => none)
      (fun env => runN A V R all H K os (putE env o.dst (.tup [])))

/-- The row that a variable's cell leads to. -/
def aliasAt (env : List D) (H : Heap) (tb off : Nat) (T : Ty) : Option (Nat × Nat) :=
  match get env tb with
  | .ptr bid o => (match Nat.beq o 0, H[bid]? with
    | true, some (.box cells) => (match get cells off with
      | .hd id st => (match H[id]? with
        | some (.arr _ st' t _) => if st' = st ∧ t = T then some (id, st) else none
        | _ => none)
      | _ => none)
    | _, _ => none)
  | _ => none
def alOk (env : List D) (H : Heap) : List (Nat × Nat × Nat × Ty) → Bool
  | [] => true
  | (t, tb, off, T) :: r => (match aliasAt env H tb off T, get env t with
    | some (id, st), .hd id' st' => Nat.beq id id' && Nat.beq st st'
    | _, _ => false) && alOk env H r
def alSet (H : Heap) : List (Nat × Nat × Nat × Ty) → List D → List D
  | [], env => env
  | (t, tb, off, T) :: r, env => alSet H r (match aliasAt env H tb off T with
    | some (id, st) => env.set t (.hd id st)
    | none => env)

def extJ0 (j : Join) (env : List D) (H : Heap) : Option j.sh.den :=
  match ext false H j.sh (j.ts.map (get env)) [] with
  | some (x, [], _) => some x
  | _ => none
def extJ (j : Join) (env : List D) (H : Heap) : Option j.sh.den :=
  match alOk env H j.al with
  | true => extJ0 j env H
  | false => none

def setAll : List Nat → List D → List D → List D
  | t :: ts, d :: ds, env => setAll ts ds (env.set t d)
  | _, _, env => env

def embJ0 (j : Join) (n : Nat) (x : j.sh.den) : List D × Heap :=
  let r := emb j.sh x []
  (setAll j.ts r.1 (List.replicate n .undef), r.2)
def embJ (j : Join) (n : Nat) (x : j.sh.den) : List D × Heap :=
  (alSet (embJ0 j n x).2 j.al (embJ0 j n x).1, (embJ0 j n x).2)

def opTmps (o : Oper) : List Nat := o.op.operands.toList.filterMap fun | .tmp t => some t | _ => none

def isMove : Op → Bool
  | .move _ | .assign _ => true
  | _ => false

def isAppend : Op → Bool
  | .call c => (match c.callee with
    | .builtin .append => true
    | _ => false)
  | _ => false

def waitsFor (o : Oper) (j : Nat) : Bool := o.after.any fun e => Nat.beq e.on j && Region.binds .any e

/-- Each of a region's operations writes a slot of its own, and reads of what the region writes only what it waits for. -/
def sureOps (ops : List Oper) : Bool :=
  (List.range ops.length).all fun i => match ops[i]? with
    | none => false
    | some o => (o.after.all fun e => !Region.binds .any e || Nat.blt e.on i) &&
      (List.range ops.length).all fun j => match ops[j]? with
        | none => false
        | some q => match q.dst with
          | none => false
          | some t =>
            (Nat.beq i j || o.dst != some t) &&
            (!((opTmps o).contains t || (match o.guard with
                | some (g, _) => ((ops[g]?).bind (·.dst)) == some t
                | none => false)) || (Nat.blt j i && waitsFor o j) || (Nat.blt i j && waitsFor q i))

def resetN : List Oper → List D → List D
  | [], env => env
  | o :: os, env => resetN os (putE env o.dst .undef)

def firstReg : Code → Option Nat
  | .region id _ _ => some id
  | .seq a _ => firstReg a
  | .block _ c => firstReg c
  | .loop c => firstReg c
  | _ => none

def loopN {X S : Type} (step : (X → Option S) → X → Option S) : Nat → X → Option S
  | 0 => fun _ => none
  | n + 1 => step (loopN step n)

/-- What each operation waits for, through others too, in bits. -/
def needGo : List Oper → List Nat → List Nat
  | [], acc => acc
  | o :: os, acc => needGo os (acc ++ [o.after.toList.foldl (fun m e => match Region.binds .any e with
      | true => (m ||| (1 <<< e.on)) ||| acc.getD e.on 0
      | false => m) 0])
def needs (ops : List Oper) : List Nat := needGo ops []

/-- What waits for the one that uses it: a new variable, an empty literal. -/
def pendBlk (A : Ann) (o : Oper) : Option (Nat × Blk) :=
  match o.guard, o.dst, o.op with
  | none, some s, .alloc t => (match A.ty t with
    | some y => some (s, .box (zcells y))
    | none => none)
  | none, some s, .buildSlice t 0 parts => (match A.ty t, parts.toList with
    | some (.sl e), [] => some (s, .arr true 0 e [])
    | _, _ => none)
  | _, _, _ => none
def pendHd (id : Nat) : Blk → D
  | .box _ => .ptr id 0
  | _ => .hd id 0
def conSlot (o : Oper) : Option Nat :=
  match o.guard, o.op with
  | none, .store _ (.tmp s) _ => some s
  | none, .call c => (match c.callee, c.args.toList with
    | .builtin .append, [.tmp s, _] => some s
    | _, _ => none)
  | _, _ => none
def readsSlot (ops : List Oper) (o : Oper) (s : Nat) : Bool :=
  (opTmps o).any (Nat.beq s) || (match o.guard with
    | some (g, _) => ((ops[g]?).bind (·.dst)) == some s
    | none => false)
/-- Who uses what waits. -/
def conOf (A : Ann) (ops : List Oper) (nd : List Nat) (a : Nat) : Option Nat :=
  match (ops[a]?).bind (pendBlk A) with
  | none => none
  | some (s, _) => (match (List.range ops.length).find? (fun j => Nat.blt a j && (ops[j]?).bind conSlot == some s) with
    | none => none
    | some j => (match Nat.testBit (nd.getD j 0) a && (List.range ops.length).all (fun i => Nat.beq i j || (match ops[i]? with
        | some o => !readsSlot ops o s || (Nat.blt j i && Nat.testBit (nd.getD i 0) j)
        | none => false)) with
      | true => some j
      | false => none))
def conL (A : Ann) (ops : List Oper) : List (Option Nat) := (List.range ops.length).map (conOf A ops (needs ops))
def adopter (conl : List (Option Nat)) (j : Nat) : Option Nat := (List.range conl.length).find? (fun a => conl.getD a none == some j)

/-- As sureOps; operations that tell nothing may be among them. -/
def sureD (ops : List Oper) : Bool :=
  (List.range ops.length).all fun i => match ops[i]? with
    | none => false
    | some o => (o.after.all fun e => !Region.binds .any e || Nat.blt e.on i) &&
      (List.range ops.length).all fun j => match ops[j]? with
        | none => false
        | some q => match q.dst with
          | none => true
          | some t =>
            (Nat.beq i j || o.dst != some t) &&
            (!((opTmps o).contains t || (match o.guard with
                | some (g, _) => ((ops[g]?).bind (·.dst)) == some t
                | none => false)) || (Nat.blt j i && waitsFor o j) || (Nat.blt i j && waitsFor q i))

/-- What needs no heap. -/
def isPure : Op → Bool
  | .move _ | .assign _ | .pick _ _ _ | .binOp _ _ _ _ _ | .unOp _ _ _ | .field _ _ _ | .extract _ _ | .index _ _ _ => true
  | _ => false

/-- Blocks that an operation reads or changes; 'none' where that is not told. -/
abbrev Ids := Option (List Nat)
def disj : Ids → Ids → Bool
  | some [], _ => true
  | _, some [] => true
  | some a, some b => a.all fun i => !(b.any (Nat.beq i))
  | _, _ => false
def idOf : D → Ids
  | .ptr id _ | .eptr id _ _ _ | .hd id _ | .hds id _ _ _ => some [id]
  | .rptr _ _ | .sl _ _ _ | .nilsl => some []
  | _ => none
def readsOp (env : List D) (op : Op) : Ids :=
  match op with
  | .load _ x | .fieldAddr _ x _ | .indexAddr _ x _ | .nilCheck x => idOf (opd env x)
  | .call c => (match c.callee, c.args.toList with
    | .builtin .len, [x] => idOf (opd env x)
    | _, _ => none)
  | _ => none
def touchOp (env : List D) (op : Op) : Ids :=
  match op with
  | .alloc _ | .box _ _ | .makeSlice _ _ _ => some []
  | .buildSlice _ _ parts => some (parts.toList.flatMap fun p => hdIds (cellsOf (opd env p.2)))
  | .store _ a _ => (match opd env a with
    | .ptr id _ => some [id]
    | _ => none)
  | .call c => (match c.callee, c.args.toList with
    | .builtin .append, [s, _] => (match opd env s with
      | .nilsl => some []
      | .hd id _ => some [id]
      | _ => none)
    | _, _ => none)
  | _ => none
def touchCall (A : Ann) (f : Nat) (ds : List D) (H : Heap) : Ids :=
  match ext true H (A.sig f).ins ds [] with
  | some (_, _, u) => some u.ids
  | none => none
def onlyId (n : Nat) : Ids → Bool
  | some [id] => Nat.beq id n
  | _ => false

/-- The heap behind the last one of what must have been made. -/
def evalH (H0 : Heap) (m : Nat) : List (Nat × Ids × Heap) → Heap
  | [] => H0
  | e :: r => (match Nat.testBit m e.1 with
    | true => e.2.2
    | false => evalH H0 m r)
def ordOk (m : Nat) (hs : List (Nat × Ids × Heap)) : Bool := hs.all fun e => Nat.testBit m e.1
def neuOk (m : Nat) (r : Ids) (hs : List (Nat × Ids × Heap)) : Bool := hs.all fun e => Nat.testBit m e.1 || disj e.2.1 r
def effOk (m : Nat) (t : Ids) (ms : List (Nat × Ids)) : Bool := ms.all fun e => Nat.testBit m e.1 || disj t e.2

structure DCfg where
  all : List Oper
  nd : List Nat
  con : List (Option Nat)
  H0 : Heap

/-- Operations whose order is drawn: those that make or write come one behind the other; all else reads what must have been made. -/
def runD (A : Ann) (V : Lvl A) (R : Type) (G : DCfg) (K : List D → Heap → Option R) : List Oper → Nat → List (Nat × Ids × Heap) → List (Nat × Ids) → List D → Heap → Option R
  | [], _, _, _, env, H => K env H
  | o :: os, j, hs, ms, env, H =>
    match G.con.getD j none with
    | some _ => runD A V R G K os (j + 1) hs ms env H
    | none =>
      guardE R G.all o env
        (fun env => match isPure o.op with
          | true => (match nev A env [] o.op with
            | some (g, d) => cond g (runD A V R G K os (j + 1) hs ms (putE env o.dst d) H) none
            | none => none)
          | false => (match adopter G.con j with
            | some a => (match (G.all[a]?).bind (pendBlk A), ordOk (G.nd.getD j 0) hs with
              | some (s, blk), true => (match onlyId H.length (touchOp (env.set s (pendHd H.length blk)) o.op), eff A (env.set s (pendHd H.length blk)) (H ++ [blk]) o.op with
                | true, some (g, d, H') => cond g (runD A V R G K os (j + 1) ((j, some [], H') :: hs) ms (putE (env.set s (pendHd H.length blk)) o.dst d) H') none
                | _, _ => none)
              | _, _ => none)
            | none => (match nev A env (evalH G.H0 (G.nd.getD j 0) hs) o.op with
              | some (g, d) => (match neuOk (G.nd.getD j 0) (readsOp env o.op) hs with
                | true => cond g (runD A V R G K os (j + 1) hs ((j, readsOp env o.op) :: ms) (putE env o.dst d) H) none
                | false => none)
              | none => (match litN A env (evalH G.H0 (G.nd.getD j 0) hs) o.op with
                | some d => (match neuOk (G.nd.getD j 0) none hs with
                  | true => runD A V R G K os (j + 1) hs ((j, none) :: ms) (putE env o.dst d) H
                  | false => none)
                | none => (match eff A env H o.op with
                  | some (g, d, H') => (match ordOk (G.nd.getD j 0) hs && effOk (G.nd.getD j 0) (touchOp env o.op) ms with
                    | true => cond g (runD A V R G K os (j + 1) ((j, touchOp env o.op, H') :: hs) ms (putE env o.dst d) H') none
                    | false => none)
                  | none => (match o.op with
                    | .call c => (match calleeI A env c with
                      | some (f, ds) => (match (A.sig f).out.still && (A.sig f).inout.all (fun b => !b) with
                        | true => (match neuOk (G.nd.getD j 0) none hs with
                          | true => callN A V R f ds (evalH G.H0 (G.nd.getD j 0) hs) fun d => runD A V R G K os (j + 1) hs ((j, none) :: ms) (putE env o.dst d) H
                          | false => none)
                        | false => (match ordOk (G.nd.getD j 0) hs && effOk (G.nd.getD j 0) (touchCall A f ds H) ms with
                          | true => callE A V R f ds H fun d H' => runD A V R G K os (j + 1) ((j, touchCall A f ds H, H') :: hs) ms (putE env o.dst d) H'
                          | false => none))
                      | none => none)
                    | _ => none))))))
        (fun env => runD A V R G K os (j + 1) hs ms (putE env o.dst (.tup [])) H)

/-- Slots of what waits hold nothing yet. -/
def clearPend (ops : List Oper) (con : List (Option Nat)) : List Nat → List D → List D
  | [], env => env
  | a :: r, env => clearPend ops con r (match con.getD a none, (ops[a]?).bind (·.dst) with
    | some _, some s => env.set s .undef
    | _, _ => env)

def fitsPend (ops : List Oper) (con : List (Option Nat)) (n : Nat) : Bool :=
  (List.range ops.length).all fun a => match con.getD a none, (ops[a]?).bind (·.dst) with
    | some _, some s => Nat.blt s n
    | _, _ => true

def drawE (A : Ann) (V : Lvl A) (ops : List Oper) (R : Type) (K : List D → Heap → Option R) (env : List D) (H : Heap) : Option R :=
  match sureD ops && fitsPend ops (conL A ops) env.length with
  | true => runD A V R ⟨ops, needs ops, conL A ops, H⟩ K ops 0 [] [] (clearPend ops (conL A ops) (List.range ops.length) env) H
  | false => none

def regionE (A : Ann) (V : Lvl A) (fid id : Nat) (ops : List Oper) (draw : Bool) (R : Type) (K : List D → Heap → Option R) (env : List D) (H : Heap) : Option R :=
  match A.join fid (2 * id + 1) with
  | some j =>
    (match sshape j.sh && sureOps ops with
     | true => (runN A V j.sh.den ops H (fun env => extJ j env H) ops env).bind fun x =>
         K (setAll j.ts (embN j.sh x) (resetN ops env)) H
     | false => none)
  | none =>
    match draw with
    | false => runO A V R ops K ops env H
    | true => drawE A V ops R K env H

/-- The run of a function's text. -/
def run (A : Ann) (V : Lvl A) (fid n : Nat) : Code → (R : Type) → (Ex → List D → Heap → Option R) → List D → Heap → Option R
  | .skip, _, K, env, H => K .normal env H
  | .region id ops draw, R, K, env, H => regionE A V fid id ops.toList draw R (K .normal) env H
  | .seq a b, R, K, env, H =>
    match (firstReg b).bind (fun r => A.join fid (2 * r)) with
    | none => run A V fid n a R (fun e env H => match e with
      | .normal => run A V fid n b R K env H
      | .exit i => K (.exit i) env H
      | .ret => K .ret env H) env H
    | some j => (run A V fid n a j.sh.den (fun e env H => match e with
      | .normal => extJ j env H
      | _ => none) env H).bind fun x => run A V fid n b R K (embJ j env.length x).1 (embJ j env.length x).2
  | .cond c a b, R, K, env, H =>
    (match opd env c with
     | .bool t => cond t (run A V fid n a R K env H) (run A V fid n b R K env H)
     | _ => none)
  | .block id c, R, K, env, H => run A V fid n c R (fun e env H => match e with
    | .normal => K .normal env H
    | .exit i => (match Nat.beq i id with
      | true => K .normal env H
      | false => K (.exit i) env H)
    | .ret => K .ret env H) env H
  | .loop c, R, K, env, H =>
    (match (firstReg c).bind (A.loop fid) with
     | none => none
     | some l => (match extJ l.head env H with
       | none => none
       | some x => (loopN (S := l.out.sh.den ⊕ l.ret.sh.den) (fun again x => run A V fid n c (l.out.sh.den ⊕ l.ret.sh.den) (fun e env H => match e with
           | .normal => (extJ l.head env H).bind again
           | .exit i => (match Nat.beq i l.exid with
             | true => (extJ l.out env H).map .inl
             | false => none)
           | .ret => (extJ l.ret env H).map .inr) (embJ l.head env.length x).1 (embJ l.head env.length x).2) n x).bind fun r => match r with
             | .inl y => K (.exit l.exid) (embJ l.out env.length y).1 (embJ l.out env.length y).2
             | .inr z => K .ret (embJ l.ret env.length z).1 (embJ l.ret env.length z).2))
  | .exit id, _, K, env, H => K (.exit id) env H
  | .ret, _, K, env, H => K .ret env H
  | _, _, _, _, _ => none

def retD (A : Ann) (env : List D) (H : Heap) : List ResultVar → Option (List D)
  | [] => some []
  | .tmp t :: r => (match retD A env H r with
    | some ds => some (get env t :: ds)
    | none => none)
  | .cell a t :: r => (match A.lay t with
    | some (n, ag) => (match loadD H n ag (get env a), retD A env H r with
      | some d, some ds => some (d :: ds)
      | _, _ => none)
    | none => none)

/-- Whether a text leaves slots as they are. -/
def okCode (bs : List Bool) : Code → Bool
  | .region _ ops _ => ops.toList.all fun o => match o.dst with
    | some t => !(bs.getD t false)
    | none => true
  | .seq a b => okCode bs a && okCode bs b
  | .cond _ a b => okCode bs a && okCode bs b
  | .block _ c => okCode bs c
  | .loop c => okCode bs c
  | _ => true

def stays (bs : List Bool) (n : Nat) (c : Code) : Bool :=
  match bs with
  | [] => true
  | _ => Nat.ble bs.length n && okCode bs c

def body (A : Ann) (V : Lvl A) (n f : Nat) (fn : Func) (x : (A.sig f).ins.den) : Option (A.sig f).out.den :=
  match fn.body with
  | none => none
  | some c =>
    let r := emb (A.sig f).ins x []
    match stays (A.sig f).inout r.1.length c with
    | false => none
    | true => run A V f n c (A.sig f).out.den (fun e env H => match e with
      | .exit _ => none
      | _ => (match retD A env H fn.results.toList with
        | some rs => (match Nat.beq rs.length (A.sig f).nres, ext false H (A.sig f).out (rs ++ keep (A.sig f).inout env) [] with
          | true, some (y, [], _) => some y
          | _, _ => none)
        | none => none)) (r.1 ++ List.replicate (fn.ntmps - r.1.length) .undef) r.2

def lvl (P : Program) (A : Ann) : Nat → Lvl A
  | 0 => { call := fun _ _ => none }
  | k + 1 => {
      call := fun f x => match A.prim f with
        | some F => F x
        | none => match P.funcs[A.fn f]? with
          | some fn => body A (lvl P A k) k f fn x
          | none => none }

end Go.Proofs.YtbkicjpdlchbgaaGreat.Ab
