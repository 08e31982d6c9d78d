import Derived.Test.YtkphhjdbdnoekaaGreatDoorAbK1
namespace Go.Proofs.YtkphhjdbdnoekaaGreatDoor.Ab
open Go
set_option linter.unusedVariables false
set_option linter.unusedSimpArgs false
set_option linter.unnecessarySimpa false
def z6l (A:Ann) (V:Lvl A) (lp:Lp) (fid:Nat):Code->(R:Type)->(Ex->List D->z0a->Option R)->List D->z0a->Option R
 | .skip,_,K,env,H=>K .normal env H | .region id ops draw,R,K,env,H=>z3q A V fid id ops.toList draw R (K .normal) env H | .seq a b,R,K,env,H=>
  match (z1c b).bind (fun r=>A.join fid (2*r)) with
  | none=>z6l A V lp fid a R (fun e env H=>match e with
   | .normal=>z6l A V lp fid b R K env H | .exit i=>K (.exit i) env H | .ret=>K .ret env H) env H
  | some j=>(z6l A V lp fid a j.sh.den (fun e env H=>match e with
   | .normal=>z3d j env H | _=>none) env H).bind fun x=>z6l A V lp fid b R K (z4z j env.length x).1 (z4z j env.length x).2
 | .cond c a b,R,K,env,H=>
  (match opd env c with
   | .bool t=>cond t (z6l A V lp fid a R K env H) (z6l A V lp fid b R K env H) | _=>none)
 | .block id c,R,K,env,H=>z6l A V lp fid c R (fun e env H=>match e with
  | .normal=>K .normal env H | .exit i=>(match Nat.beq i id with
   | true=>K .normal env H | false=>K (.exit i) env H)
  | .ret=>K .ret env H) env H
 | .loop c,R,K,env,H=>
  (match (z1c c).bind (A.loop fid) with
   | none=>none | some l=>(match z3d l.head env H with
    | none=>none | some x=>(lp l.head.sh.den (l.out.sh.den⊕l.ret.sh.den) (fun again x=>z6l A V lp fid c (l.out.sh.den⊕l.ret.sh.den) (fun e env H=>match e with
     | .normal=>(z3d l.head env H).bind again | .exit i=>(match Nat.beq i l.exid with
      | true=>(z3d l.out env H).map .inl | false=>none)
     | .ret=>(z3d l.ret env H).map .inr) (z4z l.head env.length x).1 (z4z l.head env.length x).2) x).bind fun r=>match r with
      | .inl y=>K (.exit l.exid) (z4z l.out env.length y).1 (z4z l.out env.length y).2 | .inr z=>K .ret (z4z l.ret env.length z).1 (z4z l.ret env.length z).2))
 | .exit id,_,K,env,H=>K (.exit id) env H | .ret,_,K,env,H=>K .ret env H | _,_,_,_,_=>none
def z7p (A:Ann) (V:Lvl A) (lp:Lp) (fid:Nat) (c:Code) (l:LoopA) (n:Nat):(l.head.sh.den->Option (l.out.sh.den⊕l.ret.sh.den))->l.head.sh.den->Option (l.out.sh.den⊕l.ret.sh.den):=
 fun again x=>z6l A V lp fid c (l.out.sh.den⊕l.ret.sh.den) (fun e env H=>match e with
  | .normal=>(z3d l.head env H).bind again | .exit i=>(match Nat.beq i l.exid with
   | true=>(z3d l.out env H).map .inl | false=>none)
  | .ret=>(z3d l.ret env H).map .inr) (z4z l.head n x).1 (z4z l.head n x).2
def y6l (A:Ann) (V:Lvl A) (lp:Lp) (fid:Nat) (c:Code) (l:LoopA) (n:Nat):(l.head.sh.den->Option (l.out.sh.den⊕l.ret.sh.den))->l.head.sh.den->Option (l.out.sh.den⊕l.ret.sh.den):=
 z7p (A.at fid) (V.at fid) lp fid c l n
theorem y7o (A:Ann) (V:Lvl A) (fid n:Nat) (c:Code):∀(R:Type) (K:Ex->List D->z0a->Option R) (env:List D) (H:z0a),run A V fid n c R K env H=z6l A V (lpN n) fid c R K env H:=by
 induction c with
 | skip=>intros;rfl | region=>intros;rfl | seq a b iha ihb=>
  intro R K env H;simp only[run,z6l,iha,ihb];rfl
 | cond c a b iha ihb=>
  intro R K env H;simp only[run,z6l,iha,ihb];rfl
 | block id c ih=>
  intro R K env H;simp only[run,z6l,ih];rfl
 | loop c ih=>
  intro R K env H;simp only[run,z6l,ih,lpN];rfl
 | _=>intros;rfl
section
variable {A:Ann} {V:Nat->Lvl A} {Vw:Lvl A} (hV:∀f x,CT (fun k=>(V k).call f x) (Vw.call f x))
include hV
theorem z9y {R:Type} {f:Nat} {ds:List D} {H:z0a} {K:Nat->D->z0a->Option R} {Kw:D->z0a->Option R} (hK:∀d H,CT (fun k=>K k d H) (Kw d H)):CT (fun k=>z5e A (V k) R f ds H (K k)) (z5e A Vw R f ds H Kw):=by
 unfold z5e;rcases h1:ext true H (A.sig f).ins ds [] with _ | ⟨x,r,u⟩
 .exact CT.const _
 .cases r with
  | cons a r=>exact CT.const _ | nil=>
   simp only;cases h2:(((A.sig f).out.perm || !u.lent)&&(A.sig f).out.norefs) with
   | false=>exact CT.const _ | true=>
    simp only;refine CT.bind (hV f x) fun y=> ?_
    rcases h3:emb (A.sig f).out y (kill H u.ids) with ⟨rs,H2⟩
    simp only;cases h4:z1r H u.ids H2 (keep (A.sig f).inout ds) (rs.drop (A.sig f).nres) with
    | none=>exact CT.const _ | some r=>exact hK _ _
theorem y0a {R:Type} {f:Nat} {ds:List D} {H:z0a} {K:Nat->D->Option R} {Kw:D->Option R} (hK:∀d,CT (fun k=>K k d) (Kw d)):CT (fun k=>z9e A (V k) R f ds H (K k)) (z9e A Vw R f ds H Kw):=by
 unfold z9e;rcases h1:ext true H (A.sig f).ins ds [] with _ | ⟨x,r,u⟩
 .exact CT.const _
 .cases r with
  | cons a r=>exact CT.const _ | nil=>
   simp only;cases h2:(((A.sig f).out.perm || !u.lent)&&u.ids.isEmpty&&(A.sig f).inout.isEmpty&&z3j (A.sig f).out) with
   | false=>exact CT.const _ | true=>exact CT.bind (hV f x) fun y=>hK _
omit hV in
theorem z5s {R:Type} {ops:List Oper} {o:Oper} {env:List D} {yes no:Nat->List D->Option R} {yw nw:List D->Option R} (hy:∀env,CT (fun k=>yes k env) (yw env)) (hn:∀env,CT (fun k=>no k env) (nw env)):
 CT (fun k=>z5b R ops o env (yes k) (no k)) (z5b R ops o env yw nw):=by
 unfold z5b;rcases h1:o.guard with _ | ⟨j,want⟩
 .exact hy env
 .simp only;cases h2:(ops[j]?).bind (·.dst) with
  | none=>exact CT.const _ | some t=>
   simp only;cases h3:get env t with
   | bool b=>
    cases want
    .exact CT.cond b (hn _) (hy _)
    .exact CT.cond b (hy _) (hn _)
   | tup vs=>
    cases vs with
    | nil=>exact hn env | cons _ _=>exact CT.const _
   | _=>exact CT.const _
theorem z4q {R:Type} {all:List Oper} {K:Nat->List D->z0a->Option R} {Kw:List D->z0a->Option R} (hK:∀env H,CT (fun k=>K k env H) (Kw env H)):
 ∀(ops:List Oper) (env:List D) (H:z0a),CT (fun k=>y2z A (V k) R all (K k) ops env H) (y2z A Vw R all Kw ops env H)
 | [],env,H=>hK env H | o::os,env,H=>by
  unfold y2z;refine z5s (fun env=> ?_) (fun env=>z4q hK os _ _);rcases h1:nev A env H o.op with _ | ⟨g,d⟩
  .simp only;rcases h5:y8k A env H o.op with _ | d
   .simp only;rcases h2:eff A (frz (y1o env o.op) (env,H)).1 (frz (y1o env o.op) (env,H)).2 o.op with _ | ⟨g,d,H'⟩
    .simp only;cases h3:o.op with
     | call c=>
      simp only;rcases h4:z0s A env c with _ | ⟨f,ds⟩
      .exact CT.const _
      .exact z9y hV fun d H=>z4q hK os _ _
     | _=>exact CT.const _
    .exact CT.cond g (z4q hK os _ _) (CT.const _)
   .exact z4q hK os _ _
  .exact CT.cond g (z4q hK os _ _) (CT.const _)
theorem z6a {R:Type} {all:List Oper} {H:z0a} {K:Nat->List D->Option R} {Kw:List D->Option R} (hK:∀env,CT (fun k=>K k env) (Kw env)):
 ∀(ops:List Oper) (env:List D),CT (fun k=>y2y A (V k) R all H (K k) ops env) (y2y A Vw R all H Kw ops env)
 | [],env=>hK env | o::os,env=>by
  unfold y2y;refine z5s (fun env=> ?_) (fun env=>z6a hK os _);rcases h1:nev A env H o.op with _ | ⟨g,d⟩
  .simp only;rcases h2:z8l A env H o.op with _ | d
   .simp only;cases h3:o.op with
    | call c=>
     simp only;rcases h4:z0s A env c with _ | ⟨f,ds⟩
     .exact CT.const _
     .exact y0a hV fun d=>z6a hK os _
    | _=>exact CT.const _
   .exact z6a hK os _
  .exact CT.cond g (z6a hK os _) (CT.const _)
theorem z1y {R:Type} {G:DCfg} {K:Nat->List D->z0a->Option R} {Kw:List D->z0a->Option R} (hK:∀env H,CT (fun k=>K k env H) (Kw env H)):
 ∀(ops:List Oper) (j:Nat) (hs:List (Nat×Ids×z0a)) (ms:List (Nat×Ids)) (env:List D) (H:z0a),CT (fun k=>z8z A (V k) R G (K k) ops j hs ms env H) (z8z A Vw R G Kw ops j hs ms env H)
 | [],_,_,_,env,H=>hK env H | o::os,j,hs,ms,env,H=>by
  unfold z8z;cases h0:G.con.getD j none with
  | some c=>exact z1y hK os _ _ _ _ _ | none=>
   simp only;refine z5s (fun env=> ?_) (fun env=>z1y hK os _ _ _ _ _);cases h1:z6q o.op with
   | true=>
    simp only;rcases h2:nev A env [] o.op with _ | ⟨g,d⟩
    .exact CT.const _
    .exact CT.cond g (z1y hK os _ _ _ _ _) (CT.const _)
   | false=>
    simp only;cases h3:z2h G.con j with
    | some a=>
     simp only;rcases h4:(G.all[a]?).bind (z0i A) with _ | ⟨s,blk⟩
     .exact CT.const _
     .cases h5:z7n (G.nd.getD j 0) hs with
      | false=>exact CT.const _ | true=>
       simp only;cases h6:y0o H.length (z2y (env.set s (z1p H.length blk)) o.op) with
       | false=>exact CT.const _ | true=>
        rcases h7:eff A (env.set s (z1p H.length blk)) (H++ [blk]) o.op with _ | ⟨g,d,H'⟩
        .exact CT.const _
        .exact CT.cond g (z1y hK os _ _ _ _ _) (CT.const _)
    | none=>
     simp only;rcases h4:nev A env (z3x G.H0 (G.nd.getD j 0) hs) o.op with _ | ⟨g,d⟩
     .simp only;cases h5:z8l A env (z3x G.H0 (G.nd.getD j 0) hs) o.op with
      | some d=>
       simp only;cases h6:z7k (G.nd.getD j 0) none hs with
       | false=>exact CT.const _ | true=>exact z1y hK os _ _ _ _ _
      | none=>
       simp only;rcases h6:eff A env H o.op with _ | ⟨g,d,H'⟩
       .simp only;cases h7:o.op with
        | call c=>
         simp only;rcases h8:z0s A env c with _ | ⟨f,ds⟩
         .exact CT.const _
         .simp only;cases h9:((A.sig f).out.still&&(A.sig f).inout.all (fun b=> !b)) with
          | true=>
           simp only;cases h10:z7k (G.nd.getD j 0) none hs with
           | false=>exact CT.const _ | true=>exact y0a hV fun d=>z1y hK os _ _ _ _ _
          | false=>
           simp only;cases h10:(z7n (G.nd.getD j 0) hs&&z8f (G.nd.getD j 0) (z2e A f ds H) ms) with
           | false=>exact CT.const _ | true=>exact z9y hV fun d H=>z1y hK os _ _ _ _ _
        | _=>exact CT.const _
       .simp only;cases h7:(z7n (G.nd.getD j 0) hs&&z8f (G.nd.getD j 0) (z2y env o.op) ms) with
        | false=>exact CT.const _ | true=>exact CT.cond g (z1y hK os _ _ _ _ _) (CT.const _)
     .simp only;cases h5:z7k (G.nd.getD j 0) (z3p env o.op) hs with
      | false=>exact CT.const _ | true=>exact CT.cond g (z1y hK os _ _ _ _ _) (CT.const _)
theorem y1e {R:Type} {fid id:Nat} {ops:List Oper} {draw:Bool} {K:Nat->List D->z0a->Option R} {Kw:List D->z0a->Option R} (hK:∀env H,CT (fun k=>K k env H) (Kw env H)) (env:List D) (H:z0a):
 CT (fun k=>z3q A (V k) fid id ops draw R (K k) env H) (z3q A Vw fid id ops draw R Kw env H):=by
 unfold z3q;cases h1:A.join fid (2*id+1) with
 | some j=>
  simp only;cases h2:(z6y j.sh&&z6g ops) with
  | false=>exact CT.const _ | true=>exact CT.bind (z6a hV (K:=fun _ env=>z3d j env H) (Kw:=fun env=>z3d j env H) (fun env=>CT.const _) ops env) fun x=>hK _ _
 | none=>
  simp only;cases draw with
  | false=>exact z4q hV hK ops env H | true=>
   simp only;unfold y5s;cases h2:(y1m ops&&y0h ops (z0g A ops) (frz (regTakes ops env H) (env,H)).1.length) with
   | false=>exact CT.const _ | true=>exact z1y hV hK ops _ _ _ _ _
end
theorem y5c (A:Ann) (fid:Nat) (c:Code):∀(V:Nat->Lvl A) (Vw:Lvl A),(∀f x,CT (fun k=>(V k).call f x) (Vw.call f x))-> ∀(lp:Nat->Lp) (lw:Lp),y4r lp lw->(∀k,y4r (fun _=>lp k) (lp k))->
 ∀(R:Type) (K:Nat->Ex->List D->z0a->Option R) (Kw:Ex->List D->z0a->Option R),(∀e env H,CT (fun k=>K k e env H) (Kw e env H))-> ∀env H,CT (fun k=>z6l A (V k) (lp k) fid c R (K k) env H) (z6l A Vw lw fid c R Kw env H):=by
 induction c with
 | skip=>intro V Vw hV lp lw g1 g2 R K Kw hK env H;exact hK _ _ _ | region id ops draw=>intro V Vw hV lp lw g1 g2 R K Kw hK env H;exact y1e hV (hK _) env H | seq a b iha ihb=>
  intro V Vw hV lp lw g1 g2 R K Kw hK env H;simp only[z6l];cases h1:(z1c b).bind (fun r=>A.join fid (2*r)) with
  | none=>
   simp only;refine iha V Vw hV lp lw g1 g2 R _ _ (fun e env H=> ?_) env H;cases e with
   | normal=>exact ihb V Vw hV lp lw g1 g2 R K Kw hK env H | exit i=>exact hK _ _ _ | ret=>exact hK _ _ _
  | some j=>
   simp only;refine CT.bind (iha V Vw hV lp lw g1 g2 _ (fun _ e env H=>match e with
    | .normal=>z3d j env H | _=>none) _ (fun e env H=>CT.const _) env H) (fun x=>ihb V Vw hV lp lw g1 g2 R K Kw hK _ _)
 | cond c a b iha ihb=>
  intro V Vw hV lp lw g1 g2 R K Kw hK env H;simp only[z6l];cases h1:opd env c with
  | bool t=>exact CT.cond t (iha V Vw hV lp lw g1 g2 R K Kw hK env H) (ihb V Vw hV lp lw g1 g2 R K Kw hK env H) | _=>exact CT.const _
 | block id c ih=>
  intro V Vw hV lp lw g1 g2 R K Kw hK env H;simp only[z6l];refine ih V Vw hV lp lw g1 g2 R _ _ (fun e env H=> ?_) env H;cases e with
  | normal=>exact hK _ _ _ | exit i=>
   simp only;cases Nat.beq i id with
   | true=>exact hK _ _ _ | false=>exact hK _ _ _
  | ret=>exact hK _ _ _
 | loop c ih=>
  intro V Vw hV lp lw g1 g2 R K Kw hK env H;simp only[z6l];cases h1:(z1c c).bind (A.loop fid) with
  | none=>exact CT.const _ | some l=>
   simp only;cases h2:z3d l.head env H with
   | none=>exact CT.const _ | some x=>
    simp only;refine CT.bind (g1 _ _ (fun k=>z7p A (V k) (lp k) fid c l env.length) (z7p A Vw lw fid c l env.length) ⟨fun F a hF x=> ?_,fun k a b hab x=> ?_⟩ x) (fun r=> ?_)
    .unfold z7p;refine ih V Vw hV lp lw g1 g2 _ _ _ (fun e env H=> ?_) _ _;cases e with
     | normal=>exact CT.bind (CT.const _) fun x=>hF x
     | exit i=>exact CT.const _ | ret=>exact CT.const _
    .have:=ih (fun _=>V k) (V k) (fun f x=>CT.const _) (fun _=>lp k) (lp k) (g2 k) (fun _=>g2 k) (l.out.sh.den⊕l.ret.sh.den) (fun j e env H=>match e with
      | .normal=>(z3d l.head env H).bind (two a b j) | .exit i=>(match Nat.beq i l.exid with
       | true=>(z3d l.out env H).map .inl | false=>none)
      | .ret=>(z3d l.ret env H).map .inr) (fun e env H=>match e with
      | .normal=>(z3d l.head env H).bind b | .exit i=>(match Nat.beq i l.exid with
       | true=>(z3d l.out env H).map .inl | false=>none)
      | .ret=>(z3d l.ret env H).map .inr) (fun e env H=>by
       cases e with
       | normal=>exact CT.bind (CT.const _) fun x=>CT.two (a:=a x) rfl (fun _=>rfl) (hab x)
       | exit i=>exact CT.const _ | ret=>exact CT.const _) (z4z l.head env.length x).1 (z4z l.head env.length x).2
     exact this.mono 0 1 (by omega)
    .cases r with
     | inl y=>exact hK _ _ _ | inr z=>exact hK _ _ _
 | exit id=>intro V Vw hV lp lw g1 g2 R K Kw hK env H;exact hK _ _ _ | ret=>intro V Vw hV lp lw g1 g2 R K Kw hK env H;exact hK _ _ _ | _=>intro V Vw hV lp lw g1 g2 R K Kw hK env H;exact CT.const _
def y5n (A:Ann) (f:Nat) (fn:Func):Ex->List D->z0a->Option (A.sig f).out.den:=fun e env H=>match e with
 | .exit _=>none | _=>(match y3o A env H fn.results.toList with
  | some rs=>(match Nat.beq rs.length (A.sig f).nres,ext false H (A.sig f).out (rs++keep (A.sig f).inout env) [] with
   | true,some (y, [],_)=>some y | _,_=>none)
  | none=>none)
def z7v (A:Ann) (V:Lvl A) (lp:Lp) (f:Nat) (fn:Func) (x:(A.sig f).ins.den):Option (A.sig f).out.den:=
 match fn.body with
 | none=>none | some c=>
  let r:=emb (A.sig f).ins x []
  match y4o (A.sig f).inout r.1.length c with
  | false=>none | true=>z6l (A.at f) (V.at f) lp f c (A.sig f).out.den (y5n A f fn) (r.1++List.replicate (fn.ntmps - r.1.length) .undef) r.2
theorem z9d (A:Ann) (V:Lvl A) (n f:Nat) (fn:Func) (x:(A.sig f).ins.den):body A V n f fn x=z7v A V (lpN n) f fn x:=by
 unfold body z7v;simp only[y7o];rfl
theorem y1x (A:Ann) (f:Nat) (fn:Func) (x:(A.sig f).ins.den) {V:Nat->Lvl A} {Vw:Lvl A} (hV:∀f x,CT (fun k=>(V k).call f x) (Vw.call f x)) {lp:Nat->Lp} {lw:Lp} (g1:y4r lp lw) (g2:∀k,y4r (fun _=>lp k) (lp k)):
 CT (fun k=>z7v A (V k) (lp k) f fn x) (z7v A Vw lw f fn x):=by
 unfold z7v;cases fn.body with
 | none=>exact CT.const _ | some c=>
  simp only;cases y4o (A.sig f).inout (emb (A.sig f).ins x []).1.length c with
  | false=>exact CT.const _ | true=>exact y5c (A.at f) f c (fun k=>(V k).at f) (Vw.at f) hV lp lw g1 g2 _ (fun _=>y5n A f fn) (y5n A f fn) (fun e env H=>CT.const _) _ _
theorem y4y (P:Program) (A:Ann):∀k f x,Le ((lvl P A k).call f x) ((lvl P A (k+1)).call f x)
 | 0,f,x=>Le.none _ | k+1,f,x=>by
  simp only[lvl];cases A.prim f with
  | some F=>exact Le.refl _ | none=>
   simp only;cases P.funcs[A.fn f]? with
   | none=>exact Le.refl _ | some fn=>
    simp only
    have h:=y1x A f fn x (V:=two (lvl P A k) (lvl P A (k+1))) (Vw:=lvl P A (k+1)) (fun f x=>CT.two (a:=(lvl P A k).call f x) rfl (fun _=>rfl) (y4y P A k f x))
     (y0i (fun j=>two k (k+1) j) (fun i j h=>by
      cases i<;>cases j<;>simp[two] <;>omega)) (fun j=>y4w _)
    have:=h.mono 0 1 (by omega);rw[z9d,z9d];exact this
theorem y4g (P:Program) (A:Ann) (f:Nat) (x:(A.sig f).ins.den) (i j:Nat) (h:i<=j):Le ((lvl P A i).call f x) ((lvl P A j).call f x):=by
 obtain⟨d,rfl⟩:∃d,j=i+d:=⟨j - i,by omega⟩;clear h
 induction d with
 | zero=>exact Le.refl _ | succ d ih=>exact ih.trans (y4y P A (i+d) f x)
noncomputable def y6f (P:Program) (A:Ann):Lvl A:= {call:=fun f x=>lim fun k=>(lvl P A k).call f x}
theorem z7j (P:Program) (A:Ann) (f:Nat) (x:(A.sig f).ins.den):CT (fun k=>(lvl P A k).call f x) ((y6f P A).call f x):=CT.lim (y4g P A f x)
theorem y8n {P:Program} {A:Ann} {f:Nat} {x:(A.sig f).ins.den} {y:(A.sig f).out.den} (h:(y6f P A).call f x=some y):∃k,(lvl P A k).call f x=some y:=(z7j P A f x).hit y h
theorem y3u {P:Program} {A:Ann} {f:Nat} {fn:Func} (hp:A.prim f=none) (hf:P.funcs[A.fn f]? =some fn) (x:(A.sig f).ins.den):(y6f P A).call f x=z7v A (y6f P A) lpW f fn x:=by
 refine CT.uniq (z7j P A f x).shift (CT.congr (F:=fun k=>z7v A (lvl P A k) (lpN k) f fn x) (fun k=> ?_) (y1x A f fn x (z7j P A) y7f (fun k=>y4w k)));show _=(lvl P A (k+1)).call f x;simp only[lvl,hp,hf];rw[z9d]
theorem y6p {P:Program} {A:Ann} {f:Nat} {F:(A.sig f).ins.den->Option (A.sig f).out.den} (hp:A.prim f=some F) (x:(A.sig f).ins.den):(y6f P A).call f x=F x:=by
 refine CT.uniq (z7j P A f x).shift (CT.congr (F:=fun k=>F x) (fun k=> ?_) (CT.const _));simp only[lvl,hp]
theorem y8d {P:Program} {A:Ann} {f:Nat} {fn:Func} (hp:A.prim f=none) (hf:P.funcs[A.fn f]? =some fn) {X:(A.sig f).ins.den->Option (A.sig f).out.den} (hb:∀x,z7v A (y6f P A) lpW f fn x=X x)
 (x:(A.sig f).ins.den):(y6f P A).call f x=X x:=(y3u hp hf x).trans (hb x)
theorem y1j (A:Ann) (V:Lvl A) (fid:Nat) (c:Code) (l:LoopA) (n:Nat):Cont (fun _=>z7p A V lpW fid c l n) (z7p A V lpW fid c l n):=by
 have key:∀(F:Nat->l.head.sh.den->Option (l.out.sh.den⊕l.ret.sh.den)) (a:l.head.sh.den->Option (l.out.sh.den⊕l.ret.sh.den)),(∀x,CT (fun k=>F k x) (a x))-> ∀x,CT (fun k=>z7p A V lpW fid c l n (F k) x) (z7p A V lpW fid c l n a x):=by
  intro F a hF x;unfold z7p;refine y5c A fid c (fun _=>V) V (fun f x=>CT.const _) (fun _=>lpW) lpW y2k (fun _=>y2k) _ _ _ (fun e env H=> ?_) _ _;cases e with
  | normal=>exact CT.bind (CT.const _) fun x=>hF x
  | exit i=>exact CT.const _ | ret=>exact CT.const _
 refine⟨key,fun k a b hab x=> ?_⟩;exact(key (two a b) b (fun x=>CT.two (a:=a x) rfl (fun _=>rfl) (hab x)) x).mono 0 1 (by omega)
theorem y1k (A:Ann) (V:Lvl A) (fid:Nat) (c:Code) (l:LoopA) (n:Nat):Cont (fun _=>y6l A V lpW fid c l n) (y6l A V lpW fid c l n):=y1j (A.at fid) (V.at fid) fid c l n
def z5c (r:Nat):Code->Option Code
 | .seq a b=>(match z5c r a with
  | some c=>some c | none=>z5c r b)
 | .cond _ a b=>(match z5c r a with
  | some c=>some c | none=>z5c r b)
 | .block _ c=>z5c r c | .loop c=>(match z1c c with
  | some q=>(match Nat.beq q r with
   | true=>some c | false=>z5c r c)
  | none=>z5c r c)
 | _=>none
def y8l (fn:Func) (r:Nat):Code:=((fn.body.bind (z5c r)).getD .skip)
theorem y8m {A:Ann} {V:Lvl A} {fid n:Nat} {c:Code} {l:LoopA} {S:(l.head.sh.den->Option (l.out.sh.den⊕l.ret.sh.den))->l.head.sh.den->Option (l.out.sh.den⊕l.ret.sh.den)} (h:S=y6l A V lpW fid c l n) (x:l.head.sh.den):
 lpW _ _ S x=S (lpW _ _ S) x:=by
 subst h;exact y7h (y1k A V fid c l n) x
end Go.Proofs.YtkphhjdbdnoekaaGreatDoor.Ab
