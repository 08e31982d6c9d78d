import Derived.Test.YtbkicjpdlchbgaaGreatAbK1
namespace Go.Proofs.YtbkicjpdlchbgaaGreat.Ab
open Go
set_option linter.unusedVariables false
set_option linter.unusedSimpArgs false
set_option linter.unnecessarySimpa false
set_option linter.unusedSimpArgs false
set_option linter.unusedVariables false

def runW (A : Ann) (V : Lvl A) (lp : Lp) (fid : Nat) : Code → (R : Type) → (Ex → List D → Heap → Option R) → List D → Heap → Option R
  | .skip, _, K, env, H => K .normal env H
  | .region id ops draw, R, K, env, H => regionE A V fid id ops.toList draw R (K .normal) env H
  | .seq a b, R, K, env, H =>
    match (firstReg b).bind (fun r => A.join fid (2 * r)) with
    | none => runW A V lp fid a R (fun e env H => match e with
      | .normal => runW A V lp fid b R K env H
      | .exit i => K (.exit i) env H
      | .ret => K .ret env H) env H
    | some j => (runW A V lp fid a j.sh.den (fun e env H => match e with
      | .normal => extJ j env H
      | _ => none) env H).bind fun x => runW A V lp fid b R K (embJ j env.length x).1 (embJ j env.length x).2
  | .cond c a b, R, K, env, H =>
    (match opd env c with
     | .bool t => cond t (runW A V lp fid a R K env H) (runW A V lp fid b R K env H)
     | _ => none)
  | .block id c, R, K, env, H => runW A V lp fid c R (fun e env H => match e with
    | .normal => K .normal env H
    | .exit i => (match Nat.beq i id with
      | true => K .normal env H
      | false => K (.exit i) env H)
    | .ret => K .ret env H) env H
  | .loop c, R, K, env, H =>
    (match (firstReg c).bind (A.loop fid) with
     | none => none
     | some l => (match extJ l.head env H with
       | none => none
       | some x => (lp l.head.sh.den (l.out.sh.den ⊕ l.ret.sh.den) (fun again x => runW A V lp fid c (l.out.sh.den ⊕ l.ret.sh.den) (fun e env H => match e with
           | .normal => (extJ l.head env H).bind again
           | .exit i => (match Nat.beq i l.exid with
             | true => (extJ l.out env H).map .inl
             | false => none)
           | .ret => (extJ l.ret env H).map .inr) (embJ l.head env.length x).1 (embJ l.head env.length x).2) x).bind fun r => match r with
             | .inl y => K (.exit l.exid) (embJ l.out env.length y).1 (embJ l.out env.length y).2
             | .inr z => K .ret (embJ l.ret env.length z).1 (embJ l.ret env.length z).2))
  | .exit id, _, K, env, H => K (.exit id) env H
  | .ret, _, K, env, H => K .ret env H
  | _, _, _, _, _ => none

/-- One round of a loop. -/
def stepW (A : Ann) (V : Lvl A) (lp : Lp) (fid : Nat) (c : Code) (l : LoopA) (n : Nat) : (l.head.sh.den → Option (l.out.sh.den ⊕ l.ret.sh.den)) → l.head.sh.den → Option (l.out.sh.den ⊕ l.ret.sh.den) :=
  fun again x => runW A V lp fid c (l.out.sh.den ⊕ l.ret.sh.den) (fun e env H => match e with
           | .normal => (extJ l.head env H).bind again
           | .exit i => (match Nat.beq i l.exid with
             | true => (extJ l.out env H).map .inl
             | false => none)
           | .ret => (extJ l.ret env H).map .inr) (embJ l.head n x).1 (embJ l.head n x).2

theorem run_eq (A : Ann) (V : Lvl A) (fid n : Nat) (c : Code) : ∀ (R : Type) (K : Ex → List D → Heap → Option R) (env : List D) (H : Heap), run A V fid n c R K env H = runW A V (lpN n) fid c R K env H := by
  induction c with
  | skip => intros; rfl
  | region => intros; rfl
  | seq a b iha ihb =>
    intro R K env H
    simp only [run, runW, iha, ihb]
    rfl
  | cond c a b iha ihb =>
    intro R K env H
    simp only [run, runW, iha, ihb]
    rfl
  | block id c ih =>
    intro R K env H
    simp only [run, runW, ih]
    rfl
  | loop c ih =>
    intro R K env H
    simp only [run, runW, ih, lpN]
    rfl
  | _ => intros; rfl

section
variable {A : Ann} {V : Nat → Lvl A} {Vw : Lvl A} (hV : ∀ f x, CT (fun k => (V k).call f x) (Vw.call f x))
include hV

theorem callE_ct {R : Type} {f : Nat} {ds : List D} {H : Heap} {K : Nat → D → Heap → Option R} {Kw : D → Heap → Option R} (hK : ∀ d H, CT (fun k => K k d H) (Kw d H)) : CT (fun k => callE A (V k) R f ds H (K k)) (callE A Vw R f ds H Kw) := by
  unfold callE
  rcases h1 : ext true H (A.sig f).ins ds [] with _ | ⟨x, r, u⟩
  · exact CT.const _
  · cases r with
    | cons a r => exact CT.const _
    | nil =>
      simp only
      cases h2 : (((A.sig f).out.perm || !u.lent) && (A.sig f).out.norefs) with
      | false => exact CT.const _
      | true =>
        simp only
        refine CT.bind (hV f x) fun y => ?_
        rcases h3 : emb (A.sig f).out y (kill H u.ids) with ⟨rs, H2⟩
        simp only
        cases h4 : wbAll H u.ids H2 (keep (A.sig f).inout ds) (rs.drop (A.sig f).nres) with
        | none => exact CT.const _
        | some r => exact hK _ _

theorem callN_ct {R : Type} {f : Nat} {ds : List D} {H : Heap} {K : Nat → D → Option R} {Kw : D → Option R} (hK : ∀ d, CT (fun k => K k d) (Kw d)) : CT (fun k => callN A (V k) R f ds H (K k)) (callN A Vw R f ds H Kw) := by
  unfold callN
  rcases h1 : ext true H (A.sig f).ins ds [] with _ | ⟨x, r, u⟩
  · exact CT.const _
  · cases r with
    | cons a r => exact CT.const _
    | nil =>
      simp only
      cases h2 : (((A.sig f).out.perm || !u.lent) && u.ids.isEmpty && (A.sig f).inout.isEmpty && nshape (A.sig f).out) with
      | false => exact CT.const _
      | true => exact CT.bind (hV f x) fun y => hK _

omit hV in
theorem guardE_ct {R : Type} {ops : List Oper} {o : Oper} {env : List D} {yes no : Nat → List D → Option R} {yw nw : List D → Option R} (hy : ∀ env, CT (fun k => yes k env) (yw env)) (hn : ∀ env, CT (fun k => no k env) (nw env)) :
    CT (fun k => guardE R ops o env (yes k) (no k)) (guardE R ops o env yw nw) := by
  unfold guardE
  rcases h1 : o.guard with _ | ⟨j, want⟩
  · exact hy env
  · simp only
    cases h2 : (ops[j]?).bind (·.dst) with
    | none => exact CT.const _
    | some t =>
      simp only
      cases h3 : get env t with
      | bool b =>
        cases want
        · exact CT.cond b (hn _) (hy _)
        · exact CT.cond b (hy _) (hn _)
      | tup vs =>
        cases vs with
        | nil => exact hn env
        | cons _ _ => exact CT.const _
      | _ => exact CT.const _

theorem runO_ct {R : Type} {all : List Oper} {K : Nat → List D → Heap → Option R} {Kw : List D → Heap → Option R} (hK : ∀ env H, CT (fun k => K k env H) (Kw env H)) :
    ∀ (ops : List Oper) (env : List D) (H : Heap), CT (fun k => runO A (V k) R all (K k) ops env H) (runO A Vw R all Kw ops env H)
  | [], env, H => hK env H
  | o :: os, env, H => by
    unfold runO
    refine guardE_ct (fun env => ?_) (fun env => runO_ct hK os _ _)
    rcases h1 : nev A env H o.op with _ | ⟨g, d⟩
    · simp only
      rcases h5 : litC A env H o.op with _ | d
      · simp only
        rcases h2 : eff A (frz (takes env o.op) (env, H)).1 (frz (takes env o.op) (env, H)).2 o.op with _ | ⟨g, d, H'⟩
        · simp only
          cases h3 : o.op with
          | call c =>
            simp only
            rcases h4 : calleeI A env c with _ | ⟨f, ds⟩
            · exact CT.const _
            · exact callE_ct hV fun d H => runO_ct hK os _ _
          | _ => exact CT.const _
        · exact CT.cond g (runO_ct hK os _ _) (CT.const _)
      · exact runO_ct hK os _ _
    · exact CT.cond g (runO_ct hK os _ _) (CT.const _)

theorem runN_ct {R : Type} {all : List Oper} {H : Heap} {K : Nat → List D → Option R} {Kw : List D → Option R} (hK : ∀ env, CT (fun k => K k env) (Kw env)) :
    ∀ (ops : List Oper) (env : List D), CT (fun k => runN A (V k) R all H (K k) ops env) (runN A Vw R all H Kw ops env)
  | [], env => hK env
  | o :: os, env => by
    unfold runN
    refine guardE_ct (fun env => ?_) (fun env => runN_ct hK os _)
    rcases h1 : nev A env H o.op with _ | ⟨g, d⟩
    · simp only
      rcases h2 : litN A env H o.op with _ | d
      · simp only
        cases h3 : o.op with
        | call c =>
          simp only
          rcases h4 : calleeI A env c with _ | ⟨f, ds⟩
          · exact CT.const _
          · exact callN_ct hV fun d => runN_ct hK os _
        | _ => exact CT.const _
      · exact runN_ct hK os _
    · exact CT.cond g (runN_ct hK os _) (CT.const _)

theorem runD_ct {R : Type} {G : DCfg} {K : Nat → List D → Heap → Option R} {Kw : List D → Heap → Option R} (hK : ∀ env H, CT (fun k => K k env H) (Kw env H)) :
    ∀ (ops : List Oper) (j : Nat) (hs : List (Nat × Ids × Heap)) (ms : List (Nat × Ids)) (env : List D) (H : Heap), CT (fun k => runD A (V k) R G (K k) ops j hs ms env H) (runD A Vw R G Kw ops j hs ms env H)
  | [], _, _, _, env, H => hK env H
  | o :: os, j, hs, ms, env, H => by
    unfold runD
    cases h0 : G.con.getD j none with
    | some c => exact runD_ct hK os _ _ _ _ _
    | none =>
      simp only
      refine guardE_ct (fun env => ?_) (fun env => runD_ct hK os _ _ _ _ _)
      cases h1 : isPure o.op with
      | true =>
        simp only
        rcases h2 : nev A env [] o.op with _ | ⟨g, d⟩
        · exact CT.const _
        · exact CT.cond g (runD_ct hK os _ _ _ _ _) (CT.const _)
      | false =>
        simp only
        cases h3 : adopter G.con j with
        | some a =>
          simp only
          rcases h4 : (G.all[a]?).bind (pendBlk A) with _ | ⟨s, blk⟩
          · exact CT.const _
          · cases h5 : ordOk (G.nd.getD j 0) hs with
            | false => exact CT.const _
            | true =>
              simp only
              cases h6 : onlyId H.length (touchOp (env.set s (pendHd H.length blk)) o.op) with
              | false => exact CT.const _
              | true =>
                rcases h7 : eff A (env.set s (pendHd H.length blk)) (H ++ [blk]) o.op with _ | ⟨g, d, H'⟩
                · exact CT.const _
                · exact CT.cond g (runD_ct hK os _ _ _ _ _) (CT.const _)
        | none =>
          simp only
          rcases h4 : nev A env (evalH G.H0 (G.nd.getD j 0) hs) o.op with _ | ⟨g, d⟩
          · simp only
            cases h5 : litN A env (evalH G.H0 (G.nd.getD j 0) hs) o.op with
            | some d =>
              simp only
              cases h6 : neuOk (G.nd.getD j 0) none hs with
              | false => exact CT.const _
              | true => exact runD_ct hK os _ _ _ _ _
            | none =>
              simp only
              rcases h6 : eff A env H o.op with _ | ⟨g, d, H'⟩
              · simp only
                cases h7 : o.op with
                | call c =>
                  simp only
                  rcases h8 : calleeI A env c with _ | ⟨f, ds⟩
                  · exact CT.const _
                  · simp only
                    cases h9 : ((A.sig f).out.still && (A.sig f).inout.all (fun b => !b)) with
                    | true =>
                      simp only
                      cases h10 : neuOk (G.nd.getD j 0) none hs with
                      | false => exact CT.const _
                      | true => exact callN_ct hV fun d => runD_ct hK os _ _ _ _ _
                    | false =>
                      simp only
                      cases h10 : (ordOk (G.nd.getD j 0) hs && effOk (G.nd.getD j 0) (touchCall A f ds H) ms) with
                      | false => exact CT.const _
                      | true => exact callE_ct hV fun d H => runD_ct hK os _ _ _ _ _
                | _ => exact CT.const _
              · simp only
                cases h7 : (ordOk (G.nd.getD j 0) hs && effOk (G.nd.getD j 0) (touchOp env o.op) ms) with
                | false => exact CT.const _
                | true => exact CT.cond g (runD_ct hK os _ _ _ _ _) (CT.const _)
          · simp only
            cases h5 : neuOk (G.nd.getD j 0) (readsOp env o.op) hs with
            | false => exact CT.const _
            | true => exact CT.cond g (runD_ct hK os _ _ _ _ _) (CT.const _)

theorem regionE_ct {R : Type} {fid id : Nat} {ops : List Oper} {draw : Bool} {K : Nat → List D → Heap → Option R} {Kw : List D → Heap → Option R} (hK : ∀ env H, CT (fun k => K k env H) (Kw env H)) (env : List D) (H : Heap) :
    CT (fun k => regionE A (V k) fid id ops draw R (K k) env H) (regionE A Vw fid id ops draw R Kw env H) := by
  unfold regionE
  cases h1 : A.join fid (2 * id + 1) with
  | some j =>
    simp only
    cases h2 : (sshape j.sh && sureOps ops) with
    | false => exact CT.const _
    | true => exact CT.bind (runN_ct hV (K := fun _ env => extJ j env H) (Kw := fun env => extJ j env H) (fun env => CT.const _) ops env) fun x => hK _ _
  | none =>
    simp only
    cases draw with
    | false => exact runO_ct hV hK ops env H
    | true =>
      simp only
      unfold drawE
      cases h2 : (sureD ops && fitsPend ops (conL A ops) env.length) with
      | false => exact CT.const _
      | true => exact runD_ct hV hK ops _ _ _ _ _
end

theorem run_ct (A : Ann) (fid : Nat) (c : Code) : ∀ (V : Nat → Lvl A) (Vw : Lvl A), (∀ f x, CT (fun k => (V k).call f x) (Vw.call f x)) → ∀ (lp : Nat → Lp) (lw : Lp), Good lp lw → (∀ k, Good (fun _ => lp k) (lp k)) →
    ∀ (R : Type) (K : Nat → Ex → List D → Heap → Option R) (Kw : Ex → List D → Heap → Option R), (∀ e env H, CT (fun k => K k e env H) (Kw e env H)) → ∀ env H, CT (fun k => runW A (V k) (lp k) fid c R (K k) env H) (runW A Vw lw fid c R Kw env H) := by
  induction c with
  | skip => intro V Vw hV lp lw g1 g2 R K Kw hK env H; exact hK _ _ _
  | region id ops draw => intro V Vw hV lp lw g1 g2 R K Kw hK env H; exact regionE_ct hV (hK _) env H
  | seq a b iha ihb =>
    intro V Vw hV lp lw g1 g2 R K Kw hK env H
    simp only [runW]
    cases h1 : (firstReg b).bind (fun r => A.join fid (2 * r)) with
    | none =>
      simp only
      refine iha V Vw hV lp lw g1 g2 R _ _ (fun e env H => ?_) env H
      cases e with
      | normal => exact ihb V Vw hV lp lw g1 g2 R K Kw hK env H
      | exit i => exact hK _ _ _
      | ret => exact hK _ _ _
    | some j =>
      simp only
      refine CT.bind (iha V Vw hV lp lw g1 g2 _ (fun _ e env H => match e with
        | .normal => extJ j env H
        | _ => none) _ (fun e env H => CT.const _) env H) (fun x => ihb V Vw hV lp lw g1 g2 R K Kw hK _ _)
  | cond c a b iha ihb =>
    intro V Vw hV lp lw g1 g2 R K Kw hK env H
    simp only [runW]
    cases h1 : opd env c with
    | bool t => exact CT.cond t (iha V Vw hV lp lw g1 g2 R K Kw hK env H) (ihb V Vw hV lp lw g1 g2 R K Kw hK env H)
    | _ => exact CT.const _
  | block id c ih =>
    intro V Vw hV lp lw g1 g2 R K Kw hK env H
    simp only [runW]
    refine ih V Vw hV lp lw g1 g2 R _ _ (fun e env H => ?_) env H
    cases e with
    | normal => exact hK _ _ _
    | exit i =>
      simp only
      cases Nat.beq i id with
      | true => exact hK _ _ _
      | false => exact hK _ _ _
    | ret => exact hK _ _ _
  | loop c ih =>
    intro V Vw hV lp lw g1 g2 R K Kw hK env H
    simp only [runW]
    cases h1 : (firstReg c).bind (A.loop fid) with
    | none => exact CT.const _
    | some l =>
      simp only
      cases h2 : extJ l.head env H with
      | none => exact CT.const _
      | some x =>
        simp only
        refine CT.bind (g1 _ _ (fun k => stepW A (V k) (lp k) fid c l env.length) (stepW A Vw lw fid c l env.length) ⟨fun F a hF x => ?_, fun k a b hab x => ?_⟩ x) (fun r => ?_)
        · unfold stepW
          refine ih V Vw hV lp lw g1 g2 _ _ _ (fun e env H => ?_) _ _
          cases e with
          | normal => exact CT.bind (CT.const _) fun x => hF x
          | exit i => exact CT.const _
          | ret => exact CT.const _
        · have := ih (fun _ => V k) (V k) (fun f x => CT.const _) (fun _ => lp k) (lp k) (g2 k) (fun _ => g2 k) (l.out.sh.den ⊕ l.ret.sh.den) (fun j e env H => match e with
              | .normal => (extJ l.head env H).bind (two a b j)
              | .exit i => (match Nat.beq i l.exid with
                | true => (extJ l.out env H).map .inl
                | false => none)
              | .ret => (extJ l.ret env H).map .inr) (fun e env H => match e with
              | .normal => (extJ l.head env H).bind b
              | .exit i => (match Nat.beq i l.exid with
                | true => (extJ l.out env H).map .inl
                | false => none)
              | .ret => (extJ l.ret env H).map .inr) (fun e env H => by
                cases e with
                | normal => exact CT.bind (CT.const _) fun x => CT.two (a := a x) rfl (fun _ => rfl) (hab x)
                | exit i => exact CT.const _
                | ret => exact CT.const _) (embJ l.head env.length x).1 (embJ l.head env.length x).2
          exact this.mono 0 1 (by omega)
        · cases r with
          | inl y => exact hK _ _ _
          | inr z => exact hK _ _ _
  | exit id => intro V Vw hV lp lw g1 g2 R K Kw hK env H; exact hK _ _ _
  | ret => intro V Vw hV lp lw g1 g2 R K Kw hK env H; exact hK _ _ _
  | _ => intro V Vw hV lp lw g1 g2 R K Kw hK env H; exact CT.const _

def bodyK (A : Ann) (f : Nat) (fn : Func) : Ex → List D → Heap → Option (A.sig f).out.den := fun e env H => match e with
      | .exit _ => none
      | _ => (match retD A env H fn.results.toList with
        | some rs => (match Nat.beq rs.length (A.sig f).nres, ext false H (A.sig f).out (rs ++ keep (A.sig f).inout env) [] with
          | true, some (y, [], _) => some y
          | _, _ => none)
        | none => none)

def bodyW (A : Ann) (V : Lvl A) (lp : Lp) (f : Nat) (fn : Func) (x : (A.sig f).ins.den) : Option (A.sig f).out.den :=
  match fn.body with
  | none => none
  | some c =>
    let r := emb (A.sig f).ins x []
    match stays (A.sig f).inout r.1.length c with
    | false => none
    | true => runW A V lp f c (A.sig f).out.den (bodyK A f fn) (r.1 ++ List.replicate (fn.ntmps - r.1.length) .undef) r.2

theorem body_eq (A : Ann) (V : Lvl A) (n f : Nat) (fn : Func) (x : (A.sig f).ins.den) : body A V n f fn x = bodyW A V (lpN n) f fn x := by
  unfold body bodyW
  simp only [run_eq]
  rfl

theorem body_ct (A : Ann) (f : Nat) (fn : Func) (x : (A.sig f).ins.den) {V : Nat → Lvl A} {Vw : Lvl A} (hV : ∀ f x, CT (fun k => (V k).call f x) (Vw.call f x)) {lp : Nat → Lp} {lw : Lp} (g1 : Good lp lw) (g2 : ∀ k, Good (fun _ => lp k) (lp k)) :
    CT (fun k => bodyW A (V k) (lp k) f fn x) (bodyW A Vw lw f fn x) := by
  unfold bodyW
  cases fn.body with
  | none => exact CT.const _
  | some c =>
    simp only
    cases stays (A.sig f).inout (emb (A.sig f).ins x []).1.length c with
    | false => exact CT.const _
    | true => exact run_ct A f c V Vw hV lp lw g1 g2 _ (fun _ => bodyK A f fn) (bodyK A f fn) (fun e env H => CT.const _) _ _

theorem lvl_up (P : Program) (A : Ann) : ∀ k f x, Le ((lvl P A k).call f x) ((lvl P A (k + 1)).call f x)
  | 0, f, x => Le.none _
  | k + 1, f, x => by
    simp only [lvl]
    cases A.prim f with
    | some F => exact Le.refl _
    | none =>
      simp only
      cases P.funcs[A.fn f]? with
      | none => exact Le.refl _
      | some fn =>
        simp only
        have h := body_ct A f fn x (V := two (lvl P A k) (lvl P A (k + 1))) (Vw := lvl P A (k + 1)) (fun f x => CT.two (a := (lvl P A k).call f x) rfl (fun _ => rfl) (lvl_up P A k f x))
          (good_lim (fun j => two k (k + 1) j) (fun i j h => by
            cases i <;> cases j <;> simp [two] <;> omega)) (fun j => good_n _)
        have := h.mono 0 1 (by omega)
        rw [body_eq, body_eq]
        exact this

theorem lvl_mono (P : Program) (A : Ann) (f : Nat) (x : (A.sig f).ins.den) (i j : Nat) (h : i ≤ j) : Le ((lvl P A i).call f x) ((lvl P A j).call f x) := by
  obtain ⟨d, rfl⟩ : ∃ d, j = i + d := ⟨j - i, by omega⟩
  clear h
  induction d with
  | zero => exact Le.refl _
  | succ d ih => exact ih.trans (lvl_up P A (i + d) f x)

/-- Calls, with as many rounds and calls in calls as it takes. -/
noncomputable def lvlW (P : Program) (A : Ann) : Lvl A := { call := fun f x => lim fun k => (lvl P A k).call f x }

theorem lvlW_ct (P : Program) (A : Ann) (f : Nat) (x : (A.sig f).ins.den) : CT (fun k => (lvl P A k).call f x) ((lvlW P A).call f x) := CT.lim (lvl_mono P A f x)

theorem lvlW_hit {P : Program} {A : Ann} {f : Nat} {x : (A.sig f).ins.den} {y : (A.sig f).out.den} (h : (lvlW P A).call f x = some y) : ∃ k, (lvl P A k).call f x = some y := (lvlW_ct P A f x).hit y h

theorem callW_eq {P : Program} {A : Ann} {f : Nat} {fn : Func} (hp : A.prim f = none) (hf : P.funcs[A.fn f]? = some fn) (x : (A.sig f).ins.den) : (lvlW P A).call f x = bodyW A (lvlW P A) lpW f fn x := by
  refine CT.uniq (lvlW_ct P A f x).shift (CT.congr (F := fun k => bodyW A (lvl P A k) (lpN k) f fn x) (fun k => ?_) (body_ct A f fn x (lvlW_ct P A) good_w (fun k => good_n k)))
  show _ = (lvl P A (k + 1)).call f x
  simp only [lvl, hp, hf]
  rw [body_eq]

theorem callW_prim {P : Program} {A : Ann} {f : Nat} {F : (A.sig f).ins.den → Option (A.sig f).out.den} (hp : A.prim f = some F) (x : (A.sig f).ins.den) : (lvlW P A).call f x = F x := by
  refine CT.uniq (lvlW_ct P A f x).shift (CT.congr (F := fun k => F x) (fun k => ?_) (CT.const _))
  simp only [lvl, hp]

theorem callW_of {P : Program} {A : Ann} {f : Nat} {fn : Func} (hp : A.prim f = none) (hf : P.funcs[A.fn f]? = some fn) {X : (A.sig f).ins.den → Option (A.sig f).out.den} (hb : ∀ x, bodyW A (lvlW P A) lpW f fn x = X x)
    (x : (A.sig f).ins.den) : (lvlW P A).call f x = X x := (callW_eq hp hf x).trans (hb x)

theorem stepW_cont (A : Ann) (V : Lvl A) (fid : Nat) (c : Code) (l : LoopA) (n : Nat) : Cont (fun _ => stepW A V lpW fid c l n) (stepW A V lpW fid c l n) := by
  have key : ∀ (F : Nat → l.head.sh.den → Option (l.out.sh.den ⊕ l.ret.sh.den)) (a : l.head.sh.den → Option (l.out.sh.den ⊕ l.ret.sh.den)), (∀ x, CT (fun k => F k x) (a x)) → ∀ x, CT (fun k => stepW A V lpW fid c l n (F k) x) (stepW A V lpW fid c l n a x) := by
    intro F a hF x
    unfold stepW
    refine run_ct A fid c (fun _ => V) V (fun f x => CT.const _) (fun _ => lpW) lpW good_ww (fun _ => good_ww) _ _ _ (fun e env H => ?_) _ _
    cases e with
    | normal => exact CT.bind (CT.const _) fun x => hF x
    | exit i => exact CT.const _
    | ret => exact CT.const _
  refine ⟨key, fun k a b hab x => ?_⟩
  exact (key (two a b) b (fun x => CT.two (a := a x) rfl (fun _ => rfl) (hab x)) x).mono 0 1 (by omega)

def loopAt (r : Nat) : Code → Option Code
  | .seq a b => (match loopAt r a with
    | some c => some c
    | none => loopAt r b)
  | .cond _ a b => (match loopAt r a with
    | some c => some c
    | none => loopAt r b)
  | .block _ c => loopAt r c
  | .loop c => (match firstReg c with
    | some q => (match Nat.beq q r with
      | true => some c
      | false => loopAt r c)
    | none => loopAt r c)
  | _ => none

def loopOfFn (fn : Func) (r : Nat) : Code := ((fn.body.bind (loopAt r)).getD .skip)

theorem loop_unf {A : Ann} {V : Lvl A} {fid n : Nat} {c : Code} {l : LoopA} {S : (l.head.sh.den → Option (l.out.sh.den ⊕ l.ret.sh.den)) → l.head.sh.den → Option (l.out.sh.den ⊕ l.ret.sh.den)} (h : S = stepW A V lpW fid c l n) (x : l.head.sh.den) :
    lpW _ _ S x = S (lpW _ _ S) x := by
  subst h
  exact lpW_eq (stepW_cont A V fid c l n) x

end Go.Proofs.YtbkicjpdlchbgaaGreat.Ab
