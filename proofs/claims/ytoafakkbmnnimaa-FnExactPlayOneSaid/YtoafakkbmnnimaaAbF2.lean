import Derived.Test.YtoafakkbmnnimaaAbF1
namespace Go.Proofs.Ytoafakkbmnnimaa.Ab
open Go Go.ChangeShapes Go.RowKit
set_option linter.unusedVariables false
set_option linter.unusedSimpArgs false
set_option linter.unnecessarySimpa false
set_option linter.unusedSimpArgs false
set_option linter.unusedVariables false

/-- How an input's part is handed to the plain run. -/
@[reducible] def shp : Ty → Sh
  | .int k => .int k
  | .bool => .bool
  | .str => .str
  | .sl e => .tr false e
  | .pair a b => .pair (shp a) (shp b)
def toSh : (t : Ty) → t.den → (shp t).den
  | .int _, x => x
  | .bool, x => x
  | .str, x => x
  | .sl _, x => x
  | .pair a b, x => (toSh a x.1, toSh b x.2)

/-- A parameter: whether it is a struct, and its type of data. -/
abbrev Par := Bool × Ty
@[reducible] def parSh (a : Par) : Sh := match a.1 with
  | true => .agg (shp a.2)
  | false => shp a.2
def toPar : (a : Par) → a.2.den → (parSh a).den
  | (true, t), x => toSh t x
  | (false, t), x => toSh t x
@[reducible] def insSh : List Par → Sh
  | [] => .unit
  | [a] => parSh a
  | a :: b :: r => .pair (parSh a) (insSh (b :: r))
@[reducible] def Pars : List Par → Type
  | [] => Unit
  | [a] => a.2.den
  | a :: b :: r => a.2.den × Pars (b :: r)
def toIns : (as : List Par) → Pars as → (insSh as).den
  | [], _ => ()
  | [a], x => toPar a x
  | a :: b :: r, x => (toPar a x.1, toIns (b :: r) x.2)
def fineAll : (as : List Par) → Pars as → Prop
  | [], _ => True
  | [a], x => a.2.fine x
  | a :: b :: r, x => a.2.fine x.1 ∧ fineAll (b :: r) x.2

/-- Whether parameters are what is told of them. -/
def fitPar (P : Program) (t : Nat) (a : Par) : Bool :=
  fit P 9 t a.2 && (match P.underlying t with
    | some (.struct _) => a.1
    | some .bool => !a.1
    | some (.int _) => !a.1
    | some .string => !a.1
    | some (.slice _) => !a.1
    | _ => false)
def fitPars (P : Program) : List Nat → List Par → Bool
  | [], [] => true
  | t :: ts, a :: as => fitPar P t a && fitPars P ts as
  | _, _ => false

section
variable {P : Program} {w W W' : World} {H : Type} {enc : TypeId × Value → H} {N Np : Nat → Prop} {B : List (Option Nat)}

theorem shp_cells : ∀ {t : Ty} {x : t.den} {vs : List Value} {Hh H0 : Heap}, Dat N w t x vs → CRs N Np Hh B w (emb (shp t) (toSh t x) H0).1 vs ∧ (emb (shp t) (toSh t x) H0).2 = H0
  | .int _, _, _, _, _, h => by cases h; simp [shp, toSh, emb, CRs, CR]
  | .bool, _, _, _, _, h => by cases h; simp [shp, toSh, emb, CRs, CR]
  | .str, _, _, _, _, h => by cases h; simp [shp, toSh, emb, CRs, CR]
  | .sl e, x, vs, _, _, h => by
    have h' := h
    obtain ⟨A, c, rfl, _⟩ := h
    refine ⟨?_, rfl⟩
    simp only [emb, CRs, CR]
    exact ⟨_, _, rfl, h', rfl⟩
  | .pair a b, x, vs, Hh, H0, h => by
    obtain ⟨us, ws, rfl, h1, h2⟩ := h
    obtain ⟨k1, k2⟩ := shp_cells (Hh := Hh) (H0 := H0) h1
    obtain ⟨k3, k4⟩ := shp_cells (Hh := Hh) (H0 := H0) h2
    refine ⟨?_, ?_⟩
    · show CRs N Np Hh B w ((emb (shp a) (toSh a x.1) H0).1 ++ (emb (shp b) (toSh b x.2) (emb (shp a) (toSh a x.1) H0).2).1) (us ++ ws)
      rw [k2]
      exact k1.append k3
    · show (emb (shp b) (toSh b x.2) (emb (shp a) (toSh a x.1) H0).2).2 = H0
      rw [k2, k4]

theorem par_ok {t : Nat} {a : Par} (hf : fitPar P t a = true) {base : Nat} {v : Value} (hv : Value.okWide P W .any base t v) {d : DataW H} {p : List MemPlace} (h : DataW.Trod enc P W 0 (fun _ => true) true t v d p) :
    ∃ x : a.2.den, a.2.fine x ∧ ∀ Hh H0, CRs (fun _ => False) (fun _ => False) Hh [] W (emb (parSh a) (toPar a x) H0).1 [v] ∧ (emb (parSh a) (toPar a x) H0).2 = H0 := by
  unfold fitPar at hf
  simp only [Bool.and_eq_true] at hf
  obtain ⟨hf, hg⟩ := hf
  obtain ⟨n, hn⟩ := h
  obtain ⟨x, hx, hfine⟩ := open_fit hf _ _ _ hn
  refine ⟨x, hfine, fun Hh H0 => ?_⟩
  obtain ⟨g, ty⟩ := a
  simp only at hf hg hx hfine
  obtain ⟨k1, k2⟩ := shp_cells (N := fun _ => False) (Np := fun _ => False) (B := []) (Hh := Hh) (H0 := H0) hx
  unfold Value.okWide at hv
  split at hg
  · rename_i fs hu
    subst hg
    rw [hu] at hv
    obtain ⟨cs, rfl, _, _⟩ := hv
    refine ⟨?_, k2⟩
    show CRs _ _ _ _ _ [D.agg (emb (shp ty) (toSh ty x) H0).1] [Value.agg cs]
    simp only [CRs, CR]
    exact ⟨_, _, rfl, ⟨cs, rfl, k1⟩, rfl⟩
  all_goals (try (cases hg; done))
  all_goals
    rename_i hu
    rw [hu] at hv
    simp only [Cell.okWide, hu, Cell.ok] at hv
    have hg' : g = false := by simpa using hg
    subst hg'
    have hc : v.cells.toList = [v] := by
      cases v <;> first | rfl | (simp at hv; done) | simp_all [Value.cells]
    rw [hc] at k1
    exact ⟨k1, k2⟩

theorem pars_ok {base : Nat} : ∀ {ts : List Nat} {as : List Par} {vs : List Value} {ds : List (DataW H)} {p : List MemPlace}, fitPars P ts as = true → (∀ (j : Nat) t v, ts[j]? = some t → vs[j]? = some v → Value.okWide P W .any base t v) →
    DataW.TrodAll enc P W 0 (fun _ => true) true ts vs ds p → ∃ x : Pars as, fineAll as x ∧ ∀ Hh H0, CRs (fun _ => False) (fun _ => False) Hh [] W (emb (insSh as) (toIns as x) H0).1 vs ∧ (emb (insSh as) (toIns as x) H0).2 = H0
  | [], [], vs, ds, p, _, _, h => by
    obtain ⟨rfl, rfl, rfl⟩ := trodAll_nil h
    exact ⟨(), trivial, fun Hh H0 => ⟨by simp [toIns, emb, CRs], rfl⟩⟩
  | [], _ :: _, _, _, _, hf, _, _ => by simp [fitPars] at hf
  | _ :: _, [], _, _, _, hf, _, _ => by simp [fitPars] at hf
  | t :: ts, a :: as, vs, ds, p, hf, hv, h => by
    simp only [fitPars, Bool.and_eq_true] at hf
    obtain ⟨v, vs', d, ds', p1, p2, rfl, rfl, rfl, h1, h2⟩ := trodAll_cons h
    obtain ⟨x, k1, k2⟩ := par_ok hf.1 (hv 0 t v rfl rfl) h1
    obtain ⟨y, k3, k4⟩ := pars_ok hf.2 (fun j t v h1 h2 => hv (j + 1) t v (by simpa using h1) (by simpa using h2)) h2
    cases as with
    | nil =>
      cases ts with
      | cons _ _ => simp [fitPars] at hf
      | nil =>
        obtain ⟨rfl, rfl, rfl⟩ := trodAll_nil h2
        exact ⟨x, k1, k2⟩
    | cons b r =>
      refine ⟨(x, y), ⟨k1, k3⟩, fun Hh H0 => ?_⟩
      obtain ⟨q1, q2⟩ := k2 Hh H0
      obtain ⟨q3, q4⟩ := k4 Hh H0
      refine ⟨?_, ?_⟩
      · show CRs _ _ _ _ _ ((emb (parSh a) (toPar a x) H0).1 ++ (emb (insSh (b :: r)) (toIns (b :: r) y) (emb (parSh a) (toPar a x) H0).2).1) (v :: vs')
        rw [q2]
        exact q1.append q3
      · show (emb (insSh (b :: r)) (toIns (b :: r) y) (emb (parSh a) (toPar a x) H0).2).2 = H0
        rw [q2, q4]

theorem carry_all (hl : laidOutB P = true) (hb : Below W.heap.size W W') : ∀ {ts : List Nat} {vs : List Value} {ds : List (DataW H)} {p : List MemPlace}, (ts.all fun t => P.readableRec t && decide (t < P.types.size)) = true →
    DataW.TrodAll enc P W 0 (fun _ => true) true ts vs ds p → DataW.TrodAll enc P W' 0 (fun b => decide (b < W.heap.size)) true ts vs ds p
  | [], vs, ds, p, _, h => by
    obtain ⟨rfl, rfl, rfl⟩ := trodAll_nil h
    exact trodAll_mk0
  | t :: ts, vs, ds, p, hr, h => by
    simp only [List.all_cons, Bool.and_eq_true, decide_eq_true_eq] at hr
    obtain ⟨v, vs', d, ds', p1, p2, rfl, rfl, rfl, h1, h2⟩ := trodAll_cons h
    have lt : ∀ x ∈ p1, x.block < W.heap.size := by obtain ⟨m, hm⟩ := h1; exact DataW.trod_lt m _ _ _ hm
    exact trodAll_cons_mk (Below.trod hl hr.1.1 hr.1.2 h1 hb lt) (carry_all hl hb (by simpa using hr.2) h2)

theorem ext_bool {Hh : Heap} {ds : List D} {u : Used} {b : Bool} (h : ext false Hh .bool ds [] = some (b, [], u)) : ds = [.bool b] := by
  cases ds with
  | nil => simp [ext] at h
  | cons d ds =>
    cases d <;> simp only [ext] at h <;> try (cases h; done)
    simp only [Option.some.injEq, Prod.mk.injEq] at h
    obtain ⟨rfl, rfl, _⟩ := h
    rfl

end

/-- A law: true whatever its input, the input as it was. -/
theorem law_contract {H : Type} {enc : TypeId × Value → H} {C : Checked} {f : Nat} {fn : Func} {s : ChangeSpec} {conds : List PathCond} {ps : List Par} {rt : Nat} (hl : laidOutB C.prog = true) (hfit : fitPars C.prog fn.params.toList ps = true)
    (hread : (fn.params.toList.all fun t => C.prog.readableRec t && decide (t < C.prog.types.size)) = true) (hres : fn.resultTypes = #[rt]) (hbool : C.prog.underlying rt = some .bool) (hvars : s.vars = [])
    (hspec : ∀ ds : List (DataW H), ds.length = ps.length → s.fn H ds = { results := [.lit (.bool true)], args := ds })
    (hans : ∀ x : Pars ps, fineAll ps x → Answers C.prog f { ins := insSh ps, inout := [], out := .bool, nres := 1 } (toIns ps x) true) :
    ∀ (W : World) (base : Nat) (args : Array Value) (ds gs : List (DataW H)) (before : List MemPlace),
      (∀ (j : Nat) t v, fn.params[j]? = some t → args[j]? = some v → Value.okWide C.prog W .any base t v) →
      DataW.Whole enc C.prog fn.params.toList s.vars false W args.toList ds gs before →
      conds.all (PathCond.test C.prog ⟨fn.params.toList, ds, s.plain.varTypes C.prog, gs⟩) = true →
      (DataW.weightsEach C.prog (fn.params.toList ++ s.plain.varTypes C.prog) (ds ++ gs)).all (· ≤ reachBytes) = true →
      ({} : Assume).holds C.prog (lone (Frame.enter C.prog f args .normal) [] W) →
      Calls C.prog f args W fun e W' => ∃ v, e = .returned v ∧ s.post enc C.prog fn false true false false W args v W' := by
  intro W base args ds gs before hval hW _ _ _
  have hW' := hW
  obtain ⟨p, q, hA, hV, rfl, _, _⟩ := hW
  rw [hvars] at hV
  obtain ⟨rfl, rfl⟩ := trodVars_none hV
  obtain ⟨x, hx, hc⟩ := pars_ok hfit (fun j t v h1 h2 => hval j t v (by simpa using h1) (by simpa using h2)) hA
  let C0 : Cx := { w0 := W, W0 := fun _ => False, Lb := fun _ => False, Lp := fun _ => False, nt := 0, fx := [], fv := fun _ => undef }
  obtain ⟨hc1, hc2⟩ := hc [] []
  have hno : ∀ b : Nat, ¬ Has [] b := fun b ⟨i, k⟩ => by simp at k
  have hs : HS C0 (emb (insSh ps) (toIns ps x) []).2 [] C0.w0 := by
    rw [hc2]
    exact {
      lenB := rfl
      nodup := fun i j rb k => by simp at k
      alloc := fun i rb k => by simp at k
      blk := fun i b ob k => by simp at k
      lb := fun b k => k
      lp := fun b k => k.elim
      fr := Fr.refl _ _ }
  have hcr : CRs (C0.N []) (C0.Np []) (emb (insSh ps) (toIns ps x) []).2 [] C0.w0 (emb (insSh ps) (toIns ps x) []).1 args.toList := by
    rw [hc2]
    exact hc1.step (step_same (fun b k => k.elim (hno b) (fun z => z)) (fun b k => k.elim (hno b) (fun z => z)))
  have := hans x hx C0 [] args.toList hs hcr
  have ha : args.toList.toArray = args := by simp
  rw [ha] at this
  refine Calls.mono this ?_
  intro e w' hR
  cases e with
  | panicked _ => exact hR.elim
  | outgrown => exact hR.elim
  | returned v =>
    obtain ⟨H1, B1, ds1, vs, u1, g1, g2, g3, g4, g5⟩ := hR
    have hds := ext_bool g3
    subst hds
    have hkv : keepV [] args.toList = [] := rfl
    rw [hkv, List.append_nil] at g2
    simp only [CRs, CR] at g2
    obtain ⟨_, _, rfl, rfl, rfl⟩ := g2
    have hbel : Below W.heap.size W w' := ⟨g1.fr.os, g1.fr.tape, g1.fr.output, g1.fr.size, fun k hk => g1.fr.same k hk (fun z => z)⟩
    refine ⟨_, rfl, ?_⟩
    have hlen : ds.length = ps.length := by
      have l1 : ∀ {ts : List Nat} {vs : List Value} {ds : List (DataW H)} {p : List MemPlace}, DataW.TrodAll enc C.prog W 0 (fun _ => true) true ts vs ds p → ds.length = ts.length := by
        intro ts
        induction ts with
        | nil => intro vs ds p h; obtain ⟨_, rfl, _⟩ := trodAll_nil h; rfl
        | cons t ts ih => intro vs ds p h; obtain ⟨_, _, _, _, _, _, _, rfl, _, _, h2⟩ := trodAll_cons h; simp [ih h2]
      have l2 : ∀ {ts : List Nat} {ps : List Par}, fitPars C.prog ts ps = true → ts.length = ps.length := by
        intro ts
        induction ts with
        | nil => intro as h; cases as <;> simp [fitPars] at h ⊢
        | cons t ts ih => intro as h; cases as with
          | nil => simp [fitPars] at h
          | cons a as => simp only [fitPars, Bool.and_eq_true] at h; simp [ih h.2]
      rw [l1 hA, l2 hfit]
    have hsp := hspec (ds ++ []) (by simpa using hlen)
    refine ⟨ds, [], p ++ [], [], p, [], hW', ?_, ?_, ?_, hbel.frame _, fun h => by cases h⟩
    · rw [hsp, g5, hres]
      exact trodAll_mk1 ⟨1, by simp [DataW.trod, Value.cells, hbool, resV, Value.resultList]⟩
    · rw [hsp]
      simpa using carry_all hl hbel hread hA
    · rw [hvars, hsp]
      exact rfl

end Go.Proofs.Ytoafakkbmnnimaa.Ab
