import Derived.Test.YtoafakkbmnnimaaAbC4
namespace Go.Proofs.Ytoafakkbmnnimaa.Ab
open Go
set_option linter.unusedVariables false
set_option linter.unusedSimpArgs false
set_option linter.unnecessarySimpa false
set_option linter.unusedSimpArgs false
set_option linter.unusedVariables false

section
variable {P : Program} {A : Ann} {C : Cx} {env : List D} {H : Heap} {B : List (Option Nat)} {a : Act} {w : World}

/-- An operation's run. -/
def OpGives (P : Program) (C : Cx) (H : Heap) (B : List (Option Nat)) (a : Act) (w : World) (o : Oper) (d : D) : Prop :=
  ∃ v, (execOp a.eval o).run P w = .ok (.value v) w ∧ CR (C.N B) (C.Np B) H B w d v

theorem OpGives.of {o : Oper} {d : D} {s : Sem Value} (he : execOp a.eval o = (do pure (Next.value (← s)))) (h : Gives P C H B w s d) : OpGives P C H B a w o d := by
  obtain ⟨v, h1, h2⟩ := h
  exact ⟨v, by rw [he]; exact run_v h1, h2⟩

theorem nev_ok (ok : TyOk P A) (h : St C env H B a w) {o : Oper} {g : Bool} {d : D} (e : nev A env H o.op = some (g, d)) (hg : g = true) : OpGives P C H B a w o d := by
  have cr := fun x => opd_ok h x
  cases ho : o.op <;> rw [ho] at e <;> simp only [nev] at e <;> try (cases e; done)
  case move x =>
    simp only [Option.some.injEq, Prod.mk.injEq] at e
    obtain ⟨_, rfl⟩ := e
    exact ⟨_, by simp [execOp, ho], cr x⟩
  case assign x =>
    simp only [Option.some.injEq, Prod.mk.injEq] at e
    obtain ⟨_, rfl⟩ := e
    exact ⟨_, by simp [execOp, ho], cr x⟩
  case pick c x y =>
    have hc := cr c
    split at e
    · rename_i e1
      rw [e1] at hc
      simp only [CR] at hc
      simp only [Option.some.injEq, Prod.mk.injEq] at e
      obtain ⟨_, rfl⟩ := e
      exact ⟨_, by simp [execOp, ho, hc, asBool], cr x⟩
    · rename_i e1
      rw [e1] at hc
      simp only [CR] at hc
      simp only [Option.some.injEq, Prod.mk.injEq] at e
      obtain ⟨_, rfl⟩ := e
      exact ⟨_, by simp [execOp, ho, hc, asBool], cr y⟩
    · cases e
  case binOp op xt x y yt =>
    exact .of (s := do eqGuard op xt x y (a.eval x) (a.eval y); binOp op xt (a.eval x) (a.eval y)) (by simp only [execOp, ho]) (binD_ok ok (cr x) (cr y) e hg)
  case unOp op xt x =>
    exact .of (by simp only [execOp, ho]) (unD_ok (cr x) e)
  case convert src dst x =>
    have hx := cr x
    refine .of (s := convert src dst (a.eval x)) (by simp only [execOp, ho]) ?_
    split at e
    · rename_i y k k' n e1 e2 e3
      rw [e3] at hx
      simp only [CR] at hx
      simp only [Option.some.injEq, Prod.mk.injEq] at e
      obtain ⟨_, rfl⟩ := e
      obtain ⟨ds, hds⟩ := ok.some_ _ _ e1
      refine ⟨.int k (k.wrap n), ?_, by simp [CR]⟩
      rw [hx]
      simp only [convert, Sem.run_bind, run_underlying hds, run_underlying (ok.int _ _ e2), Result.andThen_ok]
      cases ds <;> simp [Conv.intToInt]
    · rename_i y s e1 e2 e3
      rw [e3] at hx
      simp only [CR] at hx
      simp only [Option.some.injEq, Prod.mk.injEq] at e
      obtain ⟨_, rfl⟩ := e
      obtain ⟨ds, hds⟩ := ok.some_ _ _ e1
      refine ⟨.string s, ?_, by simp [CR]⟩
      rw [hx]
      simp only [convert, Sem.run_bind, run_underlying hds, run_underlying (ok.str _ e2), Result.andThen_ok]
      cases ds <;> simp
    · rename_i d0 e1 e2 hne
      split at e
      · cases e
      · rename_i hns
        split at e
        · rename_i q l es
          simp only [Option.some.injEq, Prod.mk.injEq] at e
          obtain ⟨_, rfl⟩ := e
          obtain ⟨et, hu, hty⟩ := ok.sl _ _ e1
          have hd := srcOf_dat h.toHS hx hns es (Nt := fun _ => False) (fun _ _ _ => id) (fun _ _ => id)
          refine ⟨.string (strI l), ?_, by simp [CR]⟩
          obtain ⟨a0, c, hv, _⟩ := id hd
          injection hv with hv _
          rw [hv, run_convert_bytes_string w src dst et a0 _ _ hu (ok.int _ _ hty) (ok.str _ e2), ← hv]
          exact dat_bytes hd
        · cases e
    · cases e
  case fieldAddr s x f =>
    have hx := cr x
    refine .of (s := Instr.fieldAt s (a.eval x) f) (by simp only [execOp, ho]) ?_
    split at e
    · rename_i o n ag hf
      split at e
      · rename_i id off e1
        rw [e1] at hx
        split at e
        · rename_i cells hH
          simp only [Option.some.injEq, Prod.mk.injEq] at e
          obtain ⟨_, rfl⟩ := e
          simp only [CR] at hx
          obtain ⟨⟨hid, h1⟩, hp⟩ := hx
          obtain ⟨rb, hb, hv⟩ := hp _ hH
          refine ⟨_, by rw [hv]; exact fieldAt_ok ok hf _ _, ?_⟩
          simp only [CR]
          exact ⟨⟨hid, rfl⟩, fun cells' _ => ⟨rb, hb, rfl⟩⟩
        · cases e
      · rename_i id st i c e1
        rw [e1] at hx
        split at e
        · rename_i p st' t l hH
          split at e
          · rename_i e0
            subst e0
            simp only [Option.some.injEq, Prod.mk.injEq] at e
            obtain ⟨_, rfl⟩ := e
            simp only [CR] at hx
            obtain ⟨⟨hid, h1⟩, hp⟩ := hx
            obtain ⟨_, hp⟩ := hp _ _ _ _ hH
            obtain ⟨hi, rb, hb, hv⟩ := hp rfl
            refine ⟨_, by rw [hv]; exact fieldAt_ok ok hf _ _, ?_⟩
            simp only [CR]
            refine ⟨⟨hid, rfl⟩, fun p' st' t' l' e1 => ?_⟩
            rw [hH] at e1
            injection e1 with e1
            injection e1 with q1 q2 q3 q4
            subst q1; subst q2; subst q3; cases q4
            exact ⟨Nat.le_refl _, fun _ => ⟨hi, rb, hb, by rw [Nat.add_assoc]⟩⟩
          · cases e
        · cases e
      · rename_i cells off e1
        rw [e1] at hx
        simp only [Option.some.injEq, Prod.mk.injEq] at e
        obtain ⟨_, rfl⟩ := e
        simp only [CR] at hx
        obtain ⟨rb, ro, hv, hx⟩ := hx
        refine ⟨_, by rw [hv]; exact fieldAt_ok ok hf _ _, ?_⟩
        simp only [CR]
        exact ⟨rb, ro, by rw [Nat.add_assoc], hx⟩
      · cases e
    · cases e
  case field s x f =>
    have hx := cr x
    refine .of (s := Instr.field s (a.eval x) f) (by simp only [execOp, ho]) ?_
    split at e
    · rename_i o n ag cs hf e1
      rw [e1] at hx
      simp only [CR] at hx
      obtain ⟨vs, hv, hx⟩ := hx
      split at e
      · rename_i hle
        split at e
        · rename_i d0 hm
          simp only [Option.some.injEq, Prod.mk.injEq] at e
          obtain ⟨_, rfl⟩ := e
          obtain ⟨fs, fd, i, de, hu, hfs, hoo, hi, hn, hn0, hud, hag⟩ := ok.fld _ _ _ _ _ hf
          obtain ⟨v, k1, k2⟩ := part_ok (P := P) hi hn hud hag hle hx hm
          refine ⟨v, ?_, k2⟩
          rw [hv]
          simp [Instr.field, run_underlying hu, hfs, asAgg, hoo, k1]
        · cases e
      · cases e
    · cases e
  case indexAddr t x i =>
    have hx := cr x
    have hi := cr i
    refine .of (s := Instr.indexAt t (a.eval x) (a.eval i)) (by simp only [execOp, ho]) ?_
    split at e
    · rename_i e0 k n e1 e2
      rw [e2] at hi
      simp only [CR] at hi
      rw [hi]
      exact indexAddrD_ok ok h.toHS e1 hx h.lb e hg
    · cases e
  case index t x i =>
    have hx := cr x
    have hi := cr i
    refine .of (s := Instr.index t (a.eval x) (a.eval i)) (by simp only [execOp, ho]) ?_
    split at e
    · rename_i s k n e1 e2 e3
      rw [e2] at hx
      rw [e3] at hi
      simp only [CR] at hx hi
      rw [hx, hi]
      simp only [Option.some.injEq, Prod.mk.injEq] at e
      obtain ⟨eg, rfl⟩ := e
      rw [hg] at eg
      obtain ⟨h1, h2⟩ := gIdx_iff.mp eg
      have hlt : n.toNat < s.size := by omega
      have hget : s[n.toNat]? = some s[n.toNat] := by simp [hlt]
      refine ⟨.int .u8 (s[n.toNat].toNat : Int), ?_, ?_⟩
      · simp [Instr.index, run_underlying (ok.str _ e1), asIntOf, h1, hget]
      · simp only [CR]
        have : s.data.toList.getD n.toNat 0 = s[n.toNat] := by
          have hl : n.toNat < s.data.size := hlt
          rw [List.getD_eq_getElem?_getD, Array.getElem?_toList, Array.getElem?_eq_getElem hl]
          rfl
        rw [this]
    · cases e
  case load t x =>
    have hx := cr x
    refine .of (s := Instr.loadAt t (a.eval x)) (by simp only [execOp, ho]) ?_
    split at e
    · rename_i n ag hl
      split at e
      · rename_i d0 e1
        simp only [Option.some.injEq, Prod.mk.injEq] at e
        obtain ⟨_, rfl⟩ := e
        exact loadD_ok ok h.toHS hl hx e1
      · cases e
    · cases e
  case extract x i =>
    have hx := cr x
    refine .of (s := Instr.extract (a.eval x) i) (by simp only [execOp, ho]) ?_
    split at e
    · rename_i vs e1
      split at e
      · rename_i hlt
        simp only [Option.some.injEq, Prod.mk.injEq] at e
        obtain ⟨_, rfl⟩ := e
        rw [e1] at hx
        simp only [CR] at hx
        obtain ⟨us, hv, hx⟩ := hx
        have hl := hx.length
        have hlt' : i < us.size := by rw [← Array.length_toList, hl]; exact hlt
        refine ⟨us[i], by rw [hv]; simp [Instr.extract, hlt'], ?_⟩
        have := hx.get i
        simpa [List.getD_eq_getElem?_getD, hlt'] using this
      · cases e
    · cases e
  case nilCheck x =>
    have hx := cr x
    split at e
    · rename_i id off e1
      split at e
      · rename_i cells hH
        simp only [Option.some.injEq, Prod.mk.injEq] at e
        obtain ⟨_, rfl⟩ := e
        rw [e1] at hx
        have hx' := hx
        simp only [CR] at hx
        obtain ⟨_, hp⟩ := hx
        obtain ⟨rb, hb, hv⟩ := hp _ hH
        rw [hv] at hx'
        exact ⟨_, by simp [execOp, ho, hv], hx'⟩
      · cases e
    · rename_i cs off e1
      simp only [Option.some.injEq, Prod.mk.injEq] at e
      obtain ⟨_, rfl⟩ := e
      rw [e1] at hx
      have hx' := hx
      simp only [CR] at hx
      obtain ⟨rb, ro, hv, hx⟩ := hx
      rw [hv] at hx'
      exact ⟨_, by simp [execOp, ho, hv], hx'⟩
    · cases e
  case slice t x lo hi mx =>
    cases mx with
    | some _ => simp only [nev] at e; cases e
    | none =>
    simp only at e
    have hx := cr x
    refine .of (s := Instr.sliceAt t (a.eval x) (lo.map a.eval) (hi.map a.eval) (Option.map a.eval none)) (by simp only [execOp, ho]) ?_
    simp only [Option.map_none]
    split at e
    · rename_i l' h' el eh
      split at e
      · rename_i s e1 e2
        rw [e2] at hx
        simp only [CR] at hx
        simp only [Option.some.injEq, Prod.mk.injEq] at e
        obtain ⟨eg, rfl⟩ := e
        rw [hg] at eg
        simp only [Bool.and_eq_true, decide_eq_true_eq] at eg
        have hb := sliceBounds_ok (P := P) h el eh (b := false) (len := s.size) (cap := s.size) (Nat.le_refl _) eg.1.1 eg.1.2 eg.2
        refine ⟨_, ?_, by simp only [CR]; rfl⟩
        rw [hx, run_sliceAt_string w t _ _ _ _ (ok.str _ e1)]
        simp [Instr.slice, run_underlying (ok.str _ e1), hb]
      · rename_i ee p ty xs e1 e2
        split at e
        · rename_i hsz
          have hs2 := Nat.eq_of_beq_eq_true hsz
          rw [e2] at hx
          simp only [CR] at hx
          simp only [Option.some.injEq, Prod.mk.injEq] at e
          obtain ⟨eg, rfl⟩ := e
          rw [hg] at eg
          simp only [Bool.and_eq_true, decide_eq_true_eq] at eg
          obtain ⟨et, hu, hty⟩ := ok.sl _ _ e1
          obtain ⟨ie, _, hie, hisz, _⟩ := ok.tyi _ _ hty
          have hel : P.elem t = et := by simp [Program.elem, hu]
          obtain ⟨a0, c, hv, hc, hd⟩ := sliced_dat hx (lo := (l'.getD 0).toNat) (hi := (h'.getD (xs.length : Int)).toNat) (by omega) (by omega)
          have hb := sliceBounds_ok (P := P) h el eh (b := true) (len := xs.length) (cap := c) hc eg.1.1 eg.1.2 eg.2
          refine ⟨_, ?_, by simp only [CR]; exact hd⟩
          rw [hv, run_sliceAt_slice w t _ _ _ _ (by rw [hel]; exact hu), run_slice_any w t a0 _ c (by rw [hel]; exact hu), hb]
          simp only [Result.andThen_ok, hel, run_sizeOf' hie, hisz, hs2]
        · cases e
      · rename_i ee id st e1 e2
        split at e
        · rename_i p st' ty xs hH
          split at e
          · rename_i hsz
            simp only [Bool.and_eq_true] at hsz
            have e0 := Nat.eq_of_beq_eq_true hsz.1
            have hs2 := Nat.eq_of_beq_eq_true hsz.2
            subst e0
            rw [e2] at hx
            simp only [CR] at hx
            simp only [Option.some.injEq, Prod.mk.injEq] at e
            obtain ⟨eg, rfl⟩ := e
            rw [hg] at eg
            simp only [Bool.and_eq_true, decide_eq_true_eq] at eg
            obtain ⟨et, hu, hty⟩ := ok.sl _ _ e1
            obtain ⟨ie, _, hie, hisz, _⟩ := ok.tyi _ _ hty
            have hel : P.elem t = et := by simp [Program.elem, hu]
            obtain ⟨a0, c, hv, hc, hd⟩ := sliced_own h.toHS hH hx (lo := (l'.getD 0).toNat) (hi := (h'.getD (xs.length : Int)).toNat) (by omega) (by omega)
            have hb := sliceBounds_ok (P := P) h el eh (b := true) (len := xs.length) (cap := c) hc eg.1.1 eg.1.2 eg.2
            refine ⟨_, ?_, by simp only [CR]; exact hd⟩
            rw [hv, run_sliceAt_slice w t _ _ _ _ (by rw [hel]; exact hu), run_slice_any w t a0 _ c (by rw [hel]; exact hu), hb]
            simp only [Result.andThen_ok, hel, run_sizeOf' hie, hisz, hs2]
          · cases e
        · cases e
      · cases e
    · cases e
  case build t parts =>
    refine .of (s := Instr.build t (parts.map fun (i, x) => (i, a.eval x))) (by simp only [execOp, ho]) ?_
    split at e
    · rename_i y ff e1 e0
      split at e
      · rename_i cs e2
        simp only [Option.some.injEq, Prod.mk.injEq] at e
        obtain ⟨_, rfl⟩ := e
        obtain ⟨i, z, hi, hs, hz, hzc, _⟩ := ok.tyi _ _ e1
        obtain ⟨it, z', fs, places, hit, hu, hz', hpl, hfl⟩ := ok.bld _ _ ff.1 ff.2.1 ff.2.2 e0
        rw [hi] at hit
        cases hit
        rw [hz] at hz'
        cases hz'
        obtain ⟨us, k1, k2⟩ := fill_ok (B := B) (w := w) (H := H) (N := C.N B) (Np := C.Np B) hfl (vparts := (parts.map fun (i, x) => (i, a.eval x)).toList) (vs := z.cells) e2 (by
          intro i p hp
          simp only [List.getElem?_map, Option.map_eq_some_iff] at hp
          obtain ⟨q, hq, rfl⟩ := hp
          refine ⟨a.eval q.2, ?_, fun hok => cellsOf_ok (cr q.2) (fun hu => ?_)⟩
          · simp only [Array.toList_map, List.getElem?_map, hq]
            rfl
          · rw [hu] at hok
            exact absurd hok (by simp [okD])) (by simp) (by rw [hzc]; exact zcells_ok y)
        refine ⟨.agg us, run_build w t _ us ?_, ?_⟩
        · simp only [Program.built, hi, hu, hz, hpl]
          exact k1
        · simp only [CR]; exact ⟨us, rfl, k2⟩
      · cases e
    · cases e
  case makeFunc fn first caps =>
    cases fn with
    | func gg =>
      simp only at e
      split at e
      · rename_i e1
        simp only [Option.some.injEq, Prod.mk.injEq] at e
        obtain ⟨_, rfl⟩ := e
        have hf : first = #[] := by cases first; simp_all
        subst hf
        refine ⟨.func (.func gg) #[] (caps.map a.eval), by simp [execOp, ho, Instr.makeFunc], ?_⟩
        simp only [CR]
        exact ⟨_, rfl, by simpa using opds_ok h caps.toList⟩
      · cases e
    | _ => cases e
  case call c =>
    cases hc : c.callee with
    | value f => rw [hc] at e; simp only at e; cases e
    | invoke r m => rw [hc] at e; simp only at e; cases e
    | builtin b =>
      rw [hc] at e
      have hargs : ∀ l, c.args.toList = l → c.args.map a.eval = (l.map a.eval).toArray := by
        intro l hl
        rw [← hl]
        apply Array.ext'
        rw [Array.toList_map]
      split at e
      · rename_i x hb ha
        cases hb
        split at e
        · rename_i t ts ht
          split at e
          · rename_i n hn
            simp only [Option.some.injEq, Prod.mk.injEq] at e
            obtain ⟨_, rfl⟩ := e
            have ht0 : c.argTypes[0]? = some t := by
              have : c.argTypes.toList[0]? = some t := by rw [ht]; rfl
              simpa using this
            refine ⟨.int .i64 n, ?_, by simp [CR]⟩
            simp only [execOp, ho, resolve, hc, hargs _ ha, invoke, Go.builtin, Sem.run_bind, Sem.run_pure, Result.andThen_ok]
            rw [show ([x].map a.eval).toArray = #[a.eval x] from rfl, lenD_ok ok h.toHS ht0 (cr x) hn]
            simp
          · cases e
        · cases e
      · rename_i x y hb ha
        cases hb
        split at e
        · rename_i k n k' m e1 e2
          split at e
          · rename_i e0
            subst e0
            simp only [Option.some.injEq, Prod.mk.injEq] at e
            obtain ⟨_, rfl⟩ := e
            have hx := cr x
            have hy := cr y
            rw [e1] at hx
            rw [e2] at hy
            simp only [CR] at hx hy
            refine ⟨.int k (imax n m), ?_, by simp [CR]⟩
            simp only [execOp, ho, resolve, hc, hargs _ ha, invoke, Go.builtin, Sem.run_bind, Sem.run_pure, Result.andThen_ok]
            rw [show ([x, y].map a.eval).toArray = #[a.eval x, a.eval y] from rfl, hx, hy, run_max_int2]
            simp [imax]
          · cases e
        · cases e
      · rename_i x y hb ha
        cases hb
        split at e
        · rename_i k n k' m e1 e2
          split at e
          · rename_i e0
            subst e0
            simp only [Option.some.injEq, Prod.mk.injEq] at e
            obtain ⟨_, rfl⟩ := e
            have hx := cr x
            have hy := cr y
            rw [e1] at hx
            rw [e2] at hy
            simp only [CR] at hx hy
            refine ⟨.int k (imin n m), ?_, by simp [CR]⟩
            simp only [execOp, ho, resolve, hc, hargs _ ha, invoke, Go.builtin, Sem.run_bind, Sem.run_pure, Result.andThen_ok]
            rw [show ([x, y].map a.eval).toArray = #[a.eval x, a.eval y] from rfl, hx, hy, run_min_int2]
            simp [imin]
          · cases e
        · cases e
      · cases e

end
end Go.Proofs.Ytoafakkbmnnimaa.Ab
