import Derived.Test.YthhpkgegmfjdmaaAbD6
namespace Go.Proofs.Ythhpkgegmfjdmaa.Ab
open Go
set_option linter.unusedVariables false
set_option linter.unusedSimpArgs false
set_option linter.unnecessarySimpa false
set_option linter.unusedSimpArgs false
set_option linter.unusedVariables false

section
variable {P : Program} {A : Ann} {C : Cx} {env : List D} {H : Heap} {B : List (Option Nat)} {a : Act} {w w' : World}

theorem append_nil (ok : TyOk P A) (h : St C env H B a w) {o : Oper} {cl : Call} {s x : Operand} {t t2 : Nat} (ho : o.op = .call cl) (hcl : cl.callee = .builtin .append) (hargs : cl.args.toList = [s, x]) (hts : cl.argTypes.toList = [t, t2])
    {e : Ty} (ht : A.ty t = some (.sl e)) (ht2 : isSeq (A.ty t2) = true) {q0 q : Bool} (hq : q = (q0 || e.plain)) {xs : List e.den} (hx : srcOf H e (opd env x) = some (q0, xs)) (hs : opd env s = .nilsl)
    (hlim : xs.length ≤ 1099511627776) : EffGives P C env (H ++ [.arr q 0 e xs]) a w o (.hd H.length 0) := by
  obtain ⟨et, hu, hty⟩ := ok.sl _ _ ht
  have hxr := opd_ok h x
  have hsr := opd_ok h s
  rw [hs] at hsr
  simp only [CR] at hsr
  obtain ⟨new, n1, n2, n3, n4, n5⟩ := srcOf_load (P := P) h.toHS hxr hx
  have n4 : Holds (pk q (C.N B) (C.Np B)) w e xs new := by rw [hq]; exact n4.plain
  have o2 : (Builtin.firstCells e.size 0 (.slice none 0 0)).run P w.drew = .ok #[] w.drew := by simp [Builtin.firstCells]
  have happ := run_append ok hu hty ht2 hts (ty := o.type) (base := none) (n := 0) (c := 0) (Nat.le_refl _) (by omega) n2 (n3 w rfl) (n3 w.drew rfl) o2
  have hm : cl.args.map a.eval = #[.slice none 0 0, a.eval x] := by
    apply Array.ext'
    rw [Array.toList_map, hargs]
    simp [hsr]
  have hexec : ∀ v w', (Builtin.append_ cl.argTypes o.type #[.slice none 0 0, a.eval x]).run P w = .ok v w' → (execOp a.eval o).run P w = .ok (.value v) w' := by
    intro v w' e
    simp only [execOp, ho, resolve, hcl, hm, invoke, Go.builtin, Sem.run_bind, Sem.run_pure, Result.andThen_ok, e]
  simp only [Nat.zero_add, Array.empty_append] at happ
  rcases happ with ⟨hfit, hrun⟩ | ⟨hlt, nc, rest, hnc, hrs, hrun⟩
  · have hx0 : xs = [] := by cases xs with
      | nil => rfl
      | cons _ _ => simp at hfit
    subst hx0
    simp only [Sem.run_pure, Result.andThen_ok] at hrun
    have hst := h.newNil (blk := .arr q 0 e []) rfl
    refine ⟨_, _, w, .inl (hexec _ _ hrun), hst, ?_⟩
    refine hd_at (by simp) (p := q) (e := e) (l := []) (by simp) (c := 0) (a0 := none) (by simp) (by simp) ?_
    unfold RowP
    rw [← h.lenB]
    simp
  · have hH1 : Holds (pk q (C.N B) (C.Np B)) w e xs new := n4
    have hH1' : Holds (pk q (C.N B) (C.Np B)) w e xs (new ++ rest) := by
      have := Holds.append (rest := rest) (cs := #[]) (l := []) (N := pk q (C.N B) (C.Np B)) (w := w) ⟨by simp, fun i hi => absurd hi (by simp)⟩ hH1 (by simp)
      simpa using this
    have hdr := h.drew
    have hst := hdr.newBlk (blk := .arr q 0 e xs) (cs := new ++ rest) (el := et) (fun s hn => ⟨_, hn, (hH1'.1), fun i hi => by
      obtain ⟨us, hus, hcell⟩ := hH1'.2 i hi
      refine ⟨us, ?_, hcell⟩
      have hus : Dat (pk q (C.N B) (C.Np B)) w.drew e xs[i] us := Dat.world (w := w) (w' := w.drew) rfl hus
      cases q
      · exact Dat.mono s.g hus
      · exact Dat.mono s.gp hus⟩)
    have hcell : Cells (w.drew.alloc (.cells (new ++ rest) et)) w.heap.size (new ++ rest) := ⟨et, by show (w.heap.push _)[w.heap.size]? = _; simp⟩
    refine ⟨_, _, _, .inl (hexec _ _ hrun), hst, ?_⟩
    refine hd_at (by simp) (p := q) (e := e) (l := xs) (by simp) (c := nc) (a0 := some ⟨w.heap.size, 0, none⟩) rfl hnc ?_
    unfold RowP
    rw [← h.lenB]
    simp only [List.getElem?_append_right (Nat.le_refl _), Nat.sub_self, List.getElem?_cons_zero]
    refine ⟨by simp, _, hcell, ?_⟩
    simp only [Array.size_append, n1, hrs, Nat.zero_add]
    rw [← Nat.add_mul]
    exact Nat.mul_le_mul_right _ (by omega)

theorem any_not_mem {f : List Nat} {id : Nat} (h : f.any (Nat.beq id) = false) : id ∉ f := by
  intro k
  have := List.any_eq_false.mp h id k
  exact this (Nat.beq_refl id)

theorem eff_ok (ok : TyOk P A) (h : St C env H B a w) {o : Oper} {g : Bool} {d : D} {H' : Heap} (e : eff A env H o.op = some (g, d, H')) (hg : g = true) : EffGives P C env H' a w o d := by
  subst hg
  unfold eff at e
  split at e
  · rename_i t hop
    split at e
    · rename_i ty hty
      injection e with e
      injection e with e1 e2
      injection e2 with e2 e3
      subst e2; subst e3
      exact alloc_ok ok h hop hty
    · cases e
  · rename_i t x hop
    split at e
    · rename_i hx
      injection e with e
      injection e with e1 e2
      injection e2 with e2 e3
      subst e2; subst e3
      exact box_ok h hop hx
    · cases e
  · rename_i t ad x hop
    split at e
    · rename_i n ag hl
      split at e
      · rename_i hc
        split at e
        · rename_i id off had
          split at e
          · rename_i cells hH
            split at e
            · rename_i hle
              injection e with e
              injection e with e1 e2
              injection e2 with e2 e3
              subst e2; subst e3
              exact store_ptr ok h hop hl hc.1 hc.2 had hH hle
            · cases e
          · cases e
        · rename_i id st i c had
          split at e
          · rename_i p st' ty l hH
            split at e
            · rename_i hle
              obtain ⟨rfl, hle⟩ := hle
              split at e
              · rename_i y q f hu
                split at e
                · cases e
                · rename_i hf
                  injection e with e
                  injection e with e1 e2
                  injection e2 with e2 e3
                  subst e2; subst e3
                  exact store_eptr ok h hop hl hc.1 hc.2 had hH hle hu (any_not_mem hf)
              · cases e
            · cases e
          · cases e
        · cases e
      · cases e
    · cases e
  · rename_i t len parts hop
    split at e
    · rename_i et hty
      split at e
      · rename_i hlen
        split at e
        · rename_i p l f hf
          injection e with e
          injection e with e1 e2
          injection e2 with e2 e3
          subst e2; subst e3
          exact buildSlice_ok ok h hop hty hlen hf
        · cases e
      · cases e
    · cases e
  · rename_i t lo co hop
    split at e
    · rename_i et k n hty hlo hs
      injection e with e
      injection e with e1 e2
      injection e2 with e2 e3
      subst e2; subst e3
      simp only [Bool.and_eq_true, decide_eq_true_eq] at e1
      exact makeSlice_ok ok h hop hty hlo hs e1.1 e1.2
    · cases e
  · rename_i c hop
    split at e
    · rename_i s x t t2 hcl hargs hts
      split at e
      · rename_i et hty ht2
        split at e
        · rename_i q xs hx
          split at e
          · rename_i hs
            injection e with e
            injection e with e1 e2
            injection e2 with e2 e3
            subst e2; subst e3
            exact append_nil ok h hop hcl hargs hts hty ht2 rfl hx hs (Nat.le_of_ble_eq_true e1)
          · rename_i id st hs
            split at e
            · rename_i p st' t' l hH
              split at e
              · rename_i heq
                split at e
                · rename_i hst
                  subst heq; subst hst
                  injection e with e
                  injection e with e1 e2
                  injection e2 with e2 e3
                  subst e2; subst e3
                  exact append_hd ok h hop hcl hargs hts hty ht2 rfl hx hs hH (Nat.le_of_ble_eq_true e1)
                · cases e
              · cases e
            · cases e
          · cases e
        · cases e
      · cases e
    · cases e
  · cases e

end
end Go.Proofs.Ythhpkgegmfjdmaa.Ab
