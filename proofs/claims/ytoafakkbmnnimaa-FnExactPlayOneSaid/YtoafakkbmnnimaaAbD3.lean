import Derived.Test.YtoafakkbmnnimaaAbD2
namespace Go.Proofs.Ytoafakkbmnnimaa.Ab
open Go
set_option linter.unusedVariables false
set_option linter.unusedSimpArgs false
set_option linter.unnecessarySimpa false
set_option linter.unusedSimpArgs false
set_option linter.unusedVariables false

section
variable {P : Program} {A : Ann} {C : Cx} {env : List D} {H : Heap} {B : List (Option Nat)} {a : Act} {w w' : World}

theorem splice_get {X : Type} (xs us : List X) (o k : Nat) (h : o + us.length ≤ xs.length) :
    (xs.take o ++ us ++ xs.drop (o + us.length))[k]? = if o ≤ k ∧ k < o + us.length then us[k - o]? else xs[k]? := by
  rw [List.append_assoc]
  by_cases h1 : k < o
  · rw [List.getElem?_append_left (by simp; omega), if_neg (by omega), List.getElem?_take, if_pos h1]
  · rw [List.getElem?_append_right (by simp; omega)]
    have e : k - (xs.take o).length = k - o := by simp; omega
    rw [e]
    by_cases h2 : k < o + us.length
    · rw [List.getElem?_append_left (by omega), if_pos (by omega)]
    · rw [List.getElem?_append_right (by omega), if_neg (by omega), List.getElem?_drop]
      congr 1; omega

theorem splice_len {X : Type} (xs us : List X) (o : Nat) (h : o + us.length ≤ xs.length) : (xs.take o ++ us ++ xs.drop (o + us.length)).length = xs.length := by
  simp; omega

theorem killed_out (h : HS C H B w) {f : List Nat} {id rb : Nat} (hf : id ∈ f) (e : B[id]? = some (some rb)) : ¬ C.Np (killB B f) rb := by
  rintro (k | k)
  · obtain ⟨i, e1, e2⟩ := Has.killB k
    have := h.nodup id i rb e e1
    subst this
    exact e2 hf
  · exact (h.alloc id rb e).2.1 k

theorem killB_has {f : List Nat} {b : Nat} (k : Has (killB B f) b) : Has B b := by
  obtain ⟨i, e1, _⟩ := Has.killB k
  exact ⟨i, e1⟩

theorem lets_kill (hlb : ∀ b, C.Lb b → C.Lp b) (f : List Nat) {p q : Bool} (hpq : imp p q = true) : Lets (C.N B) (C.Np B) w q (pk p (C.N (killB B f)) (C.Np (killB B f))) := by
  intro b hb hn k
  cases p
  · have k : C.N (killB B f) b := k
    have k2 : C.N B b := k.imp killB_has (fun x => x)
    cases q
    · exact hn k2
    · exact hn (Cx.N_Np hlb k2)
  · cases q
    · exact absurd hpq (by simp [imp])
    · have k : C.Np (killB B f) b := k
      exact hn (k.imp killB_has (fun x => x))

theorem kill_set : ∀ (f : List Nat) (H : Heap) (id : Nat) (X : Blk), id ∉ f → kill (H.set id X) f = (kill H f).set id X
  | [], _, _, _, _ => rfl
  | i :: f, H, id, X, h => by
    have h1 : id ≠ i := fun e => h (by simp [e])
    have h2 : id ∉ f := fun e => h (by simp [e])
    simp only [kill]
    rw [List.set_comm _ _ h1, kill_set f _ _ _ h2]

theorem EffGives.skip {o : Oper} {H' : Heap} {B' : List (Option Nat)} (hr : (execOp a.eval o).run P w = .ok .skip w') (hs : St C env H' B' a w') : EffGives P C env H' a w o .undef :=
  ⟨undef, B', w', .inr ⟨hr, rfl⟩, hs, by simp [CR]⟩

theorem store_ptr (ok : TyOk P A) (h : St C env H B a w) {o : Oper} {t n : Nat} {ag : Bool} {ad x : Operand} (ho : o.op = .store t ad x) (hl : A.lay t = some (n, ag)) (hn : (cellsOf (opd env x)).length = n)
    (hc : (cellsOf (opd env x)).all cellD = true) {id off : Nat} {cells : List D} (ha : opd env ad = .ptr id off) (hH : H[id]? = some (.box cells)) (hle : off + n ≤ cells.length) :
    EffGives P C env (H.set id (.box (spl off (cellsOf (opd env x)) cells))) a w o .undef := by
  have hx := opd_ok h x
  have hxu : opd env x ≠ .undef := fun e => by rw [e] at hc; exact absurd hc (by simp [cellsOf, cellD])
  have hcc := cellsOf_ok hx hxu
  have had := opd_ok h ad
  rw [ha] at had
  simp only [CR] at had
  obtain ⟨_, hp⟩ := had
  obtain ⟨rb, hb, hv⟩ := hp _ hH
  obtain ⟨rb', cs, e1, hcs, hcr⟩ := h.blk _ _ _ hH hb
  cases e1
  have hlv := hcc.length
  have hlc := hcr.length
  have hlc' : cs.size = cells.length := by simpa using hlc
  have hvs : (a.eval x).cells.size = n := by rw [← hn, ← hlv]; simp
  have hrun := storeVar_ok (P := P) ok hl hcs (v := a.eval x) (o := off) hvs (by omega) (hcc.one hc)
  have hlen : off + (cellsOf (opd env x)).length ≤ cells.length := by omega
  obtain ⟨k1, k2, k3, k4, k5, k6, k7⟩ := setRow_facts (cs' := (cs.toList.take off ++ (a.eval x).cells.toList ++ cs.toList.drop (off + n)).toArray) hcs (by
    have := splice_len cs.toList (a.eval x).cells.toList off (by simp; omega)
    simp at this ⊢
    rw [hvs] at this ⊢
    omega)
  refine .skip (B' := B.set id (some rb)) ?_ (h.upd hH hb k2 (fun b _ hne => k3 b (fun e => hne (by rw [e]))) k4 k5 k6 k7 (.inl rfl) ⟨⟨_, rfl⟩, rfl⟩ (fun s => ⟨rb, _, rfl, k1, ?_⟩))
  · simp only [execOp, ho, Sem.run_bind, hv, hrun, Result.andThen_ok, Sem.run_pure]
  · have := (hcc.splice hcr hlen).step s
    rw [hn] at this
    simpa using this

theorem store_eptr (ok : TyOk P A) (h : St C env H B a w) {o : Oper} {t n : Nat} {ag : Bool} {ad x : Operand} (ho : o.op = .store t ad x) (hl : A.lay t = some (n, ag)) (hn : (cellsOf (opd env x)).length = n)
    (hc : (cellsOf (opd env x)).all cellD = true) {id st i c : Nat} {p : Bool} {ty : Ty} {l : List ty.den} (ha : opd env ad = .eptr id st i c) (hH : H[id]? = some (.arr p st ty l)) (hle : c + n ≤ ty.size)
    {y : ty.den} {q : Bool} {f : List Nat} (hu : unfl H ty (spl c (cellsOf (opd env x)) (flat p ty (rdL ty l i))) = some (y, [], q, f)) (hf : id ∉ f) :
    EffGives P C env (kill (H.set id (.arr (p && q) st ty (l.set i y))) f) a w o .undef := by
  have hx := opd_ok h x
  have hxu : opd env x ≠ .undef := fun e => by rw [e] at hc; exact absurd hc (by simp [cellsOf, cellD])
  have hcc := cellsOf_ok hx hxu
  have had := opd_ok h ad
  rw [ha] at had
  simp only [CR] at had
  obtain ⟨_, hp⟩ := had
  obtain ⟨_, hp⟩ := hp _ _ _ _ hH
  obtain ⟨hi, rb, hb, hv⟩ := hp rfl
  obtain ⟨cs, hcs, hsz, hd⟩ := h.blk _ _ _ hH hb
  have hlv := hcc.length
  have hvs : (a.eval x).cells.size = n := by rw [← hn, ← hlv]; simp
  have hrow : i * ty.size + ty.size ≤ cs.size := by
    have : (i + 1) * ty.size ≤ l.length * ty.size := Nat.mul_le_mul_right _ hi
    rw [Nat.add_mul] at this
    omega
  have hrun := storeVar_ok (P := P) ok hl hcs (v := a.eval x) (o := i * ty.size + c) hvs (by omega) (hcc.one hc)
  obtain ⟨k1, k2, k3, k4, k5, k6, k7⟩ := setRow_facts (cs' := (cs.toList.take (i * ty.size + c) ++ (a.eval x).cells.toList ++ cs.toList.drop (i * ty.size + c + n)).toArray) hcs (by
    have := splice_len cs.toList (a.eval x).cells.toList (i * ty.size + c) (by simp; omega)
    simp at this ⊢
    rw [hvs] at this ⊢
    omega)
  have hk := h.kill f
  have hlt : id < H.length := by
    rcases Nat.lt_or_ge id H.length with z | z
    · exact z
    · rw [List.getElem?_eq_none z] at hH; cases hH
  have hH' : (kill H f)[id]? = some (.arr p st ty l) := by rw [kill_get, if_neg (fun z => hf z.1)]; exact hH
  have hB' : (killB B f)[id]? = some (some rb) := by rw [killB_get, if_neg (fun z => hf z.1)]; exact hb
  rw [kill_set _ _ _ _ hf]
  refine .skip (B' := (killB B f).set id (some rb)) ?_ (hk.upd hH' hB' k2 (fun b _ hne => k3 b (fun e => hne (by rw [e]))) k4 k5 k6 k7 (.inl rfl) ⟨_, _, _, _, rfl, Nat.le_refl _, fun _ => ⟨rfl, by simp, rfl⟩⟩ (fun s => ⟨_, k1, ?_, ?_⟩))
  · simp only [execOp, ho, Sem.run_bind, hv, hrun, Result.andThen_ok, Sem.run_pure]
  · have := splice_len cs.toList (a.eval x).cells.toList (i * ty.size + c) (by simp; omega)
    simp at this ⊢
    rw [hvs] at this ⊢
    omega
  · intro j hj
    simp only [List.length_set] at hj
    obtain ⟨us0, hu0, hcell0⟩ := hd i hi
    have hrd : rdL ty l i = l[i] := by simp [rdL, hi]
    rw [hrd] at hu
    have hl0 := hu0.len
    have hfl := Dat_flat (H := H) (B := B) p hu0
    have hfll : (flat p ty l[i]).length = ty.size := by rw [← hfl.length, hl0]
    have hsp := hcc.splice hfl (off := c) (by omega)
    obtain ⟨us1, vs1, e1, hnil, hd1⟩ := unfl_ok (fun b => Cx.N_Np h.lb) h.lenB h.blk hu hsp (Nt := pk (p && q) (C.N (killB B f)) (C.Np (killB B f))) (lets_kill h.lb f (by cases p <;> cases q <;> rfl)) (fun id0 hi0 rb0 e0 k => by
      have := killed_out h.toHS hi0 e0
      cases hpq : (p && q)
      · rw [hpq] at k; exact this (Cx.N_Np h.lb k)
      · rw [hpq] at k; exact this k)
    simp only [CRs] at hnil
    subst hnil
    rw [List.append_nil] at e1
    have hget : ∀ k : Nat, (cs.toList.take (i * ty.size + c) ++ (a.eval x).cells.toList ++ cs.toList.drop (i * ty.size + c + n)).toArray[k]? = if i * ty.size + c ≤ k ∧ k < i * ty.size + c + n then (a.eval x).cells[k - (i * ty.size + c)]? else cs[k]? := by
      intro k
      have := splice_get cs.toList (a.eval x).cells.toList (i * ty.size + c) k (by simp; omega)
      simp only [Array.length_toList, hvs, Array.getElem?_toList] at this
      rw [← this]
      simp
    have gk : ∀ (b : Bool), Goes (pk b (C.N (killB B f)) (C.Np (killB B f))) (pk b (C.N ((killB B f).set id (some rb))) (C.Np ((killB B f).set id (some rb)))) w (w.setRow rb (cs.toList.take (i * ty.size + c) ++ (a.eval x).cells.toList ++ cs.toList.drop (i * ty.size + c + n)).toArray) := by
      intro b
      cases b
      · exact s.g
      · exact s.gp
    by_cases e : j = i
    · subst e
      refine ⟨us1, ?_, fun m hm => ?_⟩
      · have e2 : (l.set j y)[j]'(by simpa using hi) = y := by simp
        rw [e2]
        exact hd1.mono (gk _)
      · rw [hget, ← e1]
        have := splice_get us0 (a.eval x).cells.toList c m (by simp; omega)
        simp only [Array.length_toList, hvs, Array.getElem?_toList] at this
        rw [hn] at *
        rw [this]
        by_cases z : c ≤ m ∧ m < c + n
        · rw [if_pos z, if_pos (by omega)]
          congr 1; omega
        · rw [if_neg z, if_neg (by omega)]
          exact hcell0 m hm
    · obtain ⟨us, hus, hcell⟩ := hd j hj
      refine ⟨us, ?_, fun m hm => ?_⟩
      · have e2 : (l.set i y)[j]'(by simpa using hj) = l[j] := by
          rw [List.getElem_set_ne (fun z => e z.symm)]
        rw [e2]
        have := hus.lets (lets_kill (C := C) (w := w) h.lb f (p := p && q) (q := p) (by cases p <;> cases q <;> rfl))
        exact this.mono (gk _)
      · rw [hget, if_neg ?_]
        · exact hcell m hm
        · intro z
          rcases Nat.lt_or_gt_of_ne e with q1 | q1
          · have : (j + 1) * ty.size ≤ i * ty.size := Nat.mul_le_mul_right _ q1
            rw [Nat.add_mul] at this
            omega
          · have : (i + 1) * ty.size ≤ j * ty.size := Nat.mul_le_mul_right _ q1
            rw [Nat.add_mul] at this
            omega

end
end Go.Proofs.Ytoafakkbmnnimaa.Ab
