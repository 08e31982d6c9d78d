import Derived.Test.YtoafakkbmnnimaaAbE9
namespace Go.Proofs.Ytoafakkbmnnimaa.Ab
open Go
set_option linter.unusedVariables false
set_option linter.unusedSimpArgs false
set_option linter.unnecessarySimpa false
set_option linter.unusedSimpArgs false
set_option linter.unusedVariables false

section
variable {P : Program} {A : Ann} {V : Lvl A} {all : List Oper} {ops : Array Oper} {C : Cx} {env env' E : List D} {H H0 H1 : Heap} {B : List (Option Nat)} {a : Act} {w w' : World} {e : Nat}

theorem putE_len (env : List D) (dst : Option Nat) (d : D) : (putE env dst d).length = env.length := by
  cases dst <;> simp [putE]

theorem putE_get {env : List D} {dst : Option Nat} {d : D} {t : Nat} (h : dst ≠ some t) : get (putE env dst d) t = get env t := by
  cases dst with
  | none => rfl
  | some u =>
    simp only [putE]
    rw [get_set, if_neg (fun z => h (by rw [z.1]))]

theorem Tr.len : ∀ {os : List Oper} {env E : List D}, Tr A V all H os env E → E.length = env.length
  | [], _, _, h => by cases h; rfl
  | _ :: _, _, _, h => by
    cases h with
    | cons h1 h2 => rw [h2.len, putE_len]

theorem Tr.keep : ∀ {os : List Oper} {env E : List D}, Tr A V all H os env E → ∀ t, (∀ (i : Nat) q, os[i]? = some q → q.dst ≠ some t) → get E t = get env t
  | [], _, _, h, t, _ => by cases h; rfl
  | o :: os, _, _, h, t, hn => by
    cases h with
    | cons h1 h2 =>
      rw [h2.keep t (fun i q hi => hn (i + 1) q (by simpa using hi))]
      exact putE_get (hn 0 o rfl)

theorem Tr.at_ : ∀ {os : List Oper} {env E : List D}, Tr A V all H os env E → ∀ (j : Nat) o, os[j]? = some o → ∃ env_j d, OpV A V all H env_j o d ∧
    (∀ t, (∀ (i : Nat) q, j ≤ i → os[i]? = some q → q.dst ≠ some t) → get env_j t = get E t) ∧
    (∀ t, o.dst = some t → t < env.length → (∀ (i : Nat) q, j < i → os[i]? = some q → q.dst ≠ some t) → get E t = d) ∧
    (∀ t, (∀ (i : Nat) q, i < j → os[i]? = some q → q.dst ≠ some t) → get env_j t = get env t)
  | [], _, _, h, j, o, hj => by simp at hj
  | o' :: os, env, _, h, 0, o, hj => by
    simp only [List.getElem?_cons_zero, Option.some.injEq] at hj
    subst hj
    have h' := h
    cases h with
    | cons h1 h2 =>
      refine ⟨_, _, h1, fun t hn => (h'.keep t (fun i q hi => hn i q (Nat.zero_le _) hi)).symm, fun t ht hlt hn => ?_, fun t _ => rfl⟩
      rw [h2.keep t (fun i q hi => hn (i + 1) q (by omega) (by simpa using hi)), ht]
      simp only [putE]
      rw [get_set, if_pos ⟨rfl, hlt⟩]
  | o' :: os, env, _, h, j + 1, o, hj => by
    cases h with
    | cons h1 h2 =>
      obtain ⟨env_j, d, k1, k2, k3, k4⟩ := h2.at_ j o (by simpa using hj)
      refine ⟨env_j, d, k1, fun t hn => k2 t (fun i q hi hq => hn (i + 1) q (by omega) (by simpa using hq)), fun t ht hlt hn => k3 t ht (by rw [putE_len]; exact hlt) (fun i q hi hq => hn (i + 1) q (by omega) (by simpa using hq)), fun t hn => by
        rw [k4 t (fun i q hi hq => hn (i + 1) q (by omega) (by simpa using hq))]
        exact putE_get (hn 0 o' (by omega) rfl)⟩

theorem Pl.neutral (hs : Sure ops) (h : Tr A V ops.toList H ops.toList env E) : Pl A V ops H H ops.size env E where
  len := h.len
  keepE := fun t hn => h.keep t (fun i q hi => hn i q (by simpa using hi))
  at_ := fun j o hj => by
    obtain ⟨env_j, d, k1, k2, k3, k4⟩ := h.at_ j o (by simpa using hj)
    have hlt := (Array.getElem?_eq_some_iff.1 hj).1
    refine ⟨env_j, d, fun z => by omega, fun _ => ⟨k1, fun q hq => by simp at hq⟩, fun t hn => k2 t (fun i q hi hq => hn i q hi (by simpa using hq)), fun t ht hl => k3 t ht hl (fun i q hi hq hd => ?_), fun t hn => k4 t (fun i q hi hq => hn i q hi (by simpa using hq))⟩
    have := hs.one j i o q t hj (by simpa using hq) ht hd
    omega
  none_ := fun _ => rfl

theorem OpV.move {o : Oper} {d : D} (hm : isMove o.op = true) (h : OpV A V all H0 env o d) : OpV A V all H1 env o d :=
  h.imp (fun z => ⟨z.1, z.2.move hm⟩) (fun z => z)

theorem Pl.app (hs : Sure ops) {i : Nat} {q0 : Oper} (hi : ops[i]? = some q0) {env_i : List D} {d : D} (h1 : Tr A V ops.toList H0 (ops.toList.take i) env env_i) (hev : EffV A ops.toList H0 H1 env_i q0 d)
    (h2 : Tr A V ops.toList H1 (ops.toList.drop (i + 1)) (putE env_i q0.dst d) E) (hm1 : ∀ (j : Nat) o, j < i → ops[j]? = some o → isMove o.op = true ∨ j ∈ needL ops.toList i [q0] [])
    (hm2 : ∀ (j : Nat) o, i < j → ops[j]? = some o → isMove o.op = true) : Pl A V ops H0 H1 i env E := by
  have hlen : env_i.length = env.length := h1.len
  have rest : ∀ t, (∀ (k : Nat) q, i < k → ops[k]? = some q → q.dst ≠ some t) → get E t = get (putE env_i q0.dst d) t := fun t hn =>
    h2.keep t (fun k q hk => hn (i + 1 + k) q (by omega) (by rw [List.getElem?_drop] at hk; simpa using hk))
  refine ⟨by rw [h2.len, putE_len, hlen], fun t hn => ?_, fun j o hj => ?_, fun hn => by rw [hi] at hn; cases hn⟩
  · rw [rest t (fun k q _ hk => hn k q hk), putE_get (hn i q0 hi)]
    exact h1.keep t (fun k q hk => hn k q (by
      rw [List.getElem?_take] at hk
      split at hk
      · simpa using hk
      · cases hk))
  · rcases Nat.lt_trichotomy j i with hji | hji | hji
    · obtain ⟨env_j, dj, k1, k2, k3, k4⟩ := h1.at_ j o (by rw [List.getElem?_take, if_pos hji]; simpa using hj)
      refine ⟨env_j, dj, fun z => by omega, fun _ => ⟨k1, fun q hq => ?_⟩, fun t hn => ?_, fun t ht hl => ?_, fun t hn => k4 t (fun k q hk hq => by
        rw [List.getElem?_take] at hq
        split at hq
        · exact hn k q hk (by simpa using hq)
        · cases hq)⟩
      · rw [hi] at hq
        cases hq
        exact (hm1 j o hji hj).imp (fun z => z) (fun z => ⟨hji, z⟩)
      · rw [rest t (fun k q hk hq => hn k q (by omega) hq), putE_get (hn i q0 (by omega) hi)]
        exact k2 t (fun k q hk hq => by
          rw [List.getElem?_take] at hq
          split at hq
          · exact hn k q hk (by simpa using hq)
          · cases hq)
      · have hone : ∀ (k : Nat) q, k ≠ j → ops[k]? = some q → q.dst ≠ some t := fun k q hk hq hd => hk (hs.one k j q o t hq hj hd ht)
        rw [rest t (fun k q hk hq => hone k q (by omega) hq), putE_get (hone i q0 (by omega) hi)]
        exact k3 t ht hl (fun k q hk hq => by
          rw [List.getElem?_take] at hq
          split at hq
          · exact hone k q (by omega) (by simpa using hq)
          · cases hq)
    · subst hji
      rw [hi] at hj
      cases hj
      refine ⟨env_i, d, fun _ => hev, fun z => absurd rfl z, fun t hn => ?_, fun t ht hl => ?_, fun t hn => h1.keep t (fun k q hk => by
        rw [List.getElem?_take] at hk
        split at hk
        · rename_i hlt
          exact hn k q hlt (by simpa using hk)
        · cases hk)⟩
      · rw [rest t (fun k q hk hq => hn k q (by omega) hq), putE_get (hn j q0 (Nat.le_refl _) hi)]
      · rw [rest t (fun k q hk hq hd => by have := hs.one k j q q0 t hq hi hd ht; omega), ht]
        simp only [putE]
        rw [get_set, if_pos ⟨rfl, by rw [hlen]; exact hl⟩]
    · obtain ⟨env_j, dj, k1, k2, k3, k4⟩ := h2.at_ (j - (i + 1)) o (by rw [List.getElem?_drop]; simpa [show i + 1 + (j - (i + 1)) = j by omega] using hj)
      refine ⟨env_j, dj, fun z => by omega, fun _ => ⟨k1.move (hm2 j o hji hj), fun q hq => .inl (hm2 j o hji hj)⟩, fun t hn => ?_, fun t ht hl => ?_, fun t hn => ?_⟩
      · exact k2 t (fun k q hk hq => hn (i + 1 + k) q (by omega) (by rw [List.getElem?_drop] at hq; simpa using hq))
      · exact k3 t ht (by rw [putE_len, hlen]; exact hl) (fun k q hk hq hd => by
          rw [List.getElem?_drop] at hq
          have := hs.one (i + 1 + k) j q o t (by simpa using hq) hj hd ht
          omega)
      · rw [k4 t (fun k q hk hq => hn (i + 1 + k) q (by omega) (by rw [List.getElem?_drop] at hq; simpa using hq)), putE_get (hn i q0 hji hi)]
        exact h1.keep t (fun k q hk => by
          rw [List.getElem?_take] at hk
          split at hk
          · rename_i hlt
            exact hn k q (by omega) (by simpa using hk)
          · cases hk)

theorem runO_moves {R : Type} {K : List D → Heap → Option R} {r : R} : ∀ {os : List Oper} {env : List D}, os.all (fun o => isMove o.op) = true → runO A V R all K os env H = some r → ∃ E, Tr A V all H os env E ∧ K E H = some r
  | [], env, _, h => ⟨env, .nil env, h⟩
  | o :: os, env, hm, h => by
    simp only [List.all_cons, Bool.and_eq_true] at hm
    simp only [runO] at h
    rcases guardE_some h with ⟨hw, h⟩ | ⟨hw, h⟩
    · have hmv := hm.1
      split at h
      · rename_i g d he
        cases g with
        | false => cases h
        | true =>
          obtain ⟨E, h1, h2⟩ := runO_moves hm.2 h
          exact ⟨E, .cons (.inl ⟨hw, .inl he⟩) h1, h2⟩
      · rename_i hn
        cases ho : o.op <;> rw [ho] at hmv hn <;> simp only [isMove] at hmv <;> try (cases hmv; done)
        all_goals simp [nev] at hn
    · obtain ⟨E, h1, h2⟩ := runO_moves hm.2 h
      exact ⟨E, .cons (.inr ⟨hw, rfl⟩) h1, h2⟩

theorem runO_app {R : Type} {K : List D → Heap → Option R} {r : R} {o : Oper} {os : List Oper} (ha : isAppend o.op = true) (h : runO A V R all K (o :: os) env H0 = some r) :
    ∃ d H1, EffV A all H0 H1 env o d ∧ runO A V R all K os (putE env o.dst d) H1 = some r := by
  simp only [runO] at h
  rcases guardE_some h with ⟨hw, h⟩ | ⟨hw, h⟩
  · have hnev : nev A env H0 o.op = none := by
      cases ho : o.op <;> rw [ho] at ha <;> simp only [isAppend] at ha <;> try (cases ha; done)
      rename_i c
      split at ha
      · rename_i hc
        simp only [nev, hc]
      · cases ha
    have hlit : litC A env H0 o.op = none := by
      cases ho : o.op <;> rw [ho] at ha <;> simp only [isAppend] at ha <;> try (cases ha; done)
      rfl
    rw [hnev] at h
    simp only [hlit] at h
    split at h
    · rename_i g d H1 he
      cases g with
      | false => cases h
      | true => exact ⟨d, H1, .inl ⟨hw, ha, he⟩, h⟩
    · split at h
      · rename_i c ho
        rw [ho] at ha
        simp only [isAppend] at ha
        split at ha
        · rename_i hc
          simp only [callee, hc] at h
          cases h
        · cases ha
      · cases h
  · exact ⟨_, H0, .inr ⟨hw, rfl, rfl⟩, h⟩

theorem ext_embN {lend : Bool} : ∀ {s : Sh} {ds : List D} {u u' : Used} {x : s.den} {r : List D}, sshape s = true → ext lend H s ds u = some (x, r, u') → ds = embN s x ++ r
  | .int k, ds, u, u', x, r, hs, h => by
    cases ds with
    | nil => simp [ext] at h
    | cons d ds =>
      cases d <;> simp only [ext] at h <;> try (cases h; done)
      split at h
      · rename_i e
        subst e
        simp only [Option.some.injEq, Prod.mk.injEq] at h
        obtain ⟨rfl, rfl, _⟩ := h
        rfl
      · cases h
  | .bool, ds, u, u', x, r, hs, h => by
    cases ds with
    | nil => simp [ext] at h
    | cons d ds =>
      cases d <;> simp only [ext] at h <;> try (cases h; done)
      simp only [Option.some.injEq, Prod.mk.injEq] at h
      obtain ⟨rfl, rfl, _⟩ := h
      rfl
  | .str, ds, u, u', x, r, hs, h => by
    cases ds with
    | nil => simp [ext] at h
    | cons d ds =>
      cases d <;> simp only [ext] at h <;> try (cases h; done)
      simp only [Option.some.injEq, Prod.mk.injEq] at h
      obtain ⟨rfl, rfl, _⟩ := h
      rfl
  | .unit, ds, u, u', x, r, hs, h => by
    simp only [ext, Option.some.injEq, Prod.mk.injEq] at h
    obtain ⟨_, rfl, _⟩ := h
    rfl
  | .pair a b, ds, u, u', x, r, hs, h => by
    simp only [sshape, Bool.and_eq_true] at hs
    simp only [ext] at h
    split at h
    · rename_i x1 ds' u1 e1
      split at h
      · rename_i y ds'' u2 e2
        simp only [Option.some.injEq, Prod.mk.injEq] at h
        obtain ⟨rfl, rfl, _⟩ := h
        rw [ext_embN hs.1 e1, ext_embN hs.2 e2]
        simp [embN]
      · cases h
    · cases h
  | .tr _ _, _, _, _, _, _, hs, _ => by cases hs
  | .own _ _, _, _, _, _, _, hs, _ => by cases hs
  | .box _, _, _, _, _, _, hs, _ => by cases hs
  | .rbox _, _, _, _, _, _, hs, _ => by cases hs
  | .clo _ _, _, _, _, _, _, hs, _ => by cases hs
  | .agg _, _, _, _, _, _, hs, _ => by cases hs

theorem setAll_sub (E : List D) : ∀ (ts : List Nat) (env : List D), (∀ t, get env t = .undef ∨ get env t = get E t) → ∀ t, get (setAll ts (ts.map (get E)) env) t = .undef ∨ get (setAll ts (ts.map (get E)) env) t = get E t
  | [], env, h, t => h t
  | u :: ts, env, h, t => by
    simp only [List.map_cons, setAll]
    refine setAll_sub E ts _ (fun t => ?_) t
    rw [get_set]
    split
    · rename_i z
      rw [← z.1]; exact .inr rfl
    · exact h t

theorem setAll_len : ∀ (ts : List Nat) (ds env : List D), (setAll ts ds env).length = env.length
  | [], ds, env => by cases ds <;> rfl
  | t :: ts, [], env => rfl
  | t :: ts, d :: ds, env => by rw [setAll, setAll_len]; simp

theorem resetN_len : ∀ (os : List Oper) (env : List D), (resetN os env).length = env.length
  | [], env => rfl
  | o :: os, env => by rw [resetN, resetN_len, putE_len]

theorem resetN_get : ∀ (os : List Oper) (env : List D) (t : Nat), (get (resetN os env) t = .undef) ∨ (get (resetN os env) t = get env t ∧ ∀ (i : Nat) q, os[i]? = some q → q.dst ≠ some t)
  | [], env, t => .inr ⟨rfl, fun i q h => by simp at h⟩
  | o :: os, env, t => by
    rw [resetN]
    rcases resetN_get os (putE env o.dst .undef) t with h | ⟨h1, h2⟩
    · exact .inl h
    · by_cases hd : o.dst = some t
      · left
        rw [h1, hd]
        simp only [putE]
        rw [get_set]
        split
        · rfl
        · rename_i hne
          have : ¬ t < env.length := fun z => hne ⟨rfl, z⟩
          exact get_out (by omega)
      · refine .inr ⟨by rw [h1]; exact putE_get hd, fun i q hi => ?_⟩
        cases i with
        | zero => simp at hi; subst hi; exact hd
        | succ i => exact h2 i q (by simpa using hi)

theorem mix_none (h : E.length = env.length) (t : Nat) : get (mix ops env E (fun _ => false)) t = .undef ∨ get (mix ops env E (fun _ => false)) t = get env t := by
  rw [mix_get h]
  have : ¬ wr ops t (fun _ => false) = true := fun z => by obtain ⟨_, _, _, _, h⟩ := wr_iff.mp z; cases h
  rw [if_neg this]
  exact .inr rfl

theorem region_any (ok : TyOk P A) (hV : LvlOk P A V) (hs : Sure ops) (pl : Pl A V ops H H1 e env E) {Q : Exit → Act → World → Prop} (hQ : ∀ B a w, St C E H1 B a w → Q .normal a w) {id : Nat}
    (hf : ∀ (i : Nat) o, ops[i]? = some o → Free C o) (h : St C env H B a w) : (Code.region id ops true).wp P Q a w := by
  refine wp_region_any ok.mixed ?_
  have hl : (fun j => (Array.replicate ops.size false).getD j false) = fun _ => false := by
    funext j
    by_cases hj : j < ops.size <;> simp [hj]
  refine any_ok ok hV hs pl hQ hf ops.size (Array.replicate ops.size false) H B a _ (by simp) ?_ (fun j o _ hl' => by rw [congrFun hl j] at hl'; cases hl') (.inl ⟨rfl, by rw [congrFun hl e]⟩) ?_
  · have : ∀ (p : Nat → Bool) (n : Nat), cnt p n ≤ n := by
      intro p n
      induction n with
      | zero => exact Nat.le_refl _
      | succ n ih => simp only [cnt]; split <;> omega
    exact this _ _
  · rw [hl]
    exact h.drew.sub (mix_none pl.len) (mix_len _)

theorem regionE_ok (ok : TyOk P A) (hV : LvlOk P A V) {fid id : Nat} {draw : Bool} {R : Type} {K : List D → Heap → Option R} {r : R} (hr : regionE A V fid id ops.toList draw R K env H = some r) (h : St C env H B a w)
    (hf : ∀ (i : Nat) o, ops[i]? = some o → Free C o) {Q : Exit → Act → World → Prop} (hQ : ∀ E H' B' a' w', St C E H' B' a' w' → K E H' = some r → Q .normal a' w') : (Code.region id ops draw).wp P Q a w := by
  have hf' : ∀ o ∈ ops.toList, Free C o := fun o ho => by
    obtain ⟨i, hi⟩ := List.getElem?_of_mem ho
    exact hf i o (by simpa using hi)
  unfold regionE at hr
  split at hr
  · rename_i j hj
    split at hr
    · rename_i hc
      simp only [Bool.and_eq_true] at hc
      obtain ⟨hss, hsure⟩ := hc
      have hs := sureOps_ok hsure
      cases hx : runN A V j.sh.den ops.toList H (fun env => extJ j env H) ops.toList env with
      | none => rw [hx] at hr; cases hr
      | some x =>
        rw [hx] at hr
        simp only [Option.bind_some] at hr
        obtain ⟨E, htr, hext⟩ := runN_tr hx
        have hE : embN j.sh x = j.ts.map (get E) := by
          unfold extJ at hext
          split at hext
          · rename_i x' u he
            simp only [Option.some.injEq] at hext
            subst hext
            have := ext_embN hss he
            rw [List.append_nil] at this
            exact this.symm
          · cases hext
        rw [hE] at hr
        have last : ∀ B a w, St C E H B a w → Q .normal a w := fun B a w hst => by
          refine hQ _ _ B a w (hst.sub (fun t => setAll_sub E j.ts _ (fun t => ?_) t) (by rw [setAll_len, resetN_len, htr.len])) hr
          rcases resetN_get ops.toList env t with q | ⟨q1, q2⟩
          · exact .inl q
          · right
            rw [q1]
            exact (htr.keep t q2).symm
        cases draw with
        | false => exact wp_region_list (tr_list ok hV htr h hf' (fun a' w' hst => last B a' w' hst))
        | true => exact region_any ok hV hs (Pl.neutral hs htr) last hf h
    · cases hr
  · split at hr
    · exact wp_region_list (runO_ok ok hV hQ hr h hf')
    · split at hr
      · rename_i hsure
        have hs := sureOps_ok hsure
        split at hr
        · obtain ⟨E, htr, hk⟩ := runN_tr hr
          exact region_any ok hV hs (Pl.neutral hs htr) (fun B a w hst => hQ _ _ B a w hst hk) hf h
        · rename_i i hi
          split at hr
          · rename_i hc
            simp only [Bool.and_eq_true] at hc
            obtain ⟨hc1, hc2⟩ := hc
            obtain ⟨hlt, happ, _⟩ := List.findIdx?_eq_some_iff_getElem.mp hi
            have hlt' : i < ops.size := by simpa using hlt
            have hq : ops[i]? = some ops[i] := Array.getElem?_eq_getElem hlt'
            have happ : isAppend ops[i].op = true := by simpa using happ
            obtain ⟨env_i, htr1, hr⟩ := runN_tr hr
            have hdrop : ops.toList.drop i = ops[i] :: ops.toList.drop (i + 1) := by
              rw [List.drop_eq_getElem_cons hlt]
              simp
            rw [hdrop] at hr
            obtain ⟨d, H1, hev, hr⟩ := runO_app happ hr
            obtain ⟨E, htr2, hk⟩ := runO_moves hc1 hr
            refine region_any ok hV hs (Pl.app hs hq htr1 hev htr2 (fun j o hj ho => ?_) (fun j o hj ho => ?_)) (fun B a w hst => hQ _ _ B a w hst hk) hf h
            · unfold okApp at hc2
              have hq' : ops.toList[i]? = some ops[i] := by simpa using hq
              rw [hq'] at hc2
              have z := List.all_eq_true.mp hc2 j (List.mem_range.mpr hj)
              have ho' : ops.toList[j]? = some o := by simpa using ho
              rw [ho'] at z
              simp only [Bool.or_eq_true] at z
              exact z.imp (fun y => y) (fun y => any_mem y)
            · have hm : o ∈ ops.toList.drop (i + 1) := by
                refine List.mem_of_getElem? (i := j - (i + 1)) ?_
                rw [List.getElem?_drop]
                simpa [show i + 1 + (j - (i + 1)) = j by omega] using ho
              exact List.all_eq_true.mp hc1 o hm
          · cases hr
      · cases hr

end
end Go.Proofs.Ytoafakkbmnnimaa.Ab
