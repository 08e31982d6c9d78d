import Derived.Test.YtoafakkbmnnimaaAbE8
namespace Go.Proofs.Ytoafakkbmnnimaa.Ab
open Go
set_option linter.unusedVariables false
set_option linter.unusedSimpArgs false
set_option linter.unnecessarySimpa false
set_option linter.unusedSimpArgs false
set_option linter.unusedVariables false

section
variable {P : Program} {A : Ann} {V : Lvl A} {ops : Array Oper} {C : Cx} {env env' E : List D} {H H0 H1 : Heap} {B : List (Option Nat)} {a : Act} {w w' : World} {e : Nat}

theorem Same.tmps {o : Oper} (h : ∀ t ∈ opTmps o, get env t = get env' t) : Same o.op env env' := by
  intro x hx
  cases x with
  | tmp t => exact h t (List.mem_filterMap.mpr ⟨.tmp t, by simpa using hx, rfl⟩)
  | _ => rfl

theorem Want.congr {o : Oper} {all : List Oper} {b : Bool} (h : ∀ g want t, o.guard = some (g, want) → (all[g]?).bind (·.dst) = some t → get env t = get env' t) (hw : Want all env o b) : Want all env' o b := by
  unfold Want at *
  cases hg : o.guard with
  | none => rw [hg] at hw; exact hw
  | some g =>
    obtain ⟨g, want⟩ := g
    rw [hg] at hw
    obtain ⟨t, h1, h2⟩ := hw
    rw [h g want t hg h1] at h2
    exact ⟨t, h1, h2⟩

def Ph (ops : Array Oper) (e : Nat) (H0 H1 : Heap) (listed : Array Bool) (H : Heap) : Prop :=
  (H = H0 ∧ listed.getD e false = false) ∨ (H = H1 ∧ listed.getD e false = true ∧ ∀ (j : Nat) o, ops[j]? = some o → isMove o.op = false → listed.getD j false = true)

theorem ready_nil {listed : Array Bool} (hs : Sure ops) (hsz : listed.size = ops.size) (h : Region.ready .any ops listed = []) : ∀ j, j < ops.size → listed.getD j false = true := by
  intro j
  induction j using Nat.strongRecOn with
  | _ j ih =>
    intro hj
    cases hc : listed.getD j false with
    | true => rfl
    | false =>
      exfalso
      have hm : j ∈ Region.ready .any ops listed := by
        rw [mem_ready]
        have hjl : j < listed.size := by omega
        refine ⟨?_, ops[j], Array.getElem?_eq_getElem hj, fun x hx hbx => ?_⟩
        · simp [Array.getD_eq_getD_getElem?, hjl] at hc ⊢; exact hc
        · have := hs.after j _ (Array.getElem?_eq_getElem hj) x hx hbx
          exact ih _ this (by omega)
      rw [h] at hm
      cases hm

/-- What has run has waited. -/
def Closed (ops : Array Oper) (listed : Array Bool) : Prop := ∀ (j : Nat) o, ops[j]? = some o → listed.getD j false = true → ∀ m, waitsFor o m = true → listed.getD m false = true

theorem needL_listed {listed : Array Bool} (hc : Closed ops listed) : ∀ (n : Nat) (S : List Oper) (acc : List Nat), (∀ p ∈ S, ∀ m, waitsFor p m = true → listed.getD m false = true) → ∀ j ∈ needL ops.toList n S acc, j ∈ acc ∨ listed.getD j false = true
  | 0, S, acc, h, j, hj => .inl hj
  | n + 1, S, acc, h, j, hj => by
    simp only [needL] at hj
    split at hj
    · rename_i o h1 h2
      rw [List.any_eq_true] at h1
      obtain ⟨p, hp, hw⟩ := h1
      have hl := h p hp n hw
      rcases needL_listed hc n (o :: S) (n :: acc) (fun p' hp' m hm => by
        rcases List.mem_cons.mp hp' with rfl | hp'
        · exact hc n _ (by simpa using h2) hl m hm
        · exact h p' hp' m hm) j hj with q | q
      · rcases List.mem_cons.mp q with rfl | q
        · exact .inr hl
        · exact .inl q
      · exact .inr q
    · exact needL_listed hc n S acc h j hj

theorem mix_step (hl : E.length = env.length) {listed : Array Bool} {i : Nat} {o : Oper} {t0 : Nat} {d : D} (hi : ops[i]? = some o) (hd : o.dst = some t0) (hsz : listed.size = ops.size) (hE : t0 < env.length → get E t0 = d) (t : Nat) :
    get (mix ops env E (fun j => (listed.setIfInBounds i true).getD j false)) t = .undef ∨
    get (mix ops env E (fun j => (listed.setIfInBounds i true).getD j false)) t = get (putE (mix ops env E (fun j => listed.getD j false)) o.dst d) t := by
  have hilt : i < listed.size := by rw [hsz]; exact (Array.getElem?_eq_some_iff.1 hi).1
  rw [hd]
  simp only [putE]
  rw [get_set, mix_get hl, mix_len, mix_get hl]
  by_cases ht : t0 = t
  · subst ht
    have h1 : wr ops t0 (fun j => (listed.setIfInBounds i true).getD j false) = true := wr_iff.mpr ⟨i, o, hi, hd, by simp [hilt]⟩
    rw [if_pos h1]
    by_cases hlt : t0 < env.length
    · right; rw [if_pos ⟨rfl, hlt⟩]; exact hE hlt
    · left; exact get_out (by omega)
  · right
    have hne0 : ¬ (t0 = t ∧ t < env.length) := fun z => ht z.1
    rw [if_neg hne0]
    have : wr ops t (fun j => (listed.setIfInBounds i true).getD j false) = wr ops t (fun j => listed.getD j false) := by
      rw [Bool.eq_iff_iff, wr_iff, wr_iff]
      constructor
      · rintro ⟨j, q, h1, h2, h3⟩
        refine ⟨j, q, h1, h2, ?_⟩
        have hne : i ≠ j := by
          intro z
          subst z
          rw [hi] at h1
          cases h1
          rw [hd] at h2
          cases h2
          exact ht rfl
        rw [← getD_set_ne false hne]
        exact h3
      · rintro ⟨j, q, h1, h2, h3⟩
        exact ⟨j, q, h1, h2, getD_set_true h3⟩
    rw [this]

theorem any_ok (ok : TyOk P A) (hV : LvlOk P A V) (hs : Sure ops) (pl : Pl A V ops H0 H1 e env E) {Q : Exit → Act → World → Prop} (hQ : ∀ B a w, St C E H1 B a w → Q .normal a w) (hf : ∀ (i : Nat) o, ops[i]? = some o → Free C o) :
    ∀ (fuel : Nat) (listed : Array Bool) (H : Heap) (B : List (Option Nat)) (a : Act) (w : World), listed.size = ops.size → cnt (fun j => listed.getD j false) ops.size ≤ fuel → Closed ops listed → Ph ops e H0 H1 listed H →
      St C (mix ops env E (fun j => listed.getD j false)) H B a w → wpAny P .any ops Q fuel listed a w := by
  have fin : ∀ (listed : Array Bool) (H : Heap) (B : List (Option Nat)) (a : Act) (w : World), listed.size = ops.size → (∀ j, j < ops.size → listed.getD j false = true) → Ph ops e H0 H1 listed H →
      St C (mix ops env E (fun j => listed.getD j false)) H B a w → Q .normal a w := by
    intro listed H B a w hsz hall hph h
    have hH : H = H1 := by
      rcases hph with ⟨h1, h2⟩ | ⟨h1, _⟩
      · rw [h1]
        have he : ¬ e < ops.size := fun z => by rw [hall e z] at h2; cases h2
        exact (pl.none_ (Array.getElem?_eq_none (by omega))).symm
      · exact h1
    subst hH
    refine hQ B a w (h.sub (fun t => .inr ?_) (by rw [mix_len, pl.len]))
    rw [mix_get pl.len]
    by_cases hw : wr ops t (fun j => listed.getD j false) = true
    · rw [if_pos hw]
    · have hnone : ∀ (j : Nat) o, ops[j]? = some o → o.dst ≠ some t := fun j o hj hd => hw (wr_iff.mpr ⟨j, o, hj, hd, hall j (Array.getElem?_eq_some_iff.1 hj).1⟩)
      rw [if_neg hw]
      exact pl.keepE t hnone
  intro fuel
  induction fuel with
  | zero =>
    intro listed H B a w hsz hc hcl hph h
    have hall := cnt_zero ops.size (Nat.le_zero.mp hc)
    refine ⟨?_, fin listed H B a w hsz hall hph h⟩
    cases hr : Region.ready .any ops listed with
    | nil => rfl
    | cons j rest =>
      have hm : j ∈ Region.ready .any ops listed := by rw [hr]; simp
      rw [mem_ready] at hm
      obtain ⟨h0, o, ho, _⟩ := hm
      have hj := (Array.getElem?_eq_some_iff.1 ho).1
      have := hall j hj
      have hjl : j < listed.size := by omega
      simp [Array.getD_eq_getD_getElem?, hjl] at h0 this
      rw [h0] at this
      cases this
  | succ fuel ih =>
    intro listed H B a w hsz hc hcl hph h
    refine ⟨fun hr => fin listed H B a w hsz (ready_nil hs hsz hr) hph h, fun i hi => ?_⟩
    rw [mem_ready] at hi
    obtain ⟨h0, o, ho, hall⟩ := hi
    have hio := (Array.getElem?_eq_some_iff.1 ho).1
    have hil : i < listed.size := by omega
    have h0' : listed.getD i false = false := by simp [Array.getD_eq_getD_getElem?, hil] at h0 ⊢; exact h0
    obtain ⟨t0, hd⟩ := hs.dst i o ho
    obtain ⟨env_i, d, hat1, hat2, hat3, hat4, hat5⟩ := pl.at_ i o ho
    have wl : ∀ j, waitsFor o j = true → listed.getD j false = true := fun j hj => by
      unfold waitsFor at hj
      rw [← Array.any_toList, List.any_eq_true] at hj
      obtain ⟨x, hx, hj⟩ := hj
      rw [Array.mem_toList_iff] at hx
      simp only [Bool.and_eq_true] at hj
      have := Nat.eq_of_beq_eq_true hj.1
      subst this
      exact hall x hx hj.2
    have hrd : ∀ t, (t ∈ opTmps o ∨ ∃ g want, o.guard = some (g, want) ∧ (ops[g]?).bind (·.dst) = some t) → get env_i t = get (mix ops env E (fun j => listed.getD j false)) t := by
      intro t hr
      rw [mix_get pl.len]
      by_cases hw : ∃ (j : Nat) (q : Oper), ops[j]? = some q ∧ q.dst = some t
      · obtain ⟨j, q, hj, hq⟩ := hw
        rcases hs.reads i j o q t ho hj hq hr with ⟨h1, h2⟩ | ⟨h1, h2⟩
        rotate_left
        · have hnl : ¬ wr ops t (fun j => listed.getD j false) = true := fun z => by
            obtain ⟨j', q', hj', hq', hl'⟩ := wr_iff.mp z
            have := hs.one j' j q' q t hj' hj hq' hq
            subst this
            rw [hj] at hj'
            cases hj'
            rw [hcl j' q hj hl' i h2] at h0'
            cases h0'
          rw [if_neg hnl]
          refine hat5 t (fun k q' hk hk' hd' => ?_)
          have := hs.one j k q q' t hj hk' hq hd'
          omega
        rw [if_pos (wr_iff.mpr ⟨j, q, hj, hq, wl j h2⟩)]
        refine hat3 t (fun k q' hk hk' hd' => ?_)
        have := hs.one j k q q' t hj hk' hq hd'
        omega
      · have hnone : ∀ (j : Nat) o, ops[j]? = some o → o.dst ≠ some t := fun j o hj hd => hw ⟨j, o, hj, hd⟩
        have nw : ∀ p, ¬ wr ops t p = true := fun p z => by
          obtain ⟨j, o, hj, hd, _⟩ := wr_iff.mp z
          exact hnone j o hj hd
        rw [if_neg (nw _), ← pl.keepE t hnone]
        exact hat3 t (fun k q' _ hk' => hnone k q' hk')
    have hsame : Same o.op env_i (mix ops env E (fun j => listed.getD j false)) := Same.tmps fun t ht => hrd t (.inl ht)
    have hwant : ∀ {b}, Want ops.toList env_i o b → Want ops.toList (mix ops env E (fun j => listed.getD j false)) o b := fun {b} hw =>
      hw.congr fun g want t hg ht => hrd t (.inr ⟨g, want, hg, by simpa using ht⟩)
    have hsz' : (listed.setIfInBounds i true).size = ops.size := by simp [hsz]
    have hset : (listed.setIfInBounds i true).getD i false = true := by simp [hil]
    have hcl' : Closed ops (listed.setIfInBounds i true) := by
      intro j p hj hl m hm
      by_cases hij : i = j
      · subst hij
        rw [ho] at hj
        cases hj
        exact getD_set_true (wl m hm)
      · rw [getD_set_ne false hij] at hl
        exact getD_set_true (hcl j p hj hl m hm)
    have hcnt : cnt (fun j => (listed.setIfInBounds i true).getD j false) ops.size ≤ fuel := by
      have := cnt_lt (p := fun j => listed.getD j false) (q := fun j => (listed.setIfInBounds i true).getD j false) (fun j hj => getD_set_true hj) h0' hset ops.size hio
      omega
    have next : ∀ H' B' v w', Ph ops e H0 H1 (listed.setIfInBounds i true) H' → St C (putE (mix ops env E (fun j => listed.getD j false)) o.dst d) H' B' (a.put o.dst v) w' →
        wpAny P .any ops Q fuel (listed.setIfInBounds i true) (a.put o.dst v) w' := fun H' B' v w' hp' hst =>
      ih _ H' B' _ w' hsz' hcnt hcl' hp' (hst.sub (fun t => mix_step pl.len ho hd hsz (hat4 t0 hd) t) (by rw [mix_len, hd]; simp [putE, mix_len]))
    unfold wpOp
    simp only [ho]
    by_cases hie : i = e
    · have hev := hat1 hie
      have hp0 : H = H0 := by
        rcases hph with ⟨h1, _⟩ | ⟨_, h2, _⟩
        · exact h1
        · rw [← hie, h0'] at h2; cases h2
      subst hp0
      have hp1 : Ph ops e H H1 (listed.setIfInBounds i true) H1 := by
        refine .inr ⟨rfl, by rw [← hie]; exact hset, fun j q hj hq => ?_⟩
        by_cases hje : j = e
        · rw [hje, ← hie]; exact hset
        · obtain ⟨_, _, _, g2, _, _, _⟩ := pl.at_ j q hj
          rcases (g2 hje).2 o (by rw [← hie]; exact ho) with z | z
          · rw [z] at hq; cases hq
          · rcases needL_listed hcl e [o] [] (fun p hp m hm => by
              rw [List.mem_singleton] at hp
              subst hp
              exact wl m hm) j z.2 with q | q
            · cases q
            · exact getD_set_true q
      rcases hev with ⟨h1, h2, h3⟩ | ⟨h1, rfl, rfl⟩
      · rw [Want_ok h (hwant h1), if_pos rfl]
        left
        rw [eff_congr h2 hsame] at h3
        obtain ⟨v, B', w', k1, k2, k3⟩ := eff_ok ok h h3 rfl
        rcases k1 with k1 | ⟨k1, rfl⟩
        · simp only [Oper.wp, k1, Oper.upon]
          exact next _ _ _ _ hp1 (k2.put k3 o.dst (hf i o ho))
        · simp only [Oper.wp, k1, Oper.upon]
          exact next _ _ _ _ hp1 (k2.put k3 o.dst (hf i o ho))
      · rw [Want_ok h (hwant h1), if_neg (by simp)]
        exact next _ _ _ _ hp1 (h.put skip_ok o.dst (hf i o ho))
    · have hov := hat2 hie
      have hne : (listed.setIfInBounds i true).getD e false = listed.getD e false := getD_set_ne false hie
      have hp' : Ph ops e H0 H1 (listed.setIfInBounds i true) H := by
        rcases hph with ⟨h1, h2⟩ | ⟨h1, h2, h3⟩
        · exact .inl ⟨h1, by rw [hne]; exact h2⟩
        · exact .inr ⟨h1, by rw [hne]; exact h2, fun j q hj hq => getD_set_true (h3 j q hj hq)⟩
      rcases hov.1 with ⟨h1, h2⟩ | ⟨h1, rfl⟩
      · rw [Want_ok h (hwant h1), if_pos rfl]
        left
        have hnv : NV A V H (mix ops env E (fun j => listed.getD j false)) o d := by
          have h2 := h2.congr hsame
          rcases hph with ⟨k1, k2⟩ | ⟨k1, k2, k3⟩
          · rw [k1]; exact h2
          · rw [k1]
            refine h2.move ?_
            cases hm : isMove o.op with
            | true => rfl
            | false => rw [k3 i o ho hm] at h0'; cases h0'
        exact NV_ok ok hV h hnv (fun v w' k1 k2 => next _ _ _ _ hp' (k1.put k2 o.dst (hf i o ho)))
      · rw [Want_ok h (hwant h1), if_neg (by simp)]
        exact next _ _ _ _ hp' (h.put skip_ok o.dst (hf i o ho))

end
end Go.Proofs.Ytoafakkbmnnimaa.Ab
