import Derived.Test.YtoafakkbmnnimaaAbE1
namespace Go.Proofs.Ytoafakkbmnnimaa.Ab
open Go
set_option linter.unusedVariables false
set_option linter.unusedSimpArgs false
set_option linter.unnecessarySimpa false
set_option linter.unusedSimpArgs false
set_option linter.unusedVariables false

def keepV : List Bool → List Value → List Value
  | true :: bs, d :: ds => d :: keepV bs ds
  | false :: bs, _ :: ds => keepV bs ds
  | _, _ => []

def resV : List Value → Value
  | [v] => v
  | vs => .tuple vs.toArray

/-- What a function answers for. -/
def Answers (P : Program) (f : Nat) (s : Sig) (x : s.ins.den) (y : s.out.den) : Prop :=
  ∀ (C : Cx) (B : List (Option Nat)) (args : List Value), HS C (emb s.ins x []).2 B C.w0 → CRs (C.N B) (C.Np B) (emb s.ins x []).2 B C.w0 (emb s.ins x []).1 args →
    Calls P f args.toArray C.w0 fun e w' => match e with
      | .returned v => ∃ H1 B1 ds vs u, HS C H1 B1 w' ∧ CRs (C.N B1) (C.Np B1) H1 B1 w' ds (vs ++ keepV s.inout args) ∧ ext false H1 s.out ds [] = some (y, [], u) ∧ vs.length = s.nres ∧ v = resV vs
      | _ => False

def HasBody (P : Program) (f : Nat) : Prop := ∃ fn, P.funcs[f]? = some fn ∧ (fn.name == "runtime.NumGoroutine") = false ∧ fn.body.isNone = false

def LvlOk (P : Program) (A : Ann) (V : Lvl A) : Prop :=
  ∀ f x y, V.call f x = some y → HasBody P f ∧ Answers P f (A.sig f) x y

section
variable {P : Program} {A : Ann} {V : Lvl A} {all : List Oper} {C : Cx} {env env' : List D} {H : Heap} {B : List (Option Nat)} {a : Act} {w w' : World}

theorem CRs.keep {N Np : Nat → Prop} : ∀ (bs : List Bool) {ds : List D} {vs : List Value}, CRs N Np H B w ds vs → CRs N Np H B w (keep bs ds) (keepV bs vs)
  | [], ds, vs, h => by simp [Ab.keep, keepV, CRs]
  | b :: bs, [], vs, h => by simp only [CRs] at h; subst h; cases b <;> simp [Ab.keep, keepV, CRs]
  | true :: bs, d :: ds, vs, h => by
    simp only [CRs] at h
    obtain ⟨u, us, rfl, h1, h2⟩ := h
    simp only [Ab.keep, keepV, CRs]
    exact ⟨_, _, rfl, h1, h2.keep bs⟩
  | false :: bs, d :: ds, vs, h => by
    simp only [CRs] at h
    obtain ⟨u, us, rfl, h1, h2⟩ := h
    simp only [Ab.keep, keepV]
    exact h2.keep bs

theorem res_ok {N Np : Nat → Prop} {ds : List D} {vs : List Value} (h : CRs N Np H B w ds vs) : CR N Np H B w (resD ds) (resV vs) := by
  match ds, vs, h with
  | [], vs, h => simp only [CRs] at h; subst h; simp only [resD, resV, CR]; exact ⟨_, rfl, by simp [CRs]⟩
  | [d], vs, h =>
    simp only [CRs] at h
    obtain ⟨u, us, rfl, h1, rfl⟩ := h
    exact h1
  | d :: e :: ds, vs, h =>
    have h' := h
    simp only [CRs] at h
    obtain ⟨u, us, rfl, h1, u2, us2, rfl, h2, h3⟩ := h
    simp only [resD, resV, CR]
    exact ⟨_, rfl, h'⟩

theorem emb_len : ∀ (s : Sh) (x : s.den) (H H' : Heap), H.length = H'.length → (emb s x H).1 = (emb s x H').1 ∧ ∃ Hn, (emb s x H).2 = H ++ Hn ∧ (emb s x H').2 = H' ++ Hn := by
  intro s
  induction s with
  | int k => intro x H H' h; exact ⟨rfl, [], by simp [emb], by simp [emb]⟩
  | bool => intro x H H' h; exact ⟨rfl, [], by simp [emb], by simp [emb]⟩
  | str => intro x H H' h; exact ⟨rfl, [], by simp [emb], by simp [emb]⟩
  | tr p t => intro x H H' h; exact ⟨rfl, [], by simp [emb], by simp [emb]⟩
  | own p t => intro x H H' h; exact ⟨by simp [emb, h], [.arr p 0 t x], rfl, rfl⟩
  | box s ih =>
    intro x H H' h
    obtain ⟨e1, Hn, e2, e3⟩ := ih x H H' h
    refine ⟨by simp only [emb, e2, e3, List.length_append, h], Hn ++ [.box (emb s x H).1], by simp [emb, e2], by simp [emb, e3, e1]⟩
  | rbox s ih =>
    intro x H H' h
    obtain ⟨e1, Hn, e2, e3⟩ := ih x H H' h
    exact ⟨by simp only [emb, e1], Hn, e2, e3⟩
  | clo g s ih =>
    intro x H H' h
    obtain ⟨e1, Hn, e2, e3⟩ := ih x H H' h
    exact ⟨by simp only [emb, e1], Hn, e2, e3⟩
  | agg s ih =>
    intro x H H' h
    obtain ⟨e1, Hn, e2, e3⟩ := ih x H H' h
    exact ⟨by simp only [emb, e1], Hn, e2, e3⟩
  | pair a b iha ihb =>
    intro x H H' h
    obtain ⟨e1, Hn, e2, e3⟩ := iha x.1 H H' h
    obtain ⟨f1, Hm, f2, f3⟩ := ihb x.2 (emb a x.1 H).2 (emb a x.1 H').2 (by rw [e2, e3]; simp [h])
    refine ⟨by simp only [emb, e1, f1], Hn ++ Hm, ?_, ?_⟩
    · simp only [emb]; rw [f2, e2]; simp
    · simp only [emb]; rw [f3, e3]; simp
  | unit => intro x H H' h; exact ⟨rfl, [], by simp [emb], by simp [emb]⟩

theorem ids_mem {u : Used} {id : Nat} : id ∈ u.ids ↔ (id, true) ∈ u := by
  induction u with
  | nil => simp [Used.ids]
  | cons e u ih =>
    obtain ⟨i, b⟩ := e
    cases b <;> simp [Used.ids, ih]

theorem lent_mem {u : Used} {id : Nat} (h : (id, false) ∈ u) : u.lent = true := by
  unfold Used.lent
  rw [List.any_eq_true]
  exact ⟨_, h, rfl⟩

/-- The blocks that a list of ids names. -/
def Moved (B : List (Option Nat)) (u : Used) (b : Nat) : Prop := ∃ id, (id, true) ∈ u ∧ B[id]? = some (some b)

theorem Moved.has {u : Used} {b : Nat} (h : Moved B u b) : Has B b := by
  obtain ⟨id, _, e⟩ := h
  exact ⟨id, e⟩

/-- What stays as it is around a callee. -/
def Cx.callee (C : Cx) (B : List (Option Nat)) (u : Used) (w : World) : Cx where
  w0 := w
  W0 := Moved B u
  Lb b := C.Lb b ∨ (u.lent = false ∧ Has B b ∧ ¬ Moved B u b)
  Lp b := C.Lp b ∨ (Has B b ∧ ¬ Moved B u b)
  nt := 0
  fx := []
  fv := fun _ => undef

theorem step_same {N Np N' Np' : Nat → Prop} (h1 : ∀ b, N' b → N b) (h2 : ∀ b, Np' b → Np b) : Step N Np N' Np' H B w H B w where
  g := ⟨Nat.le_refl _, fun _ _ _ => rfl, fun b _ q k => q (h1 b k)⟩
  gp := ⟨Nat.le_refl _, fun _ _ _ => rfl, fun b _ q k => q (h2 b k)⟩
  len := Nat.le_refl _
  box := fun id _ cells e => ⟨⟨_, e⟩, rfl⟩
  arr := fun id _ p st t l e => ⟨_, _, _, _, e, Nat.le_refl _, fun _ => ⟨rfl, rfl, rfl⟩⟩
  cells := fun _ cs k => ⟨cs, k, rfl⟩

/-- A callee's beginning. -/
theorem enter_ok (h : HS C H B w) {s : Sh} {ds : List D} {args : List Value} (hc : CRs (C.N B) (C.Np B) H B w ds args) {x : s.den} {u : Used} (he : ext true H s ds [] = some (x, [], u)) :
    ∃ B0, HS (C.callee B u w) (emb s x []).2 B0 w ∧ CRs ((C.callee B u w).N B0) ((C.callee B u w).Np B0) (emb s x []).2 B0 w (emb s x []).1 args := by
  have hex := ext_excl he (fun id k => absurd k (by simp))
  have hlb : ∀ b, (C.callee B u w).Lb b → (C.callee B u w).Lp b := fun b k => k.elim (fun q => .inl (h.lb b q)) (fun q => .inr q.2)
  obtain ⟨us, vs', hv, hnil, Bn, L⟩ := ext_ok (Nt := fun b => Moved B u b ∨ (C.callee B u w).Lb b) (Ntp := fun b => Moved B u b ∨ (C.callee B u w).Lp b) (fun b => Cx.N_Np h.lb) (fun b k => k.imp id (hlb b)) h.lenB h.blk
    (fun b _ hn k => hn (by
      rcases k with k | k | k
      · exact .inl k.has
      · exact .inr k
      · exact .inl k.1))
    (fun _ b _ hn k => hn (by
      rcases k with k | k | k
      · exact .inl k.has
      · exact .inr k
      · exact .inl k.2.1)) he hc
    (fun id rb hid hb => ⟨fun k => by
      rcases k with ⟨id', h1, h2⟩ | k | k
      · have := h.nodup _ _ _ hb h2
        subst this
        exact hex _ h1 hid
      · exact (h.alloc id rb hb).2.1 (h.lb _ k)
      · rw [lent_mem hid] at k; exact absurd k.1 (by simp), fun q => by cases q⟩) [] [] rfl
  simp only [CRs] at hnil
  subst hnil
  rw [List.append_nil] at hv
  subst hv
  obtain ⟨⟨Hn, e1, e2, e3⟩, hcells, M, m1, m2, m3, m4⟩ := L
  rw [List.nil_append] at e1
  rw [List.nil_append] at hcells
  simp only [List.nil_append] at e3
  have hmv : ∀ i rb : Nat, Bn[i]? = some (some rb) → Moved B u rb := fun i rb q => by
    obtain ⟨id, k1, k2⟩ := m3 i rb q
    exact ⟨id, (m2 _ _ k1).1, k2⟩
  have hs : Step (fun b => Moved B u b ∨ (C.callee B u w).Lb b) (fun b => Moved B u b ∨ (C.callee B u w).Lp b) ((C.callee B u w).N Bn) ((C.callee B u w).Np Bn) (emb s x []).2 Bn w (emb s x []).2 Bn w :=
    step_same (fun b k => k.imp (fun ⟨i, q⟩ => hmv i b q) (fun q => q)) (fun b k => k.imp (fun ⟨i, q⟩ => hmv i b q) (fun q => q))
  refine ⟨Bn, ?_, hcells.step hs⟩
  exact {
    lenB := by rw [e1, e2]
    nodup := fun i j rb q1 q2 => by
      obtain ⟨id, k1, k2⟩ := m3 i rb q1
      obtain ⟨jd, k3, k4⟩ := m3 j rb q2
      have := h.nodup _ _ _ k2 k4
      subst this
      exact m4 _ _ _ k1 k3
    alloc := fun i rb q => by
      have hm := hmv i rb q
      obtain ⟨id, k1, k2⟩ := hm
      have := h.alloc id rb k2
      exact ⟨this.1, fun k => k.elim this.2.1 (fun z => z.2 (hmv i rb q)), .inl (hmv i rb q)⟩
    blk := fun i b ob q1 q2 => (e3 i b ob (by rw [← e1]; exact q1) q2).step hs (fun _ _ => rfl)
    lb := hlb
    lp := fun b k => by
      rcases k with k | ⟨⟨i, q⟩, _⟩
      · exact Nat.lt_of_lt_of_le (h.lp b k) h.fr.size
      · exact (h.alloc i b q).1
    fr := Fr.refl _ _ }

/-- Rows of a callee's own, read. -/
theorem emb_embN {N Np Nt Ntp : Nat → Prop} {H3 : Heap} {B3 : List (Option Nat)} (hlt : ∀ b, N b → Np b) (hl : B3.length = H3.length) (blk : ∀ (i : Nat) b ob, H3[i]? = some b → B3[i]? = some ob → BR Nt Ntp H3 B3 w b ob)
    (h0 : ∀ b, N b → Nt b) (h1 : ∀ b, Np b → Ntp b) {n : Nat} (hout : ∀ i rb : Nat, n ≤ i → B3[i]? = some (some rb) → ¬ Np rb) :
    ∀ {s : Sh} {x : s.den} {H2 X : Heap} {us : List Value}, nshape s = true → n ≤ H2.length → H3 = (emb s x H2).2 ++ X → CRs Nt Ntp H3 B3 w (emb s x H2).1 us → CRs N Np H B w (embN s x) us := by
  intro s
  induction s with
  | int k => intro x H2 X us hs hn he hc; simpa [emb, embN, CRs, CR] using hc
  | bool => intro x H2 X us hs hn he hc; simpa [emb, embN, CRs, CR] using hc
  | str => intro x H2 X us hs hn he hc; simpa [emb, embN, CRs, CR] using hc
  | tr p t =>
    intro x H2 X us hs hn he hc
    simp only [emb, embN, CRs, CR] at hc ⊢
    obtain ⟨v, vs, rfl, hd, rfl⟩ := hc
    refine ⟨v, _, rfl, ?_, rfl⟩
    cases p
    · exact hd.mono ⟨Nat.le_refl _, fun _ _ _ => rfl, fun b _ q k => q (h0 b k)⟩
    · exact hd.mono ⟨Nat.le_refl _, fun _ _ _ => rfl, fun b _ q k => q (h1 b k)⟩
  | own p t =>
    intro x H2 X us hs hn he hc
    simp only [emb, embN, CRs, CR] at hc ⊢
    simp only [emb] at he
    obtain ⟨v, vs, rfl, hd, rfl⟩ := hc
    refine ⟨v, _, rfl, ?_, rfl⟩
    have hH : H3[H2.length]? = some (.arr p 0 t x) := by rw [he]; simp
    have hid : H2.length < B3.length := by rw [hl, he]; simp
    have hB := List.getElem?_eq_getElem hid
    refine hd_dat hH hB (blk _ _ _ hH hB) hd ?_ ?_
    · intro b hb q k
      cases p
      · exact q (h0 b k)
      · exact q (h1 b k)
    · intro rb e k
      have := hout _ rb hn (by rw [hB, e])
      cases p
      · exact this (hlt _ k)
      · exact this k
  | box s ih => intro x H2 X us hs; cases hs
  | rbox s ih => intro x H2 X us hs; cases hs
  | clo g s ih => intro x H2 X us hs; cases hs
  | agg s ih =>
    intro x H2 X us hs hn he hc
    simp only [emb, embN, CRs, CR] at hc ⊢
    obtain ⟨v, vs, rfl, ⟨ws, rfl, hd⟩, rfl⟩ := hc
    exact ⟨_, _, rfl, ⟨ws, rfl, ih (by exact hs) hn he hd⟩, rfl⟩
  | pair a b iha ihb =>
    intro x H2 X us hs hn he hc
    simp only [nshape, Bool.and_eq_true] at hs
    simp only [emb] at hc he
    simp only [embN]
    obtain ⟨ea, Hn, ea2, _⟩ := emb_len a x.1 H2 H2 rfl
    obtain ⟨eb, Hm, eb2, _⟩ := emb_len b x.2 (emb a x.1 H2).2 (emb a x.1 H2).2 rfl
    have hlen := hc.length
    obtain ⟨us1, us2, rfl, k1, k2⟩ : ∃ us1 us2, us = us1 ++ us2 ∧ CRs Nt Ntp H3 B3 w (emb a x.1 H2).1 us1 ∧ CRs Nt Ntp H3 B3 w (emb b x.2 (emb a x.1 H2).2).1 us2 := by
      refine ⟨us.take (emb a x.1 H2).1.length, us.drop (emb a x.1 H2).1.length, by simp, ?_, ?_⟩
      · have := hc.take (emb a x.1 H2).1.length
        simpa using this
      · have := hc.drop (emb a x.1 H2).1.length
        simpa using this
    exact (iha hs.1 hn (X := Hm ++ X) (by rw [he, eb2]; simp) k1).append (ihb hs.2 (by rw [ea2]; simp; omega) he k2)
  | unit => intro x H2 X us hs hn he hc; simpa [emb, embN, CRs] using hc

end
end Go.Proofs.Ytoafakkbmnnimaa.Ab
