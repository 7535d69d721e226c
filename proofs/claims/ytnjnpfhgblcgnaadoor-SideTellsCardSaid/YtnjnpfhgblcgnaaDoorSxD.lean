/-
  The executor is sound: a condition that holds gives the call's contract. Conditions: those of the statement alone.
-/
import Derived.Test.YtnjnpfhgblcgnaaDoorSxC
import Derived.Deep.LoopGhost
import Derived.Test.YtnjnpfhgblcgnaaDoorSxA
set_option linter.unusedVariables false
set_option linter.unusedSimpArgs false

-- SxSim
namespace Go.Sx
open Go.RowKit

theorem subN_iff (l m : List Nat) : subN l m = true ↔ ∀ x ∈ l, x ∈ m := by
  induction l with
  | nil => simp [subN]
  | cons x l ih =>
    unfold subN
    cases h : memN m x with
    | true => simp [ih, (memN_iff m x).1 h]
    | false =>
      have : x ∉ m := fun hm => by rw [(memN_iff m x).2 hm] at h; cases h
      simp [this]
theorem memN_false (l : List Nat) (k : Nat) : memN l k = false ↔ k ∉ l := by
  rw [← memN_iff]; simp

section
variable {P : Program} {G : Gh} {X : Ctx P} {F : Fn} {S S' M : St} {o : Oper} {u : World} {V : VP} {rk : List Nat} {ops : List Oper}

/-! ### the static checks -/
theorem lateO_spec {m t : Nat} : ∀ {l : List Oper}, lateO ops m t l = false → ∀ o ∈ l, t ∈ looks ops o → m ∈ needs o := by
  intro l
  induction l with
  | nil => intro _ o ho; cases ho
  | cons x l ih =>
    intro h o ho ht
    unfold lateO at h
    split at h
    · cases h
    · rename_i hb
      cases ho with
      | head =>
        have h1 : memN (looks ops _) t = true := (memN_iff _ _).2 ht
        rw [h1] at hb
        simp at hb
        exact (memN_iff _ _).1 hb
      | tail _ ho => exact ih h o ho ht
theorem lookOk_spec {i : Nat} {nd lk : List Nat} : ∀ {l : List Oper} {m : Nat}, lookOk i nd lk m l = true → ∀ j o t, getN l j = some o → o.dst = some t → t ∈ lk → (m + j) ∈ nd ∨ i ∈ needs o := by
  intro l
  induction l with
  | nil => intro m _ j o t h; simp [getN] at h
  | cons x l ih =>
    intro m h j o t hj hd ht
    cases j with
    | zero =>
      simp only [getN] at hj
      cases hj
      unfold lookOk at h
      rw [hd] at h
      simp only at h
      have h1 : memN lk t = true := (memN_iff _ _).2 ht
      rw [h1] at h
      simp only [Bool.and_eq_true, Bool.true_and] at h
      split at h
      · rename_i hb
        simp only [Bool.or_eq_true] at hb
        rcases hb with hb | hb
        · exact .inl ((memN_iff _ _).1 hb)
        · exact .inr ((memN_iff _ _).1 hb)
      · cases h
    | succ j =>
      simp only [getN] at hj
      have : lookOk i nd lk (m + 1) l = true := by
        unfold lookOk at h
        split at h
        · exact h
        · split at h
          · exact h
          · split at h
            · cases h
            · exact h
      have := ih this j o t hj hd ht
      rw [show m + (j + 1) = m + 1 + j from by omega]
      exact this
theorem looksOk_spec : ∀ {l : List Oper} {i : Nat}, looksOk ops i l = true → ∀ j o, getN l j = some o → lookOk (i + j) (needs o) (looks ops o) 0 ops = true := by
  intro l
  induction l with
  | nil => intro i _ j o h; simp [getN] at h
  | cons x l ih =>
    intro i h j o hj
    unfold looksOk at h
    split at h
    · rename_i hb
      cases j with
      | zero => simp only [getN] at hj; cases hj; exact hb
      | succ j =>
        simp only [getN] at hj
        have := ih h j o hj
        rw [show i + (j + 1) = i + 1 + j from by omega]
        exact this
    · cases h
theorem looks_spec (h : looksOk ops 0 ops = true) {i j : Nat} {oi oj : Oper} {t : Nat} (hi : getN ops i = some oi) (hj : getN ops j = some oj) (hd : oj.dst = some t) (ht : t ∈ looks ops oi) : j ∈ needs oi ∨ i ∈ needs oj := by
  have h1 := looksOk_spec h i oi hi
  rw [Nat.zero_add] at h1
  have h2 := lookOk_spec h1 j oj t hj hd ht
  rwa [Nat.zero_add] at h2

theorem dstsOk_spec : ∀ {l : List Oper} {seen : List Nat}, dstsOk l seen = true → (∀ i o t, getN l i = some o → o.dst = some t → t ∉ seen) ∧ ∀ i j oi oj t, getN l i = some oi → getN l j = some oj → oi.dst = some t → oj.dst = some t → i = j := by
  intro l
  induction l with
  | nil => intro seen _; exact ⟨fun i o t h => by simp [getN] at h, fun i j oi oj t h => by simp [getN] at h⟩
  | cons x l ih =>
    intro seen h
    unfold dstsOk at h
    split at h
    · rename_i hx
      obtain ⟨h1, h2⟩ := ih h
      refine ⟨fun i o t hi ht => ?_, fun i j oi oj t hi hj hti htj => ?_⟩
      · cases i with
        | zero => simp only [getN] at hi; cases hi; rw [hx] at ht; cases ht
        | succ i => exact h1 i o t hi ht
      · cases i with
        | zero => simp only [getN] at hi; cases hi; rw [hx] at hti; cases hti
        | succ i =>
          cases j with
          | zero => simp only [getN] at hj; cases hj; rw [hx] at htj; cases htj
          | succ j => rw [h2 i j oi oj t hi hj hti htj]
    · rename_i t0 hx
      split at h
      · cases h
      · rename_i hm
        obtain ⟨h1, h2⟩ := ih h
        have hm' := (memN_false _ _).1 hm
        refine ⟨fun i o t hi ht => ?_, fun i j oi oj t hi hj hti htj => ?_⟩
        · cases i with
          | zero => simp only [getN] at hi; cases hi; rw [hx] at ht; cases ht; exact hm'
          | succ i => exact fun hs => h1 i o t hi ht (List.mem_cons_of_mem _ hs)
        · cases i with
          | zero =>
            cases j with
            | zero => rfl
            | succ j =>
              simp only [getN] at hi; cases hi; rw [hx] at hti; cases hti
              exact absurd (List.mem_cons_self) (h1 j oj _ hj htj)
          | succ i =>
            cases j with
            | zero =>
              simp only [getN] at hj; cases hj; rw [hx] at htj; cases htj
              exact absurd (List.mem_cons_self) (h1 i oi _ hi hti)
            | succ j => rw [h2 i j oi oj t hi hj hti htj]

theorem app_env_ne {δ : Dl} {t : Nat} (h : ∀ x, δ.e ≠ some (t, x)) : (S.app δ).env t = S.env t := by
  obtain ⟨e, l⟩ := δ
  cases e with
  | none => cases l <;> rfl
  | some e =>
    have hne : t ≠ e.1 := fun he => h e.2 (by rw [he])
    cases l <;> exact upd_other _ _ hne
theorem app_env_eq {δ : Dl} {t : Nat} {x : SV} (h : δ.e = some (t, x)) : (S.app δ).env t = x := by
  obtain ⟨e, l⟩ := δ
  cases h
  cases l <;> exact upd_same _ _ _
theorem app_L_ne {δ : Dl} {k : Nat} (h : ∀ T cs, δ.l ≠ some (k, T, cs)) : (S.app δ).L k = S.L k := by
  obtain ⟨e, l⟩ := δ
  cases l with
  | none => cases e <;> rfl
  | some l =>
    have hne : k ≠ l.1 := fun he => h l.2.1 l.2.2 (by rw [he])
    cases e <;> exact upd_other _ _ hne
theorem app_L_eq {δ : Dl} {k T : Nat} {cs : List Value} (h : δ.l = some (k, T, cs)) : (S.app δ).L k = some (T, cs) := by
  obtain ⟨e, l⟩ := δ
  cases h
  cases e <;> exact upd_same _ _ _
theorem app_rest (δ : Dl) : (S.app δ).be = S.be ∧ (S.app δ).me = S.me ∧ (S.app δ).bl = S.bl ∧ (S.app δ).ml = S.ml := by
  obtain ⟨e, l⟩ := δ
  cases e <;> cases l <;> exact ⟨rfl, rfl, rfl, rfl⟩

theorem kindO_congr (h : ∀ y ∈ opds o.op, ev S' y = ev S y) : kindO X F S' o = kindO X F S o := by
  unfold kindO
  split <;> try rfl
  · rename_i f args ats ho; rw [ho] at h; rw [h f (by simp [opds])]
  · rename_i x ats ho; rw [ho] at h; rw [h x (by simp [opds])]
  · rename_i a b x ho; rw [ho] at h; rw [h x (by simp [opds])]

/-! ### ops that the telling order has done and the machine has not -/
variable (X F) in
structure Pend (ops : List Oper) (rk : List Nat) (i : Nat) (o : Oper) (S : St) (δ : Dl) (rd : Rd) : Prop where
  run : ∀ M u V, (∀ t ∈ looks ops o, M.env t = S.env t) → (∀ k, rd = .loc k → M.L k = S.L k) → (∀ k T cs, δ.l = some (k, T, cs) → M.L k = none) → rd.C P u V → ∀ K : KD, K δ u V → gxd X F ops rk o M u V K
  lk : Lk X F o S δ rd
  e : ∀ t x, δ.e = some (t, x) → o.dst = some t
  l : ∀ k T cs, δ.l = some (k, T, cs) → locOp F o = true ∧ o.dst = some k
  nl : ∀ t, o.dst = some t → lateO ops i t ops = false

theorem Pend.move {i : Nat} {δ : Dl} {rd : Rd} (h : Pend X F ops rk i o S δ rd) (hl : ∀ t ∈ looks ops o, S'.env t = S.env t) (hL : ∀ k, rd = .loc k → S'.L k = S.L k) : Pend X F ops rk i o S' δ rd := by
  have he := ev_agree (M := S') hl
  refine ⟨fun M u V h1 h2 h3 h4 K hK => h.run M u V (fun t ht => by rw [h1 t ht, hl t ht]) (fun k hk => by rw [h2 k hk, hL k hk]) h3 h4 K hK, ?_, h.e, h.l, h.nl⟩
  have := h.lk
  cases rd with
  | free => trivial
  | loc k =>
    obtain ⟨⟨T, x, off, ho, hx⟩, hk⟩ := this
    exact ⟨⟨T, x, off, ho, by rw [he x (by rw [ho]; simp [opds]), hx]⟩, by rw [hL k rfl]; exact hk⟩
  | «at» ad cs =>
    obtain ⟨T, x, ho, hx, hd⟩ := this
    exact ⟨T, x, ho, by rw [he x (by rw [ho]; simp [opds]), hx], hd⟩
  | ro f as r => exact ⟨this.1, by rw [kindO_congr he]; exact this.2⟩

theorem gxd_cases {K : KD} (h : gxd X F ops rk o S u V K) :
    (ox X F rk o S u V K ∧ ∀ M : St, (∀ t ∈ guardL ops o, M.env t = S.env t) → ∀ u' V' (K' : KD), ox X F rk o M u' V' K' → gxd X F ops rk o M u' V' K') ∨
    ((putK F o.dst (.s (.v undef)) fun δ => K δ u V) ∧ ∀ M : St, (∀ t ∈ guardL ops o, M.env t = S.env t) → ∀ u' V' (K' : KD), (putK F o.dst (.s (.v undef)) fun δ => K' δ u' V') → gxd X F ops rk o M u' V' K') := by
  unfold gxd at h
  split at h
  · rename_i hg
    exact .inl ⟨h, fun M _ u' V' K' hk => by unfold gxd; rw [hg]; exact hk⟩
  · rename_i j want hg
    split at h
    · rename_i oj hj
      split at h
      · rename_i t ht
        have hgl : t ∈ guardL ops o := by simp [guardL, hg, hj, ht]
        split at h
        · rename_i b hb
          cases want <;> cases b <;> simp only [IfB] at h
          · exact .inl ⟨h, fun M hM u' V' K' hk => by unfold gxd; simp only [hg, hj, ht, hM t hgl, hb, IfB]; exact hk⟩
          · exact .inr ⟨h, fun M hM u' V' K' hk => by unfold gxd; simp only [hg, hj, ht, hM t hgl, hb, IfB]; exact hk⟩
          · exact .inr ⟨h, fun M hM u' V' K' hk => by unfold gxd; simp only [hg, hj, ht, hM t hgl, hb, IfB]; exact hk⟩
          · exact .inl ⟨h, fun M hM u' V' K' hk => by unfold gxd; simp only [hg, hj, ht, hM t hgl, hb, IfB]; exact hk⟩
        · rename_i b hb
          exact .inr ⟨h, fun M hM u' V' K' hk => by unfold gxd; simp only [hg, hj, ht, hM t hgl, hb]; exact hk⟩
        · exact h.elim
      · exact h.elim
    · exact h.elim

theorem gxd_calm {i : Nat} {K : KD} (hk : kindO X F S o = 0) (nl : ∀ t, o.dst = some t → lateO ops i t ops = false) (h : gxd X F ops rk o S u V K) :
    ∃ (δ : Dl) (rd : Rd), K δ u V ∧ rd.C P u V ∧ Pend X F ops rk i o S δ rd ∧ ∀ k T cs, δ.l = some (k, T, cs) → S.L k = none := by
  rcases gxd_cases h with ⟨h1, h2⟩ | ⟨h1, h2⟩
  · obtain ⟨δ, rd, h3, h4, h5⟩ := ox_calm hk h1
    refine ⟨δ, rd, h3, h4, ⟨fun M u' V' ha hL hN hC K' hK' => ?_, h5.lk, h5.e, fun k T cs e => ⟨(h5.l k T cs e).1, (h5.l k T cs e).2.1⟩, nl⟩, fun k T cs e => (h5.l k T cs e).2.2⟩
    refine h2 M (fun t ht => ha t (List.mem_append_left _ ht)) u' V' K' ?_
    rw [ox_congr (S := S) (ev_agree ha) ?_ ?_]
    · exact h5.run u' V' hC K' hK'
    · rintro y k off (⟨T, ho⟩ | ⟨T, x, ho⟩) hy
      · exact hL k (h5.ll T y k off ho hy)
      · simp [kindO, ho] at hk
    · intro k hd hlo
      obtain ⟨k', T, cs, e⟩ := h5.l' hlo
      obtain ⟨_, h6, h7⟩ := h5.l k' T cs e
      rw [hd] at h6; cases h6
      rw [h7, hN k T cs e]
  · obtain ⟨h3, h4⟩ := putK_lin h1
    refine ⟨dl o.dst (.s (.v undef)), .free, h3, trivial, ⟨fun M u' V' ha hL hN hC K' hK' => ?_, trivial, fun t y e => dl_e e, fun k T cs e => (by cases h : o.dst <;> rw [h] at e <;> cases e), nl⟩, fun k T cs e => (by cases h : o.dst <;> rw [h] at e <;> cases e)⟩
    exact h2 M (fun t ht => ha t (List.mem_append_left _ ht)) u' V' K' (h4 _ hK')
end
end Go.Sx

-- SxSim2
namespace Go.Sx
open Go.RowKit
section
variable {P : Program} {G : Gh} {X : Ctx P} {F : Fn} {S M : St} {u : World} {V : VP} {rk : List Nat} {ops : List Oper}

def OrdE (ops : List Oper) : List Nat → Prop
  | [] => True
  | i :: E => (∀ o, getN ops i = some o → ∀ j ∈ needs o, j ∈ E) ∧ i ∉ E ∧ OrdE ops E

theorem OrdE.closed {E : List Nat} (h : OrdE ops E) : ∀ i ∈ E, ∀ o, getN ops i = some o → ∀ j ∈ needs o, j ∈ E := by
  induction E with
  | nil => intro i hi; cases hi
  | cons k E ih =>
    intro i hi o ho j hj
    cases hi with
    | head => exact List.mem_cons_of_mem _ (h.1 o ho j hj)
    | tail _ hi => exact List.mem_cons_of_mem _ (ih h.2.2 i hi o ho j hj)

variable (X F) in
structure Sim (ops : List Oper) (rk : List Nat) (E : List Nat) (lst : Nat → Prop) (S M : St) (u : World) (V : VP) (Δ : Nat → Dl) (R : Nat → Rd) : Prop where
  sub : ∀ i, lst i → i ∈ E
  down : ∀ i o, lst i → getN ops i = some o → ∀ j ∈ needs o, lst j
  pend : ∀ i ∈ E, ¬ lst i → ∃ o, getN ops i = some o ∧ Pend X F ops rk i o S (Δ i) (R i) ∧ (R i).C P u V
  se : ∀ i ∈ E, ¬ lst i → ∀ t x, (Δ i).e = some (t, x) → S.env t = x
  sl : ∀ i ∈ E, ¬ lst i → ∀ k T cs, (Δ i).l = some (k, T, cs) → S.L k = some (T, cs) ∧ M.L k = none
  env : ∀ t, (∀ i ∈ E, ¬ lst i → ∀ x, (Δ i).e ≠ some (t, x)) → M.env t = S.env t
  L : ∀ k, (∀ i ∈ E, ¬ lst i → ∀ T cs, (Δ i).l ≠ some (k, T, cs)) → M.L k = S.L k
  ord : OrdE ops E
  be : M.be = S.be ∧ M.me = S.me ∧ M.bl = S.bl ∧ M.ml = S.ml

variable {E : List Nat} {lst : Nat → Prop} {Δ : Nat → Dl} {R : Nat → Rd}

def Uniq (ops : List Oper) : Prop := ∀ i j oi oj t, getN ops i = some oi → getN ops j = some oj → oi.dst = some t → oj.dst = some t → i = j

/-- what an op that is about to be done looks at is settled -/
theorem Sim.agree (h : Sim X F ops rk E lst S M u V Δ R) {i : Nat} {o : Oper} (ho : getN ops i = some o) (hneed : ∀ j ∈ needs o, lst j) : ∀ t ∈ looks ops o, M.env t = S.env t := by
  intro t ht
  refine h.env t fun j hj hlj x e => ?_
  obtain ⟨oj, hoj, hp, _⟩ := h.pend j hj hlj
  have hd := hp.e t x e
  have hm : o ∈ ops := by
    rw [getN_eq] at ho
    exact List.mem_of_getElem? ho
  exact hlj (hneed j (lateO_spec (hp.nl t hd) o hm ht))

theorem Sim.key (h : Sim X F ops rk E lst S M u V Δ R) {k : Nat} (hk : M.L k ≠ none) : M.L k = S.L k :=
  h.L k fun j hj hlj T cs e => hk (h.sl j hj hlj k T cs e).2

theorem Sim.stepA (h : Sim X F ops rk E lst S M u V Δ R) (hu : Uniq ops) {i : Nat} {o : Oper} (hi : i ∈ E) (hn : ¬ lst i) (ho : getN ops i = some o) (hneed : ∀ j ∈ needs o, lst j) (hst : ∀ t k off, M.env t = .s (.loc k off) → M.L k ≠ none) :
    (∀ K : KD, K (Δ i) u V → gxd X F ops rk o M u V K) ∧ Sim X F ops rk E (fun j => j = i ∨ lst j) S (M.app (Δ i)) u V Δ R := by
  obtain ⟨o', ho', hp, hC⟩ := h.pend i hi hn
  rw [ho] at ho'; cases ho'
  have hag := h.agree ho hneed
  refine ⟨hp.run M u V hag (fun k hk => ?_) (fun k T cs e => (h.sl i hi hn k T cs e).2) hC, ?_⟩
  · have hlk := hp.lk
    rw [hk] at hlk
    obtain ⟨⟨T, x, off, hox, hx⟩, _⟩ := hlk
    have hx' : ev M x = .s (.loc k off) := by rw [ev_agree hag x (by rw [hox]; simp [opds]), hx]
    refine h.key ?_
    cases x with
    | tmp t => exact hst t k off hx'
    | const v => exact absurd hx' (constS_loc v k off)
    | global g => cases hx'
    | func f => cases hx'
  · refine ⟨fun j hj => ?_, fun j oj hj hoj m hm => ?_, fun j hj hlj => h.pend j hj (fun hl => hlj (.inr hl)), fun j hj hlj => h.se j hj (fun hl => hlj (.inr hl)), fun j hj hlj k T cs e => ?_, fun t ht => ?_, fun k hk => ?_, h.ord, ?_⟩
    · rcases hj with rfl | hj
      · exact hi
      · exact h.sub j hj
    · rcases hj with rfl | hj
      · rw [ho] at hoj; cases hoj
        exact .inr (hneed m hm)
      · exact .inr (h.down j oj hj hoj m hm)
    · have hlj' : ¬ lst j := fun hl => hlj (.inr hl)
      have hne : j ≠ i := fun e => hlj (.inl e)
      obtain ⟨h1, h2⟩ := h.sl j hj hlj' k T cs e
      refine ⟨h1, ?_⟩
      rw [app_L_ne]
      · exact h2
      · intro T' cs' e'
        obtain ⟨oj, hoj, hpj, _⟩ := h.pend j hj hlj'
        exact hne (hu j i oj o k hoj ho (hpj.l k T cs e).2 (hp.l k T' cs' e').2)
    · by_cases hx : ∃ x, (Δ i).e = some (t, x)
      · obtain ⟨x, hx⟩ := hx
        rw [app_env_eq hx, h.se i hi hn t x hx]
      · rw [app_env_ne (fun x e => hx ⟨x, e⟩)]
        refine h.env t fun j hj hlj x e => ?_
        by_cases hji : j = i
        · subst hji; exact hx ⟨x, e⟩
        · exact ht j hj (fun hl => hl.elim hji hlj) x e
    · by_cases hx : ∃ T cs, (Δ i).l = some (k, T, cs)
      · obtain ⟨T, cs, hx⟩ := hx
        rw [app_L_eq hx, (h.sl i hi hn k T cs hx).1]
      · rw [app_L_ne (fun T cs e => hx ⟨T, cs, e⟩)]
        refine h.L k fun j hj hlj T cs e => ?_
        by_cases hji : j = i
        · subst hji; exact hx ⟨T, cs, e⟩
        · exact hk j hj (fun hl => hl.elim hji hlj) T cs e
    · obtain ⟨a1, a2, a3, a4⟩ := app_rest (S := M) (Δ i)
      obtain ⟨b1, b2, b3, b4⟩ := h.be
      exact ⟨a1.trans b1, a2.trans b2, a3.trans b3, a4.trans b4⟩

/-- a calm op is told -/
theorem Sim.stepB (h : Sim X F ops rk E lst S M u V Δ R) (hu : Uniq ops) {i : Nat} {o : Oper} (hi : i ∉ E) (ho : getN ops i = some o) (hneed : ∀ j ∈ needs o, j ∈ E) {δ : Dl} {rd : Rd} (hp : Pend X F ops rk i o S δ rd) (hC : rd.C P u V)
    (hl : ∀ k T cs, δ.l = some (k, T, cs) → S.L k = none) : Sim X F ops rk (i :: E) lst (S.app δ) M u V (upd Δ i δ) (upd R i rd) := by
  have hlst : ¬ lst i := fun hl => hi (h.sub i hl)
  have hne : ∀ j ∈ E, j ≠ i := fun j hj e => hi (e ▸ hj)
  have hmem : ∀ {j : Nat} {oj : Oper}, getN ops j = some oj → oj ∈ ops := fun hj => by rw [getN_eq] at hj; exact List.mem_of_getElem? hj
  -- a key that is told already is another
  have henv : ∀ t, o.dst ≠ some t → (S.app δ).env t = S.env t := fun t ht => app_env_ne fun x e => ht (hp.e t x e)
  refine ⟨fun j hj => List.mem_cons_of_mem _ (h.sub j hj), h.down, fun j hj hlj => ?_, fun j hj hlj t x e => ?_, fun j hj hlj k T cs e => ?_, fun t ht => ?_, fun k hk => ?_, ⟨fun o' ho' j hj => ?_, hi, h.ord⟩, ?_⟩
  · cases hj with
    | head =>
      refine ⟨o, ho, ?_, by rw [upd_same]; exact hC⟩
      rw [upd_same, upd_same]
      refine hp.move (fun t ht => henv t fun hd => ?_) (fun k hk => ?_)
      · exact hi (hneed i (lateO_spec (hp.nl t hd) o (hmem ho) ht))
      · refine app_L_ne fun T cs e => ?_
        have := hp.lk
        rw [hk] at this
        exact this.2 (hl k T cs e)
    | tail _ hj =>
      obtain ⟨oj, hoj, hpj, hCj⟩ := h.pend j hj hlj
      refine ⟨oj, hoj, ?_, by rw [upd_other _ _ (hne j hj)]; exact hCj⟩
      rw [upd_other _ _ (hne j hj), upd_other _ _ (hne j hj)]
      refine hpj.move (fun t ht => henv t fun hd => ?_) (fun k hk => ?_)
      · exact hi (h.ord.closed j hj oj hoj i (lateO_spec (hp.nl t hd) oj (hmem hoj) ht))
      · refine app_L_ne fun T cs e => ?_
        have := hpj.lk
        rw [hk] at this
        exact this.2 (hl k T cs e)
  · cases hj with
    | head => rw [upd_same] at e; exact app_env_eq e
    | tail _ hj =>
      rw [upd_other _ _ (hne j hj)] at e
      obtain ⟨oj, hoj, hpj, _⟩ := h.pend j hj hlj
      rw [henv t fun hd => hne j hj (hu j i oj o t hoj ho (hpj.e t x e) hd)]
      exact h.se j hj hlj t x e
  · cases hj with
    | head =>
      rw [upd_same] at e
      refine ⟨app_L_eq e, ?_⟩
      by_cases hx : ∃ j ∈ E, ¬ lst j ∧ ∃ T cs, (Δ j).l = some (k, T, cs)
      · obtain ⟨j, hj, hlj, T', cs', e'⟩ := hx
        exact (h.sl j hj hlj k T' cs' e').2
      · rw [h.L k fun j hj hlj T' cs' e' => hx ⟨j, hj, hlj, T', cs', e'⟩]
        exact hl k T cs e
    | tail _ hj =>
      rw [upd_other _ _ (hne j hj)] at e
      obtain ⟨h1, h2⟩ := h.sl j hj hlj k T cs e
      refine ⟨?_, h2⟩
      rw [app_L_ne]
      · exact h1
      · intro T' cs' e'
        rw [hl k T' cs' e'] at h1; cases h1
  · have h1 : ∀ x, δ.e ≠ some (t, x) := fun x e => ht i (List.mem_cons_self) hlst x (by rw [upd_same]; exact e)
    rw [app_env_ne h1]
    exact h.env t fun j hj hlj x e => ht j (List.mem_cons_of_mem _ hj) hlj x (by rw [upd_other _ _ (hne j hj)]; exact e)
  · have h1 : ∀ T cs, δ.l ≠ some (k, T, cs) := fun T cs e => hk i (List.mem_cons_self) hlst T cs (by rw [upd_same]; exact e)
    rw [app_L_ne h1]
    exact h.L k fun j hj hlj T cs e => hk j (List.mem_cons_of_mem _ hj) hlj T cs (by rw [upd_other _ _ (hne j hj)]; exact e)
  · rw [ho] at ho'; cases ho'; exact hneed j hj
  · obtain ⟨a1, a2, a3, a4⟩ := app_rest (S := S) δ
    obtain ⟨b1, b2, b3, b4⟩ := h.be
    exact ⟨b1.trans a1.symm, b2.trans a2.symm, b3.trans a3.symm, b4.trans a4.symm⟩

/-- what was read must hold behind a step that turns memory -/
def KeepOk (X : Ctx P) (F : Fn) (o : Oper) (S : St) (key : Option Nat) (u' : World) (V' : VP) : Rd → Prop
  | .free => True
  | .loc k => key ≠ some k
  | .at ad cs => At u' V' ad cs
  | .ro _ _ _ => False

/-- an op that is no calm one is done -/
theorem Sim.stepC (h : Sim X F ops rk E lst S M u V Δ R) (hu : Uniq ops) (hlo : looksOk ops 0 ops = true) {i : Nat} {o : Oper} (hi : i ∉ E) (ho : getN ops i = some o) (hneed : ∀ j ∈ needs o, lst j) (hst : ∀ t k off, M.env t = .s (.loc k off) → M.L k ≠ none) :
    (∀ (u : World) (V : VP) (K : KD), gxd X F ops rk o M u V K = gxd X F ops rk o S u V K) ∧
    ∀ (δ : Dl) (u' : World) (V' : VP), Good X F o S u V δ u' V' → (kindO X F S o = 2 → ∀ j ∈ E, ¬ lst j → ∀ oj, getN ops j = some oj → Lk X F oj S (Δ j) (R j) → KeepOk X F oj S (storeKey S o) u' V' (R j)) →
      Sim X F ops rk (i :: E) (fun j => j = i ∨ lst j) (S.app δ) (M.app δ) u' V' Δ R := by
  have hag := h.agree ho hneed
  have hev := ev_agree (M := M) hag
  have hloc : ∀ y k off, y ∈ opds o.op → ev S y = .s (.loc k off) → M.L k ≠ none := by
    intro y k off hy hx
    rw [← hev y hy] at hx
    cases y with
    | tmp t => exact hst t k off hx
    | const v => exact absurd hx (constS_loc v k off)
    | global g => cases hx
    | func f => cases hx
  have hne : ∀ j ∈ E, j ≠ i := fun j hj e => hi (e ▸ hj)
  have hlst : ¬ lst i := fun hl => hi (h.sub i hl)
  have hpd : ∀ k, o.dst = some k → ∀ j ∈ E, ¬ lst j → ∀ T cs, (Δ j).l ≠ some (k, T, cs) := by
    intro k hd j hj hlj T cs e
    obtain ⟨oj, hoj, hpj, _⟩ := h.pend j hj hlj
    exact hne j hj (hu j i oj o k hoj ho (hpj.l k T cs e).2 hd)
  refine ⟨fun u V K => gxd_congr hag (fun y k off hy hx => ?_) (fun k hd _ => by rw [h.L k (hpd k hd)]), fun δ u' V' hg hkeep => ?_⟩
  · refine h.key (hloc y k off ?_ hx)
    rcases hy with ⟨T, hy⟩ | ⟨T, x, hy⟩ <;> rw [hy] <;> simp [opds]
  -- a key that the step turns is no key of a pending op
  have hkey : ∀ k T cs, δ.l = some (k, T, cs) → ∀ j ∈ E, ¬ lst j → ∀ T' cs', (Δ j).l ≠ some (k, T', cs') := by
    intro k T cs e j hj hlj T' cs' e'
    rcases hg.l k T cs e with ⟨_, hd, _⟩ | hs
    · exact hpd k hd j hj hlj T' cs' e'
    · have h2 := (h.sl j hj hlj k T' cs' e').2
      unfold storeKey at hs
      split at hs
      · rename_i T a x hop
        split at hs
        · rename_i k' off hx
          cases hs
          exact hloc a k off (by rw [hop]; simp [opds]) hx h2
        · cases hs
      · cases hs
  have henv : ∀ t, o.dst ≠ some t → (S.app δ).env t = S.env t := fun t ht => app_env_ne fun x e => ht (hg.e t x e)
  refine ⟨fun j hj => ?_, fun j oj hj hoj m hm => ?_, fun j hj hlj => ?_, fun j hj hlj t x e => ?_, fun j hj hlj k T cs e => ?_, fun t ht => ?_, fun k hk => ?_, ⟨fun o' ho' j hj => ?_, hi, h.ord⟩, ?_⟩
  · rcases hj with rfl | hj
    · exact List.mem_cons_self
    · exact List.mem_cons_of_mem _ (h.sub j hj)
  · rcases hj with rfl | hj
    · rw [ho] at hoj; cases hoj
      exact .inr (hneed m hm)
    · exact .inr (h.down j oj hj hoj m hm)
  · cases hj with
    | head => exact absurd (.inl rfl) hlj
    | tail _ hj =>
      have hlj' : ¬ lst j := fun hl => hlj (.inr hl)
      obtain ⟨oj, hoj, hpj, hCj⟩ := h.pend j hj hlj'
      refine ⟨oj, hoj, hpj.move (fun t ht => henv t fun hd => ?_) (fun k hk => ?_), ?_⟩
      · rcases looks_spec hlo hoj ho hd ht with hx | hx
        · exact hi (h.ord.closed j hj oj hoj i hx)
        · exact hlj' (hneed j hx)
      · refine app_L_ne fun T cs e => ?_
        have hlk := hpj.lk
        rw [hk] at hlk
        rcases hg.l k T cs e with ⟨_, _, hs⟩ | hs
        · exact hlk.2 hs
        · have h2 : kindO X F S o = 2 := by
            unfold storeKey at hs
            split at hs
            · rename_i hop; simp [kindO, hop]
            · cases hs
          have := hkeep h2 j hj hlj' oj hoj hpj.lk
          rw [hk] at this
          exact this hs
      · by_cases h2 : kindO X F S o = 2
        · have := hkeep h2 j hj hlj' oj hoj hpj.lk
          cases hR : R j with
          | free => trivial
          | loc k => trivial
          | «at» ad cs => rw [hR] at this; exact this
          | ro f as r => rw [hR] at this; exact this.elim
        · exact Rd.ext hCj (hg.x h2)
  · cases hj with
    | head => exact absurd (.inl rfl) hlj
    | tail _ hj =>
      have hlj' : ¬ lst j := fun hl => hlj (.inr hl)
      obtain ⟨oj, hoj, hpj, _⟩ := h.pend j hj hlj'
      rw [henv t fun hd => hne j hj (hu j i oj o t hoj ho (hpj.e t x e) hd)]
      exact h.se j hj hlj' t x e
  · cases hj with
    | head => exact absurd (.inl rfl) hlj
    | tail _ hj =>
      have hlj' : ¬ lst j := fun hl => hlj (.inr hl)
      obtain ⟨h1, h2⟩ := h.sl j hj hlj' k T cs e
      have hno : ∀ T cs, δ.l ≠ some (k, T, cs) := fun T' cs' e' => hkey k T' cs' e' j hj hlj' T cs e
      rw [app_L_ne hno, app_L_ne hno]
      exact ⟨h1, h2⟩
  · by_cases hx : ∃ x, δ.e = some (t, x)
    · obtain ⟨x, hx⟩ := hx
      rw [app_env_eq hx, app_env_eq hx]
    · rw [app_env_ne (fun x e => hx ⟨x, e⟩), app_env_ne (fun x e => hx ⟨x, e⟩)]
      exact h.env t fun j hj hlj x e => ht j (List.mem_cons_of_mem _ hj) (fun hl => hl.elim (hne j hj) hlj) x e
  · by_cases hx : ∃ T cs, δ.l = some (k, T, cs)
    · obtain ⟨T, cs, hx⟩ := hx
      rw [app_L_eq hx, app_L_eq hx]
    · rw [app_L_ne (fun T cs e => hx ⟨T, cs, e⟩), app_L_ne (fun T cs e => hx ⟨T, cs, e⟩)]
      exact h.L k fun j hj hlj T cs e => hk j (List.mem_cons_of_mem _ hj) (fun hl => hl.elim (hne j hj) hlj) T cs e
  · rw [ho] at ho'; cases ho'; exact h.sub j (hneed j hj)
  · obtain ⟨a1, a2, a3, a4⟩ := app_rest (S := S) δ
    obtain ⟨c1, c2, c3, c4⟩ := app_rest (S := M) δ
    obtain ⟨b1, b2, b3, b4⟩ := h.be
    exact ⟨c1.trans (b1.trans a1.symm), c2.trans (b2.trans a2.symm), c3.trans (b3.trans a3.symm), c4.trans (b4.trans a4.symm)⟩
end
end Go.Sx

-- SxSim3
namespace Go.Sx
open Go.RowKit
section
variable {P : Program} {G : Gh} {X : Ctx P} {F : Fn} {S M : St} {u : World} {V : VP} {rk : List Nat} {ops : List Oper}
variable {E : List Nat} {lst : Nat → Prop} {Δ : Nat → Dl} {R : Nat → Rd}

theorem allIn_spec {E : List Nat} : ∀ {l : List Oper} {m : Nat}, allIn E m l = true → ∀ j, j < l.length → m + j ∈ E := by
  intro l
  induction l with
  | nil => intro m _ j hj; cases hj
  | cons x l ih =>
    intro m h j hj
    unfold allIn at h
    split at h
    · rename_i hb
      cases j with
      | zero => exact (memN_iff _ _).1 hb
      | succ j =>
        rw [show m + (j + 1) = m + 1 + j from by omega]
        exact ih h j (by simpa using hj)
    · cases h
theorem waits_spec {E : List Nat} {i : Nat} : ∀ {l : List Oper} {m : Nat}, waits E i m l = true → ∀ j o, getN l j = some o → m + j ∈ E ∨ m + j = i ∨ ∃ x ∈ needs o, x ∉ E := by
  intro l
  induction l with
  | nil => intro m _ j o h; simp [getN] at h
  | cons x l ih =>
    intro m h j o hj
    unfold waits at h
    split at h
    · rename_i hb
      cases j with
      | zero =>
        simp only [getN] at hj
        cases hj
        simp only [Bool.or_eq_true] at hb
        rcases hb with hb | hb | hb
        · exact .inl ((memN_iff _ _).1 hb)
        · exact .inr (.inl (Nat.eq_of_beq_eq_true hb))
        · refine .inr (.inr ?_)
          have : ¬ (∀ y ∈ needs x, y ∈ E) := fun hh => by
            rw [(subN_iff _ _).2 hh] at hb; cases hb
          exact Classical.byContradiction fun hc => this fun y hy => Classical.byContradiction fun hyE => hc ⟨y, hy, hyE⟩
      | succ j =>
        simp only [getN] at hj
        rw [show m + (j + 1) = m + 1 + j from by omega]
        exact ih h j o hj
    · cases h
theorem reachO_spec (hdown : ∀ i o, lst i → getN ops i = some o → ∀ j ∈ needs o, lst j) : ∀ (n : Nat) (l acc : List Nat), (∀ i ∈ l, lst i) → (∀ i ∈ acc, lst i) → ∀ i ∈ reachO ops n l acc, lst i := by
  intro n
  induction n with
  | zero => intro l acc _ ha i hi; exact ha i hi
  | succ n ih =>
    intro l acc hl ha i hi
    cases l with
    | nil => exact ha i hi
    | cons x l =>
      unfold reachO at hi
      split at hi
      · exact ih l acc (fun i hi => hl i (List.mem_cons_of_mem _ hi)) ha i hi
      · split at hi
        · rename_i o ho
          refine ih _ _ (fun i hi => ?_) (fun i hi => ?_) i hi
          · rcases List.mem_append.1 hi with hi | hi
            · exact hdown x o (hl x List.mem_cons_self) ho i hi
            · exact hl i (List.mem_cons_of_mem _ hi)
          · cases hi with
            | head => exact hl x List.mem_cons_self
            | tail _ hi => exact ha i hi
        · exact ih l acc (fun i hi => hl i (List.mem_cons_of_mem _ hi)) ha i hi

theorem keepK_spec {Rr : List Nat} {key : Option Nat} {K : Prop} : ∀ {E : List Nat}, keepK X F ops Rr key S u V K E → K ∧ ∀ j ∈ E, j ∉ Rr → ∀ o δ rd, getN ops j = some o → Lk X F o S δ rd → (∀ t x, δ.e = some (t, x) → S.env t = x) → KeepOk X F o S key u V rd := by
  intro E
  induction E with
  | nil => intro h; exact ⟨h, fun j hj => by cases hj⟩
  | cons i E ih =>
    intro h
    unfold keepK at h
    have tail : keepK X F ops Rr key S u V K E → (i ∉ Rr → ∀ o δ rd, getN ops i = some o → Lk X F o S δ rd → (∀ t x, δ.e = some (t, x) → S.env t = x) → KeepOk X F o S key u V rd) → K ∧ ∀ j ∈ i :: E, j ∉ Rr → ∀ o δ rd, getN ops j = some o → Lk X F o S δ rd → (∀ t x, δ.e = some (t, x) → S.env t = x) → KeepOk X F o S key u V rd := by
      intro h0 h1
      obtain ⟨h2, h3⟩ := ih h0
      refine ⟨h2, fun j hj => ?_⟩
      cases hj with
      | head => exact h1
      | tail _ hj => exact h3 j hj
    split at h
    · rename_i hb
      exact tail h fun hn => absurd ((memN_iff _ _).1 hb) hn
    · split at h
      · exact h.elim
      · rename_i o ho
        split at h
        · rename_i T x hop
          split at h
          · rename_i k off hx
            split at h
            · refine tail h fun _ o' δ rd ho' hlk hδ => ?_
              rw [ho] at ho'; cases ho'
              cases rd with
              | free => trivial
              | loc k' => intro e; cases e
              | «at» ad cs => obtain ⟨T', x', e1, e2, _⟩ := hlk; rw [hop] at e1; cases e1; rw [hx] at e2; cases e2
              | ro f as r => obtain ⟨⟨f, args, ats, e1⟩, _⟩ := hlk; rw [hop] at e1; cases e1
            · rename_i k'
              split at h
              · exact h.elim
              · rename_i hne
                refine tail h fun _ o' δ rd ho' hlk hδ => ?_
                rw [ho] at ho'; cases ho'
                cases rd with
                | free => trivial
                | loc k2 =>
                  obtain ⟨⟨T', x', off', e1, e2⟩, _⟩ := hlk
                  rw [hop] at e1; cases e1
                  rw [hx] at e2; cases e2
                  intro e; cases e
                  rw [Nat.beq_refl] at hne; cases hne
                | «at» ad cs => obtain ⟨T', x', e1, e2, _⟩ := hlk; rw [hop] at e1; cases e1; rw [hx] at e2; cases e2
                | ro f as r => obtain ⟨⟨f, args, ats, e1⟩, _⟩ := hlk; rw [hop] at e1; cases e1
          · rename_i ad hx
            have gen : ∀ {o' δ rd}, getN ops i = some o' → Lk X F o' S δ rd → (∀ l, rd ≠ .at ad l) → KeepOk X F o' S key u V rd := by
              intro o' δ rd ho' hlk hno
              rw [ho] at ho'; cases ho'
              cases rd with
              | free => trivial
              | loc k2 => obtain ⟨⟨T', x', off', e1, e2⟩, _⟩ := hlk; rw [hop] at e1; cases e1; rw [hx] at e2; cases e2
              | «at» ad' cs => obtain ⟨T', x', e1, e2, _⟩ := hlk; rw [hop] at e1; cases e1; rw [hx] at e2; cases e2; exact absurd rfl (hno cs)
              | ro f as r => obtain ⟨⟨f, args, ats, e1⟩, _⟩ := hlk; rw [hop] at e1; cases e1
            split at h
            · rename_i t hd
              split at h
              · rename_i vs hv
                refine tail h fun _ o' δ rd ho' hlk hδ => gen ho' hlk fun cs e => ?_
                rw [ho] at ho'; cases ho'
                subst e
                obtain ⟨T', x', e1, e2, e3⟩ := hlk
                obtain ⟨val, e4, e5, e6⟩ := e3 t hd
                rw [hδ t _ e4] at hv
                cases hv
                exact e6 _ rfl
              · rename_i val hnt hv
                refine tail h.2 fun _ o' δ rd ho' hlk hδ => ?_
                by_cases hrd : ∃ cs, rd = .at ad cs
                · obtain ⟨cs, rfl⟩ := hrd
                  rw [ho] at ho'; cases ho'
                  obtain ⟨T', x', e1, e2, e3⟩ := hlk
                  obtain ⟨val', e4, e5, e6⟩ := e3 t hd
                  rw [hδ t _ e4] at hv
                  cases hv
                  rw [e5]
                  exact h.1
                · exact gen ho' hlk fun cs e => hrd ⟨cs, e⟩
              · exact h.elim
            · exact h.elim
          · rename_i hx1 hx2
            refine tail h fun _ o' δ rd ho' hlk hδ => ?_
            rw [ho] at ho'; cases ho'
            cases rd with
            | free => trivial
            | loc k2 => obtain ⟨⟨T', x', off', e1, e2⟩, _⟩ := hlk; rw [hop] at e1; cases e1; exact absurd e2 (hx1 _ _)
            | «at» ad' cs => obtain ⟨T', x', e1, e2, _⟩ := hlk; rw [hop] at e1; cases e1; exact absurd e2 (hx2 _)
            | ro f as r => obtain ⟨⟨f, args, ats, e1⟩, _⟩ := hlk; rw [hop] at e1; cases e1
        · rename_i f args ats hop
          split at h
          · exact h.elim
          · rename_i hk
            refine tail h fun _ o' δ rd ho' hlk hδ => ?_
            rw [ho] at ho'; cases ho'
            cases rd with
            | free => trivial
            | loc k2 => obtain ⟨⟨T', x', off', e1, e2⟩, _⟩ := hlk; rw [hop] at e1; cases e1
            | «at» ad' cs => obtain ⟨T', x', e1, e2, _⟩ := hlk; rw [hop] at e1; cases e1
            | ro f as r => exact absurd hlk.2 (by intro e; exact hk e)
        · rename_i hop1 hop2
          refine tail h fun _ o' δ rd ho' hlk hδ => ?_
          rw [ho] at ho'; cases ho'
          cases rd with
          | free => trivial
          | loc k2 => obtain ⟨⟨T', x', off', e1, e2⟩, _⟩ := hlk; exact absurd e1 (hop1 _ _)
          | «at» ad' cs => obtain ⟨T', x', e1, e2, _⟩ := hlk; exact absurd e1 (hop1 _ _)
          | ro f as r => obtain ⟨⟨f, args, ats, e1⟩, _⟩ := hlk; exact absurd e1 (hop2 _ _ _)

/-- the telling goes on as far as what is calm -/
theorem adv {K : KT} (hu : Uniq ops) : ∀ (l E : List Nat) (S : St) (Δ : Nat → Dl) (R : Nat → Rd), rxo X F ops rk E l S u V K → Sim X F ops rk E lst S M u V Δ R →
    ∃ l' E' S' Δ' R', rxo X F ops rk E' l' S' u V K ∧ Sim X F ops rk E' lst S' M u V Δ' R' ∧ (l' = [] ∨ ∃ i l'' o, l' = i :: l'' ∧ getN ops i = some o ∧ kindL ops i o (kindO X F S' o) ≠ 0) := by
  intro l
  induction l with
  | nil => intro E S Δ R h hs; exact ⟨[], E, S, Δ, R, h, hs, .inl rfl⟩
  | cons i l ih =>
    intro E S Δ R h hs
    have h0 := h
    unfold rxo at h
    split at h
    · exact h.elim
    · rename_i o ho
      split at h
      · exact h.elim
      · rename_i hb
        simp only [Bool.and_eq_true] at hb
        by_cases hk : kindL ops i o (kindO X F S o) = 0
        · rw [hk] at h
          simp only at h
          rw [gx_iff] at h
          have hk0 : kindO X F S o = 0 := by
            cases hh : kindO X F S o with
            | zero => rfl
            | succ n => rw [hh] at hk; cases hk
          have hnl : ∀ t, o.dst = some t → lateO ops i t ops = false := by
            intro t ht
            rw [hk0] at hk
            simp only [kindL, ht] at hk
            cases hl : lateO ops i t ops with
            | false => rfl
            | true => rw [hl] at hk; cases hk
          obtain ⟨δ, rd, h1, h2, h3, h4⟩ := gxd_calm hk0 hnl h
          have hi : i ∉ E := (memN_false _ _).1 (by simpa using hb.2)
          exact ih _ _ _ _ h1 (hs.stepB hu hi ho ((subN_iff _ _).1 hb.1) h3 h2 h4)
        · exact ⟨i :: l, E, S, Δ, R, h0, hs, .inr ⟨i, l, o, rfl, ho, hk⟩⟩

theorem ready_one (h : OrdE ops E) (hp : ∃ i ∈ E, ¬ lst i) : ∃ i ∈ E, ¬ lst i ∧ ∀ o, getN ops i = some o → ∀ j ∈ needs o, lst j := by
  induction E with
  | nil => obtain ⟨i, hi, _⟩ := hp; cases hi
  | cons k E ih =>
    by_cases hx : ∃ i ∈ E, ¬ lst i
    · obtain ⟨i, hi, h1, h2⟩ := ih h.2.2 hx
      exact ⟨i, List.mem_cons_of_mem _ hi, h1, h2⟩
    · obtain ⟨i, hi, hl⟩ := hp
      have hall : ∀ j ∈ E, lst j := fun j hj => Classical.byContradiction fun hc => hx ⟨j, hj, hc⟩
      cases hi with
      | head => exact ⟨k, List.mem_cons_self, hl, fun o ho j hj => hall j (h.1 o ho j hj)⟩
      | tail _ hi => exact absurd ⟨i, hi, hl⟩ hx

theorem needsL_iff {l : List Edge} {j : Nat} : j ∈ needsL l ↔ ∃ e ∈ l, Region.binds .any e = true ∧ e.on = j := by
  induction l with
  | nil => simp [needsL]
  | cons e l ih =>
    unfold needsL
    cases hb : Region.binds .any e with
    | true =>
      simp only [List.mem_cons, ih]
      constructor
      · rintro (rfl | ⟨e', h1, h2⟩)
        · exact ⟨e, .inl rfl, hb, rfl⟩
        · exact ⟨e', .inr h1, h2⟩
      · rintro ⟨e', rfl | h1, h2, h3⟩
        · exact .inl h3.symm
        · exact .inr ⟨e', h1, h2, h3⟩
    | false =>
      simp only [List.mem_cons, ih]
      constructor
      · rintro ⟨e', h1, h2⟩; exact ⟨e', .inr h1, h2⟩
      · rintro ⟨e', rfl | h1, h2, h3⟩
        · rw [hb] at h2; cases h2
        · exact ⟨e', h1, h2, h3⟩
end
end Go.Sx

-- SxSim4
namespace Go.Sx
open Go.RowKit
section
variable {P : Program} {G : Gh} {X : Ctx P} {F : Fn} {st0 : St} {ds rk : List Nat}

def Lst (listed : Array Bool) (i : Nat) : Prop := listed.getD i false = true
def cnt (listed : Array Bool) : Nat := listed.toList.countP (fun b => !b)

theorem Lst.set {listed : Array Bool} {i j : Nat} (hi : i < listed.size) : Lst (listed.setIfInBounds i true) j ↔ j = i ∨ Lst listed j := by
  unfold Lst
  by_cases h : j = i
  · subst h; simp [hi]
  · rw [getD_set_ne false (Ne.symm h)]; simp [h]
theorem cnt_set {listed : Array Bool} {i : Nat} (hi : i < listed.size) (hf : listed.getD i true = false) : cnt (listed.setIfInBounds i true) + 1 = cnt listed := by
  unfold cnt
  have hf' : listed.toList[i]'(by simpa using hi) = false := by
    simpa [hi] using hf
  rw [Array.toList_setIfInBounds, List.countP_set (by simpa using hi), hf']
  have : 0 < listed.toList.countP (fun b => !b) := by
    rw [List.countP_pos_iff]
    exact ⟨_, List.getElem_mem (by simpa using hi), by rw [hf']; rfl⟩
  simp only [Bool.not_false, Bool.not_true, if_true, Bool.false_eq_true, if_false]
  omega

theorem draw_sound {ops : Array Oper} {K : KT} {Q : Exit → Act → World → Prop} (hu : Uniq ops.toList) (hlo : looksOk ops.toList 0 ops.toList = true) (hds : ∀ o ∈ ops.toList, ∀ t, o.dst = some t → t ∈ ds)
    (hQ : ∀ a w, Nxt G X F ds rk st0 K a w → Q .normal a w) : ∀ (fuel : Nat) (listed : Array Bool) (l E : List Nat) (S M : St) (u : World) (V : VP) (ρ : Nat → Nat) (Δ : Nat → Dl) (R : Nat → Rd) (a : Act) (w : World),
      listed.size = ops.size → cnt listed ≤ fuel → rxo X F ops.toList rk E l S u V K → Sim X F ops.toList rk E (Lst listed) S M u V Δ R → Den0 G X F u V ρ M a w → Ag ds rk st0 M →
      wpAny P .any ops Q fuel listed a w := by
  intro fuel
  -- the end
  have fin : ∀ (listed : Array Bool) (l E : List Nat) (S M : St) (u : World) (V : VP) (ρ : Nat → Nat) (Δ : Nat → Dl) (R : Nat → Rd) (a : Act) (w : World),
      listed.size = ops.size → rxo X F ops.toList rk E l S u V K → Sim X F ops.toList rk E (Lst listed) S M u V Δ R → Den0 G X F u V ρ M a w → Ag ds rk st0 M →
      Region.ready .any ops listed = [] → Q .normal a w := by
    intro listed l E S M u V ρ Δ R a w hsz hx hs hD hA hr
    obtain ⟨l, E, S, Δ, R, hx, hs, hcl⟩ := adv hu l E S Δ R hx hs
    have hready : ∀ i o, getN ops.toList i = some o → ¬ Lst listed i → (∀ j ∈ needs o, Lst listed j) → False := by
      intro i o ho hl hn
      rw [getN_eq, Array.getElem?_toList] at ho
      have hi : i < listed.size := by rw [hsz]; exact (Array.getElem?_eq_some_iff.1 ho).1
      have : i ∈ Region.ready .any ops listed := by
        rw [mem_ready]
        refine ⟨?_, o, ho, fun e he hb => hn _ (needsL_iff.2 ⟨e, Array.mem_toList_iff.2 he, hb, rfl⟩)⟩
        unfold Lst at hl
        rw [Array.getD_eq_getD_getElem?] at hl ⊢
        rw [Array.getElem?_eq_getElem hi] at hl ⊢
        simpa using hl
      rw [hr] at this; cases this
    have hall : ∀ i ∈ E, Lst listed i := by
      intro i hi
      refine Classical.byContradiction fun hc => ?_
      obtain ⟨k, hk, hkl, hkn⟩ := ready_one hs.ord ⟨i, hi, hc⟩
      obtain ⟨o, ho, _⟩ := hs.pend k hk hkl
      exact hready k o ho hkl (hkn o ho)
    rcases hcl with rfl | ⟨i, l, o, rfl, ho, hk⟩
    · unfold rxo at hx
      split at hx
      · have hMS : M = S := by
          have h1 : M.env = S.env := funext fun t => hs.env t fun i hi hl => absurd (hall i hi) hl
          have h2 : M.L = S.L := funext fun t => hs.L t fun i hi hl => absurd (hall i hi) hl
          obtain ⟨b1, b2, b3, b4⟩ := hs.be
          cases M; cases S; simp_all
        subst hMS
        exact hQ a w ⟨M, u, V, ρ, hD, hA, hx⟩
      · exact hx.elim
    · unfold rxo at hx
      rw [ho] at hx
      simp only at hx
      split at hx
      · exact hx.elim
      · rename_i hb
        simp only [Bool.and_eq_true] at hb
        have hi : i ∉ E := (memN_false _ _).1 (by simpa using hb.2)
        exact absurd (hready i o ho (fun hl => hi (hs.sub i hl)) (fun j hj => hall j ((subN_iff _ _).1 hb.1 j hj))) (fun h => h)
  induction fuel with
  | zero =>
    intro listed l E S M u V ρ Δ R a w hsz hc hx hs hD hA
    have hr : Region.ready .any ops listed = [] := by
      refine List.eq_nil_iff_forall_not_mem.2 fun i hi => ?_
      rw [mem_ready] at hi
      obtain ⟨h0, o, ho, _⟩ := hi
      have hlt : i < listed.size := by rw [hsz]; exact (Array.getElem?_eq_some_iff.1 ho).1
      have := cnt_set hlt (by
        rw [Array.getD_eq_getD_getElem?] at h0 ⊢
        exact h0)
      omega
    exact ⟨hr, fin listed l E S M u V ρ Δ R a w hsz hx hs hD hA hr⟩
  | succ fuel ih =>
    intro listed l E S M u V ρ Δ R a w hsz hc hx hs hD hA
    refine ⟨fin listed l E S M u V ρ Δ R a w hsz hx hs hD hA, fun i hi => ?_⟩
    rw [mem_ready] at hi
    obtain ⟨h0, o, ho, haf⟩ := hi
    have hlt : i < listed.size := by rw [hsz]; exact (Array.getElem?_eq_some_iff.1 ho).1
    have hoN : getN ops.toList i = some o := by rw [getN_eq, Array.getElem?_toList]; exact ho
    have hnl : ¬ Lst listed i := by
      unfold Lst
      rw [Array.getD_eq_getD_getElem?, Array.getElem?_eq_getElem hlt] at *
      simpa using h0
    have hneed : ∀ j ∈ needs o, Lst listed j := by
      intro j hj
      obtain ⟨e, he, hb, rfl⟩ := needsL_iff.1 hj
      exact haf e (Array.mem_toList_iff.1 he) hb
    have hom : o ∈ ops.toList := by rw [getN_eq] at hoN; exact List.mem_of_getElem? hoN
    have hcnt : cnt (listed.setIfInBounds i true) ≤ fuel := by
      have := cnt_set hlt h0
      omega
    have hsz' : (listed.setIfInBounds i true).size = ops.size := by simpa using hsz
    have hlst : (Lst (listed.setIfInBounds i true)) = fun j => j = i ∨ Lst listed j := funext fun j => propext (Lst.set hlt)
    obtain ⟨l, E, S, Δ, R, hx, hs, hcl⟩ := adv hu l E S Δ R hx hs
    have finish : ∀ K', gx X F ops.toList rk o M u V K' → (∀ a w, Nxt G X F ds rk st0 K' a w → wpAny P .any ops Q fuel (listed.setIfInBounds i true) a w) → wpOp P ops Q i (wpAny P .any ops Q fuel (listed.setIfInBounds i true)) a w := by
      intro K' hg hn
      have h2 := gx_sound (ops := ops) (Q := Q) hD hA (hds o hom) hg
      unfold wpOp
      rw [ho]
      simp only
      split
      · rename_i hw; exact .inl (Oper.wp_mono hn (h2.1 hw))
      · rename_i hw; exact hn _ _ (h2.2 (by simpa using hw))
    by_cases hiE : i ∈ E
    · obtain ⟨h1, h2⟩ := hs.stepA hu hiE hnl hoN hneed hD.ok.stale
      have hg : gx X F ops.toList rk o M u V fun M' u' V' => M' = M.app (Δ i) ∧ u' = u ∧ V' = V := gx_iff.2 (h1 (fun δ u' V' => M.app δ = M.app (Δ i) ∧ u' = u ∧ V' = V) ⟨rfl, rfl, rfl⟩)
      refine finish _ hg ?_
      rintro a' w' ⟨M', u', V', ρ', hD', hA', rfl, rfl, rfl⟩
      exact ih _ l E S _ _ _ ρ' Δ R a' w' hsz' hcnt hx (by rw [hlst]; exact h2) hD' hA'
    · have hxw : ∃ l'', l = i :: l'' ∧ kindL ops.toList i o (kindO X F S o) ≠ 0 := by
        rcases hcl with rfl | ⟨k, l'', ok, rfl, hok, hk⟩
        · unfold rxo at hx
          split at hx
          · rename_i hb
            have := allIn_spec hb i (by rw [Array.length_toList, ← hsz]; exact hlt)
            rw [Nat.zero_add] at this
            exact absurd this hiE
          · exact hx.elim
        · have hxx := hx
          unfold rxo at hx
          rw [hok] at hx
          simp only at hx
          split at hx
          · exact hx.elim
          · have hwt : waits E k 0 ops.toList = true := by
              split at hx
              · rename_i h0; exact absurd h0 hk
              · split at hx
                · rename_i hw; exact hw
                · exact hx.elim
              · split at hx
                · rename_i hw; exact hw
                · exact hx.elim
            have := waits_spec hwt i o hoN
            rw [Nat.zero_add] at this
            rcases this with h1 | h1 | ⟨x, hx1, hx2⟩
            · exact absurd h1 hiE
            · subst h1
              rw [hoN] at hok; cases hok
              exact ⟨l'', rfl, hk⟩
            · exact absurd (hs.sub x (hneed x hx1)) hx2
      obtain ⟨l'', rfl, hk⟩ := hxw
      obtain ⟨h1, h2⟩ := hs.stepC hu hlo hiE hoN hneed hD.ok.stale
      -- what the telling says of this op
      have main : ∃ K2 : KD, gxd X F ops.toList rk o S u V K2 ∧ ∀ δ u' V', K2 δ u' V' → (rxo X F ops.toList rk (i :: E) l'' (S.app δ) u' V' K) ∧
          (kindO X F S o = 2 → ∀ j ∈ E, ¬ Lst listed j → ∀ oj, getN ops.toList j = some oj → Lk X F oj S (Δ j) (R j) → KeepOk X F oj S (storeKey S o) u' V' (R j)) := by
        unfold rxo at hx
        rw [hoN] at hx
        simp only at hx
        split at hx
        · exact hx.elim
        · split at hx
          · rename_i h0; exact absurd h0 hk
          · rename_i h0
            split at hx
            · refine ⟨_, gx_iff.1 hx, fun δ u' V' hK => ⟨hK, fun h2 => ?_⟩⟩
              rw [h2] at h0; cases h0
            · exact hx.elim
          · split at hx
            · refine ⟨_, gx_iff.1 hx, fun δ u' V' hK => ?_⟩
              obtain ⟨h3, h4⟩ := keepK_spec hK
              refine ⟨h3, fun _ j hj hlj oj hoj hlk => ?_⟩
              refine h4 j hj (fun hr => ?_) oj (Δ j) (R j) hoj hlk (fun t x e => hs.se j hj hlj t x e)
              exact hlj (reachO_spec hs.down _ _ _ hneed (fun i hi => by cases hi) j hr)
            · exact hx.elim
      obtain ⟨K2, hg, hK2⟩ := main
      have hg3 : gx X F ops.toList rk o M u V fun M' u' V' => ∃ δ, M' = M.app δ ∧ K2 δ u' V' ∧ Good X F o S u V δ u' V' := by
        rw [gx_iff, h1]
        exact gxd_good (fun δ u' V' h3 h4 => ⟨δ, rfl, h3, h4⟩) hg
      refine finish _ hg3 ?_
      rintro a' w' ⟨M', u', V', ρ', hD', hA', δ, rfl, hk2, hgood⟩
      obtain ⟨h3, h4⟩ := hK2 δ u' V' hk2
      exact ih _ l'' (i :: E) _ _ _ _ ρ' Δ R a' w' hsz' hcnt h3 (by rw [hlst]; exact h2 δ u' V' hgood h4) hD' hA'
end
end Go.Sx

-- SxHead
namespace Go.Sx
open Go.RowKit
section
variable {P : Program} {G : Gh} {X : Ctx P} {F : Fn} {u : World} {V : VP} {ρ : Nat → Nat} {st st' : St} {a : Act} {w : World}

theorem setI_e {x : SV} {t ty : Nat} : (setI X st x (.e t ty)).env = upd st.env t x ∧ (setI X st x (.e t ty)).L = st.L := ⟨rfl, rfl⟩
theorem setI_l {x : SV} {k ty : Nat} : (setI X st x (.l k ty)).env = st.env ∧ ∃ y, (setI X st x (.l k ty)).L = upd st.L k y := by
  unfold setI
  simp only
  split
  · exact ⟨rfl, _, rfl⟩
  · exact ⟨rfl, _, rfl⟩

/-- the place of one item is as it was -/
theorem setI_same {i : It} {e : Enc} {x : e.α} (h : e.dec (getI X st' i) = some x) :
    (∀ t ty, i = .e t ty → e.enc x = st'.env t) ∧ (∀ k ty, i = .l k ty → st'.L k ≠ none ∧ (setI X st (e.enc x) i).L = upd st.L k (st'.L k)) := by
  have hl := e.law _ _ h
  have hg := e.good x
  refine ⟨fun t ty hi => by subst hi; exact hl, fun k ty hi => ?_⟩
  subst hi
  rw [hl] at hg ⊢
  unfold getI at hg ⊢
  simp only at hg ⊢
  split at hg
  · rename_i T cs hk
    simp only [hk]
    split at hg
    · rename_i t hT ht
      have hT' := Nat.eq_of_beq_eq_true hT
      subst hT'
      refine ⟨by simp, ?_⟩
      unfold setI
      cases hagg : t.kind.agg with
      | true => simp [hT, ht, valL, celL, hagg, St.setL, Value.cells]
      | false =>
        rw [hagg] at hg
        match cs, hg with
        | [x], hg => simp [hT, ht, valL, celL, hagg, St.setL]
    · cases hg
  · cases hg

theorem setT_spec : ∀ (items : List It) (s : TupT X items), decT X st' items = some s →
    (∀ t, (t ∈ itE items ∧ (setT X st items s).env t = st'.env t ∧ goodS (st'.env t) = true) ∨ (t ∉ itE items ∧ (setT X st items s).env t = st.env t)) ∧
    (∀ k, (k ∈ itL items ∧ (setT X st items s).L k = st'.L k ∧ st'.L k ≠ none) ∨ (k ∉ itL items ∧ (setT X st items s).L k = st.L k)) := by
  -- one item upon another state
  have one : ∀ (i : It) (l : List It) (e : Enc) (x : e.α) (sx : St), e.dec (getI X st' i) = some x →
      (∀ t, (t ∈ itE l ∧ sx.env t = st'.env t ∧ goodS (st'.env t) = true) ∨ (t ∉ itE l ∧ sx.env t = st.env t)) →
      (∀ k, (k ∈ itL l ∧ sx.L k = st'.L k ∧ st'.L k ≠ none) ∨ (k ∉ itL l ∧ sx.L k = st.L k)) →
      (∀ t, (t ∈ itE (i :: l) ∧ (setI X sx (e.enc x) i).env t = st'.env t ∧ goodS (st'.env t) = true) ∨ (t ∉ itE (i :: l) ∧ (setI X sx (e.enc x) i).env t = st.env t)) ∧
      (∀ k, (k ∈ itL (i :: l) ∧ (setI X sx (e.enc x) i).L k = st'.L k ∧ st'.L k ≠ none) ∨ (k ∉ itL (i :: l) ∧ (setI X sx (e.enc x) i).L k = st.L k)) := by
    intro i l e x sx h he hL
    obtain ⟨h1, h2⟩ := setI_same (st := sx) h
    cases i with
    | e t0 ty =>
      have h3 := h1 t0 ty rfl
      refine ⟨fun t => ?_, fun k => ?_⟩
      · rw [setI_e.1]
        by_cases ht : t = t0
        · subst ht
          rw [upd_same]
          exact .inl ⟨List.mem_cons_self, h3, by rw [← h3]; exact e.good x⟩
        · rw [upd_other _ _ ht]
          rcases he t with ⟨a1, a2⟩ | ⟨a1, a2⟩
          · exact .inl ⟨List.mem_cons_of_mem _ a1, a2⟩
          · exact .inr ⟨fun hm => (List.mem_cons.1 hm).elim ht a1, a2⟩
      · rw [setI_e.2]; exact hL k
    | l k0 ty =>
      obtain ⟨h3, h4⟩ := h2 k0 ty rfl
      refine ⟨fun t => ?_, fun k => ?_⟩
      · rw [setI_l.1]; exact he t
      · rw [h4]
        by_cases hk : k = k0
        · subst hk
          rw [upd_same]
          exact .inl ⟨List.mem_cons_self, rfl, h3⟩
        · rw [upd_other _ _ hk]
          rcases hL k with ⟨a1, a2⟩ | ⟨a1, a2⟩
          · exact .inl ⟨List.mem_cons_of_mem _ a1, a2⟩
          · exact .inr ⟨fun hm => (List.mem_cons.1 hm).elim hk a1, a2⟩
  intro items
  induction items with
  | nil => intro s _; exact ⟨fun t => .inr ⟨fun h => (by cases h), rfl⟩, fun t => .inr ⟨fun h => (by cases h), rfl⟩⟩
  | cons i l ih =>
    intro s h
    cases l with
    | nil => exact one i [] _ s st h (fun t => .inr ⟨fun h => (by cases h), rfl⟩) (fun t => .inr ⟨fun h => (by cases h), rfl⟩)
    | cons j is =>
      unfold decT at h
      split at h
      · rename_i x y hx hy
        cases h
        obtain ⟨h1, h2⟩ := ih y hy
        exact one i (j :: is) _ x _ hx h1 h2
      · cases h

theorem killE_spec (l : List Nat) : ∀ t, ((t ∈ l ∧ (killE st l).env t = .s .any) ∨ (t ∉ l ∧ (killE st l).env t = st.env t)) := by
  induction l with
  | nil => intro t; exact .inr ⟨fun h => (by cases h), rfl⟩
  | cons x l ih =>
    intro t
    show (t ∈ x :: l ∧ upd (killE st l).env x (.s .any) t = .s .any) ∨ (t ∉ x :: l ∧ upd (killE st l).env x (.s .any) t = st.env t)
    by_cases ht : t = x
    · subst ht; rw [upd_same]; exact .inl ⟨List.mem_cons_self, rfl⟩
    · rw [upd_other _ _ ht]
      rcases ih t with ⟨a1, a2⟩ | ⟨a1, a2⟩
      · exact .inl ⟨List.mem_cons_of_mem _ a1, a2⟩
      · exact .inr ⟨fun hm => (List.mem_cons.1 hm).elim ht a1, a2⟩
theorem killE_L (l : List Nat) : (killE st l).L = st.L := by
  induction l with
  | nil => rfl
  | cons x l ih => exact ih
theorem killL_spec (l : List Nat) : ∀ t, ((t ∈ l ∧ (killL st l).L t = none) ∨ (t ∉ l ∧ (killL st l).L t = st.L t)) := by
  induction l with
  | nil => intro t; exact .inr ⟨fun h => (by cases h), rfl⟩
  | cons x l ih =>
    intro t
    show (t ∈ x :: l ∧ upd (killL st l).L x none t = none) ∨ (t ∉ x :: l ∧ upd (killL st l).L x none t = st.L t)
    by_cases ht : t = x
    · subst ht; rw [upd_same]; exact .inl ⟨List.mem_cons_self, rfl⟩
    · rw [upd_other _ _ ht]
      rcases ih t with ⟨a1, a2⟩ | ⟨a1, a2⟩
      · exact .inl ⟨List.mem_cons_of_mem _ a1, a2⟩
      · exact .inr ⟨fun hm => (List.mem_cons.1 hm).elim ht a1, a2⟩
theorem killL_env (l : List Nat) : (killL st l).env = st.env := by
  induction l with
  | nil => rfl
  | cons x l ih => exact ih
theorem allNone_spec {l : List Nat} (h : allNone st l = true) : ∀ k ∈ l, st.L k = none := by
  induction l with
  | nil => intro k hk; cases hk
  | cons x l ih =>
    unfold allNone at h
    split at h
    · rename_i hb
      intro k hk
      cases hk with
      | head => exact isNoneL_iff.1 hb
      | tail _ hk => exact ih h k hk
    · cases h

/-- the head's state against the state that comes to it -/
theorem head_spec {p : Pat} {s : TupT X p.items} (hd : decT X st' p.items = some s) (he : ∀ t, t ∉ itE p.items → t ∉ p.kill → st'.env t = st.env t) (hL : ∀ k, k ∉ itL p.items → k ∉ p.killL → st'.L k = st.L k) :
    (∀ t, (st.head X p s).env t = st'.env t ∧ (t ∈ itE p.items → goodS (st'.env t) = true) ∨ (st.head X p s).env t = .s .any) ∧
    (∀ k, ((st.head X p s).L k = st'.L k) ∨ (k ∈ p.killL ∧ (st.head X p s).L k = none)) ∧
    (∀ t, t ∉ itE p.items → t ∉ p.kill → (st.head X p s).env t = st.env t) ∧ (∀ k, k ∉ itL p.items → k ∉ p.killL → (st.head X p s).L k = st.L k) ∧
    (∀ t, t ∈ p.kill → t ∉ itE p.items → (st.head X p s).env t = .s .any) ∧ (∀ k, k ∈ itL p.items → (st.head X p s).L k ≠ none) := by
  unfold St.head
  obtain ⟨h1, h2⟩ := setT_spec (st := killL (killE st p.kill) p.killL) p.items s hd
  have h3 := killE_spec (st := st) p.kill
  have h4 := killL_spec (st := killE st p.kill) p.killL
  rw [killL_env] at h1
  rw [killE_L] at h4
  refine ⟨fun t => ?_, fun k => ?_, fun t ht1 ht2 => ?_, fun k hk1 hk2 => ?_, fun t ht1 ht2 => ?_, fun k hk => ?_⟩
  · rcases h1 t with ⟨a1, a2, a3⟩ | ⟨a1, a2⟩
    · exact .inl ⟨a2, fun _ => a3⟩
    · rcases h3 t with ⟨b1, b2⟩ | ⟨b1, b2⟩
      · exact .inr (a2.trans b2)
      · exact .inl ⟨a2.trans (b2.trans (he t a1 b1).symm), fun h => absurd h a1⟩
  · rcases h2 k with ⟨a1, a2, a3⟩ | ⟨a1, a2⟩
    · exact .inl a2
    · rcases h4 k with ⟨b1, b2⟩ | ⟨b1, b2⟩
      · exact .inr ⟨b1, a2.trans b2⟩
      · exact .inl (a2.trans (b2.trans (hL k a1 b1).symm))
  · rcases h1 t with ⟨a1, _⟩ | ⟨_, a2⟩
    · exact absurd a1 ht1
    · rcases h3 t with ⟨b1, _⟩ | ⟨_, b2⟩
      · exact absurd b1 ht2
      · exact a2.trans b2
  · rcases h2 k with ⟨a1, _⟩ | ⟨_, a2⟩
    · exact absurd a1 hk1
    · rcases h4 k with ⟨b1, _⟩ | ⟨_, b2⟩
      · exact absurd b1 hk2
      · exact a2.trans b2
  · rcases h1 t with ⟨a1, _⟩ | ⟨_, a2⟩
    · exact absurd a1 ht2
    · rcases h3 t with ⟨_, b2⟩ | ⟨b1, _⟩
      · exact a2.trans b2
      · exact absurd ht1 b1
  · rcases h2 k with ⟨_, a2, a3⟩ | ⟨a1, _⟩
    · rw [a2]; exact a3
    · exact absurd hk a1

theorem head_den {p : Pat} {s : TupT X p.items} (hD : Den0 G X F u V ρ st' a w) (hd : decT X st' p.items = some s) (he : ∀ t, t ∉ itE p.items → t ∉ p.kill → st'.env t = st.env t) (hL : ∀ k, k ∉ itL p.items → k ∉ p.killL → st'.L k = st.L k)
    (hn : allNone st p.killL = true) (hst : ∀ t k off, st.env t = .s (.loc k off) → st.L k ≠ none) : Den0 G X F u V ρ (st.head X p s) a w := by
  obtain ⟨h1, h2, h3, h4, h5, h6⟩ := head_spec hd he hL
  have hsub : ∀ k, (st.head X p s).L k ≠ none → (st.head X p s).L k = st'.L k := by
    intro k hk
    rcases h2 k with h | ⟨_, h⟩
    · exact h
    · exact absurd h hk
  refine ⟨hD.size, hD.defers, ⟨fun t => ?_, fun t k off e => ?_⟩, fun k T cs hk => ?_, fun k k' hk hk' e => ?_, hD.rel, hD.kept.fr, hD.kept.V, fun k hk => hD.kept.loc k (by rw [← hsub k hk]; exact hk)⟩
  · rcases h1 t with ⟨h, _⟩ | h
    · rw [h]; exact hD.ok.env t
    · rw [h]; trivial
  · rcases h1 t with ⟨h, hg⟩ | h
    · rw [e] at h
      by_cases ht : t ∈ itE p.items
      · have := hg ht
        rw [← h] at this; cases this
      · have htk : t ∉ p.kill := by
          intro hk
          rw [h5 t hk ht] at e; cases e
        rw [he t ht htk] at h
        have hsk := hst t k off h.symm
        by_cases hi : k ∈ itL p.items
        · exact h6 k hi
        · have hkk : k ∉ p.killL := fun hk => hsk (allNone_spec hn k hk)
          rw [h4 k hi hkk]; exact hsk
    · rw [h] at e; cases e
  · rw [hsub k (by rw [hk]; simp)] at hk
    exact hD.loc k T cs hk
  · have h7 := hsub k hk
    have h8 := hsub k' hk'
    rw [h7] at hk
    rw [h8] at hk'
    exact hD.inj k k' hk hk' e
end
end Go.Sx

-- SxSound
namespace Go.Sx
open Go.RowKit
section
variable {P : Program} {G : Gh} {X : Ctx P} {F : Fn} {u : World} {V : VP} {ρ : Nat → Nat} {st st' : St} {a : Act} {w : World}

variable (G X F) in
structure Den (u : World) (V : VP) (ρ : Nat → Nat) (st : St) (a : Act) (w : World) : Prop where
  d : Den0 G X F u V ρ st a w
  fe : ∀ t, t ∉ st.me → st.env t = st.be t
  fl : ∀ k, k ∉ st.ml → st.L k = st.bl k

variable (G X F) in
def Post (K : KT) (a : Act) (w : World) : Prop := ∃ st u V ρ, Den G X F u V ρ st a w ∧ K st u V

theorem Den0.based (h : Den0 G X F u V ρ st a w) : Den G X F u V ρ st.based a w :=
  ⟨⟨h.size, h.defers, ⟨h.ok.env, h.ok.stale⟩, h.loc, h.inj, h.rel, h.kept.fr, h.kept.V, h.kept.loc⟩, fun _ _ => rfl, fun _ _ => rfl⟩
theorem Den.based (h : Den G X F u V ρ st a w) : Den G X F u V ρ st.based a w := h.d.based

/-- a state behind a piece is a state of the whole -/
theorem Den.back (h : Den G X F u V ρ st' a w) {p : Pat} {sb : St} (hb : st'.be = sb.env) (hbl : st'.bl = sb.L) (he : ∀ t, t ∉ itE p.items → t ∉ p.kill → sb.env t = st.env t) (hL : ∀ k, k ∉ itL p.items → k ∉ p.killL → sb.L k = st.L k)
    (hfe : ∀ t, t ∉ st.me → st.env t = st.be t) (hfl : ∀ k, k ∉ st.ml → st.L k = st.bl k) : Den G X F u V ρ (st.back st' p) a w := by
  refine ⟨⟨h.d.size, h.d.defers, ⟨h.d.ok.env, h.d.ok.stale⟩, h.d.loc, h.d.inj, h.d.rel, h.d.kept.fr, h.d.kept.V, h.d.kept.loc⟩, fun t ht => ?_, fun k hk => ?_⟩
  · have ht' : t ∉ st'.me ++ (itE p.items ++ (p.kill ++ st.me)) := ht
    simp only [List.mem_append, not_or] at ht'
    show st'.env t = st.be t
    rw [h.fe t ht'.1, hb, he t ht'.2.1 ht'.2.2.1, hfe t ht'.2.2.2]
  · have ht' : k ∉ st'.ml ++ (itL p.items ++ (p.killL ++ st.ml)) := hk
    simp only [List.mem_append, not_or] at ht'
    show st'.L k = st.bl k
    rw [h.fl k ht'.1, hbl, hL k ht'.2.1 ht'.2.2.1, hfl k ht'.2.2.2]

theorem fitsK_spec {p : Pat} {K : TupT X p.items → Prop} (h : fitsK X p st' K) : (∀ t ∈ st'.me, t ∈ itE p.items ∨ t ∈ p.kill) ∧ (∀ k ∈ st'.ml, k ∈ itL p.items ∨ k ∈ p.killL) ∧ ∃ s, decT X st' p.items = some s ∧ K s := by
  unfold fitsK at h
  split at h
  · rename_i hb
    simp only [Bool.and_eq_true] at hb
    refine ⟨fun t ht => List.mem_append.1 ((subN_iff _ _).1 hb.1 t ht), fun k hk => List.mem_append.1 ((subN_iff _ _).1 hb.2 k hk), ?_⟩
    split at h
    · rename_i s hs; exact ⟨s, hs, h⟩
    · exact h.elim
  · exact h.elim

/-- where every way out of a piece leads -/
structure Outs (G : Gh) (X : Ctx P) (F : Fn) (Kn Kr : KT) (Ke : Nat → KT) (Q : Exit → Act → World → Prop) : Prop where
  n : ∀ a w, Post G X F Kn a w → Q .normal a w
  r : ∀ a w, Post G X F Kr a w → Q .ret a w
  e : ∀ i a w, Post G X F (Ke i) a w → Q (.exit i) a w

/-- the base of a state stays while a piece runs: a piece's ways out know it -/
def Keeps (sb : St) (K : KT) : KT := fun st u V => st.be = sb.be ∧ st.bl = sb.bl ∧ K st u V

theorem den_region {ops : List Oper} {rk : List Nat} {K : KT} (hfe : ∀ t, t ∉ st.me → st.env t = st.be t) (hfl : ∀ k, k ∉ st.ml → st.L k = st.bl k)
    (h : Nxt G X F (dstsOf ops) rk st (fun st u V => K (st.after ops rk) u V) a w) : Post G X F (Keeps st K) a w := by
  obtain ⟨s, u, V, ρ, hD, hA, hK⟩ := h
  refine ⟨s.after ops rk, u, V, ρ, ⟨⟨hD.size, hD.defers, ⟨hD.ok.env, hD.ok.stale⟩, hD.loc, hD.inj, hD.rel, hD.kept.fr, hD.kept.V, hD.kept.loc⟩, fun t ht => ?_, fun k hk => ?_⟩, hA.be, hA.bl, hK⟩
  · have ht' : t ∉ dstsOf ops ++ s.me := ht
    simp only [List.mem_append, not_or] at ht'
    show s.env t = s.be t
    rw [hA.env t ht'.1, hA.be, hfe t (by rw [← hA.me]; exact ht'.2)]
  · have ht' : k ∉ rk ++ s.ml := hk
    simp only [List.mem_append, not_or] at ht'
    show s.L k = s.bl k
    rw [hA.L k ht'.1, hA.bl, hfl k (by rw [← hA.ml]; exact ht'.2)]

theorem dstsOf_mem {l : List Oper} {o : Oper} {t : Nat} (ho : o ∈ l) (ht : o.dst = some t) : t ∈ dstsOf l := by
  induction l with
  | nil => cases ho
  | cons x l ih =>
    unfold dstsOf
    cases ho with
    | head => rw [ht]; exact List.mem_cons_self
    | tail _ ho =>
      split
      · exact List.mem_cons_of_mem _ (ih ho)
      · exact ih ho

theorem Den0.drew (hD : Den0 G X F u V ρ st a w) : Den0 G X F u V ρ st a { w with drawn := w.drawn + 1 } :=
  ⟨hD.size, hD.defers, hD.ok, hD.loc, hD.inj, ⟨hD.rel.os, hD.rel.tape, hD.rel.output, hD.rel.size, hD.rel.blk⟩, ⟨⟨hD.kept.fr.os, hD.kept.fr.tape, hD.kept.fr.output, hD.kept.fr.size, hD.kept.fr.blk⟩, hD.kept.V, hD.kept.loc⟩⟩

variable (G X F) in
/-- a piece of code keeps to what is told of it -/
def Sound (c : Code) : Prop := ∀ (h : H) (st : St) (u : World) (V : VP) (ρ : Nat → Nat) (Kn Kr : KT) (Ke : Nat → KT) (Q : Exit → Act → World → Prop) (a : Act) (w : World),
  sx X F c h st u V Kn Kr Ke → Den G X F u V ρ st a w → Outs G X F (Keeps st Kn) (Keeps st Kr) (fun i => Keeps st (Ke i)) Q → c.wp P Q a w

/-- a meeting of ways ahead -/
theorem withJ_sound {c : Code} {j : Option Pat} {run : St → KT → KT → (Nat → KT) → Prop} {Kn Kr : KT} {Ke : Nat → KT} {Q : Exit → Act → World → Prop} (hw : withJ X j st Kn Kr Ke run) (hD : Den G X F u V ρ st a w) (hO : Outs G X F (Keeps st Kn) (Keeps st Kr) (fun i => Keeps st (Ke i)) Q)
    (hrun : ∀ (st1 : St) (Kn Kr : KT) (Ke : Nat → KT), run st1 Kn Kr Ke → Den G X F u V ρ st1 a w → Outs G X F (Keeps st1 Kn) (Keeps st1 Kr) (fun i => Keeps st1 (Ke i)) Q → c.wp P Q a w) : c.wp P Q a w := by
  cases j with
  | none => exact hrun st Kn Kr Ke hw hD hO
  | some p =>
    unfold withJ at hw
    simp only at hw
    split at hw
    · rename_i hn
      refine hrun _ _ _ _ (hw _ fun _ _ _ h => h) hD.based ⟨?_, ?_, ?_⟩
      · rintro a' w' ⟨st', u', V', ρ', hD', hbe, hbl, hK⟩
        obtain ⟨h1, h2, s, hs, hK⟩ := fitsK_spec hK
        have he : ∀ t, t ∉ itE p.items → t ∉ p.kill → st'.env t = st.env t := fun t a1 a2 => by
          rw [hD'.fe t (fun hm => (h1 t hm).elim a1 a2), hbe]; rfl
        have hL : ∀ k, k ∉ itL p.items → k ∉ p.killL → st'.L k = st.L k := fun k a1 a2 => by
          rw [hD'.fl k (fun hm => (h2 k hm).elim a1 a2), hbl]; rfl
        have hh := head_den hD'.d hs he hL hn hD.d.ok.stale
        obtain ⟨_, _, h3, h4, _, _⟩ := head_spec hs he hL
        exact hO.n a' w' ⟨_, u', V', ρ', hh.based.back (st := st) (p := p) (sb := st.head X p s) rfl rfl h3 h4 hD.fe hD.fl, rfl, rfl, hK⟩
      · rintro a' w' ⟨st', u', V', ρ', hD', hbe, hbl, hK⟩
        exact hO.r a' w' ⟨_, u', V', ρ', hD'.back hbe hbl (fun _ _ _ => rfl) (fun _ _ _ => rfl) hD.fe hD.fl, rfl, rfl, hK⟩
      · rintro i a' w' ⟨st', u', V', ρ', hD', hbe, hbl, hK⟩
        exact hO.e i a' w' ⟨_, u', V', ρ', hD'.back hbe hbl (fun _ _ _ => rfl) (fun _ _ _ => rfl) hD.fe hD.fl, rfl, rfl, hK⟩
    · exact hw.elim

theorem Keeps.post {s1 s2 : St} {K : KT} (h1 : s2.be = s1.be) (h2 : s2.bl = s1.bl) (h : Post G X F (Keeps s2 K) a w) : Post G X F (Keeps s1 K) a w := by
  obtain ⟨st, u, V, ρ, hD, a1, a2, hK⟩ := h
  exact ⟨st, u, V, ρ, hD, a1.trans h1, a2.trans h2, hK⟩
theorem Outs.keeps {s1 s2 : St} {Kn Kr : KT} {Ke : Nat → KT} {Q : Exit → Act → World → Prop} (h1 : s2.be = s1.be) (h2 : s2.bl = s1.bl) (h : Outs G X F (Keeps s1 Kn) (Keeps s1 Kr) (fun i => Keeps s1 (Ke i)) Q) : Outs G X F (Keeps s2 Kn) (Keeps s2 Kr) (fun i => Keeps s2 (Ke i)) Q :=
  ⟨fun a w hp => h.n a w (Keeps.post h1 h2 hp), fun a w hp => h.r a w (Keeps.post h1 h2 hp), fun i a w hp => h.e i a w (Keeps.post h1 h2 hp)⟩

theorem sound_seq {x y : Code} (ihx : Sound G X F x) (ihy : Sound G X F y) : Sound G X F (.seq x y) := by
  intro h st u V ρ Kn Kr Ke Q a w hx hD hO
  unfold sx at hx
  refine withJ_sound hx hD hO fun st1 Kn Kr Ke hr hD1 hO1 => ?_
  refine wp_seq (ihx h.a st1 u V ρ _ Kr Ke _ a w hr hD1 ⟨?_, fun a w hp => hO1.r a w hp, fun i a w hp => hO1.e i a w hp⟩)
  rintro a' w' ⟨st2, u', V', ρ', hD2, h1, h2, hK⟩
  exact ihy h.b st2 u' V' ρ' Kn Kr Ke Q a' w' hK hD2 (hO1.keeps h1 h2)

theorem sound_cond {c : Operand} {x y : Code} (ihx : Sound G X F x) (ihy : Sound G X F y) : Sound G X F (.cond c x y) := by
  intro h st u V ρ Kn Kr Ke Q a w hx hD hO
  unfold sx at hx
  refine withJ_sound hx hD hO fun st1 Kn Kr Ke hr hD1 hO1 => ?_
  split at hr
  · rename_i t
    split at hr
    · rename_i b hb
      have hv : a.eval (.tmp t) = .bool b := ev_v hD1.d.ok (x := .tmp t) hb
      have hd : Den G X F u V ρ { st1 with me := t :: st1.me } a w := ⟨⟨hD1.d.size, hD1.d.defers, ⟨hD1.d.ok.env, hD1.d.ok.stale⟩, hD1.d.loc, hD1.d.inj, hD1.d.rel, hD1.d.kept.fr, hD1.d.kept.V, hD1.d.kept.loc⟩, fun t' ht => hD1.fe t' (fun hm => ht (List.mem_cons_of_mem _ hm)), hD1.fl⟩
      refine wp_cond hv ?_
      cases b <;> simp only [IfB] at hr <;> rw [set_self _ _ _ hb] at hr
      · exact ihy h.b _ u V ρ Kn Kr Ke Q a w hr hd (hO1.keeps rfl rfl)
      · exact ihx h.a _ u V ρ Kn Kr Ke Q a w hr hd (hO1.keeps rfl rfl)
    · exact hr.elim
  · rename_i b
    refine wp_cond (t := b) rfl ?_
    cases b <;> simp only [IfB] at hr
    · exact ihy h.b _ u V ρ Kn Kr Ke Q a w hr hD1 hO1
    · exact ihx h.a _ u V ρ Kn Kr Ke Q a w hr hD1 hO1
  · exact hr.elim

theorem sound_block {id : Nat} {c : Code} (ih : Sound G X F c) : Sound G X F (.block id c) := by
  intro h st u V ρ Kn Kr Ke Q a w hx hD hO
  unfold sx at hx
  refine withJ_sound hx hD hO fun st1 Kn Kr Ke hr hD1 hO1 => ?_
  refine wp_block (ih h.a st1 u V ρ Kn Kr _ _ a w hr hD1 ⟨fun a w hp => hO1.n a w hp, fun a w hp => hO1.r a w hp, ?_⟩)
  rintro i a' w' ⟨st2, u', V', ρ', hD2, h1, h2, hK⟩
  show if i = id then Q .normal a' w' else Q (.exit i) a' w'
  split at hK
  · rename_i hb
    rw [if_pos (Nat.eq_of_beq_eq_true hb)]
    exact hO1.n a' w' ⟨st2, u', V', ρ', hD2, h1, h2, hK⟩
  · rename_i hb
    rw [if_neg (fun e => by rw [e, Nat.beq_refl] at hb; cases hb)]
    exact hO1.e i a' w' ⟨st2, u', V', ρ', hD2, h1, h2, hK⟩

theorem sim_init {ops : List Oper} {rk : List Nat} {n : Nat} : Sim X F ops rk [] (Lst (Array.replicate n false)) st st u V (fun _ => ⟨none, none⟩) (fun _ => .free) := by
  have hl : ∀ i, ¬ Lst (Array.replicate n false) i := by
    intro i h
    unfold Lst at h
    rw [Array.getD_eq_getD_getElem?] at h
    by_cases hi : i < n
    · simp [hi] at h
    · simp [hi] at h
  exact ⟨fun i h => absurd h (hl i), fun i o h => absurd h (hl i), fun i h => (by cases h), fun i h => (by cases h), fun i h => (by cases h), fun _ _ => rfl, fun _ _ => rfl, trivial, rfl, rfl, rfl, rfl⟩

theorem sound_region {id : Nat} {ops : Array Oper} {draw : Bool} : Sound G X F (.region id ops draw) := by
  intro h st u V ρ Kn Kr Ke Q a w hx hD hO
  unfold sx at hx
  refine withJ_sound hx hD ⟨hO.n, fun a w hp => ?_, fun i a w hp => ?_⟩ fun st1 Kn Kr Ke hr hD1 hO1 => ?_
  · obtain ⟨_, _, _, _, _, _, _, hK⟩ := hp; exact hK.elim
  · obtain ⟨_, _, _, _, _, _, _, hK⟩ := hp; exact hK.elim
  · have hQ : ∀ a w, Nxt G X F (dstsOf ops.toList) h.rk st1 (fun st u V => Kn (st.after ops.toList h.rk) u V) a w → Q .normal a w := fun a w hn => hO1.n a w (den_region hD1.fe hD1.fl hn)
    cases draw with
    | false => exact wp_region_list (rxs_sound ops.toList (fun o ho t ht => dstsOf_mem ho ht) st1 u V ρ a w hD1.d (Ag.refl _ _ _) hr hQ)
    | true =>
      simp only at hr
      split at hr
      · rename_i hb
        simp only [Bool.and_eq_true] at hb
        have hu : Uniq ops.toList := (dstsOk_spec hb.2).2
        refine wp_region_any X.mixed (draw_sound hu hb.1 (fun o ho t ht => dstsOf_mem ho ht) hQ ops.size (Array.replicate ops.size false) _ [] st1 st1 u V ρ _ _ a _ (by simp) ?_ hr sim_init hD1.d.drew (Ag.refl _ _ _))
        unfold cnt
        exact Nat.le_trans List.countP_le_length (by simp)
      · exact hr.elim

theorem sound_loop {c : Code} (ih : Sound G X F c) : Sound G X F (.loop c) := by
  intro h st u V ρ Kn Kr Ke Q a w hx hD hO
  unfold sx at hx
  split at hx
  · rename_i p hp
    split at hx
    · rename_i hn
      obtain ⟨_, _, s0, hs0, I, m, hI, hround⟩ := fitsK_spec hx
      have hst := hD.d.ok.stale
      refine wp_loop_ghost (fun n a w => ∃ (s : TupT X p.items) (u : World) (V : VP) (ρ : Nat → Nat), Den G X F u V ρ (st.head X p s).based a w ∧ I s u V ∧ m s u V = n ∧
        (∀ t, t ∉ itE p.items → t ∉ p.kill → (st.head X p s).env t = st.env t) ∧ (∀ k, k ∉ itL p.items → k ∉ p.killL → (st.head X p s).L k = st.L k)) (m s0 u V) ?_ ?_
      · have he : ∀ t, t ∉ itE p.items → t ∉ p.kill → st.based.env t = st.env t := fun _ _ _ => rfl
        have hL : ∀ k, k ∉ itL p.items → k ∉ p.killL → st.based.L k = st.L k := fun _ _ _ => rfl
        have hh := head_den hD.based.d hs0 he hL hn hst
        obtain ⟨_, _, h3, h4, _, _⟩ := head_spec hs0 he hL
        exact ⟨s0, u, V, ρ, hh.based, hI, rfl, h3, h4⟩
      · rintro n a w ⟨s, u, V, ρ, hD1, hI1, rfl, h3, h4⟩
        refine ih h.a _ u V ρ _ _ _ _ a w (hround s u V hI1) hD1 ⟨?_, ?_, ?_⟩
        · rintro a' w' ⟨st', u', V', ρ', hD', hbe, hbl, hK⟩
          obtain ⟨h1, h2, s', hs', hI', hm'⟩ := fitsK_spec hK
          have he : ∀ t, t ∉ itE p.items → t ∉ p.kill → st'.env t = st.env t := fun t a1 a2 => by
            rw [hD'.fe t (fun hm => (h1 t hm).elim a1 a2), hbe]; exact h3 t a1 a2
          have hL : ∀ k, k ∉ itL p.items → k ∉ p.killL → st'.L k = st.L k := fun k a1 a2 => by
            rw [hD'.fl k (fun hm => (h2 k hm).elim a1 a2), hbl]; exact h4 k a1 a2
          have hh := head_den hD'.d hs' he hL hn hst
          obtain ⟨_, _, h5, h6, _, _⟩ := head_spec hs' he hL
          exact ⟨_, hm', s', u', V', ρ', hh.based, hI', rfl, h5, h6⟩
        · rintro a' w' ⟨st', u', V', ρ', hD', hbe, hbl, hK⟩
          exact hO.r a' w' ⟨_, u', V', ρ', hD'.back (sb := st.head X p s) hbe hbl h3 h4 hD.fe hD.fl, rfl, rfl, hK⟩
        · rintro i a' w' ⟨st', u', V', ρ', hD', hbe, hbl, hK⟩
          exact hO.e i a' w' ⟨_, u', V', ρ', hD'.back (sb := st.head X p s) hbe hbl h3 h4 hD.fe hD.fl, rfl, rfl, hK⟩
    · exact hx.elim
  · exact hx.elim

theorem sx_sound (c : Code) : Sound G X F c := by
  induction c with
  | skip => intro h st u V ρ Kn Kr Ke Q a w hx hD hO; exact wp_skip (hO.n a w ⟨st, u, V, ρ, hD, rfl, rfl, hx⟩)
  | ret => intro h st u V ρ Kn Kr Ke Q a w hx hD hO; exact wp_ret (hO.r a w ⟨st, u, V, ρ, hD, rfl, rfl, hx⟩)
  | exit i => intro h st u V ρ Kn Kr Ke Q a w hx hD hO; exact wp_exit (hO.e i a w ⟨st, u, V, ρ, hD, rfl, rfl, hx⟩)
  | seq x y ihx ihy => exact sound_seq ihx ihy
  | cond c x y ihx ihy => exact sound_cond ihx ihy
  | block i c ih => exact sound_block ih
  | region i ops draw => exact sound_region
  | loop c ih => exact sound_loop ih
  | _ => intro h st u V ρ Kn Kr Ke Q a w hx hD hO; exact False.elim hx
end
end Go.Sx

-- SxFx
namespace Go.Sx
open Go.RowKit
section
variable {P : Program} {G : Gh} {X : Ctx P} {F : Fn} {u : World} {V : VP} {ρ : Nat → Nat} {st : St} {a : Act} {w : World}

theorem mat_good1 {x : S1} {v : Value} (h : Mat X.errT ρ (.s x) v) (hg : good1 x = true) : v = gval1 X.errT x := by
  cases x with
  | v y => exact h
  | err e => exact h
  | loc k o => cases hg
  | any => cases hg

theorem loadVar_at {T : Nat} {ad : Addr} {v : Value} (h : (Instr.loadAt T (.pointer (some ad))).run P w = .ok v w) : (loadVar T ad).run P w = .ok v w := by
  simpa [Instr.loadAt, Instr.sureAddr] using h

def resOne (tmps : Array Value) : ResultVar → Sem Value
  | .tmp t => pure (tmps.getD t undef)
  | .cell p t => do loadVar t (← asAddr (tmps.getD p undef))

theorem resS_spec (hD : Den0 G X F u V ρ st a w) {r : ResultVar} {x : S1} (h : resS X st r = some x) (hg : good1 x = true) :
    (resOne a.tmps r).run P w = .ok (gval1 X.errT x) w := by
  cases r with
  | tmp t =>
    simp only [resS] at h
    split at h
    · rename_i y hy
      cases h
      have := hD.ok.env t
      rw [hy] at this
      simp only [resOne, Sem.run_pure]
      rw [mat_good1 this hg]
    · cases h
  | cell t T =>
    simp only [resS] at h
    split at h
    · rename_i ti k o ht hk
      have hv : a.tmps.getD t undef = .pointer (some ⟨ρ k, o, none⟩) := by have := hD.ok.env t; rw [hk] at this; exact this
      simp only [resOne]
      rw [hv]
      have hred : ∀ v, (Instr.loadAt T (.pointer (some ⟨ρ k, o, none⟩))).run P w = .ok v w → ((do loadVar T (← asAddr (.pointer (some ⟨ρ k, o, none⟩))) : Sem Value)).run P w = .ok v w := by
        intro v hh
        have := loadVar_at hh
        simp [asAddr, this]
      split at h
      · rename_i T' cs hL
        split at h
        · rename_i _ _ _ hle hagg
          cases h
          refine hred _ (run_load_agg ht hagg ?_ fun j y hj => ?_)
          · have hle' : o + ti.size ≤ cs.length := by simpa using hle
            rw [takeN_eq, dropN_eq]; simp; omega
          · rw [addr_add0, cell_loc hD hL]
            rw [takeN_eq, dropN_eq, List.getElem?_take] at hj
            split at hj
            · rw [List.getElem?_drop] at hj; exact hj
            · cases hj
        · rename_i _ _ _ hle hagg _
          split at h
          · rename_i y ys hd
            cases h
            refine hred _ (run_load_one ht hagg ?_)
            rw [cell_loc hD hL]
            rw [dropN_eq] at hd
            have := congrArg (fun l : List Value => l[0]?) hd
            show cs[o]? = some y
            simpa using this
          · cases h
        · cases h
      · cases h
    · cases h

theorem resL_spec (hD : Den0 G X F u V ρ st a w) : ∀ (rs : List ResultVar) (l : List S1), resL X st rs = some l →
    l.all good1 = true ∧ (rs.mapM (resOne a.tmps)).run P w = .ok (l.map (gval1 X.errT)) w := by
  intro rs
  induction rs with
  | nil => intro l h; simp [resL] at h; subst h; exact ⟨rfl, by simp⟩
  | cons r rs ih =>
    intro l h
    unfold resL at h
    split at h
    · rename_i x hx
      split at h
      · rename_i l' hg hl
        cases h
        obtain ⟨h1, h2⟩ := ih l' hl
        refine ⟨by simp [hg, h1], ?_⟩
        have h3 := resS_spec hD hx hg
        rw [List.mapM_cons, Sem.run_bind]
        rw [h3]
        simp only [Result.andThen_ok, Sem.run_bind]
        rw [h2]
        simp
      · cases h
    · cases h

theorem results_eq (fn : Func) (tmps : Array Value) : results fn tmps = (do let vs ← fn.results.mapM (resOne tmps); pure (if h : vs.size = 1 then vs[0] else .tuple vs)) := by
  unfold results
  congr 1

theorem gval_resSV (l : List S1) : (if h : (l.map (gval1 X.errT)).toArray.size = 1 then (l.map (gval1 X.errT)).toArray[0] else .tuple (l.map (gval1 X.errT)).toArray) = gval X.errT (resSV l) := by
  match l with
  | [] => rfl
  | [x] => rfl
  | x :: y :: l => rw [dif_neg (by simp)]; rfl

theorem results_spec (hD : Den0 G X F u V ρ st a w) {fn : Func} {l : List S1} (h : resL X st fn.results.toList = some l) : (results fn a.tmps).run P w = .ok (gval X.errT (resSV l)) w := by
  obtain ⟨h1, h2⟩ := resL_spec hD _ _ h
  rw [results_eq, Sem.run_bind, Array.mapM_eq_mapM_toList]
  have h3 : (List.toArray <$> fn.results.toList.mapM (resOne a.tmps)).run P w = .ok (l.map (gval1 X.errT)).toArray w := by
    rw [← bind_pure_comp, Sem.run_bind, h2]; rfl
  rw [h3]
  simp only [Result.andThen_ok, Sem.run_pure]
  exact congrArg (fun v => Result.ok v w) (gval_resSV l)

theorem retK_spec {E : Enc} {fn : Func} {K : E.α → World → VP → Prop} {R : Ending → World → Prop} (hD : Den0 G X F u V ρ st a w) (h : retK X E fn.results.toList K st u V) (hR : ∀ x, K x u V → R (.returned (gval X.errT (E.enc x))) w) :
    a.defers = [] ∧ ∃ v, (results fn a.tmps).run P w = .ok v w ∧ R (.returned v) w := by
  unfold retK at h
  split at h
  · rename_i l hl
    split at h
    · rename_i x hx
      refine ⟨hD.defers, _, results_spec hD hl, ?_⟩
      rw [← E.law _ _ hx]
      exact hR x h
    · exact h.elim
  · exact h.elim

theorem fx_calls {f : Nat} {fn : Func} {c : Code} {locs : List Nat} {h : H} {args : List SV} {E : Enc} {K : E.α → World → VP → Prop} (hf : P.funcs[f]? = some fn) (hb : fn.body = some c) (hn : args.length ≤ fn.ntmps) (hg : args.all goodS = true)
    (hfx : fx X ⟨fn.ntmps, locs⟩ c fn.results.toList h args E u V K) (w : World) (hw : Rel V u w) :
    Calls P f (args.map (gval X.errT)).toArray w fun e w' => ∃ x u' V', e = .returned (gval X.errT (E.enc x)) ∧ Rel V' u' w' ∧ FrameV V w w' ∧ (∀ b, V' b → V b ∨ w.heap.size ≤ b) ∧ K x u' V' := by
  refine calls_of_wp hf hb ?_
  have hD : Den ⟨w, V⟩ X ⟨fn.ntmps, locs⟩ u V (fun _ => 0) (St.init args) { tmps := (args.map (gval X.errT)).toArray ++ Array.replicate (fn.ntmps - (args.map (gval X.errT)).toArray.size) undef, defers := [] } w := by
    refine ⟨⟨by simp; omega, rfl, ⟨fun t => ?_, fun t k off e => ?_⟩, fun k T cs hk => (by cases hk), fun k k' hk => absurd rfl hk, hw, ⟨rfl, rfl, rfl, Nat.le_refl _, fun _ _ _ => rfl⟩, fun b hb => .inl hb, fun k hk => absurd rfl hk⟩, fun _ _ => rfl, fun _ _ => rfl⟩
    · show Mat _ _ (initEnv args t) _
      unfold initEnv
      rw [getN_eq]
      cases ht : args[t]? with
      | none => trivial
      | some x =>
        simp only
        have hx : goodS x = true := List.all_eq_true.1 hg x (List.mem_of_getElem? ht)
        have hlt : t < args.length := (List.getElem?_eq_some_iff.1 ht).1
        have : ((args.map (gval X.errT)).toArray ++ Array.replicate (fn.ntmps - (args.map (gval X.errT)).toArray.size) undef).getD t undef = gval X.errT x := by
          rw [Array.getD_eq_getD_getElem?, Array.getElem?_append_left (by simpa using hlt)]
          simp [ht]
        rw [this]
        exact mat_good hx
    · have e' : initEnv args t = .s (.loc k off) := e
      unfold initEnv at e'
      rw [getN_eq] at e'
      cases ht : args[t]? with
      | none => rw [ht] at e'; cases e'
      | some x =>
        rw [ht] at e'
        simp only at e'
        have hx : goodS x = true := List.all_eq_true.1 hg x (List.mem_of_getElem? ht)
        rw [e'] at hx; cases hx
  refine sx_sound (G := ⟨w, V⟩) c h _ u V _ _ _ _ _ _ w hfx hD ⟨?_, ?_, ?_⟩
  · rintro a' w' ⟨st', u', V', ρ', hD', _, _, hK⟩
    exact retK_spec (R := fun e w' => ∃ x u' V', e = .returned (gval X.errT (E.enc x)) ∧ Rel V' u' w' ∧ FrameV V w w' ∧ (∀ b, V' b → V b ∨ w.heap.size ≤ b) ∧ K x u' V') hD'.d hK fun x hx => ⟨x, u', V', rfl, hD'.d.rel, hD'.d.kept.fr, hD'.d.kept.V, hx⟩
  · rintro a' w' ⟨st', u', V', ρ', hD', _, _, hK⟩
    exact retK_spec (R := fun e w' => ∃ x u' V', e = .returned (gval X.errT (E.enc x)) ∧ Rel V' u' w' ∧ FrameV V w w' ∧ (∀ b, V' b → V b ∨ w.heap.size ≤ b) ∧ K x u' V') hD'.d hK fun x hx => ⟨x, u', V', rfl, hD'.d.rel, hD'.d.kept.fr, hD'.d.kept.V, hx⟩
  · rintro i a' w' ⟨st', u', V', ρ', hD', _, _, hK⟩
    exact hK.elim

/-- what a caller may be told: at every later sight of the memory -/
def Fin {α : Type} (K : α → World → VP → Prop) : α → World → VP → Prop := fun x u V => ∀ w V', (∀ b, V b → V' b) → (∀ b, V' b → b < w.heap.size) → Rel V u w → K x w V'

theorem canEnter {f : Nat} {fn : Func} (hf : P.funcs[f]? = some fn) (hb : fn.body.isNone = false) (hname : (fn.name == "runtime.NumGoroutine") = false) : CanEnter P f := ⟨fn, hf, hb, hname⟩

theorem gc_of_fx {f : Nat} {fn : Func} {c : Code} {locs : List Nat} {h : H} {args : List SV} {E : Enc} {K : E.α → World → VP → Prop} (hf : P.funcs[f]? = some fn) (hb : fn.body = some c) (hname : (fn.name == "runtime.NumGoroutine") = false) (hn : args.length ≤ fn.ntmps) (hg : args.all goodS = true)
    (hfx : fx X ⟨fn.ntmps, locs⟩ c fn.results.toList h args E u V (Fin K)) : GC P f (args.map (gval X.errT)) u V (fun x => gval X.errT (E.enc x)) K := by
  refine ⟨canEnter hf (by rw [hb]; rfl) hname, fun w hw => Calls.mono (fx_calls hf hb hn hg hfx w hw) ?_⟩
  rintro e w' ⟨x, u', V', rfl, hr, hfr, hV, hK⟩
  refine ⟨x, rfl, hfr, hK w' (Vn V w w') (fun b hb => ?_) (Vn_lt hw hfr.size) hr⟩
  rcases hV b hb with h1 | h1
  · exact .inl h1
  · exact .inr ⟨h1, hr.lt hb⟩

theorem ro_of_fx {f : Nat} {fn : Func} {c : Code} {locs : List Nat} {h : H} {args : List SV} {E : Enc} {r : E.α} (hf : P.funcs[f]? = some fn) (hb : fn.body = some c) (hname : (fn.name == "runtime.NumGoroutine") = false) (hn : args.length ≤ fn.ntmps) (hg : args.all goodS = true)
    (hfx : fx X ⟨fn.ntmps, locs⟩ c fn.results.toList h args E u V (fun x u' V' => x = r ∧ Ext u V u' V')) : ROc P f (args.map (gval X.errT)) u V (gval X.errT (E.enc r)) := by
  refine ⟨canEnter hf (by rw [hb]; rfl) hname, fun w hw => Calls.mono (fx_calls hf hb hn hg hfx w hw) ?_⟩
  rintro e w' ⟨x, u', V', rfl, hr, hfr, hV, rfl, hx⟩
  refine ⟨rfl, hfr.os, hfr.tape, hfr.output, hfr.size, fun k hk => ?_⟩
  by_cases hVk : V k
  · rcases hx with ⟨rfl, rfl⟩ | ⟨h1, h2⟩
    · rw [(hr.blk k hVk).2, (hw.blk k hVk).2]
    · rw [(hr.blk k (h1 k hVk)).2, (h2.blk k hVk).2, (hw.blk k hVk).2]
  · exact hfr.blk k hk hVk
end
end Go.Sx

-- SxTab
namespace Go.Sx
open Go.RowKit
section
variable {P : Program}

def szTI (P : Program) (T : Nat) : Option (Nat × Option (List Value)) := (P.info? T).map fun i => (i.size, i.zero.map fun z => z.cells.toList)
def fldTI (P : Program) : List Field → List (Nat × Nat × Option Nat)
  | [] => []
  | f :: l => (f.offset, f.type, (P.info? f.type).map (·.size)) :: fldTI P l
def fldWant : List (Nat × Nat × Nat) → List (Nat × Nat × Option Nat)
  | [] => []
  | e :: l => (e.1, e.2.1, some e.2.2) :: fldWant l
def noZero : List (Nat × Nat × Nat) → Bool
  | [] => true
  | e :: l => match e.2.2 with | 0 => false | _ + 1 => noZero l
def plainD : TypeDesc → Bool
  | .struct _ | .array _ _ => false
  | _ => true

/-- what the kernel is asked of one line of the table -/
def TK.ask (P : Program) (T : Nat) : TK → Prop
  | .int k => P.underlying T = some (.int k)
  | .bool => P.underlying T = some .bool
  | .str => P.underlying T = some .string
  | .ptr e => P.underlying T = some (.pointer e)
  | .slice e => P.underlying T = some (.slice e)
  | .struct fs => (match P.underlying T with | some (.struct l) => some (fldTI P l.toList) | _ => none) = some (fldWant fs) ∧ noZero fs = true
  | .arr n e es => P.underlying T = some (.array n e) ∧ (P.info? e).map (·.size) = some es
  | .iface => (match P.underlying T with | some (.interface _) => true | _ => false) = true
  | .other => (match P.underlying T with | some d => plainD d | none => false) = true

theorem fields_ok : ∀ (l : List Field) (fs : List (Nat × Nat × Nat)), fldTI P l = fldWant fs → noZero fs = true → fieldsOk P l fs := by
  intro l
  induction l with
  | nil => intro fs h _; cases fs with | nil => trivial | cons e fs => cases h
  | cons f l ih =>
    intro fs h hz
    cases fs with
    | nil => cases h
    | cons e fs =>
      simp only [fldTI, fldWant, List.cons.injEq, Prod.mk.injEq] at h
      obtain ⟨⟨h1, h2, h3⟩, h4⟩ := h
      unfold noZero at hz
      split at hz
      · cases hz
      · rename_i n hn
        refine ⟨h1, h2, ?_, by omega, ih fs h4 hz⟩
        rw [h2] at h3
        cases hi : P.info? e.2.1 with
        | none => rw [hi] at h3; cases h3
        | some i => rw [hi] at h3; simp at h3; exact ⟨i, rfl, h3⟩

theorem TK.of_ask {T : Nat} {k : TK} (h : k.ask P T) : k.ok P T := by
  cases k with
  | int k => exact h
  | bool => exact h
  | str => exact h
  | ptr e => exact h
  | slice e => exact h
  | struct fs =>
    obtain ⟨h1, h2⟩ := h
    split at h1
    · rename_i l hl
      exact ⟨l, hl, fields_ok _ _ (Option.some.inj h1) h2⟩
    · cases h1
  | arr n e es =>
    obtain ⟨h1, h2⟩ := h
    refine ⟨h1, ?_⟩
    cases hi : P.info? e with
    | none => rw [hi] at h2; cases h2
    | some i => rw [hi] at h2; simp at h2; exact ⟨i, rfl, h2⟩
  | iface =>
    unfold TK.ask at h
    simp only at h
    split at h
    · rename_i ms hm; exact ⟨ms, hm⟩
    · cases h
  | other =>
    unfold TK.ask at h
    simp only at h
    split at h
    · rename_i d hd
      refine ⟨d, hd, ?_⟩
      cases d <;> first | trivial | cases h
    · cases h

def TI.ask (P : Program) (T : Nat) (t : TI) : Prop := szTI P T = some (t.size, some t.zero) ∧ t.kind.ask P T
theorem TI.of_ask {T : Nat} {t : TI} (h : t.ask P T) : t.ok P T := by
  obtain ⟨h1, h2⟩ := h
  refine ⟨?_, TK.of_ask h2⟩
  unfold szTI at h1
  cases hi : P.info? T with
  | none => rw [hi] at h1; cases h1
  | some i =>
    rw [hi] at h1
    simp only [Option.map_some, Option.some.injEq, Prod.mk.injEq] at h1
    obtain ⟨h3, h4⟩ := h1
    cases hz : i.zero with
    | none => rw [hz] at h4; cases h4
    | some z => rw [hz] at h4; simp at h4; exact ⟨i, z, rfl, h3, hz, h4⟩

def tabAsk (P : Program) : List (Nat × TI) → Prop
  | [] => True
  | e :: l => e.2.ask P e.1 ∧ tabAsk P l
theorem tab_ok : ∀ {l : List (Nat × TI)}, tabAsk P l → ∀ T t, lookN l T = some t → t.ok P T := by
  intro l
  induction l with
  | nil => intro _ T t h; cases h
  | cons e l ih =>
    intro h T t hl
    unfold lookN at hl
    split at hl
    · rename_i hb
      have := Nat.eq_of_beq_eq_true hb
      cases hl
      rw [← this]
      exact TI.of_ask h.1
    · exact ih h.2 T t hl
end
end Go.Sx
