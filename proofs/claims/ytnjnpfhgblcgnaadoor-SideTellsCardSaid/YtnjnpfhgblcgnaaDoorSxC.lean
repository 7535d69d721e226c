/-
  Regions told in one order are sound. Conditions: those of the statement alone.
-/
import Derived.Test.YtnjnpfhgblcgnaaDoorSxB
set_option linter.unusedVariables false
set_option linter.unusedSimpArgs false

-- SxReg
namespace Go.Sx
open Go.RowKit
section
variable {P : Program} {G : Gh} {X : Ctx P} {F : Fn} {u : World} {V : VP} {ρ : Nat → Nat} {st st0 : St} {a : Act} {w : World} {ds rk : List Nat}

theorem upd_self {α : Type} (f : Nat → α) (k : Nat) (x : α) (h : f k = x) : upd f k x = f := by
  funext t
  by_cases ht : t = k
  · subst ht; rw [upd_same, h]
  · rw [upd_other _ _ ht]
theorem set_self (st : St) (t : Nat) (x : SV) (h : st.env t = x) : st.set t x = st := by
  unfold St.set; rw [upd_self _ _ _ h]

theorem nxt_undef {o : Oper} {K : KT} (hD : Den0 G X F u V ρ st a w) (hA : Ag ds rk st0 st) (hds : ∀ t, o.dst = some t → t ∈ ds) (hK : putK F o.dst (.s (.v undef)) fun δ => K (st.app δ) u V) :
    Nxt G X F ds rk st0 K (a.put o.dst undef) w := by
  obtain ⟨hd, hK⟩ := putK_spec (st := st) (K := fun st => K st u V) hK
  exact ⟨_, u, V, ρ, hD.put hd (x := .s (.v undef)) rfl (noSt_v _), hA.put hds _, hK⟩

theorem yielded_bool {ops : Array Oper} {j t : Nat} {oj : Oper} {b : Bool} (hj : ops[j]? = some oj) (ht : oj.dst = some t) (h : a.tmps.getD t undef = .bool b) : yielded ops a.tmps j = some b := by
  unfold yielded
  rw [hj]
  simp only [Option.bind_some, ht]
  rw [Array.getD_eq_getD_getElem?] at h
  cases hx : a.tmps[t]? with
  | none => rw [hx] at h; cases h
  | some x => rw [hx] at h; simp at h; rw [h]
theorem yielded_tuple {ops : Array Oper} {j t : Nat} {oj : Oper} {b : Array Value} (hj : ops[j]? = some oj) (ht : oj.dst = some t) (h : a.tmps.getD t undef = .tuple b) : yielded ops a.tmps j = none := by
  unfold yielded
  rw [hj]
  simp only [Option.bind_some, ht]
  rw [Array.getD_eq_getD_getElem?] at h
  cases hx : a.tmps[t]? with
  | none => rfl
  | some x => rw [hx] at h; simp at h; rw [h]

theorem gx_sound {ops : Array Oper} {o : Oper} {K : KT} {Q : Exit → Act → World → Prop} (hD : Den0 G X F u V ρ st a w) (hA : Ag ds rk st0 st) (hds : ∀ t, o.dst = some t → t ∈ ds) (hK : gx X F ops.toList rk o st u V K) :
    (Region.wanted o (yielded ops a.tmps) = true → o.wp P a w (Nxt G X F ds rk st0 K) Q) ∧ (Region.wanted o (yielded ops a.tmps) = false → Nxt G X F ds rk st0 K (a.put o.dst undef) w) := by
  unfold gx at hK
  split at hK
  · rename_i hg
    exact ⟨fun _ => ox_sound hD hA hds hK, fun h => by simp [Region.wanted, hg] at h⟩
  · rename_i j want hg
    split at hK
    · rename_i oj hj
      rw [getN_eq, Array.getElem?_toList] at hj
      split at hK
      · rename_i t ht
        have hw : Region.wanted o (yielded ops a.tmps) = (yielded ops a.tmps j == some want) := by simp [Region.wanted, hg]
        split at hK
        · rename_i b hb
          have hv : a.tmps.getD t undef = .bool b := by have := hD.ok.env t; rw [hb] at this; exact this
          rw [hw, yielded_bool hj ht hv]
          cases want <;> cases b <;> simp only [IfB] at hK <;> rw [set_self _ _ _ hb] at hK
          · exact ⟨fun _ => ox_sound hD hA hds hK, fun h => by cases h⟩
          · exact ⟨fun h => (by cases h), fun _ => nxt_undef hD hA hds hK⟩
          · exact ⟨fun h => (by cases h), fun _ => nxt_undef hD hA hds hK⟩
          · exact ⟨fun _ => ox_sound hD hA hds hK, fun h => by cases h⟩
        · rename_i b hb
          have hv : a.tmps.getD t undef = .tuple b := by have := hD.ok.env t; rw [hb] at this; exact this
          rw [hw, yielded_tuple hj ht hv]
          exact ⟨fun h => (by cases h), fun _ => nxt_undef hD hA hds hK⟩
        · exact hK.elim
      · exact hK.elim
    · exact hK.elim

theorem rxs_sound {ops : Array Oper} {K : KT} {Q : Exit → Act → World → Prop} (l : List Oper) (hl : ∀ o ∈ l, ∀ t, o.dst = some t → t ∈ ds) :
    ∀ (st : St) (u : World) (V : VP) (ρ : Nat → Nat) (a : Act) (w : World), Den0 G X F u V ρ st a w → Ag ds rk st0 st → rxs X F ops.toList rk l st u V K →
      (∀ a w, Nxt G X F ds rk st0 K a w → Q .normal a w) → wpList P ops Q l a w := by
  induction l with
  | nil => intro st u V ρ a w hD hA hK hQ; exact hQ a w ⟨st, u, V, ρ, hD, hA, hK⟩
  | cons o l ih =>
    intro st u V ρ a w hD hA hK hQ
    have hg := gx_sound (ops := ops) (Q := Q) hD hA (hl o (by simp)) hK
    have hn : ∀ a w, Nxt G X F ds rk st0 (fun st u V => rxs X F ops.toList rk l st u V K) a w → wpList P ops Q l a w := by
      rintro a w ⟨st, u, V, ρ, hD, hA, hK⟩
      exact ih (fun o ho => hl o (by simp [ho])) st u V ρ a w hD hA hK hQ
    unfold wpList
    split
    · rename_i hw
      exact .inl (Oper.wp_mono hn (hg.1 hw))
    · rename_i hw
      exact hn _ _ (hg.2 (by simpa using hw))
end
end Go.Sx

-- SxLin
namespace Go.Sx
open Go.RowKit
section
variable {P : Program} {G : Gh} {X : Ctx P} {S M : St} {o : Oper}

theorem arK_lin {k : IntKind} {e : Int} {K : SV → Prop} (h : arK k e K) : ∃ x, K x ∧ ∀ K', K' x → arK k e K' := by
  unfold arK at h ⊢
  split at h
  · exact ⟨_, h.2, fun K' hk => ⟨h.1, hk⟩⟩
  · exact ⟨_, h, fun K' hk => hk⟩

theorem bin_lin {op : BinOp} {T : Nat} {x y : Operand} {K : SV → Prop} (h : bin X op T x y S K) : ∃ v, K v ∧ ∀ K', K' v → bin X op T x y S K' := by
  unfold bin at h
  split at h
  · rename_i k a k' b hx hy
    simp only [bin, hx, hy]
    split at h
    · exact h.elim
    · rename_i hd
      try simp only [hd]
      cases op <;> simp only at h ⊢ <;> first
        | exact h.elim
        | exact arK_lin h
        | exact ⟨_, h, fun _ hk => hk⟩
        | (cases hb : (b == 0) <;> rw [hb] at h <;> simp only [IfB] at h ⊢ <;> first | exact h.elim | exact arK_lin h | exact ⟨_, h, fun _ hk => hk⟩)
        | (cases hb : decide (b < 0) <;> rw [hb] at h <;> simp only [IfB] at h ⊢ <;> first | exact h.elim | exact ⟨_, h, fun _ hk => hk⟩)
  · rename_i a b hx hy
    simp only [bin, hx, hy]
    cases op <;> simp only at h ⊢ <;> first
      | exact h.elim
      | exact ⟨_, h, fun _ hk => hk⟩
      | exact ⟨_, h.2, fun _ hk => ⟨h.1, hk⟩⟩
  · rename_i a b hx hy
    simp only [bin, hx, hy]
    split at h
    · rename_i t ht
      try simp only [ht]
      split at h
      all_goals first
        | exact h.elim
        | (rename_i hk; try simp only [hk]); exact ⟨_, h, fun _ hk => hk⟩
    · exact h.elim
  · rename_i e hx hy
    simp only [bin, hx, hy]
    split at h
    · rename_i t hc ht
      try simp only [ht, hc]
      split at h
      all_goals first
        | exact h.elim
        | (rename_i hk; try simp only [hk]); exact ⟨_, h, fun _ hk => hk⟩
    · exact h.elim
  · rename_i a n c n' c' hx hy
    simp only [bin, hx, hy]
    split at h
    · rename_i t hc ht
      try simp only [ht, hc]
      split at h
      all_goals first
        | exact h.elim
        | (rename_i hk; try simp only [hk]); exact ⟨_, h, fun _ hk => hk⟩
    · exact h.elim
  · rename_i a hx hy
    simp only [bin, hx, hy]
    split at h
    · rename_i t hc ht
      try simp only [ht, hc]
      split at h
      all_goals first
        | exact h.elim
        | (rename_i hk; try simp only [hk]); exact ⟨_, h, fun _ hk => hk⟩
    · exact h.elim
  · rename_i a b hx hy
    simp only [bin, hx, hy]
    cases op <;> simp only at h ⊢ <;> first
      | exact h.elim
      | (obtain ⟨r, h1, h2, h3⟩ := h; exact ⟨_, h3, fun _ hk => ⟨r, h1, h2, hk⟩⟩)
  · exact h.elim

theorem fillK_lin {T : Nat} (ps : List (Nat × Operand)) : ∀ {cs : List Value} {K : List Value → Prop}, fillK X T S ps cs K → ∃ v, K v ∧ ∀ K' : List Value → Prop, K' v → fillK X T S ps cs K' := by
  induction ps with
  | nil => intro cs K h; exact ⟨cs, h, fun _ hk => hk⟩
  | cons p ps ih =>
    intro cs K h
    unfold fillK at h
    split at h
    · rename_i off n hp
      simp only [fillK, hp]
      split at h
      · rename_i x hx
        try simp only [hx]
        split at h
        · rename_i hb
          try simp only [hb]
          exact ih h
        · exact h.elim
      · exact h.elim
    · exact h.elim
theorem fillS_lin {sz : Nat} (ps : List (Nat × Operand)) : ∀ {cs : List Value} {K : List Value → Prop}, fillS sz S ps cs K → ∃ v, K v ∧ ∀ K' : List Value → Prop, K' v → fillS sz S ps cs K' := by
  induction ps with
  | nil => intro cs K h; exact ⟨cs, h, fun _ hk => hk⟩
  | cons p ps ih =>
    intro cs K h
    unfold fillS at h
    split at h
    · rename_i x hx
      simp only [fillS, hx]
      split at h
      · rename_i hb
        try simp only [hb]
        exact ih h
      · exact h.elim
    · exact h.elim

theorem sliceK_lin {T : Nat} {x : Operand} {lo hi : Option Operand} {K : SV → Prop} (h : sliceK X T x lo hi S K) : ∃ v, K v ∧ ∀ K', K' v → sliceK X T x lo hi S K' := by
  unfold sliceK at h
  split at h
  · rename_i t a len cap l hh ht hx hl hhi
    simp only [sliceK, ht, hx, hl, hhi]
    split at h
    · rename_i e hk
      try simp only [hk]
      split at h
      · rename_i sz hsz
        try simp only [hsz]
        cases l <;> cases hh <;> simp only at h ⊢
        · exact ⟨_, h, fun _ hk => hk⟩
        · exact ⟨_, h.2, fun _ hk => ⟨h.1, hk⟩⟩
        · exact ⟨_, h.2, fun _ hk => ⟨h.1, hk⟩⟩
        · exact ⟨_, h.2.2, fun _ hk => ⟨h.1, h.2.1, hk⟩⟩
      · exact h.elim
    · exact h.elim
  · rename_i t s l hh ht hx hl hhi
    simp only [sliceK, ht, hx, hl, hhi]
    split at h
    · rename_i hk
      try simp only [hk]
      cases l <;> cases hh <;> simp only at h ⊢
      · exact ⟨_, h, fun _ hk => hk⟩
      · exact ⟨_, h.2, fun _ hk => ⟨h.1, hk⟩⟩
      · exact ⟨_, h.2, fun _ hk => ⟨h.1, hk⟩⟩
      · exact ⟨_, h.2.2, fun _ hk => ⟨h.1, h.2.1, hk⟩⟩
    · exact h.elim
  · exact h.elim

theorem px_lin {K : SV → Prop} (h : px X o S K) : ∃ v, K v ∧ ∀ K', K' v → px X o S K' := by
  unfold px at h
  split at h
  · rename_i x ho; exact ⟨_, h, fun K' hk => by simp only [px, ho]; exact hk⟩
  · rename_i x ho; exact ⟨_, h, fun K' hk => by simp only [px, ho]; exact hk⟩
  · rename_i c a b ho
    simp only [px, ho]
    split at h
    · rename_i t hc
      cases t <;> simp only [IfB] at h ⊢ <;> exact ⟨_, h, fun _ hk => hk⟩
    · exact h.elim
  · rename_i T x f ho
    simp only [px, ho]
    split at h
    · rename_i off hoff
      split at h
      · exact ⟨_, h, fun _ hk => hk⟩
      · rename_i p hp
        cases p with
        | none => exact h.elim
        | some ad => exact ⟨_, h, fun _ hk => hk⟩
      · exact h.elim
    · exact h.elim
  · rename_i x ho
    simp only [px, ho]
    split at h
    · exact ⟨_, h, fun _ hk => hk⟩
    · rename_i p hp
      cases p with
      | none => exact h.elim
      | some ad => exact ⟨_, h, fun _ hk => hk⟩
    · exact h.elim
  · rename_i T x i ho
    simp only [px, ho]
    split at h
    · rename_i t a len cap k n ht hx hi
      split at h
      · split at h
        · obtain ⟨h1, h2⟩ := h
          cases a with
          | none => exact h2.elim
          | some ad => exact ⟨_, h2, fun _ hk => ⟨h1, hk⟩⟩
        · exact h.elim
      · exact h.elim
    · rename_i t p k n ht hx hi
      split at h
      · split at h
        · obtain ⟨h1, h2⟩ := h
          cases p with
          | none => exact h2.elim
          | some ad => exact ⟨_, h2, fun _ hk => ⟨h1, hk⟩⟩
        · exact h.elim
      · exact h.elim
    · split at h
      · split at h
        · exact ⟨_, h, fun _ hk => hk⟩
        · exact h.elim
      · exact h.elim
    · exact h.elim
  · rename_i t i ho
    simp only [px, ho]
    split at h
    · split at h
      · exact ⟨_, h, fun _ hk => hk⟩
      · exact h.elim
    · exact h.elim
  · rename_i T parts ho
    simp only [px, ho]
    split at h
    · split at h
      · obtain ⟨v, h1, h2⟩ := fillK_lin _ h
        exact ⟨_, h1, fun _ hk => h2 _ hk⟩
      · exact h.elim
    · exact h.elim
  · rename_i T x ho
    simp only [px, ho]
    split at h
    · exact ⟨_, h, fun _ hk => hk⟩
    · exact h.elim
  · rename_i fn first cap ho
    simp only [px, ho]
    split at h
    · exact ⟨_, h, fun _ hk => hk⟩
    · exact h.elim
  · rename_i x ho
    simp only [px, ho]
    split at h
    · exact ⟨_, h, fun _ hk => hk⟩
    · exact h.elim
  · rename_i x ho
    simp only [px, ho]
    split at h
    · exact arK_lin h
    · exact h.elim
  · rename_i op T x y ty ho
    simp only [px, ho]
    exact bin_lin h
  · rename_i T x lo hi ho
    simp only [px, ho]
    exact sliceK_lin h
  · rename_i T x lo hi mx ho
    simp only [px, ho]
    split at h
    · split at h
      · split at h
        · exact ⟨_, h.2.2.2, fun _ hk => ⟨h.1, h.2.1, h.2.2.1, hk⟩⟩
        · exact h.elim
      · exact h.elim
    · exact h.elim
  · rename_i T x i ho
    simp only [px, ho]
    split at h
    · split at h
      · exact ⟨_, h.2, fun _ hk => ⟨h.1, hk⟩⟩
      · exact h.elim
    · exact h.elim
  · rename_i src dst x ho
    simp only [px, ho]
    split at h
    · split at h
      · exact ⟨_, h, fun _ hk => hk⟩
      · exact h.elim
    · exact h.elim
  · rename_i x T ho
    simp only [px, ho]
    split at h
    · split at h
      · exact ⟨_, h, fun _ hk => hk⟩
      · exact h.elim
    · split at h
      · exact ⟨_, h, fun _ hk => hk⟩
      · exact h.elim
    · exact h.elim
  · rename_i x T ho
    simp only [px, ho]
    split at h
    · split at h
      · exact ⟨_, h, fun _ hk => hk⟩
      · exact h.elim
    · exact h.elim
  · rename_i x y ats ho
    simp only [px, ho]
    split at h
    · exact ⟨_, h, fun _ hk => hk⟩
    · exact h.elim
  · rename_i x y ats ho
    simp only [px, ho]
    split at h
    · exact ⟨_, h, fun _ hk => hk⟩
    · exact h.elim
  · exact h.elim
end
end Go.Sx

-- SxCongr
namespace Go.Sx
open Go.RowKit
section
variable {P : Program} {G : Gh} {X : Ctx P} {S M : St} {o : Oper}

theorem bin_congr {op : BinOp} {T : Nat} {x y : Operand} {K : SV → Prop} (hx : ev M x = ev S x) (hy : ev M y = ev S y) : bin X op T x y M K = bin X op T x y S K := by
  unfold bin; rw [hx, hy]
theorem optI_congr {x : Option Operand} (h : ∀ y ∈ optL x, ev M y = ev S y) : optI M x = optI S x := by
  cases x with
  | none => rfl
  | some y => simp only [optI]; rw [h y (by simp [optL])]
theorem sliceK_congr {T : Nat} {x : Operand} {lo hi : Option Operand} {K : SV → Prop} (hx : ev M x = ev S x) (hl : optI M lo = optI S lo) (hh : optI M hi = optI S hi) : sliceK X T x lo hi M K = sliceK X T x lo hi S K := by
  unfold sliceK; rw [hx, hl, hh]
theorem fillK_congr {T : Nat} (ps : List (Nat × Operand)) (h : ∀ y ∈ sndL ps, ev M y = ev S y) : ∀ (cs : List Value) (K : List Value → Prop), fillK X T M ps cs K = fillK X T S ps cs K := by
  induction ps with
  | nil => intro cs K; rfl
  | cons p ps ih =>
    intro cs K
    have := ih (fun y hy => h y (by simp [sndL, hy]))
    unfold fillK
    rw [h p.2 (by simp [sndL])]
    simp only [this]
theorem fillS_congr {sz : Nat} (ps : List (Nat × Operand)) (h : ∀ y ∈ sndL ps, ev M y = ev S y) : ∀ (cs : List Value) (K : List Value → Prop), fillS sz M ps cs K = fillS sz S ps cs K := by
  induction ps with
  | nil => intro cs K; rfl
  | cons p ps ih =>
    intro cs K
    have := ih (fun y hy => h y (by simp [sndL, hy]))
    unfold fillS
    rw [h p.2 (by simp [sndL])]
    simp only [this]
theorem valsV_congr (l : List Operand) (h : ∀ y ∈ l, ev M y = ev S y) : valsV M l = valsV S l := by
  induction l with
  | nil => rfl
  | cons x l ih =>
    unfold valsV
    rw [h x (by simp), ih (fun y hy => h y (by simp [hy]))]
theorem vals_congr (l : List Operand) (h : ∀ y ∈ l, ev M y = ev S y) : vals X M l = vals X S l := by
  induction l with
  | nil => rfl
  | cons x l ih =>
    unfold vals
    rw [h x (by simp), ih (fun y hy => h y (by simp [hy]))]

theorem px_congr {K : SV → Prop} (h : ∀ y ∈ opds o.op, ev M y = ev S y) : px X o M K = px X o S K := by
  unfold px
  split
  · rename_i x ho; rw [ho] at h; rw [h x (by simp [opds])]
  · rename_i x ho; rw [ho] at h; rw [h x (by simp [opds])]
  · rename_i c a b ho; rw [ho] at h; rw [h c (by simp [opds]), h a (by simp [opds]), h b (by simp [opds])]
  · rename_i T x f ho; rw [ho] at h; rw [h x (by simp [opds])]
  · rename_i x ho; rw [ho] at h; rw [h x (by simp [opds])]
  · rename_i T x i ho; rw [ho] at h; rw [h x (by simp [opds]), h i (by simp [opds])]
  · rename_i t i ho; rw [ho] at h; rw [h t (by simp [opds])]
  · rename_i T parts ho
    rw [ho] at h
    have : ∀ cs K, fillK X T M parts.toList cs K = fillK X T S parts.toList cs K := fun cs K => fillK_congr _ (fun y hy => h y (by simp [opds, hy])) _ _
    simp only [this]
  · rename_i T x ho; rw [ho] at h; rw [h x (by simp [opds])]
  · rename_i fn first cap ho
    rw [ho] at h
    rw [valsV_congr _ (fun y hy => h y (by simp only [opds, List.mem_append]; exact .inl hy)), valsV_congr cap.toList (fun y hy => h y (by simp only [opds, List.mem_append]; exact .inr hy))]
  · rename_i x ho; rw [ho] at h; rw [h _ (by simp [opds])]
  · rename_i x ho; rw [ho] at h; rw [h _ (by simp [opds])]
  · rename_i op T x y ty ho; rw [ho] at h; exact bin_congr (h _ (by simp [opds])) (h _ (by simp [opds]))
  · rename_i T x lo hi ho
    rw [ho] at h
    exact sliceK_congr (h _ (by simp [opds])) (optI_congr fun y hy => h y (by simp [opds, hy])) (optI_congr fun y hy => h y (by simp [opds, hy]))
  · rename_i T x lo hi mx ho; rw [ho] at h
    rw [h x (by simp [opds]), h lo (by simp [opds, optL]), h hi (by simp [opds, optL]), h mx (by simp [opds, optL])]
  · rename_i T x i ho; rw [ho] at h; rw [h x (by simp [opds]), h i (by simp [opds])]
  · rename_i src dst x ho; rw [ho] at h; rw [h x (by simp [opds])]
  · rename_i x T ho; rw [ho] at h; rw [h x (by simp [opds])]
  · rename_i x T ho; rw [ho] at h; rw [h x (by simp [opds])]
  · rename_i x y ats ho; rw [ho] at h; rw [h x (by simp [opds]), h y (by simp [opds])]
  · rename_i x y ats ho; rw [ho] at h; rw [h x (by simp [opds]), h y (by simp [opds])]
  · rfl
end
end Go.Sx

-- SxCalm
namespace Go.Sx
open Go.RowKit

/-- what a calm op reads of the memory outside -/
inductive Rd where
  | free
  | loc (k : Nat)
  | at (ad : Addr) (cs : List Value)
  | ro (f : Nat) (args : List Value) (r : Value)
def Rd.C (P : Program) (u : World) (V : VP) : Rd → Prop
  | .free => True
  | .loc _ => True
  | .at ad cs => At u V ad cs
  | .ro f args r => ROc P f args u V r
def Ext (u : World) (V : VP) (u' : World) (V' : VP) : Prop := (u' = u ∧ V' = V) ∨ ((∀ b, V b → V' b) ∧ Rel V u u')

theorem Rd.ext {P : Program} {u u' : World} {V V' : VP} {rd : Rd} (h : rd.C P u V) (he : Ext u V u' V') : rd.C P u' V' := by
  rcases he with ⟨rfl, rfl⟩ | ⟨hs, hr⟩
  · exact h
  · cases rd with
    | free => trivial
    | loc k => trivial
    | «at» ad cs =>
      refine ⟨hs _ h.1, fun j x hj => ?_⟩
      rw [rel_cell hr (by rw [add_block]; exact h.1)]
      exact h.2 j x hj
    | ro f args r =>
      refine ⟨h.1, fun w hw => h.2 w ⟨hw.os.trans hr.os, hw.tape.trans hr.tape, hw.output.trans hr.output, Nat.le_trans hr.size hw.size, fun b hb => ⟨(hr.blk b hb).1, ?_⟩⟩⟩
      rw [(hw.blk b (hs b hb)).2, (hr.blk b hb).2]

section
variable {P : Program} {G : Gh} {X : Ctx P} {F : Fn} {S M : St} {o : Oper} {u : World} {V : VP} {rk : List Nat}

def dl (d : Option Nat) (x : SV) : Dl := ⟨d.map (·, x), none⟩
theorem putK_lin {d : Option Nat} {x : SV} {K : Dl → Prop} (h : putK F d x K) : K (dl d x) ∧ ∀ K' : Dl → Prop, K' (dl d x) → putK F d x K' := by
  cases d with
  | none => exact ⟨h, fun K' hk => hk⟩
  | some t =>
    cases hb : Nat.blt t F.n with
    | true => cases x <;> simp only [putK, hb] at h ⊢ <;> exact ⟨h, fun K' hk => hk⟩
    | false => simp only [putK, hb] at h

variable (X F) in
def Lk (o : Oper) (S : St) (δ : Dl) : Rd → Prop
  | .free => True
  | .loc k => (∃ T x off, o.op = .load T x ∧ ev S x = .s (.loc k off)) ∧ S.L k ≠ none
  | .at ad cs => ∃ T x, o.op = .load T x ∧ ev S x = .s (.v (.pointer (some ad))) ∧ ∀ t, o.dst = some t → ∃ val, δ.e = some (t, .s (.v val)) ∧ cs = val.cells.toList ∧ ∀ l, val ≠ .tuple l
  | .ro _ _ _ => (∃ f args ats, o.op = .call { callee := .value f, args := args, argTypes := ats }) ∧ kindO X F S o = 0

structure DlOk (o : Oper) (δ : Dl) : Prop where
  e : ∀ t x, δ.e = some (t, x) → o.dst = some t
theorem dl_e {d : Option Nat} {x y : SV} {t : Nat} (h : (dl d x).e = some (t, y)) : d = some t := by
  cases d with
  | none => cases h
  | some s => simp [dl] at h; rw [h.1]

variable (X F) in
structure Calm (rk : List Nat) (o : Oper) (S : St) (δ : Dl) (rd : Rd) : Prop where
  run : ∀ u V, rd.C P u V → ∀ K : KD, K δ u V → ox X F rk o S u V K
  lk : Lk X F o S δ rd
  ll : ∀ T x k off, o.op = .load T x → ev S x = .s (.loc k off) → rd = .loc k
  e : ∀ t x, δ.e = some (t, x) → o.dst = some t
  l : ∀ k T cs, δ.l = some (k, T, cs) → locOp F o = true ∧ o.dst = some k ∧ S.L k = none
  l' : locOp F o = true → ∃ k T cs, δ.l = some (k, T, cs)

theorem locOp_op (h : locOp F o = true) : (∃ T, o.op = .alloc T) ∨ (∃ T x, o.op = .box T x) := by
  unfold locOp at h
  split at h
  · rename_i T k ho hd; exact .inl ⟨T, ho⟩
  · rename_i T x k ho hd; exact .inr ⟨T, x, ho⟩
  · cases h
theorem isNoneL_iff {x : Option (Nat × List Value)} : isNoneL x = true ↔ x = none := by cases x <;> simp [isNoneL]

theorem newK_calm {d : Option Nat} {T : Nat} {cs : List Value} {K : KD} (hl : ∀ k, d = some k → memN F.locs k = true) (h : newK F rk d T cs S u V K) :
    ∃ k, d = some k ∧ S.L k = none ∧ K ⟨some (k, .s (.loc k 0)), some (k, T, cs)⟩ u V ∧ ∀ u' V' (K' : KD), K' ⟨some (k, .s (.loc k 0)), some (k, T, cs)⟩ u' V' → newK F rk d T cs S u' V' K' := by
  unfold newK at h
  split at h
  · exact h.elim
  · rename_i k
    have hm := hl k rfl
    split at h
    · exact h.elim
    · rename_i hb
      rw [hm] at h
      simp only at h
      split at h
      · rename_i hb2
        have hb3 := hb2
        simp only [Bool.and_eq_true] at hb3
        exact ⟨k, rfl, isNoneL_iff.1 hb3.2, h, fun u' V' K' hk => by simp only [newK, hb, hm, hb2]; exact hk⟩
      · exact h.elim

theorem px_calm {K : KD} (h : px X o S fun x => putK F o.dst x fun δ => K δ u V) : ∃ x, K (dl o.dst x) u V ∧ ∀ u' V' (K' : KD), K' (dl o.dst x) u' V' → px X o S fun x => putK F o.dst x fun δ => K' δ u' V' := by
  obtain ⟨x, h1, h2⟩ := px_lin h
  obtain ⟨h3, h4⟩ := putK_lin h1
  exact ⟨x, h3, fun u' V' K' hk => h2 _ (h4 _ hk)⟩

theorem loadK_calm {T : Nat} {x : Operand} {KK : SV → Prop} (h : loadK X T (ev S x) S u V KK) :
    ∃ (y : SV) (rd : Rd), KK y ∧ rd.C P u V ∧ (∀ u' V', rd.C P u' V' → ∀ K' : SV → Prop, K' y → loadK X T (ev S x) S u' V' K') ∧
      ((∃ k off, rd = .loc k ∧ ev S x = .s (.loc k off) ∧ S.L k ≠ none) ∨ ∃ ad val, rd = .at ad val.cells.toList ∧ ev S x = .s (.v (.pointer (some ad))) ∧ y = .s (.v val) ∧ ∀ l, val ≠ .tuple l) ∧ (∀ k off, ev S x = .s (.loc k off) → rd = .loc k) := by
  unfold loadK at h
  split at h
  · exact h.elim
  · rename_i t ht
    split at h
    · rename_i k o hx
      split at h
      · rename_i T' cs hk
        have hll : ∀ k' off, ev S x = .s (.loc k' off) → Rd.loc k = .loc k' := by
          intro k' off e; rw [hx] at e; injection e with e; injection e with e1 e2; subst e1; rfl
        have hk0 : S.L k ≠ none := by rw [hk]; simp
        split at h
        · rename_i _ _ _ h1 h2
          exact ⟨_, .loc k, h, trivial, fun u' V' _ K' hk' => by rw [hx]; unfold loadK; simp only [ht, hk, h1, h2]; exact hk', .inl ⟨k, o, rfl, hx, hk0⟩, hll⟩
        · rename_i _ _ _ h1 h2 h3
          split at h
          · rename_i hd
            exact ⟨_, .loc k, h, trivial, fun u' V' _ K' hk' => by rw [hx]; unfold loadK; simp only [ht, hk, h1, h2, h3, hd]; exact hk', .inl ⟨k, o, rfl, hx, hk0⟩, hll⟩
          · exact h.elim
        · exact h.elim
      · exact h.elim
    · rename_i p hx
      cases p with
      | none => exact h.elim
      | some ad =>
        obtain ⟨y, h⟩ := h
        split at h
        · rename_i val hval
          split at h
          · rename_i hsh
            obtain ⟨hat, h⟩ := h
            refine ⟨_, .at ad val.cells.toList, h, hat, fun u' V' hat' K' hk' => ?_, .inr ⟨ad, val, rfl, hx, rfl, ?_⟩, fun k off e => by rw [hx] at e; cases e⟩
            · rw [hx]; simp only [loadK, ht, NilK]
              exact ⟨y, by simp only [hval, hsh]; exact ⟨hat', hk'⟩⟩
            · intro l e
              subst e
              unfold shapeOk at hsh
              cases hagg : t.kind.agg <;> simp [hagg] at hsh
          · exact h.elim
        · exact h.elim
    · exact h.elim

theorem ox_calm {K : KD} (hk : kindO X F S o = 0) (h : ox X F rk o S u V K) : ∃ (δ : Dl) (rd : Rd), K δ u V ∧ rd.C P u V ∧ Calm X F rk o S δ rd := by
  have pxc : (∀ K u V, ox X F rk o S u V K = px X o S fun x => putK F o.dst x fun δ => K δ u V) → (∀ T x, o.op ≠ .load T x) → (locOp F o = false) → ∃ (δ : Dl) (rd : Rd), K δ u V ∧ rd.C P u V ∧ Calm X F rk o S δ rd := by
    intro he hnl hlo
    rw [he] at h
    obtain ⟨x, h1, h2⟩ := px_calm h
    exact ⟨_, .free, h1, trivial, fun u' V' _ K' hk => by rw [he]; exact h2 _ _ _ hk, trivial, fun T x k off e => absurd e (hnl T x), fun t y e => dl_e e, fun k T cs e => (by cases h : o.dst <;> rw [h] at e <;> cases e), fun h => (by rw [hlo] at h; cases h)⟩
  unfold ox at h
  split at h
  · -- alloc
    rename_i T ho
    have hlo : locOp F o = true := by
      unfold kindO at hk; rw [ho] at hk; simp only at hk
      cases hl : locOp F o with
      | true => rfl
      | false => rw [hl] at hk; cases hk
    split at h
    · rename_i t ht
      obtain ⟨k, hd, hL, h1, h2⟩ := newK_calm (fun k e => by unfold locOp at hlo; rw [ho, e] at hlo; exact hlo) h
      refine ⟨_, .free, h1, trivial, fun u' V' _ K' hk => ?_, trivial, fun T x k off e => (by rw [ho] at e; cases e), fun t y e => ?_, fun k' T' cs' e => ?_, fun _ => ⟨_, _, _, rfl⟩⟩
      · simp only [ox, ho, ht]; exact h2 _ _ _ hk
      · cases e; exact hd
      · cases e; exact ⟨hlo, hd, hL⟩
    · exact h.elim
  · -- box
    rename_i T x ho
    have hlo : locOp F o = true := by
      unfold kindO at hk; rw [ho] at hk; simp only at hk
      cases hl : locOp F o with
      | true => rfl
      | false => rw [hl] at hk; cases hk
    split at h
    · rename_i val hx
      obtain ⟨k, hd, hL, h1, h2⟩ := newK_calm (fun k e => by unfold locOp at hlo; rw [ho, e] at hlo; exact hlo) h
      refine ⟨_, .free, h1, trivial, fun u' V' _ K' hk => ?_, trivial, fun T x k off e => (by rw [ho] at e; cases e), fun t y e => ?_, fun k' T' cs' e => ?_, fun _ => ⟨_, _, _, rfl⟩⟩
      · simp only [ox, ho, hx]; exact h2 _ _ _ hk
      · cases e; exact hd
      · cases e; exact ⟨hlo, hd, hL⟩
    · rename_i val hx
      obtain ⟨k, hd, hL, h1, h2⟩ := newK_calm (fun k e => by unfold locOp at hlo; rw [ho, e] at hlo; exact hlo) h
      refine ⟨_, .free, h1, trivial, fun u' V' _ K' hk => ?_, trivial, fun T x k off e => (by rw [ho] at e; cases e), fun t y e => ?_, fun k' T' cs' e => ?_, fun _ => ⟨_, _, _, rfl⟩⟩
      · simp only [ox, ho, hx]; exact h2 _ _ _ hk
      · cases e; exact hd
      · cases e; exact ⟨hlo, hd, hL⟩
    · exact h.elim
  · rename_i T n parts ho; simp [kindO, ho] at hk
  · -- load
    rename_i T x ho
    obtain ⟨y, rd, h1, hc, h2, h3, h4⟩ := loadK_calm h
    obtain ⟨h5, h6⟩ := putK_lin h1
    refine ⟨_, rd, h5, hc, fun u' V' hc' K' hk => ?_, ?_, fun T' x' k off e hx => ?_, fun t y e => dl_e e, fun k T cs e => (by cases h : o.dst <;> rw [h] at e <;> cases e), fun h => (by simp [locOp, ho] at h)⟩
    · simp only [ox, ho]; exact h2 _ _ hc' _ (h6 _ hk)
    · rcases h3 with ⟨k, off, rfl, hx, hk0⟩ | ⟨ad, val, rfl, hx, rfl, hnt⟩
      · exact ⟨⟨T, x, off, ho, hx⟩, hk0⟩
      · exact ⟨T, x, ho, hx, fun t ht => ⟨val, by rw [ht]; rfl, rfl, hnt⟩⟩
    · rw [ho] at e; cases e; exact h4 k off hx
  · rename_i T a x ho; simp [kindO, ho] at hk
  · -- call
    rename_i f args ats ho
    unfold callK at h
    split at h
    · rename_i fid first caps as hf has
      have hk0 := hk
      unfold kindO at hk
      rw [ho] at hk
      simp only [hf] at hk
      cases hb : (isFunc f).and (Bool.not (X.ro fid)) with
      | true => rw [hb] at hk; cases hk
      | false =>
        rw [hb] at h
        simp only at h
        obtain ⟨x, h1, h2⟩ := h
        obtain ⟨h5, h6⟩ := putK_lin h2
        refine ⟨_, .ro _ _ _, h5, h1, fun u' V' hc' K' hk => ?_, ⟨⟨f, args, ats, ho⟩, hk0⟩, fun T x k off e => (by rw [ho] at e; cases e), fun t y e => dl_e e, fun k T cs e => (by cases h : o.dst <;> rw [h] at e <;> cases e), fun h => (by simp [locOp, ho] at h)⟩
        simp only [ox, ho, callK, hf, has, hb]
        exact ⟨x, hc', h6 _ hk⟩
    · exact h.elim
  · rename_i args ats ho; simp [kindO, ho] at hk
  · rename_i args ats ho; simp [kindO, ho] at hk
  · rename_i args ats ho; simp [kindO, ho] at hk
  · rename_i args ats ho; simp [kindO, ho] at hk
  · -- len
    rename_i x ats ho
    split at h
    · rename_i m hx; simp [kindO, ho, hx] at hk
    · rename_i hx
      refine pxc (fun K u V => ?_) (fun T x e => by rw [ho] at e; cases e) (by simp [locOp, ho])
      simp only [ox, ho]
  · rename_i T m i ok ho; simp [kindO, ho] at hk
  · rename_i T ho; simp [kindO, ho] at hk
  · rename_i T l c ho; simp [kindO, ho] at hk
  · rename_i T x ho; simp [kindO, ho] at hk
  · rename_i it s ho; simp [kindO, ho] at hk
  · rename_i T m k x ho; simp [kindO, ho] at hk
  · -- convert
    rename_i src dst x ho
    split at h
    · rename_i s d b hs hd hx; simp [kindO, ho, hx] at hk
    · rename_i s d b n c hs hd hx; simp [kindO, ho, hx] at hk
    · refine pxc (fun K u V => ?_) (fun T x e => by rw [ho] at e; cases e) (by simp [locOp, ho])
      simp only [ox, ho]
  · refine pxc (fun K u V => ?_) (fun T x e => by simp_all) (by cases hl : locOp F o with | false => rfl | true => rcases locOp_op hl with ⟨T, h⟩ | ⟨T, x, h⟩ <;> simp_all)
    simp only [ox]
end
end Go.Sx

-- SxDraw
namespace Go.Sx
open Go.RowKit
section
variable {P : Program} {G : Gh} {X : Ctx P} {F : Fn} {S M : St} {o : Oper} {u : World} {V : VP} {rk : List Nat} {ops : List Oper}

theorem newK_congr {d : Option Nat} {T : Nat} {cs : List Value} {K : KD} (h : ∀ k, d = some k → memN F.locs k = true → isNoneL (M.L k) = isNoneL (S.L k)) : newK F rk d T cs M u V K = newK F rk d T cs S u V K := by
  cases d with
  | none => rfl
  | some k =>
    unfold newK
    cases hm : memN F.locs k with
    | true => simp only [hm, h k rfl hm]
    | false => simp only [hm]
theorem loadK_congr {T : Nat} {a : SV} {K : SV → Prop} (h : ∀ k off, a = .s (.loc k off) → M.L k = S.L k) : loadK X T a M u V K = loadK X T a S u V K := by
  cases a with
  | tup l => rfl
  | s y =>
    cases y with
    | loc k off => have := h k off rfl; simp only [loadK, this]
    | v y => cases y <;> rfl
    | err e => rfl
    | any => rfl
theorem storeK_congr {T : Nat} {a x : SV} {K : KD} (h : ∀ k off, a = .s (.loc k off) → M.L k = S.L k) : storeK X rk T a x M u V K = storeK X rk T a x S u V K := by
  cases a with
  | tup l => rfl
  | s y =>
    cases y with
    | loc k off => have := h k off rfl; simp only [storeK, this]
    | v y => cases y <;> rfl
    | err e => rfl
    | any => rfl

theorem ox_congr {K : KD} (h : ∀ y ∈ opds o.op, ev M y = ev S y) (hL : ∀ y k off, ((∃ T, o.op = .load T y) ∨ (∃ T x, o.op = .store T y x)) → ev S y = .s (.loc k off) → M.L k = S.L k)
    (hN : ∀ k, o.dst = some k → locOp F o = true → isNoneL (M.L k) = isNoneL (S.L k)) : ox X F rk o M u V K = ox X F rk o S u V K := by
  unfold ox
  split
  · rename_i T ho
    have hn : ∀ T cs K, newK F rk o.dst T cs M u V K = newK F rk o.dst T cs S u V K := fun T cs K => newK_congr fun k e hm => hN k e (by unfold locOp; rw [ho, e]; exact hm)
    simp only [hn]
  · rename_i T x ho
    have hn : ∀ T cs K, newK F rk o.dst T cs M u V K = newK F rk o.dst T cs S u V K := fun T cs K => newK_congr fun k e hm => hN k e (by unfold locOp; rw [ho, e]; exact hm)
    rw [ho] at h; rw [h x (by simp [opds])]
    simp only [hn]
  · rename_i T n parts ho
    rw [ho] at h
    have : ∀ sz cs K, fillS sz M parts.toList cs K = fillS sz S parts.toList cs K := fun sz cs K => fillS_congr _ (fun y hy => h y (by simp [opds, hy])) _ _
    simp only [this]
  · rename_i T x ho
    rw [ho] at h
    rw [h x (by simp [opds])]
    exact loadK_congr fun k off e => hL x k off (.inl ⟨T, ho⟩) e
  · rename_i T x y ho
    rw [ho] at h
    rw [h x (by simp [opds]), h y (by simp [opds])]
    have : ∀ K, storeK X rk T (ev S x) (ev S y) M u V K = storeK X rk T (ev S x) (ev S y) S u V K := fun K => storeK_congr fun k off e => hL x k off (.inr ⟨T, y, ho⟩) e
    simp only [this]
  · rename_i f args ats ho
    rw [ho] at h
    unfold callK
    rw [h f (by simp [opds]), vals_congr args.toList (fun y hy => h y (by simp only [opds, List.mem_cons]; exact .inr hy))]
  · rename_i args ats ho
    rw [ho] at h; rw [valsV_congr args.toList (fun y hy => h y (by simp only [opds]; exact hy))]
  · rename_i args ats ho
    rw [ho] at h; rw [valsV_congr args.toList (fun y hy => h y (by simp only [opds]; exact hy))]
  · rename_i args ats ho
    rw [ho] at h; rw [valsV_congr args.toList (fun y hy => h y (by simp only [opds]; exact hy))]
  · rename_i args ats ho
    rw [ho] at h; rw [valsV_congr args.toList (fun y hy => h y (by simp only [opds]; exact hy))]
  · rename_i x ats ho
    have := fun K => px_congr (X := X) (K := K) h
    rw [ho] at h
    rw [h x (by simp [opds])]
    simp only [this]
  · rename_i T m i ok ho
    rw [ho] at h; rw [valsV_congr [m, i] (fun y hy => h y (by simp only [opds]; exact hy))]
  · rfl
  · rename_i T l c ho
    rw [ho] at h; rw [valsV_congr [l, c] (fun y hy => h y (by simp only [opds]; exact hy))]
  · rename_i T x ho
    rw [ho] at h; rw [valsV_congr [x] (fun y hy => h y (by simp only [opds]; exact hy))]
  · rename_i it s ho
    rw [ho] at h; rw [valsV_congr [it] (fun y hy => h y (by simp only [opds]; exact hy))]
  · rename_i T m k x ho
    rw [ho] at h; rw [valsV_congr [m, k, x] (fun y hy => h y (by simp only [opds]; exact hy))]
  · rename_i src dst x ho
    have := fun K => px_congr (X := X) (K := K) h
    rw [ho] at h
    rw [h x (by simp [opds])]
    simp only [this]
  · exact px_congr h

/-! ### an op with its guard -/
variable (X F) in
def gxd (ops : List Oper) (rk : List Nat) (o : Oper) (st : St) (u : World) (V : VP) (K : KD) : Prop :=
  match o.guard with
  | none => ox X F rk o st u V K
  | some (j, want) => (match getN ops j with
    | some oj => (match oj.dst with
      | some t => (match st.env t with
        | .s (.v (.bool b)) =>
          (match want with
          | true => IfB b (ox X F rk o st u V K) (putK F o.dst (.s (.v undef)) fun δ => K δ u V)
          | false => IfB b (putK F o.dst (.s (.v undef)) fun δ => K δ u V) (ox X F rk o st u V K))
        | .s (.v (.tuple _)) => putK F o.dst (.s (.v undef)) fun δ => K δ u V
        | _ => False)
      | none => False)
    | none => False)

theorem gx_iff {K : KT} : gx X F ops rk o S u V K ↔ gxd X F ops rk o S u V fun δ u V => K (S.app δ) u V := by
  unfold gx gxd
  cases hg : o.guard with
  | none => exact Iff.rfl
  | some g =>
    obtain ⟨j, want⟩ := g
    simp only
    cases hj : getN ops j with
    | none => exact Iff.rfl
    | some oj =>
      simp only
      cases hd : oj.dst with
      | none => exact Iff.rfl
      | some t =>
        simp only
        cases he : S.env t with
        | tup l => exact Iff.rfl
        | s y =>
          cases y with
          | loc k off => exact Iff.rfl
          | err e => exact Iff.rfl
          | any => exact Iff.rfl
          | v y =>
            cases y <;> try exact Iff.rfl
            rename_i b
            cases want <;> cases b <;> simp only [IfB] <;> rw [set_self _ _ _ he]

theorem tmpsOf_mem {l : List Operand} {t : Nat} (h : Operand.tmp t ∈ l) : t ∈ tmpsOf l := by
  induction l with
  | nil => cases h
  | cons x l ih =>
    cases h with
    | head => simp [tmpsOf]
    | tail _ h => cases x <;> simp [tmpsOf, ih h]
theorem ev_agree (h : ∀ t ∈ looks ops o, M.env t = S.env t) : ∀ y ∈ opds o.op, ev M y = ev S y := by
  intro y hy
  cases y with
  | tmp t => exact h t (List.mem_append_right _ (tmpsOf_mem hy))
  | const v => rfl
  | global g => rfl
  | func f => rfl

theorem gxd_congr {K : KD} (h : ∀ t ∈ looks ops o, M.env t = S.env t) (hL : ∀ y k off, ((∃ T, o.op = .load T y) ∨ (∃ T x, o.op = .store T y x)) → ev S y = .s (.loc k off) → M.L k = S.L k)
    (hN : ∀ k, o.dst = some k → locOp F o = true → isNoneL (M.L k) = isNoneL (S.L k)) : gxd X F ops rk o M u V K = gxd X F ops rk o S u V K := by
  have he := ox_congr (X := X) (F := F) (rk := rk) (u := u) (V := V) (K := K) (ev_agree h) hL hN
  unfold gxd
  rw [he]
  cases hg : o.guard with
  | none => rfl
  | some g =>
    obtain ⟨j, want⟩ := g
    simp only
    cases hj : getN ops j with
    | none => rfl
    | some oj =>
      simp only
      cases hd : oj.dst with
      | none => rfl
      | some t =>
        simp only
        rw [h t (List.mem_append_left _ (by simp [guardL, hg, hj, hd]))]

/-! ### what every step keeps to -/
variable (X F) in
structure Good (o : Oper) (S : St) (u : World) (V : VP) (δ : Dl) (u' : World) (V' : VP) : Prop where
  e : ∀ t x, δ.e = some (t, x) → o.dst = some t
  l : ∀ k T cs, δ.l = some (k, T, cs) → (locOp F o = true ∧ o.dst = some k ∧ S.L k = none) ∨ storeKey S o = some k
  x : kindO X F S o ≠ 2 → Ext u V u' V'

theorem good_dl {x : SV} : Good X F o S u V (dl o.dst x) u V :=
  ⟨fun t y e => dl_e e, fun k T cs e => (by cases h : o.dst <;> rw [h] at e <;> cases e), fun _ => .inl ⟨rfl, rfl⟩⟩
theorem good_dlx {x : SV} {u' : World} {V' : VP} (h : kindO X F S o ≠ 2 → Ext u V u' V') : Good X F o S u V (dl o.dst x) u' V' :=
  ⟨fun t y e => dl_e e, fun k T cs e => (by cases h : o.dst <;> rw [h] at e <;> cases e), h⟩
theorem ext_alloc {w : World} (h : Rel V u w) (ob : Obj) : Ext u V (w.alloc ob) (Vn V w (w.alloc ob)) := .inr ⟨fun b hb => .inl hb, h.alloc ob⟩

theorem putK_good {x : SV} {u' : World} {V' : VP} {K K' : KD} (hm : ∀ δ u' V', K δ u' V' → Good X F o S u V δ u' V' → K' δ u' V') (h : kindO X F S o ≠ 2 → Ext u V u' V') (hK : putK F o.dst x fun δ => K δ u' V') :
    putK F o.dst x fun δ => K' δ u' V' := by
  obtain ⟨h1, h2⟩ := putK_lin hK
  exact h2 _ (hm _ _ _ h1 (good_dlx h))

theorem newK_good {T : Nat} {cs : List Value} {K K' : KD} (hm' : ∀ δ u' V', K δ u' V' → Good X F o S u V δ u' V' → K' δ u' V') (hlo : ∀ k, o.dst = some k → memN F.locs k = true → locOp F o = true) (h : newK F rk o.dst T cs S u V K) :
    newK F rk o.dst T cs S u V K' := by
  unfold newK at h ⊢
  cases hd : o.dst with
  | none => rw [hd] at h; exact h
  | some k =>
    rw [hd] at h
    simp only at h ⊢
    split at h
    · exact h.elim
    · split at h
      · rename_i hm
        split at h
        · rename_i hb
          simp only [Bool.and_eq_true] at hb
          try simp only [hb]
          refine hm' _ _ _ h ⟨fun t x e => (by cases e; exact hd), fun k' T' cs' e => ?_, fun _ => .inl ⟨rfl, rfl⟩⟩
          cases e
          exact .inl ⟨hlo k hd hm, hd, isNoneL_iff.1 hb.2⟩
        · exact h.elim
      · intro w hw
        exact hm' _ _ _ (h w hw) ⟨fun t x e => (by cases e; exact hd), fun k' T' cs' e => (by cases e), fun _ => ext_alloc hw _⟩

theorem ox_good {K K' : KD} (hm : ∀ δ u' V', K δ u' V' → Good X F o S u V δ u' V' → K' δ u' V') (h : ox X F rk o S u V K) : ox X F rk o S u V K' := by
  have pxg : (px X o S fun x => putK F o.dst x fun δ => K δ u V) → px X o S fun x => putK F o.dst x fun δ => K' δ u V := by
    intro h
    obtain ⟨x, h1, h2⟩ := px_lin h
    exact h2 _ (putK_good hm (fun _ => .inl ⟨rfl, rfl⟩) h1)
  have opg : ∀ vs sem, kindO X F S o = 2 → ox.opv X F o u V K vs sem → ox.opv X F o u V K' vs sem := by
    intro vs sem h2 h
    unfold ox.opv at h ⊢
    split at h
    · intro w hw
      obtain ⟨x, w', h3, h4, h5⟩ := h w hw
      exact ⟨x, w', h3, h4, putK_good hm (fun hn => absurd h2 hn) h5⟩
    · exact h
  unfold ox at h ⊢
  split at h
  · rename_i T ho
    split at h
    · exact newK_good hm (fun k hd hm => by unfold locOp; rw [ho, hd]; exact hm) h
    · exact h
  · rename_i T x ho
    split at h
    · exact newK_good hm (fun k hd hm => by unfold locOp; rw [ho, hd]; exact hm) h
    · exact newK_good hm (fun k hd hm => by unfold locOp; rw [ho, hd]; exact hm) h
    · exact h
  · rename_i T n parts ho
    split at h
    · split at h
      · split at h
        · split at h
          · obtain ⟨cs, h1, h2⟩ := fillS_lin _ h
            exact h2 _ fun w hw => putK_good hm (fun _ => ext_alloc hw _) (h1 w hw)
          · exact h
        · exact h
      · exact h
    · exact h
  · rename_i T x ho
    obtain ⟨y, rd, h1, hc, h2, _, _⟩ := loadK_calm h
    exact h2 _ _ hc _ (putK_good hm (fun _ => .inl ⟨rfl, rfl⟩) h1)
  · rename_i T x y ho
    have hk : kindO X F S o = 2 := by simp [kindO, ho]
    split at h
    · rename_i hd
      unfold storeK at h ⊢
      split at h
      · split at h
        · exact h
        · split at h
          · rename_i k off hx
            split at h
            · split at h
              · exact hm _ _ _ h ⟨fun t x e => (by cases e), fun k' T' cs' e => (by cases e; exact .inr (by simp [storeKey, ho, hx])), fun hn => absurd hk hn⟩
              · exact h
            · exact h
          · rename_i p hx
            cases p with
            | none => exact h
            | some ad => exact fun w hw => ⟨(h w hw).1, hm _ _ _ (h w hw).2 ⟨fun t x e => (by cases e), fun k' T' cs' e => (by cases e), fun hn => absurd hk hn⟩⟩
          · exact h
      · exact h
    · exact h
  · rename_i f args ats ho
    unfold callK at h ⊢
    split at h
    · rename_i fid first caps as hf has
      split at h
      · rename_i hb
        have hk : kindO X F S o = 2 := by unfold kindO; rw [ho]; simp only [hf, hb]
        refine ⟨h.1, fun w hw => Calls.mono (h.2 w hw) ?_⟩
        rintro e w' ⟨x, h1, h2, h3⟩
        exact ⟨x, h1, h2, putK_good hm (fun hn => absurd hk hn) h3⟩
      · obtain ⟨x, h1, h2⟩ := h
        exact ⟨x, h1, putK_good hm (fun _ => .inl ⟨rfl, rfl⟩) h2⟩
    · exact h
  · rename_i args ats ho; exact opg _ _ (by simp [kindO, ho]) h
  · rename_i args ats ho; exact opg _ _ (by simp [kindO, ho]) h
  · rename_i args ats ho; exact opg _ _ (by simp [kindO, ho]) h
  · rename_i args ats ho; exact opg _ _ (by simp [kindO, ho]) h
  · rename_i x ats ho
    split at h
    · rename_i m hx; exact opg _ _ (by simp [kindO, ho, hx]) h
    · exact pxg h
  · rename_i T m i ok ho; exact opg _ _ (by simp [kindO, ho]) h
  · rename_i T ho; exact opg _ _ (by simp [kindO, ho]) h
  · rename_i T l c ho; exact opg _ _ (by simp [kindO, ho]) h
  · rename_i T x ho; exact opg _ _ (by simp [kindO, ho]) h
  · rename_i it s ho; exact opg _ _ (by simp [kindO, ho]) h
  · rename_i T m k x ho
    split at h
    · intro w hw
      obtain ⟨w', h1, h2, h3⟩ := h w hw
      exact ⟨w', h1, h2, putK_good hm (fun hn => absurd (by simp [kindO, ho]) hn) h3⟩
    · exact h
  · rename_i src dst x ho
    split at h
    · rename_i s d b hs hd hx
      split at h
      · exact opg _ _ (by simp [kindO, ho, hx]) h
      · exact h
    · rename_i s d b n c hs hd hx
      split at h
      · exact opg _ _ (by simp [kindO, ho, hx]) h
      · exact h
    · exact pxg h
  · exact pxg h

theorem gxd_good {K K' : KD} (hm : ∀ δ u' V', K δ u' V' → Good X F o S u V δ u' V' → K' δ u' V') (h : gxd X F ops rk o S u V K) : gxd X F ops rk o S u V K' := by
  have pg : ∀ {x}, (putK F o.dst x fun δ => K δ u V) → putK F o.dst x fun δ => K' δ u V := fun h => putK_good hm (fun _ => .inl ⟨rfl, rfl⟩) h
  unfold gxd at h ⊢
  split at h
  · exact ox_good hm h
  · split at h
    · split at h
      · split at h
        · rename_i b hb
          split at h <;> cases b <;> simp only [IfB] at h ⊢ <;> first | exact ox_good hm h | exact pg h
        · exact pg h
        · exact h
      · exact h
    · exact h
end
end Go.Sx
