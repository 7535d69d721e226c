/-
  Contracts of functions that this claim reaches. Conditions: those of the statement alone.
-/
import Derived.Test.YtnjnpfhgblcgnaaDoorWa6
set_option linter.unusedVariables false
set_option linter.unusedSimpArgs false
namespace Go.Sx

def SideOk (o : Order) : Prop := o.Side = 1 ∨ o.Side = 2
theorem wakes_iff {o : Order} (h : SideOk o) (p : Int) : p_wake_wakes o p = true ↔ (o.Side = 1 ∧ o.Stop ≤ p) ∨ (o.Side = 2 ∧ o.Stop ≥ p) := by
  unfold p_wake_wakes p_tick_Ahead
  rcases h with h | h
  · simp only [h]
    by_cases h1 : o.Stop = p
    · simp [h1]
    · simp [h1]; omega
  · simp only [h]
    by_cases h1 : o.Stop = p
    · simp [h1]
    · simp [h1]; omega
/-- the document's choice -/
def Best (wk : Order → Bool) (cur : List Order) (i : Nat) (t : Int) : Prop :=
  (t = -1 ∧ ∀ j (hj : j < cur.length), j < i → wk cur[j] = false) ∨
  ∃ (b : Nat) (hb : b < cur.length), t = b ∧ b < i ∧ wk cur[b] = true ∧ (∀ j (hj : j < cur.length), j < b → wk cur[j] = true → wlt cur[b] cur[j] = true) ∧ (∀ j (hj : j < cur.length), b < j → j < i → wk cur[j] = true → wlt cur[j] cur[b] = false)
theorem Best.skip {wk : Order → Bool} {cur : List Order} {i : Nat} {t : Int} (h : Best wk cur i t) (hi : i < cur.length) (hw : wk cur[i] = false) : Best wk cur (i + 1) t := by
  rcases h with ⟨h1, h2⟩ | ⟨b, hb, h1, h2, h3, h4, h5⟩
  · refine .inl ⟨h1, fun j hj hji => ?_⟩
    rcases Nat.lt_succ_iff_lt_or_eq.1 hji with h | rfl
    · exact h2 j hj h
    · exact hw
  · refine .inr ⟨b, hb, h1, by omega, h3, h4, fun j hj h6 h7 h8 => ?_⟩
    rcases Nat.lt_succ_iff_lt_or_eq.1 h7 with h | rfl
    · exact h5 j hj h6 h h8
    · rw [hw] at h8; cases h8
theorem Best.first {wk : Order → Bool} {cur : List Order} {i : Nat} {t : Int} (h : Best wk cur i t) (hi : i < cur.length) (hw : wk cur[i] = true) (ht : t < 0) : Best wk cur (i + 1) i := by
  rcases h with ⟨h1, h2⟩ | ⟨b, hb, h1, h2, h3, h4, h5⟩
  · refine .inr ⟨i, hi, rfl, by omega, hw, fun j hj hji hwj => ?_, fun j hj h6 h7 => by omega⟩
    rw [h2 j hj hji] at hwj; cases hwj
  · omega
theorem Best.better {wk : Order → Bool} {cur : List Order} {i b : Nat} (h : Best wk cur i b) (hi : i < cur.length) (hbl : b < cur.length) (hw : wk cur[i] = true) (hl : wlt cur[i] cur[b] = true) : Best wk cur (i + 1) i := by
  rcases h with ⟨h1, h2⟩ | ⟨b', hb, h1, h2, h3, h4, h5⟩
  · omega
  · obtain rfl : b = b' := by omega
    refine .inr ⟨i, hi, rfl, by omega, hw, fun j hj hji hwj => ?_, fun j hj h6 h7 => by omega⟩
    rcases Nat.lt_trichotomy j b with h6 | rfl | h6
    · exact swo_wlt.tr _ _ _ hl (h4 j hj h6 hwj)
    · exact hl
    · have h7 := h5 j hj h6 hji hwj
      cases h8 : wlt cur[i] cur[j] with
      | true => rfl
      | false => have := swo_wlt.nt _ _ _ h8 h7; rw [hl] at this; cases this
theorem Best.keep {wk : Order → Bool} {cur : List Order} {i b : Nat} (h : Best wk cur i b) (hi : i < cur.length) (hbl : b < cur.length) (hl : wlt cur[i] cur[b] = false) : Best wk cur (i + 1) b := by
  rcases h with ⟨h1, h2⟩ | ⟨b', hb, h1, h2, h3, h4, h5⟩
  · omega
  · obtain rfl : b = b' := by omega
    refine .inr ⟨b, hb, rfl, by omega, h3, h4, fun j hj h6 h7 h8 => ?_⟩
    rcases Nat.lt_succ_iff_lt_or_eq.1 h7 with h | rfl
    · exact h5 j hj h6 h h8
    · exact hl
theorem Best.none {wk : Order → Bool} {cur : List Order} {t : Int} (h : Best wk cur cur.length t) (ht : t < 0) : cur.filter wk = [] ∧ cur.filter (fun o => !wk o) = cur := by
  rcases h with ⟨h1, h2⟩ | ⟨b, hb, h1, h2, h3, h4, h5⟩
  · have h3 : ∀ o ∈ cur, wk o = false := fun o ho => by
      obtain ⟨j, hj, rfl⟩ := List.getElem_of_mem ho
      exact h2 j hj hj
    exact ⟨List.filter_eq_nil_iff.2 fun o ho => by simp [h3 o ho], List.filter_eq_self.2 fun o ho => by simp [h3 o ho]⟩
  · omega
theorem Best.some {wk : Order → Bool} {cur : List Order} {t : Int} (h : Best wk cur cur.length t) (ht : ¬ t < 0) :
    ∃ (b : Nat) (hb : b < cur.length), t = b ∧ wk cur[b] = true ∧ isort wlt (cur.filter wk) = cur[b] :: isort wlt ((cur.eraseIdx b).filter wk) ∧ cur.filter (fun o => !wk o) = (cur.eraseIdx b).filter (fun o => !wk o) := by
  rcases h with ⟨h1, h2⟩ | ⟨b, hb, h1, h2, h3, h4, h5⟩
  · omega
  · refine ⟨b, hb, h1, h3, ?_, ?_⟩
    · have hc : cur = cur.take b ++ cur[b] :: cur.drop (b + 1) := by rw [← List.drop_eq_getElem_cons hb, List.take_append_drop]
      rw [eraseIdx_split]
      conv => lhs; rw [hc]
      rw [List.filter_append, List.filter_append, List.filter_cons_of_pos h3]
      refine isort_sel (fun x hx => ?_) fun x hx => ?_
      · rw [List.mem_filter] at hx
        obtain ⟨j, hj, rfl⟩ := List.getElem_of_mem hx.1
        have hj' : j < b := by simp at hj; omega
        rw [List.getElem_take]
        have h6 := hx.2
        rw [List.getElem_take] at h6
        exact h4 j (by omega) hj' h6
      · rw [List.mem_filter] at hx
        obtain ⟨j, hj, rfl⟩ := List.getElem_of_mem hx.1
        rw [List.getElem_drop]
        have h6 := hx.2
        rw [List.getElem_drop] at h6
        simp only [List.length_drop] at hj
        exact h5 _ (by omega) (by omega) (by omega) h6
    · have hc : cur = cur.take b ++ cur[b] :: cur.drop (b + 1) := by rw [← List.drop_eq_getElem_cons hb, List.take_append_drop]
      rw [eraseIdx_split]
      conv => lhs; rw [hc]
      rw [List.filter_append, List.filter_append, List.filter_cons_of_neg (by simp [h3])]

theorem g_pitref2_Wake {u : World} {V S : VP} {s : Sl} {xs : List Order} (h : SlR Order.cells u S s xs) (hS : Sub S V) (price : Int) (hx : ∀ o ∈ xs, SideOk o) (hm : xs.length ≤ 20) :
    GC PP F_pitref2_Wake [.slice s.a s.len s.cap, .int .i64 price] u V (fun x => gval errT ((Enc.t2 eSl eSl).enc x)) (Out Nix S u V fun x u' S' => SlR Order.cells u' S' x.1 ((isort wlt (xs.filter (fun o => p_wake_wakes o price))).map noStop) ∧ SlR Order.cells u' S' x.2 (xs.filter (fun o => !p_wake_wakes o price))) := by
  refine s_pitref2_Wake s price u V _ ?_
  generalize hwk : (fun o => p_wake_wakes o price) = wk
  have hwk' : (fun o => !p_wake_wakes o price) = fun o => !wk o := by rw [← hwk]
  rw [hwk']
  have hwv : ∀ o, SideOk o → (wk o = true ↔ (o.Side = 1 ∧ o.Stop ≤ price) ∨ (o.Side = 2 ∧ o.Stop ≥ price)) := fun o ho => by rw [← hwk]; exact wakes_iff ho price
  have hloc : Loc (fun (x : Sl × Sl) u' (S' : VP) => SlR Order.cells u' S' x.1 ((isort wlt (xs.filter wk)).map noStop) ∧ SlR Order.cells u' S' x.2 (xs.filter fun o => !wk o)) := fun x u u' S h hs => ⟨h.1.same hs, h.2.same hs⟩
  unfold vc_pitref2_Wake
  refine LoopN.st (fun (t : Sl × Sl) u' V' => ∃ (cur outs : List Order) (S1 : VP), SlR Order.cells u' S1 t.1 cur ∧ Own Order.cells 8 T_Order u' t.2 outs ∧ Sub S1 V' ∧ Sub (sb t.2) V' ∧ (∀ b, S1 b → S b ∨ ¬ V b) ∧ Dis (sb t.2) V ∧ Dis (sb t.2) S1 ∧ Upd Nix u V u' V' ∧ (∀ o ∈ cur, SideOk o) ∧ outs.length + cur.length ≤ 20 ∧
      outs ++ (isort wlt (cur.filter wk)).map noStop = (isort wlt (xs.filter wk)).map noStop ∧ cur.filter (fun o => !wk o) = xs.filter fun o => !wk o) (fun t => t.1.len)
    ⟨xs, [], S, h, Own.nil _ _ _ _, hS, fun b hb => (sb_nil _ hb).elim, fun b hb => .inl hb, fun b hb => (sb_nil _ hb).elim, fun b hb => (sb_nil _ hb).elim, Upd.refl _ _ _, hx, by simpa using hm, rfl, rfl⟩ ?_
  rintro ⟨sl, out⟩ u1 V1 ⟨cur, outs, S1, hR, hO, hS1, hVo, hS1o, hDo, hD1, hU, hside, hcnt, heq, hleft⟩ next4 hn4
  simp only at hR hO hVo hDo hD1
  have hlen := hR.len
  refine LoopN.st (fun (t : Int × Int) u' V' => u' = u1 ∧ V' = V1 ∧ ∃ i : Nat, t.2 = i ∧ i ≤ cur.length ∧ Best wk cur i t.1) (fun t => cur.length - t.2.toNat)
    ⟨rfl, rfl, 0, rfl, Nat.zero_le _, .inl ⟨rfl, fun j hj h => by omega⟩⟩ ?_
  rintro ⟨best, _⟩ uu VV ⟨rfl, rfl, i, rfl, hi, hB⟩ next8 hn8
  simp only at hB
  refine ifB (fun hb => ?_) (fun hb => ?_)
  · have hlt : i < cur.length := by have := of_decide_eq_true hb; simp only at this; omega
    have hsi := hside _ (List.getElem_mem hlt)
    have step : ∀ t : Int, Best wk cur (i + 1) t → Rng ((i : Int) + 1) ∧ next8 (t, (i : Int) + 1) uu VV := fun t ht =>
      ⟨rng_nat (by omega), hn8 (t, (i : Int) + 1) _ _ ⟨rfl, rfl, i + 1, rfl, by omega, ht⟩ (by simp only; omega)⟩
    refine hR.ixN co_Order.len hlt fun ad9 _ hat9 => ⟨_, hat9.sub hS1, ?_⟩
    refine joinI fun Kj hKj => ?_
    have skip : wk cur[i] = false → Kj true uu VV := fun hw => hKj _ _ _ (ifT (step _ (hB.skip hlt hw)))
    have go : wk cur[i] = true → Kj false uu VV := by
      intro hw
      refine hKj _ _ _ ?_
      refine ifF ?_
      refine ifB (fun hb2 => ?_) (fun hb2 => ?_)
      · exact step _ (hB.first hlt hw (of_decide_eq_true hb2))
      · have hnn := of_decide_eq_false hb2
        obtain ⟨b, hbl, rfl⟩ : ∃ (b : Nat), b < cur.length ∧ best = b := by
          rcases hB with ⟨h1, _⟩ | ⟨b, hb, h1, _⟩
          · simp only at hnn; omega
          · exact ⟨b, hb, h1⟩
        have hsb := hside _ (List.getElem_mem hbl)
        refine hR.ixN co_Order.len hbl fun ad15 _ hat15 => ⟨_, hat15.fld hS1 rfl, ?_⟩
        refine ifB (fun hb3 => ?_) (fun hb3 => ?_)
        · have h3 := of_decide_eq_true hb3
          exact step _ (hB.better hlt hbl hw (by rw [wlt_iff]; exact .inl h3))
        · have h3 := of_decide_eq_false hb3
          refine hR.ixN co_Order.len hbl fun ad17 _ hat17 => ⟨_, hat17.fld hS1 rfl, ?_⟩
          refine ifB (fun hb4 => ?_) (fun hb4 => ?_)
          · have h4 : cur[i].Side = cur[b].Side := by simpa using hb4
            refine hR.ixN co_Order.len hbl fun ad19 _ hat19 => ⟨_, hat19.fld hS1 rfl, _, r_pitref1_Ahead _ _ _ _ _, ?_⟩
            unfold SideOk at hsi hsb
            refine ifB (fun hb5 => ?_) (fun hb5 => ?_)
            · refine step _ (hB.better hlt hbl hw ?_)
              rw [wlt_iff]
              unfold p_pitref1_Ahead at hb5
              rcases hsi with e | e <;> simp [e] at hb5 <;> omega
            · refine step _ (hB.keep hlt hbl ?_)
              rw [wlt_false]
              unfold p_pitref1_Ahead at hb5
              rcases hsi with e | e <;> simp [e] at hb5 <;> omega
          · have h4 : cur[i].Side ≠ cur[b].Side := by simpa using hb4
            exact step _ (hB.keep hlt hbl (by rw [wlt_false]; omega))
    have hwi := hwv _ hsi
    refine ifB (fun hb2 => ?_) (fun hb2 => ?_)
    · have e1 : cur[i].Side = 1 := by simpa using hb2
      refine ifB (fun hb3 => ?_) (fun hb3 => ?_)
      · have h3 := of_decide_eq_true hb3
        exact skip (by rw [← Bool.not_eq_true, hwi]; omega)
      · have h3 := of_decide_eq_false hb3
        refine ifB (fun hb4 => ?_) (fun hb4 => ?_)
        · have e2 : cur[i].Side = 2 := by simpa using hb4
          omega
        · exact go (by rw [hwi]; omega)
    · have e1 : cur[i].Side ≠ 1 := by simpa using hb2
      have e2 : cur[i].Side = 2 := hsi.resolve_left e1
      refine ifB (fun hb3 => ?_) (fun hb3 => ?_)
      · by_cases h3 : cur[i].Stop < price
        · rw [decide_eq_true h3]
          exact skip (by rw [← Bool.not_eq_true, hwi]; omega)
        · rw [decide_eq_false h3]
          exact go (by rw [hwi]; omega)
      · simp [e2] at hb3
  · have hil : i = cur.length := by have := of_decide_eq_false hb; simp only at this; omega
    subst hil
    refine ifB (fun hb2 => ?_) (fun hb2 => ?_)
    · obtain ⟨h1, h2⟩ := hB.none (of_decide_eq_true hb2)
      refine Out.fin hloc ⟨hU, Or2 S1 (sb out), hS1.or hVo, ?_, ?_, ?_⟩
      · rintro b (hb | hb)
        · exact hS1o b hb
        · exact .inr (hDo b hb)
      · rw [h1] at heq
        rw [← heq]
        simpa [isort] using hO.toR.sub fun b hb => .inr hb
      · rw [← hleft, h2]
        exact hR.sub fun b hb => .inl hb
    · obtain ⟨b, hbl, rfl, hw, h1, h2⟩ := hB.some (of_decide_eq_false hb2)
      refine hR.ixN co_Order.len hbl fun ad22 _ hat22 => ⟨_, hat22.sub hS1, ?_⟩
      refine NewC.mk fun b1 u2 V2 hbd hge hcell hsub hb1 hbd' hrel => ?_
      have hN : Own Order.cells 8 T_Order u2 ⟨some ⟨b1, 0, none⟩, 1, 1⟩ [noStop cur[b]] := Own.new co_Order.len (by simpa [noStop] using hcell) rfl (by simp)
      refine opv_append (s := out) (r := ⟨some ⟨b1, 0, none⟩, 1, 1⟩) ty_Sl_Order co_Order (hO.same (same_rel hrel hVo)) (hVo.trans hsub) hN.toR (fun b hb => by rw [sb_iff] at hb; subst hb; exact hb1) _ (by simp only [List.length_singleton]; omega) (by simp only [List.length_singleton]; omega) ?_
      intro s2 u3 V3 k1 k2 k3 k4 _
      have hfr : ∀ b, sb s2 b → sb out b ∨ ¬ VV b := fun b hb => (k4 b hb).imp (fun h => h) fun hx hv => hx (hsub _ hv)
      have hU3 : Upd Nix u V u3 V3 := (hU.trans (upd_new Nix hsub hrel) fun b hb => hb.elim).trans k2 fun b hb => .inr (hDo b hb)
      have hR3 : SlR Order.cells u3 S1 sl cur := (hR.same (same_rel hrel hS1)).same (k2.same (hS1.trans hsub) hD1.symm)
      refine (g_pitref2_Off hR3 ((hS1.trans hsub).trans k2.vis) hbl (by omega)).mono ?_
      rintro s4 u4 V4 _ ⟨j1, S4, j2, j3, j4, rfl⟩
      have hel := List.length_eraseIdx_of_lt hbl
      refine hn4 (s4, s2) _ _ ⟨cur.eraseIdx b, outs ++ [noStop cur[b]], sb s4, j4.toR, k1.same (j1.same0 k3), j2, k3.trans j1.vis, fun b hb => ?_, fun b hb => ?_, fun b hb hb' => ?_, hU3.trans j1 fun b hb => hb.elim, fun o ho => hside o (List.mem_of_mem_eraseIdx ho), ?_, ?_, ?_⟩ ?_
      · exact (j3 b hb).elim (fun h => h.elim) fun hx => .inr fun hv => hx (hU3.vis _ hv)
      · rcases hfr b hb with hb | hb
        · exact hDo b hb
        · exact fun hv => hb (hU.vis _ hv)
      · exact (j3 b hb').elim (fun h => h.elim) fun hx => hx (k3 _ hb)
      · simp only [List.length_append, List.length_singleton]; omega
      · rw [← heq, h1]; simp
      · rw [← h2, hleft]
      · have := j4.len; simp only; omega
end Go.Sx
