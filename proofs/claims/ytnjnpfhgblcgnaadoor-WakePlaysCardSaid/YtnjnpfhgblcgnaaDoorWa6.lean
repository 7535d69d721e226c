/-
  Contracts of functions that this claim reaches. Conditions: those of the statement alone.
-/
import Derived.Test.YtnjnpfhgblcgnaaDoorWa5
set_option linter.unusedVariables false
set_option linter.unusedSimpArgs false
namespace Go.Sx

/-! ### who wakes: the order -/
def wlt (a b : Order) : Bool := decide (wcmp a b < 0)
theorem cmp_int (x y : Int) : p_cmp_Compare_int x y = if x < y then -1 else if x > y then 1 else 0 := by
  unfold p_cmp_Compare_int p_cmp_isNaN_int
  by_cases h1 : x < y
  · simp [h1]
  · by_cases h2 : y < x
    · simp [h1, h2]
    · simp [h1, h2]
theorem cmp_lt (x y : Int) : p_cmp_Compare_int x y < 0 ↔ x < y := by
  rw [cmp_int]
  repeat' split
  all_goals omega
theorem cmp_eq (x y : Int) : p_cmp_Compare_int x y = 0 ↔ x = y := by
  rw [cmp_int]
  repeat' split
  all_goals omega
theorem wlt_iff (a b : Order) : wlt a b = true ↔ a.Side < b.Side ∨ (a.Side = b.Side ∧ ((a.Side = 1 ∧ a.Stop < b.Stop) ∨ (a.Side ≠ 1 ∧ b.Stop < a.Stop))) := by
  unfold wlt wcmp
  rw [decide_eq_true_iff]
  by_cases h1 : a.Side = b.Side
  · have e := (cmp_eq a.Side b.Side).2 h1
    by_cases h2 : a.Side = 1
    · rw [if_pos (.inr h2), if_neg (by omega), cmp_lt]; omega
    · rw [if_neg (by omega), cmp_lt]; omega
  · have e : ¬ p_cmp_Compare_int a.Side b.Side = 0 := fun e => h1 ((cmp_eq _ _).1 e)
    rw [if_pos (.inl h1), if_pos e, cmp_lt]; omega
theorem wlt_false (a b : Order) : wlt a b = false ↔ ¬ (a.Side < b.Side ∨ (a.Side = b.Side ∧ ((a.Side = 1 ∧ a.Stop < b.Stop) ∨ (a.Side ≠ 1 ∧ b.Stop < a.Stop)))) := by
  rw [← wlt_iff]; simp
theorem swo_wlt : SWO wlt where
  tr x y z h1 h2 := by rw [wlt_iff] at *; omega
  nt x y z h1 h2 := by rw [wlt_false] at *; omega
  irr x := by rw [wlt_false]; omega

def noStop (o : Order) : Order := { o with Stop := 0 }
/-- who wakes at a price: what is left, who woke, the fault -/
def wwake (l : List Order) (p : Int) : List Order × List Order × Option Int :=
  match p_tick_Price p with
  | some e => (l, [], some e)
  | none => (l.filter (fun o => !p_wake_wakes o p), (isort wlt (l.filter (fun o => p_wake_wakes o p))).map noStop, none)

theorem filter_take_succ {α : Type} (p : α → Bool) (xs : List α) (k : Nat) (hk : k < xs.length) : (xs.take (k + 1)).filter p = (xs.take k).filter p ++ (if p xs[k] then [xs[k]] else []) := by
  rw [List.take_succ_eq_append_getElem hk, List.filter_append]
  congr 1
  by_cases h : p xs[k] = true
  · simp [h]
  · simp [h]

theorem g_wake_Stops_Wake {u : World} {V S : VP} {s : Option Addr} {l : List Order} (h : StopsR u S s l) (hS : Sub S V) (price : Int) (hm : l.length ≤ 20) :
    GC PP F_wake_Stops_Wake [.pointer s, .int .i64 price] u V (fun x => gval errT ((Enc.t2 eSl Enc1.err).enc x)) (Out S S u V fun x u' S' => (∃ Ss, Sub Ss S' ∧ StopsR u' Ss s (wwake l price).1) ∧ (∃ So, Sub So S' ∧ SlR Order.cells u' So x.1 (wwake l price).2.1) ∧ x.2 = (wwake l price).2.2) := by
  refine s_wake_Stops_Wake s price u V _ ?_
  have hloc : Loc (fun (x : Sl × Option Int) u' (S' : VP) => (∃ Ss, Sub Ss S' ∧ StopsR u' Ss s (wwake l price).1) ∧ (∃ So, Sub So S' ∧ SlR Order.cells u' So x.1 (wwake l price).2.1) ∧ x.2 = (wwake l price).2.2) :=
    fun x u u' S ⟨⟨Ss, h1, h2⟩, ⟨So, h3, h4⟩, h5⟩ hs => ⟨⟨Ss, h1, h2.same (hs.sub h1)⟩, ⟨So, h3, h4.same (hs.sub h3)⟩, h5⟩
  unfold vc_wake_Stops_Wake
  refine ⟨_, r_tick_Price price u V, ?_⟩
  refine ifB (fun hb => ?_) (fun hb => ?_)
  · obtain ⟨e, he⟩ := Option.isSome_iff_exists.1 hb
    have hw : wwake l price = (l, [], some e) := by simp [wwake, he]
    exact Out.fin hloc ⟨Upd.refl _ _ _, S, hS, fun b hb => .inl hb, ⟨S, Sub.refl _, by rw [hw]; exact h⟩, ⟨S, Sub.refl _, by rw [hw]; exact SlR.nil _ _ _ _ _⟩, by rw [hw]; exact he⟩
  · have he : p_tick_Price price = none := by simpa using hb
    have hw : wwake l price = (l.filter (fun o => !p_wake_wakes o price), (isort wlt (l.filter (fun o => p_wake_wakes o price))).map noStop, none) := by simp [wwake, he]
    generalize hwk : (fun o => p_wake_wakes o price) = wk at hw
    have hwk' : (fun o => !p_wake_wakes o price) = fun o => !wk o := by rw [← hwk]
    rw [hwk'] at hw
    have hwv : ∀ o, p_wake_wakes o price = wk o := fun o => by rw [← hwk]
    obtain ⟨ad, sl, rfl, hB, hO, hne, rfl⟩ := h
    have hlen := hO.len
    have hadV : V ad.block := hS _ (.inl rfl)
    have hslV : Sub (sb sl) V := fun b hb => hS _ (.inr hb)
    have hat := (hB.at_ co_Wake_Stops (S := V) hadV).fld (j := 0) (l := [.slice sl.a sl.len sl.cap]) (Sub.refl V) rfl
    refine nilK_some ⟨sl, hat, ?_⟩
    refine LoopN.st (fun (t : Sl × Sl × Int) u' V' => ∃ k : Nat, t.2.2 = k ∧ k ≤ l.length ∧ Upd Nix u V u' V' ∧ Own Order.cells 8 T_Order u' t.1 ((l.take k).filter wk) ∧ Own Order.cells 8 T_Order u' t.2.1 ((l.take k).filter fun o => !wk o) ∧
        Sub (sb t.1) V' ∧ Sub (sb t.2.1) V' ∧ Dis (sb t.1) V ∧ Dis (sb t.2.1) V ∧ Dis (sb t.1) (sb t.2.1)) (fun t => l.length - t.2.2.toNat)
      ⟨0, rfl, Nat.zero_le _, Upd.refl _ _ _, Own.nil _ _ _ _, Own.nil _ _ _ _, fun b hb => (sb_nil _ hb).elim, fun b hb => (sb_nil _ hb).elim, fun b hb => (sb_nil _ hb).elim, fun b hb => (sb_nil _ hb).elim, fun b hb => (sb_nil _ hb).elim⟩ ?_
    rintro ⟨out, left, _⟩ u1 V1 ⟨k, rfl, hk, hU, hOo, hOl, hVo, hVl, hDo, hDl, hD⟩ next hn
    simp only at hOo hOl hVo hVl hDo hDl hD
    have lo : ((l.take k).filter wk).length ≤ 20 := Nat.le_trans (List.length_filter_le _ _) (by simp; omega)
    have ll : ((l.take k).filter fun o => !wk o).length ≤ 20 := Nat.le_trans (List.length_filter_le _ _) (by simp; omega)
    refine ifB (fun hb => ?_) (fun hb => ?_)
    · have hlt : k < l.length := by have := of_decide_eq_true hb; simp only at this; omega
      have hO1 := hO.same (hU.same0 hslV)
      refine hO1.toR.ixN co_Order.len hlt fun ad8 _ hat8 => ⟨_, hat8.sub (hslV.trans hU.vis), _, r_wake_wakes _ _ _ _, ?_⟩
      rw [hwv]
      refine ifB (fun hb2 => ?_) (fun hb2 => ?_)
      · refine NewC.mk fun b1 u2 V2 hbd hge hcell hsub hb1 hbd' hrel => ?_
        have hN : Own Order.cells 8 T_Order u2 ⟨some ⟨b1, 0, none⟩, 1, 1⟩ [l[k]] := Own.new co_Order.len (by simpa using hcell) rfl (by simp)
        refine opv_append (s := out) (r := ⟨some ⟨b1, 0, none⟩, 1, 1⟩) ty_Sl_Order co_Order (hOo.same (same_rel hrel hVo)) (hVo.trans hsub) hN.toR (fun b hb => by rw [sb_iff] at hb; subst hb; exact hb1) _ (by simp only [List.length_singleton]; omega) (by simp only [List.length_singleton]; omega) ?_
        intro s2 u3 V3 k1 k2 k3 k4 _
        have hfr : ∀ b, sb s2 b → sb out b ∨ ¬ V1 b := fun b hb => (k4 b hb).imp (fun h => h) fun hx hv => hx (hsub _ hv)
        refine ⟨rng_nat (by omega), hn (s2, left, ((k : Int) + 1)) _ _ ⟨k + 1, rfl, by omega, (hU.trans (upd_new Nix hsub hrel) fun b hb => hb.elim).trans k2 fun b hb => .inr (hDo b hb), ?_, ?_, k3, (hVl.trans hsub).trans k2.vis, ?_, hDl, ?_⟩ (by simp only; omega)⟩
        · rw [filter_take_succ _ _ _ hlt, hb2]; exact k1
        · rw [filter_take_succ _ _ _ hlt, hb2]
          simpa using (hOl.same (same_rel hrel hVl)).same (k2.same (hVl.trans hsub) hD.symm)
        · intro b hb
          rcases hfr b hb with hb | hb
          · exact hDo b hb
          · exact fun hv => hb (hU.vis _ hv)
        · intro b hb hb'
          rcases hfr b hb with hb | hb
          · exact hD b hb hb'
          · exact hb (hVl _ hb')
      · refine NewC.mk fun b1 u2 V2 hbd hge hcell hsub hb1 hbd' hrel => ?_
        have hN : Own Order.cells 8 T_Order u2 ⟨some ⟨b1, 0, none⟩, 1, 1⟩ [l[k]] := Own.new co_Order.len (by simpa using hcell) rfl (by simp)
        refine opv_append (s := left) (r := ⟨some ⟨b1, 0, none⟩, 1, 1⟩) ty_Sl_Order co_Order (hOl.same (same_rel hrel hVl)) (hVl.trans hsub) hN.toR (fun b hb => by rw [sb_iff] at hb; subst hb; exact hb1) _ (by simp only [List.length_singleton]; omega) (by simp only [List.length_singleton]; omega) ?_
        intro s2 u3 V3 k1 k2 k3 k4 _
        have hfr : ∀ b, sb s2 b → sb left b ∨ ¬ V1 b := fun b hb => (k4 b hb).imp (fun h => h) fun hx hv => hx (hsub _ hv)
        refine ⟨rng_nat (by omega), hn (out, s2, ((k : Int) + 1)) _ _ ⟨k + 1, rfl, by omega, (hU.trans (upd_new Nix hsub hrel) fun b hb => hb.elim).trans k2 fun b hb => .inr (hDl b hb), ?_, ?_, (hVo.trans hsub).trans k2.vis, k3, hDo, ?_, ?_⟩ (by simp only; omega)⟩
        · rw [filter_take_succ _ _ _ hlt, hb2]
          simpa using (hOo.same (same_rel hrel hVo)).same (k2.same (hVo.trans hsub) hD)
        · rw [filter_take_succ _ _ _ hlt]; simp only [hb2, Bool.not_false, if_true]; exact k1
        · intro b hb
          rcases hfr b hb with hb | hb
          · exact hDl b hb
          · exact fun hv => hb (hU.vis _ hv)
        · intro b hb hb'
          rcases hfr b hb' with hb' | hb'
          · exact hD b hb hb'
          · exact hb' (hVo _ hb)
    · have hkl : k = l.length := by have := of_decide_eq_false hb; simp only at this; omega
      subst hkl
      rw [List.take_length] at hOo hOl lo ll
      refine nilK_some fun w24 hw24 => ?_
      have hB1 : Box Wake_Stops.cells 1 T_wake_Stops u1 ad ⟨sl⟩ := hB.same (hU.same0 (Sub.blk hadV))
      obtain ⟨t1, t2, t3⟩ := Box.st co_Wake_Stops hB1 (hU.vis _ hadV) (j := 0) (l := [.slice left.a left.len left.cap]) (x' := ⟨left⟩) (by simp [Value.oneCell']) (by simp) rfl (p := ad.add 0) rfl rfl hw24
      refine ⟨t1, ?_⟩
      have hado : ¬ sb out ad.block := fun hx => hDo _ hx hadV
      have hadl : ¬ sb left ad.block := fun hx => hDl _ hx hadV
      have hOo2 := hOo.same (t3.same hVo fun b hb e => by cases e; exact hado hb)
      have hOl2 := hOl.same (t3.same hVl fun b hb e => by cases e; exact hadl hb)
      refine (g_slices_SortStableFunc_Order_few hOo2 hVo swo_wlt (f := F_wake_Stops_Wake_1) (caps := []) (cm := wcmp) (fun _ _ => rfl) (fun u' V' _ a b _ _ => r_wake_Stops_Wake_1 a b) lo).mono ?_
      rintro _ u2 V2 _ ⟨g1, S2, g2, g3, g4, rfl⟩
      have hl2 : Own Order.cells 8 T_Order u2 left (l.filter fun o => !wk o) := hOl2.same (g1.same hVl hD.symm)
      have hB2 : Box Wake_Stops.cells 1 T_wake_Stops u2 ad ⟨left⟩ := t2.same (g1.same (Sub.blk (hU.vis _ hadV)) fun b hb => by cases hb; exact hado)
      have hUU : Upd (Blk ad.block) u V u2 V2 := ((hU.mono fun b hb => hb.elim).trans t3 fun b hb => .inl hb).trans g1 fun b hb => .inr (hDo b hb)
      have hilen : (isort wlt (l.filter wk)).length ≤ 20 := by rw [length_isort]; exact lo
      -- the stops are made none
      refine LoopN.st (fun (t : Int) u' V' => ∃ k : Nat, t = k ∧ k ≤ (isort wlt (l.filter wk)).length ∧ Upd (sb out) u2 V2 u' V' ∧ Own Order.cells 8 T_Order u' out (((isort wlt (l.filter wk)).take k).map noStop ++ (isort wlt (l.filter wk)).drop k)) (fun t => (isort wlt (l.filter wk)).length - t.toNat)
        ⟨0, rfl, Nat.zero_le _, Upd.refl _ _ _, by simpa using g4⟩ ?_
      rintro _ u3 V3 ⟨j, rfl, hj, hU3, hO3⟩ next2 hn2
      have hlen3 := g4.len
      refine ifB (fun hb3 => ?_) (fun hb3 => ?_)
      · have hlt : j < (isort wlt (l.filter wk)).length := by have := of_decide_eq_true hb3; simp only at this; omega
        have hml : j = (((isort wlt (l.filter wk)).take j).map noStop).length := by simp; omega
        have hdr : (isort wlt (l.filter wk)).drop j = (isort wlt (l.filter wk))[j] :: (isort wlt (l.filter wk)).drop (j + 1) := List.drop_eq_getElem_cons hlt
        rw [hdr] at hO3
        obtain ⟨g5, g6⟩ := get_mid (((isort wlt (l.filter wk)).take j).map noStop) (isort wlt (l.filter wk))[j] ((isort wlt (l.filter wk)).drop (j + 1)) hml
        refine hO3.toR.ixN co_Order.len g5 fun ad5 had5 _ => ?_
        intro w33 hw33
        have hov3 : Sub (sb out) V3 := (hVo.trans g1.vis).trans hU3.vis
        obtain ⟨st1, st2, st3⟩ := Own.st co_Order hO3 hov3 g5 (j := 7) (l := [.int .i64 0]) (x' := noStop (isort wlt (l.filter wk))[j]) (by simp [Value.oneCell']) (by simp) (by rw [g6]; rfl) had5 (p := (ad5.add (j * 8)).add 7) (by rw [Addr.add_add]) rfl hw33
        refine ⟨st1, rng_nat (by omega), hn2 _ _ _ ⟨j + 1, by omega, by omega, hU3.trans st3 fun b hb => .inl hb, ?_⟩ (by omega)⟩
        rw [set_mid _ _ _ _ hml] at st2
        rw [List.take_succ_eq_append_getElem hlt, List.map_append]
        simpa using st2
      · have hjl : j = (isort wlt (l.filter wk)).length := by have := of_decide_eq_false hb3; simp only at this; omega
        subst hjl
        have hO4 : Own Order.cells 8 T_Order u3 out ((isort wlt (l.filter wk)).map noStop) := by simpa using hO3
        have hov3 : Sub (sb out) V3 := (hVo.trans g1.vis).trans hU3.vis
        have hlv3 : Sub (sb left) V3 := (hVl.trans g1.vis).trans hU3.vis
        have hadV3 : V3 ad.block := hU3.vis _ (g1.vis _ (hU.vis _ hadV))
        refine Out.fin hloc ⟨(hUU.mono fun b hb => .inl (.inl hb)).trans hU3 fun b hb => .inr (hDo b hb), Or2 (Or2 (Blk ad.block) (sb left)) (sb out), ?_, ?_, ⟨Or2 (Blk ad.block) (sb left), fun b hb => .inl hb, ?_⟩, ⟨sb out, fun b hb => .inr hb, ?_⟩, ?_⟩
        · exact ((Sub.blk hadV3).or hlv3).or hov3
        · rintro b ((hb | hb) | hb)
          · exact .inl (.inl hb)
          · exact .inr (hDl b hb)
          · exact .inr (hDo b hb)
        · rw [hw]
          refine ⟨ad, left, rfl, hB2.same (hU3.same (Sub.blk (g1.vis _ (hU.vis _ hadV))) fun b hb => by cases hb; exact hado), hl2.same (hU3.same (hVl.trans g1.vis) hD.symm), hadl, rfl⟩
        · rw [hw]; exact hO4.toR
        · rw [hw]
end Go.Sx
