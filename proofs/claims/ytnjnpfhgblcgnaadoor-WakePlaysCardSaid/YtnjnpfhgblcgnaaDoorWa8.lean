/-
  Contracts of functions that this claim reaches. Conditions: those of the statement alone.
-/
import Derived.Test.YtnjnpfhgblcgnaaDoorWa7
import Derived.Test.YtnjnpfhgblcgnaaDoorTold
set_option linter.unusedVariables false
set_option linter.unusedSimpArgs false
set_option maxRecDepth 100000
namespace Go.Sx

/-! ### the program's check is the document's -/
theorem within_iff (n a b : Int) : p_order_within n a b = true ↔ a ≤ n ∧ n ≤ b := by
  unfold p_order_within
  by_cases h : n ≥ a
  · simp [h]
  · simp [h]
theorem valid_iff (p : Int) : p_tick_Valid p = true ↔ 1 ≤ p ∧ p ≤ 10000 := by
  unfold p_tick_Valid
  by_cases h : p ≥ 1
  · simp [h]
  · simp [h]
theorem side_iff (s : Int) : p_tick_Side s = true ↔ s = 1 ∨ s = 2 := by
  unfold p_tick_Side
  by_cases h : s = 1
  · simp [h]
  · simp [h]
theorem rprice_iff (p : Int) : p_pitref1_Price p = true ↔ 1 ≤ p ∧ p ≤ 10000 := by
  unfold p_pitref1_Price
  by_cases h : p ≥ 1
  · simp [h]
  · simp [h]
theorem rside_iff (s : Int) : p_pitref1_Side s = true ↔ s = 1 ∨ s = 2 := by
  unfold p_pitref1_Side
  by_cases h : s = 1
  · simp [h]
  · simp [h]
/-- the fault of an order, plainly -/
def ordF (o : Order) : Int :=
  if ¬ (1 ≤ o.Id ∧ o.Id ≤ 9999) ∨ ¬ (1 ≤ o.Who ∧ o.Who ≤ 9) ∨ ¬ (o.Side = 1 ∨ o.Side = 2) ∨ ¬ (1 ≤ o.Kind ∧ o.Kind ≤ 5) then 1
  else if (o.Kind = 2 ∧ o.Price ≠ 0) ∨ (o.Kind ≠ 2 ∧ ¬ (1 ≤ o.Price ∧ o.Price ≤ 10000)) then 1
  else if ¬ (1 ≤ o.Qty ∧ o.Qty ≤ 10000) ∨ ¬ (0 ≤ o.Show ∧ o.Show ≤ o.Qty) then 1
  else if o.Show ≠ 0 ∧ o.Kind ≠ 1 ∧ o.Kind ≠ 5 then 3
  else if o.Stop ≠ 0 ∧ ¬ (1 ≤ o.Stop ∧ o.Stop ≤ 10000) then 1
  else 0
def errOf (n : Int) : Option Int := if n = 0 then none else some n
theorem cond_ite {α : Type} (b : Bool) (x y : α) : (bif b then x else y) = if b = true then x else y := by cases b <;> rfl
theorem bfalse {b : Bool} {P : Prop} (h : b = true ↔ P) (hb : b = false) : ¬ P := fun hp => by rw [h.2 hp] at hb; cases hb
set_option maxHeartbeats 4000000 in
theorem order_check_eq (o : Order) : p_order_Check o = errOf (ordF o) := by
  have f1 : ordF o = 1 → some 1 = errOf (ordF o) := fun h => by rw [h]; rfl
  have f3 : ordF o = 3 → some 3 = errOf (ordF o) := fun h => by rw [h]; rfl
  have f0 : ordF o = 0 → none = errOf (ordF o) := fun h => by rw [h]; rfl
  unfold p_order_Check
  cases h1 : p_order_Id o.Id with
  | false => have := bfalse (within_iff _ _ _) h1; exact f1 (by unfold ordF; rw [if_pos]; omega)
  | true =>
  cases h2 : p_order_Who o.Who with
  | false => have := bfalse (within_iff _ _ _) h2; exact f1 (by unfold ordF; rw [if_pos]; omega)
  | true =>
  cases h3 : p_tick_Side o.Side with
  | false => have := bfalse (side_iff _) h3; exact f1 (by unfold ordF; rw [if_pos]; omega)
  | true =>
  cases h4 : p_order_within o.Kind 1 5 with
  | false => have := bfalse (within_iff _ _ _) h4; exact f1 (by unfold ordF; rw [if_pos]; omega)
  | true =>
  have g1 := (within_iff _ _ _).1 h1
  have g2 := (within_iff _ _ _).1 h2
  have g3 := (side_iff _).1 h3
  have g4 := (within_iff _ _ _).1 h4
  have hA : ¬ (¬ (1 ≤ o.Id ∧ o.Id ≤ 9999) ∨ ¬ (1 ≤ o.Who ∧ o.Who ≤ 9) ∨ ¬ (o.Side = 1 ∨ o.Side = 2) ∨ ¬ (1 ≤ o.Kind ∧ o.Kind ≤ 5)) := by omega
  -- what is behind the price
  have tail : ¬ ((o.Kind = 2 ∧ o.Price ≠ 0) ∨ (o.Kind ≠ 2 ∧ ¬ (1 ≤ o.Price ∧ o.Price ≤ 10000))) →
      (bif !p_order_Qty o.Qty then some 1 else bif !p_order_within o.Show 0 o.Qty then some 1 else bif o.Show != 0 then (bif o.Kind != 1 then (bif o.Kind != 5 then some 3 else bif o.Stop != 0 then (bif !p_tick_Valid o.Stop then some 1 else none) else none) else bif o.Stop != 0 then (bif !p_tick_Valid o.Stop then some 1 else none) else none) else bif o.Stop != 0 then (bif !p_tick_Valid o.Stop then some 1 else none) else none) = errOf (ordF o) := by
    intro hB
    cases h5 : p_order_Qty o.Qty with
    | false => have := bfalse (within_iff _ _ _) h5; exact f1 (by unfold ordF; rw [if_neg hA, if_neg hB, if_pos]; omega)
    | true =>
    cases h6 : p_order_within o.Show 0 o.Qty with
    | false => have := bfalse (within_iff _ _ _) h6; exact f1 (by unfold ordF; rw [if_neg hA, if_neg hB, if_pos]; omega)
    | true =>
    have g5 := (within_iff _ _ _).1 h5
    have g6 := (within_iff _ _ _).1 h6
    have hC : ¬ (¬ (1 ≤ o.Qty ∧ o.Qty ≤ 10000) ∨ ¬ (0 ≤ o.Show ∧ o.Show ≤ o.Qty)) := by omega
    have last : ¬ (o.Show ≠ 0 ∧ o.Kind ≠ 1 ∧ o.Kind ≠ 5) → (bif o.Stop != 0 then (bif !p_tick_Valid o.Stop then some 1 else none) else none) = errOf (ordF o) := by
      intro hD
      cases h7 : (o.Stop != 0) with
      | false => have : o.Stop = 0 := by simpa using h7
                 exact f0 (by unfold ordF; rw [if_neg hA, if_neg hB, if_neg hC, if_neg hD, if_neg]; omega)
      | true =>
      have g7 : o.Stop ≠ 0 := by simpa using h7
      cases h8 : p_tick_Valid o.Stop with
      | false => have := bfalse (valid_iff _) h8; exact f1 (by unfold ordF; rw [if_neg hA, if_neg hB, if_neg hC, if_neg hD, if_pos]; omega)
      | true => have := (valid_iff _).1 h8; exact f0 (by unfold ordF; rw [if_neg hA, if_neg hB, if_neg hC, if_neg hD, if_neg]; omega)
    cases h9 : (o.Show != 0) with
    | false => have : o.Show = 0 := by simpa using h9
               exact last (by omega)
    | true =>
    have g9 : o.Show ≠ 0 := by simpa using h9
    cases h10 : (o.Kind != 1) with
    | false => have : o.Kind = 1 := by simpa using h10
               exact last (by omega)
    | true =>
    have g10 : o.Kind ≠ 1 := by simpa using h10
    cases h11 : (o.Kind != 5) with
    | false => have : o.Kind = 5 := by simpa using h11
               exact last (by omega)
    | true =>
      have g11 : o.Kind ≠ 5 := by simpa using h11
      exact f3 (by unfold ordF; rw [if_neg hA, if_neg hB, if_neg hC, if_pos]; omega)
  cases h5 : (o.Kind == 2) with
  | true =>
    have g5 : o.Kind = 2 := by simpa using h5
    have e5 : (o.Kind != 2) = false := by simp [g5]
    cases h6 : (o.Price != 0) with
    | true => have : o.Price ≠ 0 := by simpa using h6
              exact f1 (by unfold ordF; rw [if_neg hA, if_pos]; omega)
    | false =>
      have g6 : o.Price = 0 := by simpa using h6
      rw [e5]
      exact tail (by omega)
  | false =>
    have g5 : o.Kind ≠ 2 := by simpa using h5
    have e5 : (o.Kind != 2) = true := by simp [g5]
    rw [e5]
    cases h6 : p_tick_Valid o.Price with
    | false => have := bfalse (valid_iff _) h6; exact f1 (by unfold ordF; rw [if_neg hA, if_pos]; omega)
    | true =>
      have g6 := (valid_iff _).1 h6
      exact tail (by omega)
set_option maxHeartbeats 4000000 in
theorem rorder_eq (o : Order) : p_pitref1_Order o = ordF o := by
  have f1 : ordF o = 1 → 1 = ordF o := fun h => h.symm
  unfold p_pitref1_Order
  cases h1 : decide (o.Id < 1) with
  | true => have := of_decide_eq_true h1; exact f1 (by unfold ordF; rw [if_pos]; omega)
  | false =>
  cases h2 : decide (o.Id > 9999) with
  | true => have := of_decide_eq_true h2; exact f1 (by unfold ordF; rw [if_pos]; omega)
  | false =>
  cases h3 : decide (o.Who < 1) with
  | true => have := of_decide_eq_true h3; exact f1 (by unfold ordF; rw [if_pos]; omega)
  | false =>
  cases h4 : decide (o.Who > 9) with
  | true => have := of_decide_eq_true h4; exact f1 (by unfold ordF; rw [if_pos]; omega)
  | false =>
  cases h5 : p_pitref1_Side o.Side with
  | false => have := bfalse (rside_iff _) h5; exact f1 (by unfold ordF; rw [if_pos]; omega)
  | true =>
  cases h6 : decide (o.Kind < 1) with
  | true => have := of_decide_eq_true h6; exact f1 (by unfold ordF; rw [if_pos]; omega)
  | false =>
  cases h7 : decide (o.Kind > 5) with
  | true => have := of_decide_eq_true h7; exact f1 (by unfold ordF; rw [if_pos]; omega)
  | false =>
  have g1 := of_decide_eq_false h1
  have g2 := of_decide_eq_false h2
  have g3 := of_decide_eq_false h3
  have g4 := of_decide_eq_false h4
  have g5 := (rside_iff _).1 h5
  have g6 := of_decide_eq_false h6
  have g7 := of_decide_eq_false h7
  have hA : ¬ (¬ (1 ≤ o.Id ∧ o.Id ≤ 9999) ∨ ¬ (1 ≤ o.Who ∧ o.Who ≤ 9) ∨ ¬ (o.Side = 1 ∨ o.Side = 2) ∨ ¬ (1 ≤ o.Kind ∧ o.Kind ≤ 5)) := by omega
  have tail : ¬ ((o.Kind = 2 ∧ o.Price ≠ 0) ∨ (o.Kind ≠ 2 ∧ ¬ (1 ≤ o.Price ∧ o.Price ≤ 10000))) →
      (bif (decide (o.Qty < 1)) then 1 else (bif (decide (o.Qty > 10000)) then 1 else (bif (decide (o.Show < 0)) then 1 else (bif (decide (o.Show > o.Qty)) then 1 else (bif (o.Show != 0) then (bif (o.Kind != 1) then (bif (o.Kind != 5) then 3 else (bif (o.Stop != 0) then (bif (!(p_pitref1_Price o.Stop)) then 1 else 0) else 0)) else (bif (o.Stop != 0) then (bif (!(p_pitref1_Price o.Stop)) then 1 else 0) else 0)) else (bif (o.Stop != 0) then (bif (!(p_pitref1_Price o.Stop)) then 1 else 0) else 0)))))) = ordF o := by
    intro hB
    cases h8 : decide (o.Qty < 1) with
    | true => have := of_decide_eq_true h8; exact f1 (by unfold ordF; rw [if_neg hA, if_neg hB, if_pos]; omega)
    | false =>
    cases h9 : decide (o.Qty > 10000) with
    | true => have := of_decide_eq_true h9; exact f1 (by unfold ordF; rw [if_neg hA, if_neg hB, if_pos]; omega)
    | false =>
    cases h10 : decide (o.Show < 0) with
    | true => have := of_decide_eq_true h10; exact f1 (by unfold ordF; rw [if_neg hA, if_neg hB, if_pos]; omega)
    | false =>
    cases h11 : decide (o.Show > o.Qty) with
    | true => have := of_decide_eq_true h11; exact f1 (by unfold ordF; rw [if_neg hA, if_neg hB, if_pos]; omega)
    | false =>
    have g8 := of_decide_eq_false h8
    have g9 := of_decide_eq_false h9
    have g10 := of_decide_eq_false h10
    have g11 := of_decide_eq_false h11
    have hC : ¬ (¬ (1 ≤ o.Qty ∧ o.Qty ≤ 10000) ∨ ¬ (0 ≤ o.Show ∧ o.Show ≤ o.Qty)) := by omega
    have last : ¬ (o.Show ≠ 0 ∧ o.Kind ≠ 1 ∧ o.Kind ≠ 5) → (bif (o.Stop != 0) then (bif (!(p_pitref1_Price o.Stop)) then 1 else 0) else 0) = ordF o := by
      intro hD
      cases h7 : (o.Stop != 0) with
      | false => have : o.Stop = 0 := by simpa using h7
                 exact (show ordF o = 0 by unfold ordF; rw [if_neg hA, if_neg hB, if_neg hC, if_neg hD, if_neg]; omega).symm
      | true =>
      have g7 : o.Stop ≠ 0 := by simpa using h7
      cases h8 : p_pitref1_Price o.Stop with
      | false => have := bfalse (rprice_iff _) h8; exact f1 (by unfold ordF; rw [if_neg hA, if_neg hB, if_neg hC, if_neg hD, if_pos]; omega)
      | true => have := (rprice_iff _).1 h8; exact (show ordF o = 0 by unfold ordF; rw [if_neg hA, if_neg hB, if_neg hC, if_neg hD, if_neg]; omega).symm
    cases h9 : (o.Show != 0) with
    | false => have : o.Show = 0 := by simpa using h9
               exact last (by omega)
    | true =>
    have g9 : o.Show ≠ 0 := by simpa using h9
    cases h10 : (o.Kind != 1) with
    | false => have : o.Kind = 1 := by simpa using h10
               exact last (by omega)
    | true =>
    have g10 : o.Kind ≠ 1 := by simpa using h10
    cases h11 : (o.Kind != 5) with
    | false => have : o.Kind = 5 := by simpa using h11
               exact last (by omega)
    | true =>
      have g11 : o.Kind ≠ 5 := by simpa using h11
      exact (show ordF o = 3 by unfold ordF; rw [if_neg hA, if_neg hB, if_neg hC, if_pos]; omega).symm
  cases h5 : (o.Kind == 2) with
  | true =>
    have g5 : o.Kind = 2 := by simpa using h5
    have e5 : (o.Kind != 2) = false := by simp [g5]
    cases h6 : (o.Price != 0) with
    | true => have : o.Price ≠ 0 := by simpa using h6
              exact f1 (by unfold ordF; rw [if_neg hA, if_pos]; omega)
    | false =>
      have g6 : o.Price = 0 := by simpa using h6
      rw [e5]
      exact tail (by omega)
  | false =>
    have g5 : o.Kind ≠ 2 := by simpa using h5
    have e5 : (o.Kind != 2) = true := by simp [g5]
    rw [e5]
    cases h6 : p_pitref1_Price o.Price with
    | false => have := bfalse (rprice_iff _) h6; exact f1 (by unfold ordF; rw [if_neg hA, if_pos]; omega)
    | true =>
      have g6 := (rprice_iff _).1 h6
      exact tail (by omega)
theorem ordF_side {o : Order} (h : ordF o = 0) : SideOk o := by
  unfold ordF at h
  split at h
  · cases h
  · unfold SideOk; omega
end Go.Sx
