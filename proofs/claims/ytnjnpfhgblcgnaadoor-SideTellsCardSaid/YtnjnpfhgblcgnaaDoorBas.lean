/-
  Contracts of functions that this claim reaches. Conditions: those of the statement alone.
-/
import Derived.Test.YtnjnpfhgblcgnaaDoorLib
set_option linter.unusedVariables false
set_option linter.unusedSimpArgs false
set_option maxRecDepth 100000
namespace Go.Sx

/-! ### the program's check is the document's -/
theorem within_iff (n a b : Int) : p_order_within n a b = true ↔ a ≤ n ∧ n ≤ b := by
  unfold p_order_within
  by_cases h : n ≥ a
  · simp [h]
  · simp [h]
theorem valid_iff (p : Int) : p_tick_Valid p = true ↔ 1 ≤ p ∧ p ≤ 10000 := by
  unfold p_tick_Valid
  by_cases h : p ≥ 1
  · simp [h]
  · simp [h]
theorem side_iff (s : Int) : p_tick_Side s = true ↔ s = 1 ∨ s = 2 := by
  unfold p_tick_Side
  by_cases h : s = 1
  · simp [h]
  · simp [h]
theorem rprice_iff (p : Int) : p_pitref1_Price p = true ↔ 1 ≤ p ∧ p ≤ 10000 := by
  unfold p_pitref1_Price
  by_cases h : p ≥ 1
  · simp [h]
  · simp [h]
theorem rside_iff (s : Int) : p_pitref1_Side s = true ↔ s = 1 ∨ s = 2 := by
  unfold p_pitref1_Side
  by_cases h : s = 1
  · simp [h]
  · simp [h]
def errOf (n : Int) : Option Int := if n = 0 then none else some n
theorem cond_ite {α : Type} (b : Bool) (x y : α) : (bif b then x else y) = if b = true then x else y := by cases b <;> rfl
theorem bfalse {b : Bool} {P : Prop} (h : b = true ↔ P) (hb : b = false) : ¬ P := fun hp => by rw [h.2 hp] at hb; cases hb
end Go.Sx
