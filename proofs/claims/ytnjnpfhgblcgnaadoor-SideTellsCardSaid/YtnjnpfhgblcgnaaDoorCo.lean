/-
  How structs and slices lie in cells. Conditions: those of the statement alone.
-/
import Derived.Test.YtnjnpfhgblcgnaaDoorSt
import Derived.Test.YtnjnpfhgblcgnaaDoorSpA
set_option linter.unusedVariables false
set_option linter.unusedSimpArgs false
set_option maxRecDepth 100000
namespace Go.Sx
theorem co_Rest : CO Rest.cells 5 := ⟨fun _ => rfl, fun x v hv => by simp only [Rest.cells, List.mem_cons, List.not_mem_nil, or_false] at hv; rcases hv with rfl | rfl | rfl | rfl | rfl <;> rfl⟩
def Rest.L (x : Rest) : List Int := [x.Id, x.Who, x.Qty, x.Hidden, x.Show]
theorem Rest.L_inj {x y : Rest} (h : x.L = y.L) : x = y := by
  simp only [Rest.L, List.cons.injEq, and_true] at h
  cases x; cases y; simp_all
def Rest.ofL : List Int → Rest
  | [a0, a1, a2, a3, a4] => ⟨a0, a1, a2, a3, a4⟩
  | _ => ⟨0, 0, 0, 0, 0⟩
theorem Rest.ofL_ok : ∀ l : List Int, l.length = 5 → Rest.cells (Rest.ofL l) = ints l ∧ (Rest.ofL l).L = l
  | [a0, a1, a2, a3, a4], _ => ⟨rfl, rfl⟩
theorem eqt_Rest : EqT PP T_Rest 5 := ⟨by kernel_rfl, by kernel_rfl, by kernel_rfl⟩
theorem eql_Rest (a b : Rest) (w : World) : (binOp .eql T_Rest (.agg (Rest.cells a).toArray) (.agg (Rest.cells b).toArray)).run PP w = .ok (.bool (Rest.L a == Rest.L b)) w := eqt_Rest.eql (xs := a.L) (ys := b.L) rfl rfl w
theorem neq_Rest (a b : Rest) (w : World) : (binOp .neq T_Rest (.agg (Rest.cells a).toArray) (.agg (Rest.cells b).toArray)).run PP w = .ok (.bool (!(Rest.L a == Rest.L b))) w := eqt_Rest.neq (xs := a.L) (ys := b.L) rfl rfl w
theorem co_Arr2_Int : CO Arr2_Int.cells 2 := ⟨fun _ => rfl, fun x v hv => by simp only [Arr2_Int.cells, List.mem_cons, List.not_mem_nil, or_false] at hv; rcases hv with rfl | rfl <;> rfl⟩
def Arr2_Int.L (x : Arr2_Int) : List Int := [x.x0, x.x1]
theorem Arr2_Int.L_inj {x y : Arr2_Int} (h : x.L = y.L) : x = y := by
  simp only [Arr2_Int.L, List.cons.injEq, and_true] at h
  cases x; cases y; simp_all
def Arr2_Int.ofL : List Int → Arr2_Int
  | [a0, a1] => ⟨a0, a1⟩
  | _ => ⟨0, 0⟩
theorem Arr2_Int.ofL_ok : ∀ l : List Int, l.length = 2 → Arr2_Int.cells (Arr2_Int.ofL l) = ints l ∧ (Arr2_Int.ofL l).L = l
  | [a0, a1], _ => ⟨rfl, rfl⟩
theorem co_Level : CO Level.cells 2 := ⟨fun _ => rfl, fun x v hv => by simp only [Level.cells, List.mem_cons, List.not_mem_nil, or_false] at hv; rcases hv with rfl | rfl <;> rfl⟩
theorem ty_Sl_Order : TyS PP T_Sl_Order T_Order 8 64 := ⟨by kernel_rfl, by kernel_rfl⟩
theorem ty_Sl_Sl_i64 : TyS PP T_Sl_Sl_i64 T_Sl_i64 1 24 := ⟨by kernel_rfl, by kernel_rfl⟩
theorem ty_Sl_i64 : TyS PP T_Sl_i64 T_i64 1 8 := ⟨by kernel_rfl, by kernel_rfl⟩
theorem ty_Sl_Level : TyS PP T_Sl_Level T_Level 2 32 := ⟨by kernel_rfl, by kernel_rfl⟩
theorem ty_Sl_Rest : TyS PP T_Sl_Rest T_Rest 5 40 := ⟨by kernel_rfl, by kernel_rfl⟩
theorem ty_Sl_A2_i64 : TyS PP T_Sl_A2_i64 T_A2_i64 2 16 := ⟨by kernel_rfl, by kernel_rfl⟩
theorem ty_Sl_Trade : TyS PP T_Sl_Trade T_Trade 6 48 := ⟨by kernel_rfl, by kernel_rfl⟩
theorem ty_Sl_Event : TyS PP T_Sl_Event T_Event 10 80 := ⟨by kernel_rfl, by kernel_rfl⟩
theorem ty_Sl_A3_i64 : TyS PP T_Sl_A3_i64 T_A3_i64 3 24 := ⟨by kernel_rfl, by kernel_rfl⟩
theorem ty_Sl_u8 : TyS PP T_Sl_u8 T_u8 1 1 := ⟨by kernel_rfl, by kernel_rfl⟩
theorem ty_Sl_error : TyS PP T_Sl_error T_error 1 16 := ⟨by kernel_rfl, by kernel_rfl⟩
theorem ty_Sl_internal_abi_Method : TyS PP T_Sl_internal_abi_Method T_internal_abi_Method 4 16 := ⟨by kernel_rfl, by kernel_rfl⟩
end Go.Sx
