/-
  Functions that only reckon: their contracts. Conditions: those of the statement alone.
-/
import Derived.Test.YtnjnpfhgblcgnaaDoorSt
import Derived.Test.YtnjnpfhgblcgnaaDoorSpA
set_option linter.unusedVariables false
set_option linter.unusedSimpArgs false
set_option maxRecDepth 100000
set_option maxHeartbeats 4000000
namespace Go.Sx
def p_pitref1_Price (p : Int) : Bool :=
  (bif (decide (p ≥ 1)) then (decide (p ≤ 10000)) else false)
theorem r_pitref1_Price (p : Int) (u : World) (V : VP) : ROc PP F_pitref1_Price [.int .i64 p] u V (gval errT ((Enc.one eBool).enc (p_pitref1_Price p))) := by
  refine s_pitref1_Price p u V _ ?_
  suffices h : ∀ K : Bool → World → VP → Prop, K (p_pitref1_Price p) u V → vc_pitref1_Price p u V K from h _ ⟨rfl, .inl ⟨rfl, rfl⟩⟩
  intro K h
  unfold vc_pitref1_Price; unfold p_pitref1_Price at h
  repeat' (first | exact h | refine ifT ?_ | refine ifF ?_ | (refine ifB (fun hb => ?_) (fun hb => ?_) <;> simp only [hb, cond_true, cond_false] at h) | (refine joinI fun Kj hKj => ?_) | apply_assumption)
def p_pitref1_Ahead (side : Int) (a : Int) (b : Int) : Bool :=
  (bif (side == 1) then (bif (decide (a < b)) then true else (bif (side == 2) then (decide (a > b)) else false)) else (bif (side == 2) then (decide (a > b)) else false))
theorem r_pitref1_Ahead (side : Int) (a : Int) (b : Int) (u : World) (V : VP) : ROc PP F_pitref1_Ahead [.int .i64 side, .int .i64 a, .int .i64 b] u V (gval errT ((Enc.one eBool).enc (p_pitref1_Ahead side a b))) := by
  refine s_pitref1_Ahead side a b u V _ ?_
  suffices h : ∀ K : Bool → World → VP → Prop, K (p_pitref1_Ahead side a b) u V → vc_pitref1_Ahead side a b u V K from h _ ⟨rfl, .inl ⟨rfl, rfl⟩⟩
  intro K h
  unfold vc_pitref1_Ahead; unfold p_pitref1_Ahead at h
  repeat' (first | exact h | refine ifT ?_ | refine ifF ?_ | (refine ifB (fun hb => ?_) (fun hb => ?_) <;> simp only [hb, cond_true, cond_false] at h) | (refine joinI fun Kj hKj => ?_) | apply_assumption)
def p_pitref1_Side (s : Int) : Bool :=
  (bif (s == 1) then true else (s == 2))
theorem r_pitref1_Side (s : Int) (u : World) (V : VP) : ROc PP F_pitref1_Side [.int .i64 s] u V (gval errT ((Enc.one eBool).enc (p_pitref1_Side s))) := by
  refine s_pitref1_Side s u V _ ?_
  suffices h : ∀ K : Bool → World → VP → Prop, K (p_pitref1_Side s) u V → vc_pitref1_Side s u V K from h _ ⟨rfl, .inl ⟨rfl, rfl⟩⟩
  intro K h
  unfold vc_pitref1_Side; unfold p_pitref1_Side at h
  repeat' (first | exact h | refine ifT ?_ | refine ifF ?_ | (refine ifB (fun hb => ?_) (fun hb => ?_) <;> simp only [hb, cond_true, cond_false] at h) | (refine joinI fun Kj hKj => ?_) | apply_assumption)
def p_tick_Side (s : Int) : Bool :=
  (bif (s == 1) then true else (s == 2))
theorem r_tick_Side (s : Int) (u : World) (V : VP) : ROc PP F_tick_Side [.int .i64 s] u V (gval errT ((Enc.one eBool).enc (p_tick_Side s))) := by
  refine s_tick_Side s u V _ ?_
  suffices h : ∀ K : Bool → World → VP → Prop, K (p_tick_Side s) u V → vc_tick_Side s u V K from h _ ⟨rfl, .inl ⟨rfl, rfl⟩⟩
  intro K h
  unfold vc_tick_Side; unfold p_tick_Side at h
  repeat' (first | exact h | refine ifT ?_ | refine ifF ?_ | (refine ifB (fun hb => ?_) (fun hb => ?_) <;> simp only [hb, cond_true, cond_false] at h) | (refine joinI fun Kj hKj => ?_) | apply_assumption)
def p_order_within (n : Int) (low : Int) (high : Int) : Bool :=
  (bif (decide (n ≥ low)) then (decide (n ≤ high)) else false)
theorem r_order_within (n : Int) (low : Int) (high : Int) (u : World) (V : VP) : ROc PP F_order_within [.int .i64 n, .int .i64 low, .int .i64 high] u V (gval errT ((Enc.one eBool).enc (p_order_within n low high))) := by
  refine s_order_within n low high u V _ ?_
  suffices h : ∀ K : Bool → World → VP → Prop, K (p_order_within n low high) u V → vc_order_within n low high u V K from h _ ⟨rfl, .inl ⟨rfl, rfl⟩⟩
  intro K h
  unfold vc_order_within; unfold p_order_within at h
  repeat' (first | exact h | refine ifT ?_ | refine ifF ?_ | (refine ifB (fun hb => ?_) (fun hb => ?_) <;> simp only [hb, cond_true, cond_false] at h) | (refine joinI fun Kj hKj => ?_) | apply_assumption)
def p_tick_Valid (p : Int) : Bool :=
  (bif (decide (p ≥ 1)) then (decide (p ≤ 10000)) else false)
theorem r_tick_Valid (p : Int) (u : World) (V : VP) : ROc PP F_tick_Valid [.int .i64 p] u V (gval errT ((Enc.one eBool).enc (p_tick_Valid p))) := by
  refine s_tick_Valid p u V _ ?_
  suffices h : ∀ K : Bool → World → VP → Prop, K (p_tick_Valid p) u V → vc_tick_Valid p u V K from h _ ⟨rfl, .inl ⟨rfl, rfl⟩⟩
  intro K h
  unfold vc_tick_Valid; unfold p_tick_Valid at h
  repeat' (first | exact h | refine ifT ?_ | refine ifF ?_ | (refine ifB (fun hb => ?_) (fun hb => ?_) <;> simp only [hb, cond_true, cond_false] at h) | (refine joinI fun Kj hKj => ?_) | apply_assumption)
def p_order_Qty (n : Int) : Bool :=
  (p_order_within n 1 10000)
theorem r_order_Qty (n : Int) (u : World) (V : VP) : ROc PP F_order_Qty [.int .i64 n] u V (gval errT ((Enc.one eBool).enc (p_order_Qty n))) := by
  refine s_order_Qty n u V _ ?_
  suffices h : ∀ K : Bool → World → VP → Prop, K (p_order_Qty n) u V → vc_order_Qty n u V K from h _ ⟨rfl, .inl ⟨rfl, rfl⟩⟩
  intro K h
  unfold vc_order_Qty; unfold p_order_Qty at h
  repeat' (first | exact h | refine ifT ?_ | refine ifF ?_ | (refine ifB (fun hb => ?_) (fun hb => ?_) <;> simp only [hb, cond_true, cond_false] at h) | refine ⟨_, r_order_within _ _ _ _ _, ?_⟩ | (refine joinI fun Kj hKj => ?_) | apply_assumption)
def p_tick_Ahead (side : Int) (a : Int) (b : Int) : Bool :=
  (bif (side == 1) then (decide (a < b)) else (decide (a > b)))
theorem r_tick_Ahead (side : Int) (a : Int) (b : Int) (u : World) (V : VP) : ROc PP F_tick_Ahead [.int .i64 side, .int .i64 a, .int .i64 b] u V (gval errT ((Enc.one eBool).enc (p_tick_Ahead side a b))) := by
  refine s_tick_Ahead side a b u V _ ?_
  suffices h : ∀ K : Bool → World → VP → Prop, K (p_tick_Ahead side a b) u V → vc_tick_Ahead side a b u V K from h _ ⟨rfl, .inl ⟨rfl, rfl⟩⟩
  intro K h
  unfold vc_tick_Ahead; unfold p_tick_Ahead at h
  repeat' (first | exact h | refine ifT ?_ | refine ifF ?_ | (refine ifB (fun hb => ?_) (fun hb => ?_) <;> simp only [hb, cond_true, cond_false] at h) | (refine joinI fun Kj hKj => ?_) | apply_assumption)
def p_cmp_isNaN_int (x_0 : Int) : Bool :=
  (x_0 != x_0)
theorem r_cmp_isNaN_int (x_0 : Int) (u : World) (V : VP) : ROc PP F_cmp_isNaN_int [.int .i64 x_0] u V (gval errT ((Enc.one eBool).enc (p_cmp_isNaN_int x_0))) := by
  refine s_cmp_isNaN_int x_0 u V _ ?_
  suffices h : ∀ K : Bool → World → VP → Prop, K (p_cmp_isNaN_int x_0) u V → vc_cmp_isNaN_int x_0 u V K from h _ ⟨rfl, .inl ⟨rfl, rfl⟩⟩
  intro K h
  unfold vc_cmp_isNaN_int; unfold p_cmp_isNaN_int at h
  repeat' (first | exact h | refine ifT ?_ | refine ifF ?_ | (refine ifB (fun hb => ?_) (fun hb => ?_) <;> simp only [hb, cond_true, cond_false] at h) | (refine joinI fun Kj hKj => ?_) | apply_assumption)
def p_pitref1_Order (o : Order) : Int :=
  (bif (decide (o.Id < 1)) then 1 else (bif (decide (o.Id > 9999)) then 1 else (bif (decide (o.Who < 1)) then 1 else (bif (decide (o.Who > 9)) then 1 else (bif (!(p_pitref1_Side o.Side)) then 1 else (bif (decide (o.Kind < 1)) then 1 else (bif (decide (o.Kind > 5)) then 1 else (bif (o.Kind == 2) then (bif (o.Price != 0) then 1 else (bif (o.Kind != 2) then (bif (!(p_pitref1_Price o.Price)) then 1 else (bif (decide (o.Qty < 1)) then 1 else (bif (decide (o.Qty > 10000)) then 1 else (bif (decide (o.Show < 0)) then 1 else (bif (decide (o.Show > o.Qty)) then 1 else (bif (o.Show != 0) then (bif (o.Kind != 1) then (bif (o.Kind != 5) then 3 else (bif (o.Stop != 0) then (bif (!(p_pitref1_Price o.Stop)) then 1 else 0) else 0)) else (bif (o.Stop != 0) then (bif (!(p_pitref1_Price o.Stop)) then 1 else 0) else 0)) else (bif (o.Stop != 0) then (bif (!(p_pitref1_Price o.Stop)) then 1 else 0) else 0))))))) else (bif (decide (o.Qty < 1)) then 1 else (bif (decide (o.Qty > 10000)) then 1 else (bif (decide (o.Show < 0)) then 1 else (bif (decide (o.Show > o.Qty)) then 1 else (bif (o.Show != 0) then (bif (o.Kind != 1) then (bif (o.Kind != 5) then 3 else (bif (o.Stop != 0) then (bif (!(p_pitref1_Price o.Stop)) then 1 else 0) else 0)) else (bif (o.Stop != 0) then (bif (!(p_pitref1_Price o.Stop)) then 1 else 0) else 0)) else (bif (o.Stop != 0) then (bif (!(p_pitref1_Price o.Stop)) then 1 else 0) else 0)))))))) else (bif (o.Kind != 2) then (bif (!(p_pitref1_Price o.Price)) then 1 else (bif (decide (o.Qty < 1)) then 1 else (bif (decide (o.Qty > 10000)) then 1 else (bif (decide (o.Show < 0)) then 1 else (bif (decide (o.Show > o.Qty)) then 1 else (bif (o.Show != 0) then (bif (o.Kind != 1) then (bif (o.Kind != 5) then 3 else (bif (o.Stop != 0) then (bif (!(p_pitref1_Price o.Stop)) then 1 else 0) else 0)) else (bif (o.Stop != 0) then (bif (!(p_pitref1_Price o.Stop)) then 1 else 0) else 0)) else (bif (o.Stop != 0) then (bif (!(p_pitref1_Price o.Stop)) then 1 else 0) else 0))))))) else (bif (decide (o.Qty < 1)) then 1 else (bif (decide (o.Qty > 10000)) then 1 else (bif (decide (o.Show < 0)) then 1 else (bif (decide (o.Show > o.Qty)) then 1 else (bif (o.Show != 0) then (bif (o.Kind != 1) then (bif (o.Kind != 5) then 3 else (bif (o.Stop != 0) then (bif (!(p_pitref1_Price o.Stop)) then 1 else 0) else 0)) else (bif (o.Stop != 0) then (bif (!(p_pitref1_Price o.Stop)) then 1 else 0) else 0)) else (bif (o.Stop != 0) then (bif (!(p_pitref1_Price o.Stop)) then 1 else 0) else 0)))))))))))))))
theorem r_pitref1_Order (o : Order) (u : World) (V : VP) : ROc PP F_pitref1_Order [.agg (Order.cells o).toArray] u V (gval errT ((Enc.one eInt).enc (p_pitref1_Order o))) := by
  refine s_pitref1_Order o u V _ ?_
  suffices h : ∀ K : Int → World → VP → Prop, K (p_pitref1_Order o) u V → vc_pitref1_Order o u V K from h _ ⟨rfl, .inl ⟨rfl, rfl⟩⟩
  intro K h
  unfold vc_pitref1_Order; unfold p_pitref1_Order at h
  repeat' (first | exact h | refine ifT ?_ | refine ifF ?_ | (refine ifB (fun hb => ?_) (fun hb => ?_) <;> simp only [hb, cond_true, cond_false] at h) | refine ⟨_, r_pitref1_Price _ _ _, ?_⟩ | refine ⟨_, r_pitref1_Side _ _ _, ?_⟩ | (refine joinI fun Kj hKj => ?_) | apply_assumption)
def p_tick_Price (p : Int) : Option Int :=
  (bif (!(p_tick_Valid p)) then (some 1) else none)
theorem r_tick_Price (p : Int) (u : World) (V : VP) : ROc PP F_tick_Price [.int .i64 p] u V (gval errT ((Enc.one Enc1.err).enc (p_tick_Price p))) := by
  refine s_tick_Price p u V _ ?_
  suffices h : ∀ K : (Option Int) → World → VP → Prop, K (p_tick_Price p) u V → vc_tick_Price p u V K from h _ ⟨rfl, .inl ⟨rfl, rfl⟩⟩
  intro K h
  unfold vc_tick_Price; unfold p_tick_Price at h
  repeat' (first | exact h | refine ifT ?_ | refine ifF ?_ | (refine ifB (fun hb => ?_) (fun hb => ?_) <;> simp only [hb, cond_true, cond_false] at h) | refine ⟨_, r_tick_Valid _ _ _, ?_⟩ | (refine joinI fun Kj hKj => ?_) | apply_assumption)
def p_wake_wakes (o : Order) (price : Int) : Bool :=
  (bif (o.Stop == price) then true else (p_tick_Ahead o.Side o.Stop price))
theorem r_wake_wakes (o : Order) (price : Int) (u : World) (V : VP) : ROc PP F_wake_wakes [.agg (Order.cells o).toArray, .int .i64 price] u V (gval errT ((Enc.one eBool).enc (p_wake_wakes o price))) := by
  refine s_wake_wakes o price u V _ ?_
  suffices h : ∀ K : Bool → World → VP → Prop, K (p_wake_wakes o price) u V → vc_wake_wakes o price u V K from h _ ⟨rfl, .inl ⟨rfl, rfl⟩⟩
  intro K h
  unfold vc_wake_wakes; unfold p_wake_wakes at h
  repeat' (first | exact h | refine ifT ?_ | refine ifF ?_ | (refine ifB (fun hb => ?_) (fun hb => ?_) <;> simp only [hb, cond_true, cond_false] at h) | refine ⟨_, r_tick_Ahead _ _ _ _ _, ?_⟩ | (refine joinI fun Kj hKj => ?_) | apply_assumption)
def p_cmp_Compare_int (x_0 : Int) (y : Int) : Int :=
  (bif (p_cmp_isNaN_int x_0) then (bif (p_cmp_isNaN_int y) then 0 else (-1)) else (bif (p_cmp_isNaN_int y) then 1 else (bif (decide (x_0 < y)) then (-1) else (bif (decide (x_0 > y)) then 1 else 0))))
theorem r_cmp_Compare_int (x_0 : Int) (y : Int) (u : World) (V : VP) : ROc PP F_cmp_Compare_int [.int .i64 x_0, .int .i64 y] u V (gval errT ((Enc.one eInt).enc (p_cmp_Compare_int x_0 y))) := by
  refine s_cmp_Compare_int x_0 y u V _ ?_
  suffices h : ∀ K : Int → World → VP → Prop, K (p_cmp_Compare_int x_0 y) u V → vc_cmp_Compare_int x_0 y u V K from h _ ⟨rfl, .inl ⟨rfl, rfl⟩⟩
  intro K h
  unfold vc_cmp_Compare_int; unfold p_cmp_Compare_int at h
  repeat' (first | exact h | refine ifT ?_ | refine ifF ?_ | (refine ifB (fun hb => ?_) (fun hb => ?_) <;> simp only [hb, cond_true, cond_false] at h) | refine ⟨_, r_cmp_isNaN_int _ _ _, ?_⟩ | (refine joinI fun Kj hKj => ?_) | apply_assumption)
def p_order_Id (n : Int) : Bool :=
  (p_order_within n 1 9999)
theorem r_order_Id (n : Int) (u : World) (V : VP) : ROc PP F_order_Id [.int .i64 n] u V (gval errT ((Enc.one eBool).enc (p_order_Id n))) := by
  refine s_order_Id n u V _ ?_
  suffices h : ∀ K : Bool → World → VP → Prop, K (p_order_Id n) u V → vc_order_Id n u V K from h _ ⟨rfl, .inl ⟨rfl, rfl⟩⟩
  intro K h
  unfold vc_order_Id; unfold p_order_Id at h
  repeat' (first | exact h | refine ifT ?_ | refine ifF ?_ | (refine ifB (fun hb => ?_) (fun hb => ?_) <;> simp only [hb, cond_true, cond_false] at h) | refine ⟨_, r_order_within _ _ _ _ _, ?_⟩ | (refine joinI fun Kj hKj => ?_) | apply_assumption)
def p_order_Who (n : Int) : Bool :=
  (p_order_within n 1 9)
theorem r_order_Who (n : Int) (u : World) (V : VP) : ROc PP F_order_Who [.int .i64 n] u V (gval errT ((Enc.one eBool).enc (p_order_Who n))) := by
  refine s_order_Who n u V _ ?_
  suffices h : ∀ K : Bool → World → VP → Prop, K (p_order_Who n) u V → vc_order_Who n u V K from h _ ⟨rfl, .inl ⟨rfl, rfl⟩⟩
  intro K h
  unfold vc_order_Who; unfold p_order_Who at h
  repeat' (first | exact h | refine ifT ?_ | refine ifF ?_ | (refine ifB (fun hb => ?_) (fun hb => ?_) <;> simp only [hb, cond_true, cond_false] at h) | refine ⟨_, r_order_within _ _ _ _ _, ?_⟩ | (refine joinI fun Kj hKj => ?_) | apply_assumption)
def p_order_Check (o : Order) : Option Int :=
  (bif (!(p_order_Id o.Id)) then (some 1) else (bif (!(p_order_Who o.Who)) then (some 1) else (bif (!(p_tick_Side o.Side)) then (some 1) else (bif (!(p_order_within o.Kind 1 5)) then (some 1) else (bif (o.Kind == 2) then (bif (o.Price != 0) then (some 1) else (bif (o.Kind != 2) then (bif (!(p_tick_Valid o.Price)) then (some 1) else (bif (!(p_order_Qty o.Qty)) then (some 1) else (bif (!(p_order_within o.Show 0 o.Qty)) then (some 1) else (bif (o.Show != 0) then (bif (o.Kind != 1) then (bif (o.Kind != 5) then (some 3) else (bif (o.Stop != 0) then (bif (!(p_tick_Valid o.Stop)) then (some 1) else none) else none)) else (bif (o.Stop != 0) then (bif (!(p_tick_Valid o.Stop)) then (some 1) else none) else none)) else (bif (o.Stop != 0) then (bif (!(p_tick_Valid o.Stop)) then (some 1) else none) else none))))) else (bif (!(p_order_Qty o.Qty)) then (some 1) else (bif (!(p_order_within o.Show 0 o.Qty)) then (some 1) else (bif (o.Show != 0) then (bif (o.Kind != 1) then (bif (o.Kind != 5) then (some 3) else (bif (o.Stop != 0) then (bif (!(p_tick_Valid o.Stop)) then (some 1) else none) else none)) else (bif (o.Stop != 0) then (bif (!(p_tick_Valid o.Stop)) then (some 1) else none) else none)) else (bif (o.Stop != 0) then (bif (!(p_tick_Valid o.Stop)) then (some 1) else none) else none)))))) else (bif (o.Kind != 2) then (bif (!(p_tick_Valid o.Price)) then (some 1) else (bif (!(p_order_Qty o.Qty)) then (some 1) else (bif (!(p_order_within o.Show 0 o.Qty)) then (some 1) else (bif (o.Show != 0) then (bif (o.Kind != 1) then (bif (o.Kind != 5) then (some 3) else (bif (o.Stop != 0) then (bif (!(p_tick_Valid o.Stop)) then (some 1) else none) else none)) else (bif (o.Stop != 0) then (bif (!(p_tick_Valid o.Stop)) then (some 1) else none) else none)) else (bif (o.Stop != 0) then (bif (!(p_tick_Valid o.Stop)) then (some 1) else none) else none))))) else (bif (!(p_order_Qty o.Qty)) then (some 1) else (bif (!(p_order_within o.Show 0 o.Qty)) then (some 1) else (bif (o.Show != 0) then (bif (o.Kind != 1) then (bif (o.Kind != 5) then (some 3) else (bif (o.Stop != 0) then (bif (!(p_tick_Valid o.Stop)) then (some 1) else none) else none)) else (bif (o.Stop != 0) then (bif (!(p_tick_Valid o.Stop)) then (some 1) else none) else none)) else (bif (o.Stop != 0) then (bif (!(p_tick_Valid o.Stop)) then (some 1) else none) else none))))))))))
theorem r_order_Check (o : Order) (u : World) (V : VP) : ROc PP F_order_Check [.agg (Order.cells o).toArray] u V (gval errT ((Enc.one Enc1.err).enc (p_order_Check o))) := by
  refine s_order_Check o u V _ ?_
  suffices h : ∀ K : (Option Int) → World → VP → Prop, K (p_order_Check o) u V → vc_order_Check o u V K from h _ ⟨rfl, .inl ⟨rfl, rfl⟩⟩
  intro K h
  unfold vc_order_Check; unfold p_order_Check at h
  repeat' (first | exact h | refine ifT ?_ | refine ifF ?_ | (refine ifB (fun hb => ?_) (fun hb => ?_) <;> simp only [hb, cond_true, cond_false] at h) | refine ⟨_, r_tick_Side _ _ _, ?_⟩ | refine ⟨_, r_order_Id _ _ _, ?_⟩ | refine ⟨_, r_order_Who _ _ _, ?_⟩ | refine ⟨_, r_order_within _ _ _ _ _, ?_⟩ | refine ⟨_, r_tick_Valid _ _ _, ?_⟩ | refine ⟨_, r_order_Qty _ _ _, ?_⟩ | (refine joinI fun Kj hKj => ?_) | apply_assumption)
end Go.Sx
