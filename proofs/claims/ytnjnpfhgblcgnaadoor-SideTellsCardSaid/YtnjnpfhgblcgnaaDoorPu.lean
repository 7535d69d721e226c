/-
  Functions that only reckon: their contracts. Conditions: those of the statement alone.
-/
import Derived.Test.YtnjnpfhgblcgnaaDoorSt
import Derived.Test.YtnjnpfhgblcgnaaDoorSpA
set_option linter.unusedVariables false
set_option linter.unusedSimpArgs false
set_option maxRecDepth 100000
set_option maxHeartbeats 4000000
namespace Go.Sx
def p_pitref1_Price (p : Int) : Bool :=
  (bif (decide (p ≥ 1)) then (decide (p ≤ 10000)) else false)
theorem r_pitref1_Price (p : Int) (u : World) (V : VP) : ROc PP F_pitref1_Price [.int .i64 p] u V (gval errT ((Enc.one eBool).enc (p_pitref1_Price p))) := by
  refine s_pitref1_Price p u V _ ?_
  suffices h : ∀ K : Bool → World → VP → Prop, K (p_pitref1_Price p) u V → vc_pitref1_Price p u V K from h _ ⟨rfl, .inl ⟨rfl, rfl⟩⟩
  intro K h
  unfold vc_pitref1_Price; unfold p_pitref1_Price at h
  repeat' (first | exact h | refine ifT ?_ | refine ifF ?_ | (refine ifB (fun hb => ?_) (fun hb => ?_) <;> simp only [hb, cond_true, cond_false] at h) | (refine joinI fun Kj hKj => ?_) | apply_assumption)
def p_pitref1_Ahead (side : Int) (a : Int) (b : Int) : Bool :=
  (bif (side == 1) then (bif (decide (a < b)) then true else (bif (side == 2) then (decide (a > b)) else false)) else (bif (side == 2) then (decide (a > b)) else false))
theorem r_pitref1_Ahead (side : Int) (a : Int) (b : Int) (u : World) (V : VP) : ROc PP F_pitref1_Ahead [.int .i64 side, .int .i64 a, .int .i64 b] u V (gval errT ((Enc.one eBool).enc (p_pitref1_Ahead side a b))) := by
  refine s_pitref1_Ahead side a b u V _ ?_
  suffices h : ∀ K : Bool → World → VP → Prop, K (p_pitref1_Ahead side a b) u V → vc_pitref1_Ahead side a b u V K from h _ ⟨rfl, .inl ⟨rfl, rfl⟩⟩
  intro K h
  unfold vc_pitref1_Ahead; unfold p_pitref1_Ahead at h
  repeat' (first | exact h | refine ifT ?_ | refine ifF ?_ | (refine ifB (fun hb => ?_) (fun hb => ?_) <;> simp only [hb, cond_true, cond_false] at h) | (refine joinI fun Kj hKj => ?_) | apply_assumption)
def p_pitref1_Side (s : Int) : Bool :=
  (bif (s == 1) then true else (s == 2))
theorem r_pitref1_Side (s : Int) (u : World) (V : VP) : ROc PP F_pitref1_Side [.int .i64 s] u V (gval errT ((Enc.one eBool).enc (p_pitref1_Side s))) := by
  refine s_pitref1_Side s u V _ ?_
  suffices h : ∀ K : Bool → World → VP → Prop, K (p_pitref1_Side s) u V → vc_pitref1_Side s u V K from h _ ⟨rfl, .inl ⟨rfl, rfl⟩⟩
  intro K h
  unfold vc_pitref1_Side; unfold p_pitref1_Side at h
  repeat' (first | exact h | refine ifT ?_ | refine ifF ?_ | (refine ifB (fun hb => ?_) (fun hb => ?_) <;> simp only [hb, cond_true, cond_false] at h) | (refine joinI fun Kj hKj => ?_) | apply_assumption)
def p_tick_Side (s : Int) : Bool :=
  (bif (s == 1) then true else (s == 2))
theorem r_tick_Side (s : Int) (u : World) (V : VP) : ROc PP F_tick_Side [.int .i64 s] u V (gval errT ((Enc.one eBool).enc (p_tick_Side s))) := by
  refine s_tick_Side s u V _ ?_
  suffices h : ∀ K : Bool → World → VP → Prop, K (p_tick_Side s) u V → vc_tick_Side s u V K from h _ ⟨rfl, .inl ⟨rfl, rfl⟩⟩
  intro K h
  unfold vc_tick_Side; unfold p_tick_Side at h
  repeat' (first | exact h | refine ifT ?_ | refine ifF ?_ | (refine ifB (fun hb => ?_) (fun hb => ?_) <;> simp only [hb, cond_true, cond_false] at h) | (refine joinI fun Kj hKj => ?_) | apply_assumption)
def p_pitref1_Rest (r_0 : Rest) : Int :=
  (bif (decide (r_0.Id < 1)) then 1 else (bif (decide (r_0.Id > 9999)) then 1 else (bif (decide (r_0.Who < 1)) then 1 else (bif (decide (r_0.Who > 9)) then 1 else (bif (decide (r_0.Qty < 1)) then 1 else (bif (decide (r_0.Qty > 10000)) then 1 else (bif (decide (r_0.Hidden < 0)) then 1 else (bif (decide (r_0.Hidden > 10000)) then 1 else (bif (decide (r_0.Show < 0)) then 1 else (bif (decide (r_0.Show > 10000)) then 1 else (bif (r_0.Show == 0) then (bif (r_0.Hidden != 0) then 3 else (bif (r_0.Show != 0) then (bif (decide (r_0.Qty > r_0.Show)) then 3 else 0) else 0)) else (bif (r_0.Show != 0) then (bif (decide (r_0.Qty > r_0.Show)) then 3 else 0) else 0))))))))))))
theorem r_pitref1_Rest (r_0 : Rest) (u : World) (V : VP) : ROc PP F_pitref1_Rest [.agg (Rest.cells r_0).toArray] u V (gval errT ((Enc.one eInt).enc (p_pitref1_Rest r_0))) := by
  refine s_pitref1_Rest r_0 u V _ ?_
  suffices h : ∀ K : Int → World → VP → Prop, K (p_pitref1_Rest r_0) u V → vc_pitref1_Rest r_0 u V K from h _ ⟨rfl, .inl ⟨rfl, rfl⟩⟩
  intro K h
  unfold vc_pitref1_Rest; unfold p_pitref1_Rest at h
  repeat' (first | exact h | refine ifT ?_ | refine ifF ?_ | (refine ifB (fun hb => ?_) (fun hb => ?_) <;> simp only [hb, cond_true, cond_false] at h) | (refine joinI fun Kj hKj => ?_) | apply_assumption)
def p_order_within (n : Int) (low : Int) (high : Int) : Bool :=
  (bif (decide (n ≥ low)) then (decide (n ≤ high)) else false)
theorem r_order_within (n : Int) (low : Int) (high : Int) (u : World) (V : VP) : ROc PP F_order_within [.int .i64 n, .int .i64 low, .int .i64 high] u V (gval errT ((Enc.one eBool).enc (p_order_within n low high))) := by
  refine s_order_within n low high u V _ ?_
  suffices h : ∀ K : Bool → World → VP → Prop, K (p_order_within n low high) u V → vc_order_within n low high u V K from h _ ⟨rfl, .inl ⟨rfl, rfl⟩⟩
  intro K h
  unfold vc_order_within; unfold p_order_within at h
  repeat' (first | exact h | refine ifT ?_ | refine ifF ?_ | (refine ifB (fun hb => ?_) (fun hb => ?_) <;> simp only [hb, cond_true, cond_false] at h) | (refine joinI fun Kj hKj => ?_) | apply_assumption)
def p_tick_Valid (p : Int) : Bool :=
  (bif (decide (p ≥ 1)) then (decide (p ≤ 10000)) else false)
theorem r_tick_Valid (p : Int) (u : World) (V : VP) : ROc PP F_tick_Valid [.int .i64 p] u V (gval errT ((Enc.one eBool).enc (p_tick_Valid p))) := by
  refine s_tick_Valid p u V _ ?_
  suffices h : ∀ K : Bool → World → VP → Prop, K (p_tick_Valid p) u V → vc_tick_Valid p u V K from h _ ⟨rfl, .inl ⟨rfl, rfl⟩⟩
  intro K h
  unfold vc_tick_Valid; unfold p_tick_Valid at h
  repeat' (first | exact h | refine ifT ?_ | refine ifF ?_ | (refine ifB (fun hb => ?_) (fun hb => ?_) <;> simp only [hb, cond_true, cond_false] at h) | (refine joinI fun Kj hKj => ?_) | apply_assumption)
def p_order_Qty (n : Int) : Bool :=
  (p_order_within n 1 10000)
theorem r_order_Qty (n : Int) (u : World) (V : VP) : ROc PP F_order_Qty [.int .i64 n] u V (gval errT ((Enc.one eBool).enc (p_order_Qty n))) := by
  refine s_order_Qty n u V _ ?_
  suffices h : ∀ K : Bool → World → VP → Prop, K (p_order_Qty n) u V → vc_order_Qty n u V K from h _ ⟨rfl, .inl ⟨rfl, rfl⟩⟩
  intro K h
  unfold vc_order_Qty; unfold p_order_Qty at h
  repeat' (first | exact h | refine ifT ?_ | refine ifF ?_ | (refine ifB (fun hb => ?_) (fun hb => ?_) <;> simp only [hb, cond_true, cond_false] at h) | refine ⟨_, r_order_within _ _ _ _ _, ?_⟩ | (refine joinI fun Kj hKj => ?_) | apply_assumption)
def p_tick_Ahead (side : Int) (a : Int) (b : Int) : Bool :=
  (bif (side == 1) then (decide (a < b)) else (decide (a > b)))
theorem r_tick_Ahead (side : Int) (a : Int) (b : Int) (u : World) (V : VP) : ROc PP F_tick_Ahead [.int .i64 side, .int .i64 a, .int .i64 b] u V (gval errT ((Enc.one eBool).enc (p_tick_Ahead side a b))) := by
  refine s_tick_Ahead side a b u V _ ?_
  suffices h : ∀ K : Bool → World → VP → Prop, K (p_tick_Ahead side a b) u V → vc_tick_Ahead side a b u V K from h _ ⟨rfl, .inl ⟨rfl, rfl⟩⟩
  intro K h
  unfold vc_tick_Ahead; unfold p_tick_Ahead at h
  repeat' (first | exact h | refine ifT ?_ | refine ifF ?_ | (refine ifB (fun hb => ?_) (fun hb => ?_) <;> simp only [hb, cond_true, cond_false] at h) | (refine joinI fun Kj hKj => ?_) | apply_assumption)
def p_tick_Price (p : Int) : Option Int :=
  (bif (!(p_tick_Valid p)) then (some 1) else none)
theorem r_tick_Price (p : Int) (u : World) (V : VP) : ROc PP F_tick_Price [.int .i64 p] u V (gval errT ((Enc.one Enc1.err).enc (p_tick_Price p))) := by
  refine s_tick_Price p u V _ ?_
  suffices h : ∀ K : (Option Int) → World → VP → Prop, K (p_tick_Price p) u V → vc_tick_Price p u V K from h _ ⟨rfl, .inl ⟨rfl, rfl⟩⟩
  intro K h
  unfold vc_tick_Price; unfold p_tick_Price at h
  repeat' (first | exact h | refine ifT ?_ | refine ifF ?_ | (refine ifB (fun hb => ?_) (fun hb => ?_) <;> simp only [hb, cond_true, cond_false] at h) | refine ⟨_, r_tick_Valid _ _ _, ?_⟩ | (refine joinI fun Kj hKj => ?_) | apply_assumption)
def p_order_Id (n : Int) : Bool :=
  (p_order_within n 1 9999)
theorem r_order_Id (n : Int) (u : World) (V : VP) : ROc PP F_order_Id [.int .i64 n] u V (gval errT ((Enc.one eBool).enc (p_order_Id n))) := by
  refine s_order_Id n u V _ ?_
  suffices h : ∀ K : Bool → World → VP → Prop, K (p_order_Id n) u V → vc_order_Id n u V K from h _ ⟨rfl, .inl ⟨rfl, rfl⟩⟩
  intro K h
  unfold vc_order_Id; unfold p_order_Id at h
  repeat' (first | exact h | refine ifT ?_ | refine ifF ?_ | (refine ifB (fun hb => ?_) (fun hb => ?_) <;> simp only [hb, cond_true, cond_false] at h) | refine ⟨_, r_order_within _ _ _ _ _, ?_⟩ | (refine joinI fun Kj hKj => ?_) | apply_assumption)
def p_order_Who (n : Int) : Bool :=
  (p_order_within n 1 9)
theorem r_order_Who (n : Int) (u : World) (V : VP) : ROc PP F_order_Who [.int .i64 n] u V (gval errT ((Enc.one eBool).enc (p_order_Who n))) := by
  refine s_order_Who n u V _ ?_
  suffices h : ∀ K : Bool → World → VP → Prop, K (p_order_Who n) u V → vc_order_Who n u V K from h _ ⟨rfl, .inl ⟨rfl, rfl⟩⟩
  intro K h
  unfold vc_order_Who; unfold p_order_Who at h
  repeat' (first | exact h | refine ifT ?_ | refine ifF ?_ | (refine ifB (fun hb => ?_) (fun hb => ?_) <;> simp only [hb, cond_true, cond_false] at h) | refine ⟨_, r_order_within _ _ _ _ _, ?_⟩ | (refine joinI fun Kj hKj => ?_) | apply_assumption)
def p_queue_One (r_0 : Rest) : Option Int :=
  (bif (!(p_order_Id r_0.Id)) then (some 1) else (bif (!(p_order_Who r_0.Who)) then (some 1) else (bif (!(p_order_Qty r_0.Qty)) then (some 1) else (bif (decide (r_0.Hidden < 0)) then (some 1) else (bif (decide (r_0.Hidden > 10000)) then (some 1) else (bif (decide (r_0.Show < 0)) then (some 1) else (bif (decide (r_0.Show > 10000)) then (some 1) else (bif (r_0.Show == 0) then (bif (r_0.Hidden != 0) then (some 3) else (bif (r_0.Show != 0) then (bif (decide (r_0.Show < r_0.Qty)) then (some 3) else none) else none)) else (bif (r_0.Show != 0) then (bif (decide (r_0.Show < r_0.Qty)) then (some 3) else none) else none)))))))))
theorem r_queue_One (r_0 : Rest) (u : World) (V : VP) : ROc PP F_queue_One [.agg (Rest.cells r_0).toArray] u V (gval errT ((Enc.one Enc1.err).enc (p_queue_One r_0))) := by
  refine s_queue_One r_0 u V _ ?_
  suffices h : ∀ K : (Option Int) → World → VP → Prop, K (p_queue_One r_0) u V → vc_queue_One r_0 u V K from h _ ⟨rfl, .inl ⟨rfl, rfl⟩⟩
  intro K h
  unfold vc_queue_One; unfold p_queue_One at h
  repeat' (first | exact h | refine ifT ?_ | refine ifF ?_ | (refine ifB (fun hb => ?_) (fun hb => ?_) <;> simp only [hb, cond_true, cond_false] at h) | refine ⟨_, r_order_Id _ _ _, ?_⟩ | refine ⟨_, r_order_Who _ _ _, ?_⟩ | refine ⟨_, r_order_Qty _ _ _, ?_⟩ | (refine joinI fun Kj hKj => ?_) | apply_assumption)
end Go.Sx
