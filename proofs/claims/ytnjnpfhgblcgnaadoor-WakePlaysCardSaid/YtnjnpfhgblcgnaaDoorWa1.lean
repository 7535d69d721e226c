/-
  Contracts of functions that this claim reaches. Conditions: those of the statement alone.
-/
import Derived.Test.YtnjnpfhgblcgnaaDoorLib
set_option linter.unusedVariables false
set_option linter.unusedSimpArgs false
namespace Go.Sx

theorem r_pitref2_Waits {u : World} {V S : VP} {l : Sl} {xs : List Order} (h : SlR Order.cells u S l xs) (hS : Sub S V) (id : Int) :
    ROc PP F_pitref2_Waits [.slice l.a l.len l.cap, .int .i64 id] u V (gval errT ((Enc.one eInt).enc (idxI (fun o : Order => o.Id == id) xs))) := by
  refine s_pitref2_Waits l id u V _ ?_
  unfold vc_pitref2_Waits
  refine LoopN.rangeR xs.length (fun i => ∀ j (hj : j < i) (hx : j < xs.length), (xs[j].Id == id) = false) (fun j hj => absurd hj (by omega)) ?_
  intro i hi hQ next hn
  refine ifB (fun hb => ?_) (fun hb => ?_)
  · have hlt : i < xs.length := by have := of_decide_eq_true hb; rw [h.len] at this; omega
    refine h.ixN co_Order.len hlt fun ad _ hat => ?_
    refine ⟨_, hat.fld hS rfl, ?_⟩
    refine ifB (fun hb2 => ?_) (fun hb2 => ?_)
    · exact ⟨(idxI_some hlt hb2 fun j hj => hQ j hj _).symm, ext_refl _ _⟩
    · refine ⟨rng_nat (by have := h.big; omega), hn hlt fun j hj hx => ?_⟩
      rcases Nat.lt_succ_iff_lt_or_eq.1 hj with h1 | rfl
      · exact hQ j h1 hx
      · exact hb2
  · have hge : ¬ i < xs.length := by have := of_decide_eq_false hb; rw [h.len] at this; omega
    exact ⟨(idxI_none fun j hj => hQ j (by omega) hj).symm, ext_refl _ _⟩

theorem r_wake_Stops_Where_1 {u : World} {V : VP} (o : Order) {c0 : Addr} {id : Int} (h : At u V c0 [.int .i64 id]) :
    ROc PP F_wake_Stops_Where_1 [.agg (Order.cells o).toArray, .pointer (some c0)] u V (gval errT ((Enc.one eBool).enc (o.Id == id))) := by
  refine s_wake_Stops_Where_1 o c0 u V _ ?_
  exact ⟨id, h, rfl, ext_refl _ _⟩
end Go.Sx
