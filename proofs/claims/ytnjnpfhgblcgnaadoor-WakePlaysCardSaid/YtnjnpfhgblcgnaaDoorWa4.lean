/-
  Contracts of functions that this claim reaches. Conditions: those of the statement alone.
-/
import Derived.Test.YtnjnpfhgblcgnaaDoorWa3
import Derived.Test.YtnjnpfhgblcgnaaDoorSrt
set_option linter.unusedVariables false
set_option linter.unusedSimpArgs false
namespace Go.Sx

/-- few elements: stably sorted -/
theorem g_slices_stableCmpFunc_Order_few {u : World} {V : VP} {s : Sl} {xs : List Order} (h : Own Order.cells 8 T_Order u s xs) (hV : Sub (sb s) V) {lt : Order → Order → Bool} (hlt : SWO lt) {f : Nat} {caps : List Value} {cm : Order → Order → Int} (hcm : ∀ a b, lt a b = decide (cm a b < 0))
    (hf : ∀ u' V', Upd (sb s) u V u' V' → ∀ a b, a ∈ xs → b ∈ xs → ROc PP f ([aOrder a, aOrder b] ++ caps) u' V' (.int .i64 (cm a b))) (hn : xs.length ≤ 20) :
    GC PP F_slices_stableCmpFunc_Order [.slice s.a s.len s.cap, .int .i64 (s.len : Int), .func (.func f) #[] caps.toArray] u V (fun x => gval errT (Enc.t0.enc x)) (Out (sb s) (sb s) u V fun _ u' S' => Own Order.cells 8 T_Order u' s (isort lt xs) ∧ S' = sb s) := by
  refine s_slices_stableCmpFunc_Order s s.len ⟨f, caps⟩ u V _ ?_
  have hloc : Loc (fun (_ : Unit) u' (S' : VP) => Own Order.cells 8 T_Order u' s (isort lt xs) ∧ S' = sb s) := fun x u u' S h hs => ⟨h.1.same (h.2 ▸ hs), h.2⟩
  have hlen := h.len
  unfold vc_slices_stableCmpFunc_Order
  refine LoopN.st (fun (t : Int × Int) u' V' => (t = (0, 20) ∧ u' = u ∧ V' = V) ∨ (t = (20, 40) ∧ xs.length = 20 ∧ Upd (sb s) u V u' V' ∧ Own Order.cells 8 T_Order u' s (isort lt xs))) (fun t => 40 - t.2.toNat) (.inl ⟨rfl, rfl, rfl⟩) ?_
  rintro t u' V' ht next hn4
  rcases ht with ⟨rfl, rfl, rfl⟩ | ⟨rfl, h20, hU, hO⟩
  · refine ifB (fun hb => ?_) (fun hb => ?_)
    · have h20 : xs.length = 20 := by have := of_decide_eq_true hb; simp only at this; omega
      refine (g_slices_insertionSortCmpFunc_Order h co_Order hV hlt hcm hf (a := 0) (b := 20) (by omega) (by omega)).mono ?_
      rintro _ u1 V1 _ ⟨g1, S1, g2, g3, g4, rfl⟩
      refine ⟨by unfold Rng; simp, hn4 (20, 40) _ _ (.inr ⟨rfl, h20, g1, ?_⟩) (by simp)⟩
      have e1 : (xs.drop 0).take (20 - 0) = xs := by rw [List.drop_zero]; exact List.take_of_length_le (by omega)
      have e2 : xs.drop 20 = [] := List.drop_of_length_le (by omega)
      rw [e1, e2] at g4
      simpa using g4
    · have hlt20 : xs.length < 20 := by have := of_decide_eq_false hb; simp only at this; omega
      have := g_slices_insertionSortCmpFunc_Order h co_Order hV hlt hcm hf (a := 0) (b := xs.length) (by omega) (Nat.le_refl _)
      rw [← hlen] at this
      refine this.mono ?_
      rintro _ u1 V1 _ ⟨g1, S1, g2, g3, g4, rfl⟩
      refine LoopN.skip fun next => ifB (fun hb => absurd (of_decide_eq_true hb) (by omega)) fun _ => Out.fin hloc ⟨g1, sb s, g2, g3, ?_, rfl⟩
      rw [hlen] at g4
      simpa using g4
  · refine ifB (fun hb => absurd (of_decide_eq_true hb) (by simp only; omega)) (fun _ => ?_)
    have hOlen := hO.len
    have hmem : ∀ y, y ∈ isort lt xs → y ∈ xs := fun y hy => mem_isort.1 hy
    have := g_slices_insertionSortCmpFunc_Order hO co_Order (hV.trans hU.vis) hlt hcm (f := f) (caps := caps) (fun u2 V2 h2 a b ha hb => hf u2 V2 (hU.trans h2 fun b hb => .inl hb) a b (hmem _ ha) (hmem _ hb)) (a := 20) (b := s.len) (by omega) (by omega)
    have hs20 : s.len = 20 := by omega
    refine this.mono ?_
    rintro _ u1 V1 _ ⟨g1, S1, g2, g3, g4, rfl⟩
    refine LoopN.skip fun next => ifB (fun hb => absurd (of_decide_eq_true hb) (by omega)) fun _ => Out.fin hloc ⟨hU.trans g1 fun b hb => .inl hb, sb s, g2, fun b hb => .inl hb, ?_, rfl⟩
    rw [hs20] at g4
    have : List.take 20 (isort lt xs) ++ isort lt (List.take (20 - 20) (List.drop 20 (isort lt xs))) ++ List.drop 20 (isort lt xs) = isort lt xs := by simp [isort]
    rw [this] at g4
    exact g4

theorem g_slices_SortStableFunc_Order_few {u : World} {V : VP} {s : Sl} {xs : List Order} (h : Own Order.cells 8 T_Order u s xs) (hV : Sub (sb s) V) {lt : Order → Order → Bool} (hlt : SWO lt) {f : Nat} {caps : List Value} {cm : Order → Order → Int} (hcm : ∀ a b, lt a b = decide (cm a b < 0))
    (hf : ∀ u' V', Upd (sb s) u V u' V' → ∀ a b, a ∈ xs → b ∈ xs → ROc PP f ([aOrder a, aOrder b] ++ caps) u' V' (.int .i64 (cm a b))) (hn : xs.length ≤ 20) :
    GC PP F_slices_SortStableFunc_Order [.slice s.a s.len s.cap, .func (.func f) #[] caps.toArray] u V (fun x => gval errT (Enc.t0.enc x)) (Out (sb s) (sb s) u V fun _ u' S' => Own Order.cells 8 T_Order u' s (isort lt xs) ∧ S' = sb s) := by
  refine s_slices_SortStableFunc_Order s ⟨f, caps⟩ u V _ ?_
  have hloc : Loc (fun (_ : Unit) u' (S' : VP) => Own Order.cells 8 T_Order u' s (isort lt xs) ∧ S' = sb s) := fun x u u' S h hs => ⟨h.1.same (h.2 ▸ hs), h.2⟩
  exact (g_slices_stableCmpFunc_Order_few h hV hlt hcm hf hn).mono fun x u' V' _ hx => Out.fin hloc hx

/-! ### the order in which they wake -/
def orI (xs : List Int) : Int := (xs.find? (· != 0)).getD 0
theorem r_cmp_Or_int {u : World} {V S : VP} {s : Sl} {xs : List Int} (h : SlR cI u S s xs) (hS : Sub S V) : ROc PP F_cmp_Or_int [.slice s.a s.len s.cap] u V (gval errT ((Enc.one eInt).enc (orI xs))) := by
  refine s_cmp_Or_int s u V _ ?_
  unfold vc_cmp_Or_int
  refine LoopN.rangeR xs.length (fun i => orI xs = orI (xs.drop i)) (by simp) ?_
  intro i hi hQ next hn
  refine ifB (fun hb => ?_) (fun hb => ?_)
  · have hlt : i < xs.length := by have := of_decide_eq_true hb; rw [h.len] at this; omega
    have hd : xs.drop i = xs[i] :: xs.drop (i + 1) := List.drop_eq_getElem_cons hlt
    refine h.ixN coI.len hlt fun ad _ hat => ⟨_, hat.sub hS, ?_⟩
    refine ifB (fun hb2 => ?_) (fun hb2 => ?_)
    · exact ⟨by rw [hQ, hd]; unfold orI; rw [List.find?_cons_of_pos (by exact hb2)]; rfl, ext_refl _ _⟩
    · exact ⟨rng_nat (by have := h.big; omega), hn hlt (by rw [hQ, hd]; unfold orI; rw [List.find?_cons_of_neg (by simp [hb2])])⟩
  · have hge : xs.length ≤ i := by have := of_decide_eq_false hb; rw [h.len] at this; omega
    exact ⟨by rw [hQ, List.drop_of_length_le hge]; rfl, ext_refl _ _⟩

def wcmp (a b : Order) : Int :=
  if a.Side ≠ b.Side ∨ a.Side = 1 then (if p_cmp_Compare_int a.Side b.Side ≠ 0 then p_cmp_Compare_int a.Side b.Side else p_cmp_Compare_int a.Stop b.Stop) else p_cmp_Compare_int b.Stop a.Stop
theorem orI_two (x y : Int) : orI [x, y] = if x ≠ 0 then x else y := by
  by_cases hx : x = 0
  · subst hx
    by_cases hy : y = 0
    · subst hy; rfl
    · simp [orI, hy]
  · simp [orI, hx]
theorem r_wake_Stops_Wake_1 {u : World} {V : VP} (a b : Order) : ROc PP F_wake_Stops_Wake_1 [.agg (Order.cells a).toArray, .agg (Order.cells b).toArray] u V (gval errT ((Enc.one eInt).enc (wcmp a b))) := by
  refine s_wake_Stops_Wake_1 a b u V _ ?_
  unfold vc_wake_Stops_Wake_1
  have two : ∀ x y : Int, (if x ≠ 0 then x else y) = wcmp a b → NewC u V T_i64 [.int .i64 x, .int .i64 y] fun b3 u4 V5 => ∃ x6 : Int, ROc PP F_cmp_Or_int [.slice (some (⟨b3, 0, none⟩ : Addr)) 2 2] u4 V5 (gval errT ((Enc.one eInt).enc x6)) ∧ (x6 = wcmp a b ∧ Ext u V u4 V5) := by
    intro x y hxy
    refine NewC.mk fun b1 u2 V2 hbd hge hcell hsub hb1 hbd' hrel => ?_
    have hN : Own cI 1 T_i64 u2 ⟨some ⟨b1, 0, none⟩, 2, 2⟩ [x, y] := Own.new coI.len hcell rfl (by simp)
    exact ⟨_, r_cmp_Or_int (s := ⟨some ⟨b1, 0, none⟩, 2, 2⟩) hN.toR (fun b hb => by rw [sb_iff] at hb; subst hb; exact hb1), by rw [orI_two, hxy], ext_new hsub hrel⟩
  refine joinI fun Kj hKj => ifB (fun hb => ?_) (fun hb => ?_)
  · have h1 : a.Side ≠ b.Side := by simpa using hb
    refine hKj _ _ _ ?_
    refine ifT ?_
    exact ⟨_, r_cmp_Compare_int _ _ _ _, _, r_cmp_Compare_int _ _ _ _, two _ _ (by simp [wcmp, h1])⟩
  · have h1 : a.Side = b.Side := by simpa using hb
    refine hKj _ _ _ ?_
    refine ifB (fun hb2 => ?_) (fun hb2 => ?_)
    · have h2 : a.Side = 1 := by simpa using hb2
      exact ⟨_, r_cmp_Compare_int _ _ _ _, _, r_cmp_Compare_int _ _ _ _, two _ _ (by simp [wcmp, h2])⟩
    · have h2 : ¬ a.Side = 1 := by simpa using hb2
      exact ⟨_, r_cmp_Compare_int _ _ _ _, by rw [wcmp, if_neg (by simp [h1]; omega)], ext_refl _ _⟩
end Go.Sx
