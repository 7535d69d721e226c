/-
  Contracts of functions that this claim reaches. Conditions: those of the statement alone.
-/
import Derived.Test.YtnjnpfhgblcgnaaDoorBas
import Derived.Test.YtnjnpfhgblcgnaaDoorSpA
set_option linter.unusedVariables false
set_option linter.unusedSimpArgs false
set_option maxRecDepth 100000
namespace Go.Sx

/-! ### rests -/
def restF (x : Rest) : Int :=
  if ¬ (1 ≤ x.Id ∧ x.Id ≤ 9999) ∨ ¬ (1 ≤ x.Who ∧ x.Who ≤ 9) ∨ ¬ (1 ≤ x.Qty ∧ x.Qty ≤ 10000) then 1
  else if ¬ (0 ≤ x.Hidden ∧ x.Hidden ≤ 10000) ∨ ¬ (0 ≤ x.Show ∧ x.Show ≤ 10000) then 1
  else if (x.Show = 0 ∧ x.Hidden ≠ 0) ∨ (x.Show ≠ 0 ∧ x.Qty > x.Show) then 3
  else 0
theorem queue_one_eq (x : Rest) : p_queue_One x = errOf (restF x) := by
  have f1 : restF x = 1 → some 1 = errOf (restF x) := fun h => by rw [h]; rfl
  have f3 : restF x = 3 → some 3 = errOf (restF x) := fun h => by rw [h]; rfl
  have f0 : restF x = 0 → none = errOf (restF x) := fun h => by rw [h]; rfl
  unfold p_queue_One
  cases h1 : p_order_Id x.Id with
  | false => have := bfalse (within_iff _ _ _) h1; exact f1 (by unfold restF; rw [if_pos]; omega)
  | true =>
  cases h2 : p_order_Who x.Who with
  | false => have := bfalse (within_iff _ _ _) h2; exact f1 (by unfold restF; rw [if_pos]; omega)
  | true =>
  cases h3 : p_order_Qty x.Qty with
  | false => have := bfalse (within_iff _ _ _) h3; exact f1 (by unfold restF; rw [if_pos]; omega)
  | true =>
  have g1 := (within_iff _ _ _).1 h1
  have g2 := (within_iff _ _ _).1 h2
  have g3 := (within_iff _ _ _).1 h3
  have hA : ¬ (¬ (1 ≤ x.Id ∧ x.Id ≤ 9999) ∨ ¬ (1 ≤ x.Who ∧ x.Who ≤ 9) ∨ ¬ (1 ≤ x.Qty ∧ x.Qty ≤ 10000)) := by omega
  cases h4 : decide (x.Hidden < 0) with
  | true => have := of_decide_eq_true h4; exact f1 (by unfold restF; rw [if_neg hA, if_pos]; omega)
  | false =>
  cases h5 : decide (x.Hidden > 10000) with
  | true => have := of_decide_eq_true h5; exact f1 (by unfold restF; rw [if_neg hA, if_pos]; omega)
  | false =>
  cases h6 : decide (x.Show < 0) with
  | true => have := of_decide_eq_true h6; exact f1 (by unfold restF; rw [if_neg hA, if_pos]; omega)
  | false =>
  cases h7 : decide (x.Show > 10000) with
  | true => have := of_decide_eq_true h7; exact f1 (by unfold restF; rw [if_neg hA, if_pos]; omega)
  | false =>
  have g4 := of_decide_eq_false h4
  have g5 := of_decide_eq_false h5
  have g6 := of_decide_eq_false h6
  have g7 := of_decide_eq_false h7
  have hB : ¬ (¬ (0 ≤ x.Hidden ∧ x.Hidden ≤ 10000) ∨ ¬ (0 ≤ x.Show ∧ x.Show ≤ 10000)) := by omega
  cases h8 : (x.Show == 0) with
  | true =>
    have g8 : x.Show = 0 := by simpa using h8
    have e8 : (x.Show != 0) = false := by simp [g8]
    rw [e8]
    cases h9 : (x.Hidden != 0) with
    | true => have : x.Hidden ≠ 0 := by simpa using h9
              exact f3 (by unfold restF; rw [if_neg hA, if_neg hB, if_pos]; omega)
    | false => have : x.Hidden = 0 := by simpa using h9
               exact f0 (by unfold restF; rw [if_neg hA, if_neg hB, if_neg]; omega)
  | false =>
    have g8 : x.Show ≠ 0 := by simpa using h8
    have e8 : (x.Show != 0) = true := by simp [g8]
    rw [e8]
    cases h9 : decide (x.Show < x.Qty) with
    | true => have := of_decide_eq_true h9; exact f3 (by unfold restF; rw [if_neg hA, if_neg hB, if_pos]; omega)
    | false => have := of_decide_eq_false h9; exact f0 (by unfold restF; rw [if_neg hA, if_neg hB, if_neg]; omega)
theorem rrest_eq (x : Rest) : p_pitref1_Rest x = restF x := by
  have f1 : restF x = 1 → 1 = restF x := fun h => h.symm
  unfold p_pitref1_Rest
  cases h1 : decide (x.Id < 1) with
  | true => have := of_decide_eq_true h1; exact f1 (by unfold restF; rw [if_pos]; omega)
  | false =>
  cases h2 : decide (x.Id > 9999) with
  | true => have := of_decide_eq_true h2; exact f1 (by unfold restF; rw [if_pos]; omega)
  | false =>
  cases h3 : decide (x.Who < 1) with
  | true => have := of_decide_eq_true h3; exact f1 (by unfold restF; rw [if_pos]; omega)
  | false =>
  cases h4 : decide (x.Who > 9) with
  | true => have := of_decide_eq_true h4; exact f1 (by unfold restF; rw [if_pos]; omega)
  | false =>
  cases h5 : decide (x.Qty < 1) with
  | true => have := of_decide_eq_true h5; exact f1 (by unfold restF; rw [if_pos]; omega)
  | false =>
  cases h6 : decide (x.Qty > 10000) with
  | true => have := of_decide_eq_true h6; exact f1 (by unfold restF; rw [if_pos]; omega)
  | false =>
  have g1 := of_decide_eq_false h1
  have g2 := of_decide_eq_false h2
  have g3 := of_decide_eq_false h3
  have g4 := of_decide_eq_false h4
  have g5 := of_decide_eq_false h5
  have g6 := of_decide_eq_false h6
  have hA : ¬ (¬ (1 ≤ x.Id ∧ x.Id ≤ 9999) ∨ ¬ (1 ≤ x.Who ∧ x.Who ≤ 9) ∨ ¬ (1 ≤ x.Qty ∧ x.Qty ≤ 10000)) := by omega
  cases k4 : decide (x.Hidden < 0) with
  | true => have := of_decide_eq_true k4; exact f1 (by unfold restF; rw [if_neg hA, if_pos]; omega)
  | false =>
  cases k5 : decide (x.Hidden > 10000) with
  | true => have := of_decide_eq_true k5; exact f1 (by unfold restF; rw [if_neg hA, if_pos]; omega)
  | false =>
  cases k6 : decide (x.Show < 0) with
  | true => have := of_decide_eq_true k6; exact f1 (by unfold restF; rw [if_neg hA, if_pos]; omega)
  | false =>
  cases k7 : decide (x.Show > 10000) with
  | true => have := of_decide_eq_true k7; exact f1 (by unfold restF; rw [if_neg hA, if_pos]; omega)
  | false =>
  have j4 := of_decide_eq_false k4
  have j5 := of_decide_eq_false k5
  have j6 := of_decide_eq_false k6
  have j7 := of_decide_eq_false k7
  have hB : ¬ (¬ (0 ≤ x.Hidden ∧ x.Hidden ≤ 10000) ∨ ¬ (0 ≤ x.Show ∧ x.Show ≤ 10000)) := by omega
  cases h8 : (x.Show == 0) with
  | true =>
    have g8 : x.Show = 0 := by simpa using h8
    have e8 : (x.Show != 0) = false := by simp [g8]
    rw [e8]
    cases h9 : (x.Hidden != 0) with
    | true => have : x.Hidden ≠ 0 := by simpa using h9
              exact (show restF x = 3 by unfold restF; rw [if_neg hA, if_neg hB, if_pos]; omega).symm
    | false => have : x.Hidden = 0 := by simpa using h9
               exact (show restF x = 0 by unfold restF; rw [if_neg hA, if_neg hB, if_neg]; omega).symm
  | false =>
    have g8 : x.Show ≠ 0 := by simpa using h8
    have e8 : (x.Show != 0) = true := by simp [g8]
    rw [e8]
    cases h9 : decide (x.Qty > x.Show) with
    | true => have := of_decide_eq_true h9; exact (show restF x = 3 by unfold restF; rw [if_neg hA, if_neg hB, if_pos]; omega).symm
    | false => have := of_decide_eq_false h9; exact (show restF x = 0 by unfold restF; rw [if_neg hA, if_neg hB, if_neg]; omega).symm

abbrev hasId (id : Int) : Rest → Bool := fun x => x.Id == id
theorem r_queue_Find_1 {u : World} {V : VP} (o : Rest) {c0 : Addr} {id : Int} (h : At u V c0 [.int .i64 id]) :
    ROc PP F_queue_Find_1 [.agg (Rest.cells o).toArray, .pointer (some c0)] u V (gval errT ((Enc.one eBool).enc (o.Id == id))) := by
  refine s_queue_Find_1 o c0 u V _ ?_
  exact ⟨id, h, rfl, ext_refl _ _⟩
theorem r_queue_Find {u : World} {V S : VP} {l : Sl} {xs : List Rest} (h : SlR Rest.cells u S l xs) (hS : Sub S V) (id : Int) :
    ROc PP F_queue_Find [.slice l.a l.len l.cap, .int .i64 id] u V (gval errT ((Enc.one eInt).enc (idxI (hasId id) xs))) := by
  refine s_queue_Find l id u V _ ?_
  unfold vc_queue_Find
  refine NewC.mk fun b1 u2 V3 hbd hge hcell hsub hb1 hbd' hrel => ?_
  exact ⟨_, r_slices_IndexFunc_Rest (h.same (same_rel hrel hS)) (hS.trans hsub) _ [.pointer (some ⟨b1, 0, none⟩)] _ fun o _ => r_queue_Find_1 o (new_at hb1 hcell), rfl, ext_new hsub hrel⟩
theorem r_pitref1_In {u : World} {V S : VP} {l : Sl} {xs : List Rest} (h : SlR Rest.cells u S l xs) (hS : Sub S V) (id : Int) :
    ROc PP F_pitref1_In [.slice l.a l.len l.cap, .int .i64 id] u V (gval errT ((Enc.one eInt).enc (idxI (hasId id) xs))) := by
  refine s_pitref1_In l id u V _ ?_
  unfold vc_pitref1_In
  refine LoopN.rangeR xs.length (fun i => ∀ j (hj : j < i) (hx : j < xs.length), hasId id xs[j] = false) (fun j hj => absurd hj (by omega)) ?_
  intro i hi hQ next hn
  refine ifB (fun hb => ?_) (fun hb => ?_)
  · have hlt : i < xs.length := by have := of_decide_eq_true hb; rw [h.len] at this; omega
    refine h.ixN co_Rest.len hlt fun ad _ hat => ?_
    refine ⟨_, hat.fld hS rfl, ?_⟩
    refine ifB (fun hb2 => ?_) (fun hb2 => ?_)
    · exact ⟨(idxI_some hlt hb2 fun j hj => hQ j hj _).symm, ext_refl _ _⟩
    · refine ⟨rng_nat (by have := h.big; omega), hn hlt fun j hj hx => ?_⟩
      rcases Nat.lt_succ_iff_lt_or_eq.1 hj with h1 | rfl
      · exact hQ j h1 hx
      · exact hb2
  · have hge : ¬ i < xs.length := by have := of_decide_eq_false hb; rw [h.len] at this; omega
    exact ⟨(idxI_none fun j hj => hQ j (by omega) hj).symm, ext_refl _ _⟩

/-! ### a queue's fault -/
def qF (pre : List Rest) : List Rest → Int
  | [] => 0
  | x :: xs => if restF x ≠ 0 then restF x else if idxI (hasId x.Id) pre ≥ 0 then 7 else qF (pre ++ [x]) xs
def queueF (xs : List Rest) : Int := if xs.length > 60 then 4 else qF [] xs
theorem qF_step {xs : List Rest} {i : Nat} (hi : i < xs.length) : qF (xs.take i) (xs.drop i) = if restF xs[i] ≠ 0 then restF xs[i] else if idxI (hasId xs[i].Id) (xs.take i) ≥ 0 then 7 else qF (xs.take (i + 1)) (xs.drop (i + 1)) := by
  rw [List.drop_eq_getElem_cons hi, qF, List.take_succ_eq_append_getElem hi]
theorem r_queue_Check {u : World} {V S : VP} {l : Sl} {xs : List Rest} (h : SlR Rest.cells u S l xs) (hS : Sub S V) :
    ROc PP F_queue_Check [.slice l.a l.len l.cap] u V (gval errT ((Enc.one Enc1.err).enc (errOf (queueF xs)))) := by
  refine s_queue_Check l u V _ ?_
  unfold vc_queue_Check
  have hlen := h.len
  refine ifB (fun hb => ?_) (fun hb => ?_)
  · have : xs.length > 60 := by have := of_decide_eq_true hb; omega
    exact ⟨by unfold queueF; rw [if_pos this]; rfl, ext_refl _ _⟩
  · have hle : ¬ xs.length > 60 := by have := of_decide_eq_false hb; omega
    refine LoopN.rangeR xs.length (fun i => queueF xs = qF (xs.take i) (xs.drop i)) (by unfold queueF; rw [if_neg hle]; rfl) ?_
    intro i hi hQ next hn
    refine ifB (fun hb2 => ?_) (fun hb2 => ?_)
    · have hlt : i < xs.length := by have := of_decide_eq_true hb2; omega
      rw [qF_step hlt] at hQ
      refine h.ixN co_Rest.len hlt fun ad _ hat => ⟨_, hat.sub hS, _, r_queue_One _ _ _, ?_⟩
      rw [queue_one_eq]
      by_cases h1 : restF xs[i] = 0
      · rw [if_neg (by simpa using h1)] at hQ
        have e1 : errOf (restF xs[i]) = none := by rw [h1]; rfl
        rw [e1]
        refine ifF ⟨⟨by omega, by have := h.le; omega⟩, _, r_queue_Find (l := ⟨l.a, i, l.cap⟩) (h.upto (by omega)) hS _, ?_⟩
        refine ifB (fun hb3 => ?_) (fun hb3 => ?_)
        · have h3 := of_decide_eq_true hb3
          rw [if_pos h3] at hQ
          exact ⟨by rw [hQ]; rfl, ext_refl _ _⟩
        · have h3 := of_decide_eq_false hb3
          rw [if_neg h3] at hQ
          exact ⟨rng_nat (by omega), hn hlt hQ⟩
      · rw [if_pos (by simpa using h1)] at hQ
        have e1 : errOf (restF xs[i]) = some (restF xs[i]) := by unfold errOf; rw [if_neg h1]
        rw [e1]
        exact ifT ⟨by rw [hQ, e1], ext_refl _ _⟩
    · have hge : xs.length ≤ i := by have := of_decide_eq_false hb2; omega
      rw [List.drop_of_length_le hge] at hQ
      exact ⟨by rw [hQ]; rfl, ext_refl _ _⟩
theorem r_pitref1_Queue {u : World} {V S : VP} {l : Sl} {xs : List Rest} (h : SlR Rest.cells u S l xs) (hS : Sub S V) :
    ROc PP F_pitref1_Queue [.slice l.a l.len l.cap] u V (gval errT ((Enc.one eInt).enc (queueF xs))) := by
  refine s_pitref1_Queue l u V _ ?_
  unfold vc_pitref1_Queue
  have hlen := h.len
  refine ifB (fun hb => ?_) (fun hb => ?_)
  · have : xs.length > 60 := by have := of_decide_eq_true hb; omega
    exact ⟨by unfold queueF; rw [if_pos this], ext_refl _ _⟩
  · have hle : ¬ xs.length > 60 := by have := of_decide_eq_false hb; omega
    refine LoopN.rangeR xs.length (fun i => queueF xs = qF (xs.take i) (xs.drop i)) (by unfold queueF; rw [if_neg hle]; rfl) ?_
    intro i hi hQ next hn
    refine ifB (fun hb2 => ?_) (fun hb2 => ?_)
    · have hlt : i < xs.length := by have := of_decide_eq_true hb2; omega
      rw [qF_step hlt] at hQ
      refine h.ixN co_Rest.len hlt fun ad _ hat => ⟨_, hat.sub hS, _, r_pitref1_Rest _ _ _, ?_⟩
      rw [rrest_eq]
      refine ifB (fun hb3 => ?_) (fun hb3 => ?_)
      · have h1 : restF xs[i] ≠ 0 := by simpa using hb3
        rw [if_pos h1] at hQ
        exact ⟨hQ.symm, ext_refl _ _⟩
      · have h1 : restF xs[i] = 0 := by simpa using hb3
        rw [if_neg (by simpa using h1)] at hQ
        refine ⟨⟨by omega, by have := h.le; omega⟩, ?_⟩
        refine h.ixN co_Rest.len hlt fun ad2 _ hat2 => ⟨_, hat2.fld hS rfl, _, r_pitref1_In (l := ⟨l.a, i, l.cap⟩) (h.upto (by omega)) hS _, ?_⟩
        refine ifB (fun hb4 => ?_) (fun hb4 => ?_)
        · have h3 := of_decide_eq_true hb4
          rw [if_pos h3] at hQ
          exact ⟨hQ.symm, ext_refl _ _⟩
        · have h3 := of_decide_eq_false hb4
          rw [if_neg h3] at hQ
          exact ⟨rng_nat (by omega), hn hlt hQ⟩
    · have hge : xs.length ≤ i := by have := of_decide_eq_false hb2; omega
      rw [List.drop_of_length_le hge] at hQ
      exact ⟨hQ.symm, ext_refl _ _⟩
end Go.Sx
