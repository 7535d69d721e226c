/-
  Contracts of functions that this claim reaches. Conditions: those of the statement alone.
-/
import Derived.Test.YtnjnpfhgblcgnaaDoorLv1
set_option linter.unusedVariables false
set_option linter.unusedSimpArgs false
set_option maxRecDepth 100000
namespace Go.Sx

/-! ### which price stands ahead -/
def ahd (s a b : Int) : Bool := if s = 1 then decide (a > b) else decide (a < b)
theorem rahead_eq {s : Int} (h : s = 1 ∨ s = 2) (a b : Int) : p_pitref1_Ahead (3 - s) a b = ahd s a b := by
  unfold p_pitref1_Ahead ahd
  rcases h with rfl | rfl
  · simp
  · simp
theorem r_side_ahead {u : World} {V : VP} {s : Int} (h : s = 1 ∨ s = 2) (a b : Int) :
    ROc PP F_side_ahead [.int .i64 s, .int .i64 a, .int .i64 b] u V (gval errT ((Enc.one eBool).enc (ahd s a b))) := by
  refine s_side_ahead s a b u V _ ?_
  unfold vc_side_ahead
  have e : p_tick_Ahead (3 - s) a b = ahd s a b := by
    unfold p_tick_Ahead ahd
    rcases h with rfl | rfl <;> simp
  refine ⟨_, s_tick_Other s u V (3 - s) ?_, _, r_tick_Ahead _ _ _ _ _, e, ext_refl _ _⟩
  unfold vc_tick_Other
  exact ⟨by unfold Rng; omega, rfl, ext_refl _ _⟩

/-! ### the fault of a side -/
def lgo (s : Int) (prev : Option Int) : List PL → Int
  | [] => 0
  | x :: xs => if p_pitref1_Price x.price = false then 1 else if x.rests.length = 0 then 3 else if queueF x.rests ≠ 0 then queueF x.rests
    else if prev.any (fun p => !ahd s p x.price) = true then 7 else lgo s (some x.price) xs
def lvF (s : Int) (xs : List PL) : Int := if p_pitref1_Side s = false then 1 else if lgo s none xs ≠ 0 then lgo s none xs else if cntR xs > 60 then 4 else if tw [] (flat xs) then 7 else 0
def prevP (xs : List PL) : Nat → Option Int
  | 0 => none
  | i + 1 => (xs[i]?).map (·.price)
theorem lgo_step {s : Int} {xs : List PL} {i : Nat} (hi : i < xs.length) : lgo s (prevP xs i) (xs.drop i) = if p_pitref1_Price xs[i].price = false then 1 else if xs[i].rests.length = 0 then 3 else if queueF xs[i].rests ≠ 0 then queueF xs[i].rests
    else if (prevP xs i).any (fun p => !ahd s p xs[i].price) = true then 7 else lgo s (prevP xs (i + 1)) (xs.drop (i + 1)) := by
  rw [List.drop_eq_getElem_cons hi, lgo, prevP, List.getElem?_eq_getElem hi]
  rfl
theorem queueF_le {l : List Rest} (h : queueF l = 0) : l.length ≤ 60 := by
  unfold queueF at h
  split at h
  · omega
  · omega
theorem errOf_ne {n : Int} (h : n ≠ 0) : errOf n = some n := by unfold errOf; rw [if_neg h]
theorem errOf_z : errOf 0 = none := rfl
theorem isSome_errOf (n : Int) : (errOf n).isSome = decide (n ≠ 0) := by
  by_cases h : n = 0
  · subst h; rfl
  · rw [errOf_ne h]; simp [h]
theorem tside_eq (s : Int) : p_tick_Side s = p_pitref1_Side s := by
  rw [Bool.eq_iff_iff, side_iff, rside_iff]
theorem tprice_eq (p : Int) : p_tick_Price p = if p_pitref1_Price p = false then some 1 else none := by
  have : p_tick_Valid p = p_pitref1_Price p := by rw [Bool.eq_iff_iff, valid_iff, rprice_iff]
  unfold p_tick_Price
  rw [this]
  cases p_pitref1_Price p <;> rfl

theorem r_side_Check {u : World} {V S : VP} {l : Sl} {xs : List PL} (h : LvR u S l xs) (hS : Sub S V) (s : Int) :
    ROc PP F_side_Check [.int .i64 s, .slice l.a l.len l.cap] u V (gval errT ((Enc.one Enc1.err).enc (errOf (lvF s xs)))) := by
  refine s_side_Check s l u V _ ?_
  unfold vc_side_Check
  have hlen := h.len; have hbig := h.big
  refine ⟨_, r_tick_Side _ _ _, ?_⟩
  rw [tside_eq]
  refine ifB (fun hb => ?_) (fun hb => ?_)
  · have : p_pitref1_Side s = false := by simpa using hb
    exact ⟨by unfold lvF; rw [if_pos this]; rfl, ext_refl _ _⟩
  have hs1 : p_pitref1_Side s = true := by simpa using hb
  have hs := (rside_iff s).1 hs1
  refine LoopN.rangeR xs.length (fun i => lgo s none xs = lgo s (prevP xs i) (xs.drop i) ∧ ∀ j (hj : j < i) (hx : j < xs.length), xs[j].rests.length ≤ 60) ⟨rfl, fun j hj => absurd hj (by omega)⟩ ?_
  rintro i hi ⟨hQ, hq⟩ next hn
  have hF : lgo s none xs ≠ 0 → lvF s xs = lgo s none xs := fun hne => by unfold lvF; rw [if_neg (by simp [hs1]), if_pos hne]
  refine ifB (fun hb2 => ?_) (fun hb2 => ?_)
  · have hlt : i < xs.length := by have := of_decide_eq_true hb2; omega
    rw [lgo_step hlt] at hQ
    refine h.ixN hlt fun ad lv _ hat hp hr => ⟨_, hat.sub hS, _, r_tick_Price _ _ _, ?_⟩
    have hrl := hr.len
    rw [hp, tprice_eq]
    by_cases h1 : p_pitref1_Price xs[i].price = false
    · rw [if_pos h1] at hQ ⊢
      refine ifT ?_
      have e1 := hF (by omega)
      exact ⟨by rw [e1, hQ]; rfl, ext_refl _ _⟩
    rw [if_neg h1] at hQ ⊢
    refine ifF ?_
    refine ifB (fun hb3 => ?_) (fun hb3 => ?_)
    · have h2 : xs[i].rests.length = 0 := by have := beq_iff_eq.1 hb3; omega
      rw [if_pos h2] at hQ
      have e1 := hF (by omega)
      exact ⟨by rw [e1, hQ]; rfl, ext_refl _ _⟩
    have h2 : ¬ xs[i].rests.length = 0 := by intro h; rw [← hrl] at h; simp [h] at hb3
    rw [if_neg h2] at hQ
    refine ⟨_, r_queue_Check hr hS, ?_⟩
    rw [isSome_errOf]
    refine ifB (fun hb4 => ?_) (fun hb4 => ?_)
    · have h3 := of_decide_eq_true hb4
      rw [if_pos h3] at hQ
      have e1 := hF (by rw [hQ]; exact h3)
      exact ⟨by rw [e1, hQ], ext_refl _ _⟩
    have h3 := of_decide_eq_false hb4
    rw [if_neg h3] at hQ
    have hq60 := queueF_le (Decidable.not_not.1 h3)
    have hq' : ∀ j (hj : j < i + 1) (hx : j < xs.length), xs[j].rests.length ≤ 60 := by
      intro j hj hx
      rcases Nat.lt_succ_iff_lt_or_eq.1 hj with h | rfl
      · exact hq j h hx
      · exact hq60
    refine ifB (fun hb5 => ?_) (fun hb5 => ?_)
    · obtain ⟨k, rfl⟩ : ∃ k, i = k + 1 := ⟨i - 1, by have := of_decide_eq_true hb5; omega⟩
      have hk : ((k + 1 : Nat) : Int) - 1 = (k : Int) := by omega
      rw [hk]
      have hklt : k < xs.length := by omega
      refine ⟨by unfold Rng; omega, ?_⟩
      refine h.ixN hklt fun ad2 lv2 _ hat2 hp2 hr2 => ⟨_, hat2.fld hS rfl, ?_⟩
      rw [hp2]
      refine ⟨_, r_side_ahead hs _ _, ?_⟩
      have hprev : prevP xs (k + 1) = some xs[k].price := by rw [prevP, List.getElem?_eq_getElem hklt]; rfl
      rw [hprev, Option.any_some] at hQ
      refine ifB (fun hb6 => ?_) (fun hb6 => ?_)
      · rw [if_pos hb6] at hQ
        have e1 := hF (by omega)
        exact ⟨by rw [e1, hQ]; rfl, ext_refl _ _⟩
      · rw [if_neg (by rw [hb6]; simp)] at hQ
        exact ⟨rng_nat (by omega), hn hlt ⟨hQ, hq'⟩⟩
    · have : i = 0 := by have := of_decide_eq_false hb5; omega
      subst this
      rw [if_neg (by simp [prevP])] at hQ
      exact ⟨rng_nat (by omega), hn hlt ⟨hQ, hq'⟩⟩
  · have hge : xs.length ≤ i := by have := of_decide_eq_false hb2; omega
    rw [List.drop_of_length_le hge] at hQ
    have h0 : lgo s none xs = 0 := hQ
    have hqa : ∀ x ∈ xs, x.rests.length ≤ 60 := by
      intro x hx
      obtain ⟨j, hj, rfl⟩ := List.getElem_of_mem hx
      exact hq j (by omega) hj
    have hG : lvF s xs = if cntR xs > 60 then 4 else if tw [] (flat xs) then 7 else 0 := by
      unfold lvF; rw [if_neg (by simp [hs1]), if_neg (by simp [h0])]
    refine ⟨_, r_side_Count h hS hqa, ?_⟩
    refine ifB (fun hb3 => ?_) (fun hb3 => ?_)
    · have : cntR xs > 60 := by have := of_decide_eq_true hb3; omega
      rw [if_pos this] at hG
      exact ⟨by rw [hG]; rfl, ext_refl _ _⟩
    · have : ¬ cntR xs > 60 := by have := of_decide_eq_false hb3; omega
      rw [if_neg this] at hG
      refine ⟨_, r_side_Twice h hS, ?_⟩
      refine ifB (fun hb4 => ?_) (fun hb4 => ?_)
      · rw [hb4] at hG
        exact ⟨by rw [hG]; rfl, ext_refl _ _⟩
      · rw [hb4] at hG
        exact ⟨by rw [hG]; rfl, ext_refl _ _⟩

theorem r_pitref1_Levels {u : World} {V S : VP} {l : Sl} {xs : List PL} (h : LvR u S l xs) (hS : Sub S V) (s : Int) :
    ROc PP F_pitref1_Levels [.int .i64 s, .slice l.a l.len l.cap] u V (gval errT ((Enc.one eInt).enc (lvF s xs))) := by
  refine s_pitref1_Levels s l u V _ ?_
  unfold vc_pitref1_Levels
  have hlen := h.len; have hbig := h.big
  have fin : ∀ {x : Int}, x = lvF s xs → x = lvF s xs ∧ Ext u V u V := fun hx => ⟨hx, ext_refl _ _⟩
  refine ⟨_, r_pitref1_Side _ _ _, ?_⟩
  refine ifB (fun hb => ?_) (fun hb => ?_)
  · have : p_pitref1_Side s = false := by simpa using hb
    exact fin (by unfold lvF; rw [if_pos this])
  have hs1 : p_pitref1_Side s = true := by simpa using hb
  have hs := (rside_iff s).1 hs1
  refine LoopN.rangeR xs.length (fun i => lgo s none xs = lgo s (prevP xs i) (xs.drop i) ∧ ∀ j (hj : j < i) (hx : j < xs.length), xs[j].rests.length ≤ 60) ⟨rfl, fun j hj => absurd hj (by omega)⟩ ?_
  rintro i hi ⟨hQ, hq⟩ next hn
  have hF : lgo s none xs ≠ 0 → lvF s xs = lgo s none xs := fun hne => by unfold lvF; rw [if_neg (by simp [hs1]), if_pos hne]
  refine ifB (fun hb2 => ?_) (fun hb2 => ?_)
  · have hlt : i < xs.length := by have := of_decide_eq_true hb2; omega
    rw [lgo_step hlt] at hQ
    refine h.ixN hlt fun ad lv _ hat hp hr => ⟨_, hat.fld hS rfl, ?_⟩
    have hrl := hr.len
    rw [hp]
    refine ⟨_, r_pitref1_Price _ _ _, ?_⟩
    refine ifB (fun hb1 => ?_) (fun hb1 => ?_)
    · rw [if_pos (by simpa using hb1)] at hQ
      exact fin (by rw [hF (by omega), hQ])
    rw [if_neg (by simpa using hb1)] at hQ
    refine h.ixN hlt fun ad9 lv9 _ hat9 hp9 hr9 => ⟨_, hat9.fld hS rfl, ?_⟩
    have hrl9 := hr9.len
    refine ifB (fun hb3 => ?_) (fun hb3 => ?_)
    · have h2 : xs[i].rests.length = 0 := by have := beq_iff_eq.1 hb3; omega
      rw [if_pos h2] at hQ
      exact fin (by rw [hF (by omega), hQ])
    have h2 : ¬ xs[i].rests.length = 0 := by intro h; rw [← hrl9] at h; simp [h] at hb3
    rw [if_neg h2] at hQ
    refine h.ixN hlt fun ad11 lv11 _ hat11 hp11 hr11 => ⟨_, hat11.fld hS rfl, ?_⟩
    refine ⟨_, r_pitref1_Queue hr11 hS, ?_⟩
    refine ifB (fun hb4 => ?_) (fun hb4 => ?_)
    · have h3 : queueF xs[i].rests ≠ 0 := by simpa using hb4
      rw [if_pos h3] at hQ
      exact fin (by rw [hF (by rw [hQ]; exact h3), hQ])
    have h3 : ¬ queueF xs[i].rests ≠ 0 := by simpa using hb4
    rw [if_neg h3] at hQ
    have hq60 := queueF_le (Decidable.not_not.1 h3)
    have hq' : ∀ j (hj : j < i + 1) (hx : j < xs.length), xs[j].rests.length ≤ 60 := by
      intro j hj hx
      rcases Nat.lt_succ_iff_lt_or_eq.1 hj with h | rfl
      · exact hq j h hx
      · exact hq60
    refine ifB (fun hb5 => ?_) (fun hb5 => ?_)
    · have : i = 0 := by have := beq_iff_eq.1 hb5; omega
      subst this
      rw [if_neg (by simp [prevP])] at hQ
      exact ⟨rng_nat (by omega), hn hlt ⟨hQ, hq'⟩⟩
    · obtain ⟨k, rfl⟩ : ∃ k, i = k + 1 := ⟨i - 1, by
        rcases Nat.eq_zero_or_pos i with h | h
        · subst h; simp at hb5
        · omega⟩
      have hk : ((k + 1 : Nat) : Int) - 1 = (k : Int) := by omega
      rw [hk]
      have hklt : k < xs.length := by omega
      refine ⟨by unfold Rng; rcases hs with rfl | rfl <;> omega, by unfold Rng; omega, ?_⟩
      refine h.ixN hklt fun ad2 lv2 _ hat2 hp2 hr2 => ⟨_, hat2.fld hS rfl, ?_⟩
      refine h.ixN hlt fun ad3 lv3 _ hat3 hp3 hr3 => ⟨_, hat3.fld hS rfl, ?_⟩
      rw [hp2, hp3]
      refine ⟨_, r_pitref1_Ahead _ _ _ _ _, ?_⟩
      rw [rahead_eq hs]
      have hprev : prevP xs (k + 1) = some xs[k].price := by rw [prevP, List.getElem?_eq_getElem hklt]; rfl
      rw [hprev, Option.any_some] at hQ
      refine ifB (fun hb6 => ?_) (fun hb6 => ?_)
      · rw [if_pos hb6] at hQ
        exact fin (by rw [hF (by omega), hQ])
      · rw [if_neg (by rw [hb6]; simp)] at hQ
        exact ⟨rng_nat (by omega), hn hlt ⟨hQ, hq'⟩⟩
  · have hge : xs.length ≤ i := by have := of_decide_eq_false hb2; omega
    rw [List.drop_of_length_le hge] at hQ
    have h0 : lgo s none xs = 0 := hQ
    have hqa : ∀ x ∈ xs, x.rests.length ≤ 60 := by
      intro x hx
      obtain ⟨j, hj, rfl⟩ := List.getElem_of_mem hx
      exact hq j (by omega) hj
    have hG : lvF s xs = if cntR xs > 60 then 4 else if tw [] (flat xs) then 7 else 0 := by
      unfold lvF; rw [if_neg (by simp [hs1]), if_neg (by simp [h0])]
    refine ⟨_, r_pitref1_Count h hS hqa, ?_⟩
    refine ifB (fun hb3 => ?_) (fun hb3 => ?_)
    · have : cntR xs > 60 := by have := of_decide_eq_true hb3; omega
      rw [if_pos this] at hG
      exact fin hG.symm
    · have hc60 : ¬ cntR xs > 60 := by have := of_decide_eq_false hb3; omega
      rw [if_neg hc60] at hG
      refine GC.bd ce_pitref1_Flat fun hbd0 => (g_pitref1_Flat h hS (by omega)).mono fun x1 u1 V1 hbd ⟨hU, S1, hS1, hD1, hO, hSe⟩ => ?_
      subst hSe
      refine ⟨_, r_pitref1_Twice hO.toR hS1, ?_⟩
      refine ifB (fun hb4 => ?_) (fun hb4 => ?_)
      · rw [hb4] at hG
        exact ⟨hG.symm, hU.ext hbd0⟩
      · rw [hb4] at hG
        exact ⟨hG.symm, hU.ext hbd0⟩

/-! ### where an id is -/
def findL (id : Int) : List PL → Nat → Int × Int
  | [], _ => (-1, -1)
  | x :: xs, i => if idxI (hasId id) x.rests ≥ 0 then ((i : Int), idxI (hasId id) x.rests) else findL id xs (i + 1)
def at_ (xs : List PL) (id : Int) : Int × Int := findL id xs 0
theorem findL_step {id : Int} {xs : List PL} {i : Nat} (hi : i < xs.length) : findL id (xs.drop i) i = if idxI (hasId id) xs[i].rests ≥ 0 then ((i : Int), idxI (hasId id) xs[i].rests) else findL id (xs.drop (i + 1)) (i + 1) := by
  rw [List.drop_eq_getElem_cons hi, findL]
theorem r_side_Where {u : World} {V S : VP} {l : Sl} {xs : List PL} (h : LvR u S l xs) (hS : Sub S V) (id : Int) :
    ROc PP F_side_Where [.slice l.a l.len l.cap, .int .i64 id] u V (gval errT ((Enc.t2 eInt eInt).enc (at_ xs id))) := by
  refine s_side_Where l id u V _ ?_
  unfold vc_side_Where
  have hlen := h.len; have hbig := h.big
  refine LoopN.rangeR xs.length (fun i => at_ xs id = findL id (xs.drop i) i) rfl ?_
  intro i hi hQ next hn
  refine ifB (fun hb2 => ?_) (fun hb2 => ?_)
  · have hlt : i < xs.length := by have := of_decide_eq_true hb2; omega
    rw [findL_step hlt] at hQ
    refine h.ixN hlt fun ad lv _ hat hp hr => ⟨_, by first | exact hat.sub hS | exact hat.fld hS rfl, _, r_queue_Find hr hS _, ?_⟩
    refine ifB (fun hb3 => ?_) (fun hb3 => ?_)
    · rw [if_pos (of_decide_eq_true hb3)] at hQ
      exact ⟨hQ.symm, ext_refl _ _⟩
    · rw [if_neg (of_decide_eq_false hb3)] at hQ
      exact ⟨rng_nat (by omega), hn hlt hQ⟩
  · have hge : xs.length ≤ i := by have := of_decide_eq_false hb2; omega
    rw [List.drop_of_length_le hge] at hQ
    exact ⟨hQ.symm, ext_refl _ _⟩
theorem r_pitref1_At {u : World} {V S : VP} {l : Sl} {xs : List PL} (h : LvR u S l xs) (hS : Sub S V) (id : Int) :
    ROc PP F_pitref1_At [.slice l.a l.len l.cap, .int .i64 id] u V (gval errT ((Enc.t2 eInt eInt).enc (at_ xs id))) := by
  refine s_pitref1_At l id u V _ ?_
  unfold vc_pitref1_At
  have hlen := h.len; have hbig := h.big
  refine LoopN.rangeR xs.length (fun i => at_ xs id = findL id (xs.drop i) i) rfl ?_
  intro i hi hQ next hn
  refine ifB (fun hb2 => ?_) (fun hb2 => ?_)
  · have hlt : i < xs.length := by have := of_decide_eq_true hb2; omega
    rw [findL_step hlt] at hQ
    refine h.ixN hlt fun ad lv _ hat hp hr => ⟨_, by first | exact hat.sub hS | exact hat.fld hS rfl, _, r_pitref1_In hr hS _, ?_⟩
    refine ifB (fun hb3 => ?_) (fun hb3 => ?_)
    · rw [if_pos (of_decide_eq_true hb3)] at hQ
      exact ⟨hQ.symm, ext_refl _ _⟩
    · rw [if_neg (of_decide_eq_false hb3)] at hQ
      exact ⟨rng_nat (by omega), hn hlt hQ⟩
  · have hge : xs.length ≤ i := by have := of_decide_eq_false hb2; omega
    rw [List.drop_of_length_le hge] at hQ
    exact ⟨hQ.symm, ext_refl _ _⟩
theorem at_cases (xs : List PL) (id : Int) : (at_ xs id = (-1, -1)) ∨ ∃ (i k : Nat) (hi : i < xs.length) (hk : k < xs[i].rests.length), at_ xs id = ((i : Int), (k : Int)) := by
  have : ∀ (ys : List PL) (j : Nat), xs.drop j = ys → (findL id ys j = (-1, -1)) ∨ ∃ (i k : Nat) (hi : i < xs.length) (hk : k < xs[i].rests.length), findL id ys j = ((i : Int), (k : Int)) := by
    intro ys
    induction ys with
    | nil => intro j _; exact .inl rfl
    | cons y ys ih =>
      intro j hj
      have hjl : j < xs.length := by
        rcases Nat.lt_or_ge j xs.length with h | h
        · exact h
        · rw [List.drop_of_length_le h] at hj; cases hj
      rw [List.drop_eq_getElem_cons hjl] at hj
      injection hj with h1 h2
      rw [findL]
      split
      · rename_i hge
        rcases idxI_cases (hasId id) y.rests with ⟨e, _⟩ | ⟨k, hk, e, _⟩
        · omega
        · exact .inr ⟨j, k, hjl, by rw [h1]; exact hk, by rw [e]⟩
      · exact ih (j + 1) h2
  exact this xs 0 rfl

/-! ### the best price, and where one is -/
def bestV (s : Int) (xs : List PL) : Int × Option Int := if lvF s xs ≠ 0 then (0, some (lvF s xs)) else match xs with | [] => (0, some 5) | x :: _ => (x.price, none)
theorem r_side_Best {u : World} {V S : VP} {l : Sl} {xs : List PL} (h : LvR u S l xs) (hS : Sub S V) (s : Int) :
    ROc PP F_side_Best [.int .i64 s, .slice l.a l.len l.cap] u V (gval errT ((Enc.t2 eInt Enc1.err).enc (bestV s xs))) := by
  refine s_side_Best s l u V _ ?_
  unfold vc_side_Best
  have hlen := h.len
  refine ⟨_, r_side_Check h hS s, ?_⟩
  rw [isSome_errOf]
  refine ifB (fun hb => ?_) (fun hb => ?_)
  · have h1 := of_decide_eq_true hb
    rw [errOf_ne h1]
    exact ⟨by unfold bestV; rw [if_pos h1], ext_refl _ _⟩
  · have h1 := of_decide_eq_false hb
    refine ifB (fun hb2 => ?_) (fun hb2 => ?_)
    · have : xs = [] := List.eq_nil_of_length_eq_zero (by have := beq_iff_eq.1 hb2; omega)
      subst this
      exact ⟨by unfold bestV; rw [if_neg h1], ext_refl _ _⟩
    · have hlt : 0 < xs.length := by
        rcases Nat.eq_zero_or_pos xs.length with h | h
        · rw [← hlen] at h; simp [h] at hb2
        · exact h
      refine h.ixN (i := 0) hlt fun ad lv _ hat hp hr => ⟨_, hat.fld hS rfl, ?_, ext_refl _ _⟩
      rw [hp]
      unfold bestV; rw [if_neg h1]
      cases xs with
      | nil => simp at hlt
      | cons x xs => rfl
def findV (s : Int) (xs : List PL) (id : Int) : Int × Int × Option Int := if lvF s xs ≠ 0 then (0, 0, some (lvF s xs)) else if (at_ xs id).1 < 0 then (0, 0, some 5) else ((at_ xs id).1, (at_ xs id).2, none)
theorem r_side_Find {u : World} {V S : VP} {l : Sl} {xs : List PL} (h : LvR u S l xs) (hS : Sub S V) (s id : Int) :
    ROc PP F_side_Find [.int .i64 s, .slice l.a l.len l.cap, .int .i64 id] u V (gval errT ((Enc.t3 eInt eInt Enc1.err).enc (findV s xs id))) := by
  refine s_side_Find s l id u V _ ?_
  unfold vc_side_Find
  refine ⟨_, r_side_Check h hS s, ?_⟩
  rw [isSome_errOf]
  refine ifB (fun hb => ?_) (fun hb => ?_)
  · have h1 := of_decide_eq_true hb
    rw [errOf_ne h1]
    exact ⟨by unfold findV; rw [if_pos h1], ext_refl _ _⟩
  · have h1 := of_decide_eq_false hb
    refine ⟨_, r_side_Where h hS id, ?_⟩
    refine ifB (fun hb2 => ?_) (fun hb2 => ?_)
    · exact ⟨by unfold findV; rw [if_neg h1, if_pos (of_decide_eq_true hb2)], ext_refl _ _⟩
    · exact ⟨by unfold findV; rw [if_neg h1, if_neg (of_decide_eq_false hb2)], ext_refl _ _⟩
end Go.Sx
