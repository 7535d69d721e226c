/-
  Contracts of functions that this claim reaches. Conditions: those of the statement alone.
-/
import Derived.Test.YtnjnpfhgblcgnaaDoorLib
set_option linter.unusedVariables false
set_option linter.unusedSimpArgs false
namespace Go.Sx

abbrev aOrder (o : Order) : Value := .agg (Order.cells o).toArray
abbrev aI (n : Int) : Value := .int .i64 n
theorem get_mid {α : Type} (A : List α) (x : α) (B : List α) {n : Nat} (hn : n = A.length) : ∃ h : n < (A ++ x :: B).length, (A ++ x :: B)[n] = x := by
  subst hn; exact ⟨by simp, by simp⟩
theorem set_mid {α : Type} (A : List α) (x y : α) (B : List α) {n : Nat} (hn : n = A.length) : (A ++ x :: B).set n y = A ++ y :: B := by
  subst hn; simp
theorem isort_take1 {α : Type} {lt : α → α → Bool} (l : List α) : isort lt (l.take 1) = l.take 1 := by cases l <;> rfl
theorem take1_drop {α : Type} (xs : List α) (a : Nat) : xs.take a ++ (xs.drop a).take 1 ++ xs.drop (a + 1) = xs := by
  have : xs.drop (a + 1) = (xs.drop a).drop 1 := by rw [List.drop_drop]
  rw [this, List.append_assoc, List.take_append_drop, List.take_append_drop]
/-- one's own row, one place written anew -/
theorem Own.put {α : Type} {c : α → List Value} {sz e : Nat} {u : World} {V : VP} {s : Sl} {xs : List α} (hc : CO c sz) (h : Own c sz e u s xs) (hV : Sub (sb s) V) {i : Nat} (hi : i < xs.length) (x' : α) {ad p : Addr} (ha : s.a = some ad) (hp : p = ad.add (i * sz)) {w : World} (hw : Rel V u w) :
    StOk w V p sz ∧ (Own c sz e (stW w p (c x') 0) s (xs.set i x') ∧ Upd (sb s) u V (stW w p (c x') 0) V) :=
  Own.st hc h hV hi (j := 0) (l := c x') (hc.one x') (by rw [hc.len]; omega) (x' := x') (by simp [overL, hc.len]) ha (by rw [hp]; rfl) (hc.len x').symm hw

theorem g_slices_insertionSortCmpFunc_Order {u : World} {V : VP} {s : Sl} {xs : List Order} (h : Own Order.cells 8 T_Order u s xs) (hc : CO Order.cells 8) (hV : Sub (sb s) V) {lt : Order → Order → Bool} (hlt : SWO lt) {f : Nat} {caps : List Value} {cm : Order → Order → Int} (hcm : ∀ a b, lt a b = decide (cm a b < 0))
    (hf : ∀ u' V', Upd (sb s) u V u' V' → ∀ a b, a ∈ xs → b ∈ xs → ROc PP f ([aOrder a, aOrder b] ++ caps) u' V' (.int .i64 (cm a b))) {a b : Nat} (hab : a ≤ b) (hb : b ≤ xs.length) :
    GC PP F_slices_insertionSortCmpFunc_Order [.slice s.a s.len s.cap, .int .i64 (a : Int), .int .i64 (b : Int), .func (.func f) #[] caps.toArray] u V (fun x => gval errT (Enc.t0.enc x)) (Out (sb s) (sb s) u V fun _ u' S' => Own Order.cells 8 T_Order u' s (xs.take a ++ isort lt ((xs.drop a).take (b - a)) ++ xs.drop b) ∧ S' = sb s) := by
  refine s_slices_insertionSortCmpFunc_Order s a b ⟨f, caps⟩ u V _ ?_
  have hloc : Loc (fun (_ : Unit) u' (S' : VP) => Own Order.cells 8 T_Order u' s (xs.take a ++ isort lt ((xs.drop a).take (b - a)) ++ xs.drop b) ∧ S' = sb s) := fun x u u' S h hs => ⟨h.1.same (h.2 ▸ hs), h.2⟩
  unfold vc_slices_insertionSortCmpFunc_Order
  have hbig := h.big
  refine ⟨rng_nat (by omega), ?_⟩
  refine LoopN.st (fun i u' V' => ∃ k : Nat, i = ((a + 1 + k : Nat) : Int) ∧ (k = 0 ∨ a + 1 + k ≤ b) ∧ Upd (sb s) u V u' V' ∧ Own Order.cells 8 T_Order u' s (xs.take a ++ isort lt ((xs.drop a).take (1 + k)) ++ xs.drop (a + 1 + k))) (fun i => b - i.toNat)
    ⟨0, by omega, .inl rfl, Upd.refl _ _ _, by rw [show 1 + 0 = 1 from rfl, isort_take1]; rw [show a + 1 + 0 = a + 1 from rfl, take1_drop]; exact h⟩ ?_
  rintro _ u1 V1 ⟨k, rfl, hk, hU, hO⟩ next4 hn4
  refine ifB (fun hb1 => ?_) (fun hb1 => ?_)
  · have hi : a + 1 + k < b := by have := of_decide_eq_true hb1; omega
    have hil : a + 1 + k < xs.length := by omega
    have hdl : 1 + k < (xs.drop a).length := by simp; omega
    have hx : (xs.drop a)[1 + k] = xs[a + 1 + k] := by rw [List.getElem_drop]; congr 1; omega
    have htk : (xs.drop a).take (1 + (k + 1)) = (xs.drop a).take (1 + k) ++ [xs[a + 1 + k]] := by
      rw [show 1 + (k + 1) = (1 + k) + 1 by omega, List.take_succ_eq_append_getElem hdl, hx]
    have hdr : xs.drop (a + 1 + k) = xs[a + 1 + k] :: xs.drop (a + 1 + (k + 1)) := List.drop_eq_getElem_cons hil
    have hlA : (xs.take a).length = a := by simp; omega
    have hlI : (isort lt ((xs.drop a).take (1 + k))).length = 1 + k := by rw [length_isort]; simp; omega
    generalize hX : xs[a + 1 + k] = x at *
    refine LoopN.st (fun j u' V' => ∃ p q : List Order, isort lt ((xs.drop a).take (1 + k)) = p ++ q ∧ j = ((a + p.length : Nat) : Int) ∧ (∀ y ∈ q, lt x y = true) ∧ Upd (sb s) u V u' V' ∧ Own Order.cells 8 T_Order u' s ((xs.take a ++ p) ++ x :: (q ++ xs.drop (a + 1 + (k + 1))))) (fun j => j.toNat)
      ⟨isort lt ((xs.drop a).take (1 + k)), [], by simp, by rw [hlI]; congr 1; omega, (fun y hy => by cases hy), hU, by rw [hdr] at hO; simpa using hO⟩ ?_
    rintro _ u2 V2 ⟨p, q, hpq, rfl, hq, hU2, hO2⟩ next8 hn8
    have hl2 := hO2.len
    refine joinI fun Kj hKj => ?_
    have hexit : (∀ y, p.getLast? = some y → lt x y = false) → Kj false u2 V2 := by
      intro hlast
      refine hKj _ _ _ ?_
      have hst := isort_step hlt hpq hq hlast
      rw [← htk] at hst
      refine ⟨rng_nat (by omega), hn4 (((a + 1 + k : Nat) : Int) + 1) _ _ ⟨k + 1, by omega, .inr (by omega), hU2, ?_⟩ (by omega)⟩
      rw [hst]
      simpa using hO2
    refine ifB (fun hb2 => ?_) (fun hb2 => ?_)
    · have hpl : 0 < p.length := by have := of_decide_eq_true hb2; omega
      rcases List.eq_nil_or_concat p with rfl | ⟨p', y, rfl⟩
      · simp at hpl
      · rw [List.concat_eq_append] at *
        have hpn : p'.length + 1 + q.length = 1 + k := by have h9 := hlI; rw [hpq] at h9; simp at h9; omega
        have hjl : a + (p' ++ [y]).length = (xs.take a ++ (p' ++ [y])).length := by simp; omega
        obtain ⟨g1, g2⟩ := get_mid (xs.take a ++ (p' ++ [y])) x (q ++ xs.drop (a + 1 + (k + 1))) hjl
        refine hO2.toR.ixN hc.len g1 fun ad had hat => ?_
        rw [g2] at hat
        refine ⟨x, hat.sub (hV.trans hU2.vis), ⟨by unfold Rng; simp; omega, ?_⟩⟩
        have hD : xs.take a ++ (p' ++ [y]) ++ x :: (q ++ xs.drop (a + 1 + (k + 1))) = (xs.take a ++ p') ++ y :: (x :: (q ++ xs.drop (a + 1 + (k + 1)))) := by simp
        have hj1 : (((a + (p' ++ [y]).length : Nat) : Int) - 1) = ((a + p'.length : Nat) : Int) := by simp; omega
        rw [hj1]
        have hO3 := hO2
        rw [hD] at hO3
        obtain ⟨g3, g4⟩ := get_mid (xs.take a ++ p') y (x :: (q ++ xs.drop (a + 1 + (k + 1)))) (n := a + p'.length) (by simp; omega)
        refine hO3.toR.ixN hc.len g3 fun ad2 had2 hat2 => ?_
        rw [g4] at hat2
        refine ⟨y, hat2.sub (hV.trans hU2.vis), cm x y, ?_, ?_⟩
        · refine hf _ _ hU2 x y ?_ ?_
          · rw [← hX]; exact List.getElem_mem hil
          · have : y ∈ isort lt ((xs.drop a).take (1 + k)) := by rw [hpq]; simp
            exact List.mem_of_mem_drop (List.mem_of_mem_take (mem_isort.1 this))
        · cases hcmp : decide (cm x y < 0) with
          | false => exact hexit fun z hz => by simp at hz; subst hz; rw [hcm, hcmp]
          | true =>
            refine hKj _ _ _ ?_
            rw [ifT_eq]
            refine ⟨by unfold Rng; simp; omega, by unfold Rng; simp; omega, ?_⟩
            rw [hj1]
            refine hO3.toR.ixN hc.len g3 fun ad3 had3 hat3 => ?_
            rw [g4] at hat3
            refine ⟨y, hat3.sub (hV.trans hU2.vis), ?_⟩
            refine hO2.toR.ixN hc.len g1 fun ad4 had4 hat4 => ?_
            rw [g2] at hat4
            refine ⟨x, hat4.sub (hV.trans hU2.vis), ?_⟩
            refine hO2.toR.ixN hc.len g1 fun ad5 had5 _ => ?_
            intro w1 hw1
            obtain ⟨st1, st2, st3⟩ := Own.put hc hO2 (hV.trans hU2.vis) g1 y had5 rfl hw1
            refine ⟨st1, ?_⟩
            rw [set_mid _ _ _ _ hjl] at st2
            have hD2 : xs.take a ++ (p' ++ [y]) ++ y :: (q ++ xs.drop (a + 1 + (k + 1))) = (xs.take a ++ p') ++ y :: (y :: (q ++ xs.drop (a + 1 + (k + 1)))) := by simp
            rw [hD2] at st2
            obtain ⟨g5, g6⟩ := get_mid (xs.take a ++ p') y (y :: (q ++ xs.drop (a + 1 + (k + 1)))) (n := a + p'.length) (by simp; omega)
            refine st2.toR.ixN hc.len g5 fun ad6 had6 _ => ?_
            intro w2 hw2
            obtain ⟨st4, st5, st6⟩ := Own.put hc st2 (hV.trans hU2.vis) g5 x had6 rfl hw2
            refine ⟨st4, by unfold Rng; omega, ?_⟩
            rw [set_mid _ _ _ _ (by simp; omega)] at st5
            refine hn8 _ _ _ ⟨p', y :: q, by rw [hpq]; simp, rfl, ?_, (hU2.trans st3 fun b hb => .inl hb).trans st6 fun b hb => .inl hb, st5⟩ (by simp; omega)
            intro z hz
            rcases List.mem_cons.1 hz with rfl | hz
            · rw [hcm]; exact hcmp
            · exact hq z hz
    · have hpl : p.length = 0 := by have := of_decide_eq_false hb2; omega
      have : p = [] := List.eq_nil_of_length_eq_zero hpl
      subst this
      exact hexit fun y hy => by cases hy
  · have hge : b ≤ a + 1 + k := by have := of_decide_eq_false hb1; omega
    refine Out.fin hloc ⟨hU, sb s, hV.trans hU.vis, fun b hb => .inl hb, ?_, rfl⟩
    by_cases hbk : b = a + 1 + k
    · have e : b - a = 1 + k := by omega
      rw [e, hbk]; exact hO
    · have hk0 : k = 0 := by omega
      subst hk0
      have hba : b = a := by omega
      subst hba
      rw [show 1 + 0 = 1 from rfl, isort_take1] at hO
      rw [show b + 1 + 0 = b + 1 from rfl, take1_drop] at hO
      rw [Nat.sub_self]
      have : xs.take b ++ isort lt ((xs.drop b).take 0) ++ xs.drop b = xs := by simp [isort]
      rw [this]; exact hO
end Go.Sx
