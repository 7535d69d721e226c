/-
  Contracts of functions that this claim reaches. Conditions: those of the statement alone.
-/
import Derived.Test.YtnjnpfhgblcgnaaDoorWa2
set_option linter.unusedVariables false
set_option linter.unusedSimpArgs false
namespace Go.Sx

theorem eraseIdx_split {α : Type} (xs : List α) (k : Nat) : xs.eraseIdx k = xs.take k ++ xs.drop (k + 1) := List.eraseIdx_eq_take_drop_succ xs k

theorem g_pitref2_Off {u : World} {V S : VP} {s : Sl} {xs : List Order} (h : SlR Order.cells u S s xs) (hS : Sub S V) {k : Nat} (hk : k < xs.length) (hm : xs.length * 64 ≤ 140737488355328) :
    GC PP F_pitref2_Off [.slice s.a s.len s.cap, .int .i64 (k : Int)] u V (fun x => gval errT ((Enc.one eSl).enc x)) (Out Nix Nix u V fun x u' S' => Own Order.cells 8 T_Order u' x (xs.eraseIdx k) ∧ S' = sb x) := by
  refine s_pitref2_Off s k u V _ ?_
  have hloc : Loc (fun (x : Sl) u' (S' : VP) => Own Order.cells 8 T_Order u' x (xs.eraseIdx k) ∧ S' = sb x) := fun x u u' S h hs => ⟨h.1.same (h.2 ▸ hs), h.2⟩
  unfold vc_pitref2_Off
  have hlen := h.len; have hle := h.le; have hbig := h.big
  have e1 : ((k : Int) + 1).toNat = k + 1 := by omega
  refine ⟨⟨by omega, by omega⟩, ?_⟩
  refine opv_append (s := ⟨none, 0, 0⟩) (r := ⟨s.a, k, s.cap⟩) ty_Sl_Order co_Order (Own.nil _ _ _ _) (fun b hb => (sb_nil _ hb).elim) (h.upto (k := k) (by omega)) hS _ (by simp; omega) (by simp; omega) ?_
  intro s1 u1 V1 h1 h2 h3 h4 _
  refine ⟨rng_nat (by omega), ⟨by omega, by omega⟩, ?_⟩
  rw [e1]
  have h2' : Upd Nix u V u1 V1 := h2.mono fun b hb => (sb_nil _ hb).elim
  refine opv_append (s := s1) (r := ⟨cutA s.a s.cap (k + 1) 8, s.len - (k + 1), s.cap - (k + 1)⟩) ty_Sl_Order co_Order h1 h3 ((h.from co_Order.len (l := k + 1) (by omega)).same (h2'.same0 hS)) (hS.trans h2.vis) _ (by simp; omega) (by simp; omega) ?_
  intro s2 u2 V2 h5 h6 h7 h8 _
  refine Out.fin hloc ⟨h2'.trans h6 fun b hb => ?_, sb s2, h7, fun b hb => ?_, ?_, rfl⟩
  · rcases h4 b hb with h9 | h9
    · exact (sb_nil _ h9).elim
    · exact .inr h9
  · rcases h8 b hb with h9 | h9
    · rcases h4 b h9 with h9 | h9
      · exact (sb_nil _ h9).elim
      · exact .inr h9
    · exact .inr fun hv => h9 (h2.vis _ hv)
  · rw [eraseIdx_split]; simpa using h5

/-- one more, as the document has it -/
def swait (l : List Order) (o : Order) : List Order × Int :=
  if p_pitref1_Order o = 0 then (if o.Stop = 0 then (l, 6) else if idxI (fun x : Order => x.Id == o.Id) l ≥ 0 then (l, 7) else if l.length ≥ 20 then (l, 4) else (l ++ [o], 0)) else (l, p_pitref1_Order o)

theorem g_pitref2_Wait {u : World} {V S : VP} {s : Sl} {xs : List Order} (h : SlR Order.cells u S s xs) (hS : Sub S V) (o : Order) (hm : xs.length ≤ 1000) :
    GC PP F_pitref2_Wait [.slice s.a s.len s.cap, .agg (Order.cells o).toArray] u V (fun x => gval errT ((Enc.t2 eSl eInt).enc x)) (Out Nix S u V fun x u' S' => SlR Order.cells u' S' x.1 (swait xs o).1 ∧ x.2 = (swait xs o).2) := by
  refine s_pitref2_Wait s o u V _ ?_
  have hloc : Loc (fun (x : Sl × Int) u' (S' : VP) => SlR Order.cells u' S' x.1 (swait xs o).1 ∧ x.2 = (swait xs o).2) := fun x u u' S h hs => ⟨h.1.same hs, h.2⟩
  have hlen := h.len
  have kept : ∀ e : Int, swait xs o = (xs, e) → Fin (Out Nix S u V fun x u' S' => SlR Order.cells u' S' x.1 (swait xs o).1 ∧ x.2 = (swait xs o).2) (s, e) u V := fun e he =>
    Out.fin hloc ⟨Upd.refl _ _ _, S, hS, fun b hb => .inl hb, by rw [he]; exact h, by rw [he]⟩
  unfold vc_pitref2_Wait
  refine ⟨_, r_pitref1_Order o u V, ?_⟩
  by_cases h1 : p_pitref1_Order o = 0
  · have e1 : (p_pitref1_Order o == 0) = true := by simp [h1]
    by_cases h2 : o.Stop = 0
    · have e2 : (o.Stop == 0) = true := by simp [h2]
      simp (decide := true) only [e1, e2, ifT_eq, ifF_eq, joinL, Int.reduceBEq, Int.reduceBNe, Bool.not_true, Bool.not_false]
      exact kept 6 (by simp [swait, h1, h2])
    · have e2 : (o.Stop == 0) = false := by simp [h2]
      simp (decide := true) only [e1, e2, ifT_eq, ifF_eq, joinL, Int.reduceBEq, Int.reduceBNe, Bool.not_true, Bool.not_false]
      refine joinI fun Kj hKj => ⟨_, r_pitref2_Waits h hS o.Id, hKj _ _ _ ?_⟩
      by_cases h3 : idxI (fun x : Order => x.Id == o.Id) xs ≥ 0
      · have e3 : decide (idxI (fun x : Order => x.Id == o.Id) xs ≥ 0) = true := by simp [h3]
        simp (decide := true) only [e3, ifT_eq, ifF_eq, joinL, Int.reduceBEq, Int.reduceBNe, Bool.not_true, Bool.not_false]
        exact kept 7 (by simp [swait, h1, h2, h3])
      · have e3 : decide (idxI (fun x : Order => x.Id == o.Id) xs ≥ 0) = false := by simp [h3]
        by_cases h4 : xs.length ≥ 20
        · have e4 : decide ((s.len : Int) ≥ 20) = true := decide_eq_true (by omega)
          simp (decide := true) only [e1, e3, e4, ifT_eq, ifF_eq, joinL, Int.reduceBEq, Int.reduceBNe, Bool.not_true, Bool.not_false]
          exact kept 4 (by simp [swait, h1, h2, h3, h4])
        · have e4 : decide ((s.len : Int) ≥ 20) = false := decide_eq_false (by omega)
          have e5 : (p_pitref1_Order o != 0) = false := by simp [h1]
          simp (decide := true) only [e1, e3, e4, e5, ifT_eq, ifF_eq, joinL, Int.reduceBEq, Int.reduceBNe, Bool.not_true, Bool.not_false]
          refine opv_append (s := ⟨none, 0, 0⟩) (r := s) ty_Sl_Order co_Order (Own.nil _ _ _ _) (fun b hb => (sb_nil _ hb).elim) h hS _ (by simp; omega) (by simp; omega) ?_
          intro s1 u1 V1 g1 g2 g3 g4 _
          refine NewC.mk fun b1 u2 V2 hbd hge hcell hsub hb1 hbd' hrel => ?_
          have hN : Own Order.cells 8 T_Order u2 ⟨some ⟨b1, 0, none⟩, 1, 1⟩ [o] := Own.new co_Order.len (by simpa using hcell) rfl (by simp)
          refine opv_append (s := s1) (r := ⟨some ⟨b1, 0, none⟩, 1, 1⟩) ty_Sl_Order co_Order (g1.same (same_rel hrel g3)) (g3.trans hsub) hN.toR (fun b hb => by rw [sb_iff] at hb; subst hb; exact hb1) _ (by simp; omega) (by simp; omega) ?_
          intro s2 u3 V3 k1 k2 k3 k4 _
          have g2' : Upd Nix u V u1 V1 := g2.mono fun b hb => (sb_nil _ hb).elim
          have hfresh : ∀ b, sb s1 b → ¬ V b := fun b hb => (g4 b hb).elim (fun h => (sb_nil _ h).elim) id
          have hsw : swait xs o = (xs ++ [o], 0) := by simp [swait, h1, h2, h3, h4]
          refine Out.fin hloc ⟨(g2'.trans (upd_new Nix hsub hrel) fun b hb => hb.elim).trans k2 fun b hb => .inr (hfresh b hb), sb s2, k3, fun b hb => ?_, ?_, ?_⟩
          · rcases k4 b hb with h9 | h9
            · exact .inr (hfresh b h9)
            · exact .inr fun hv => h9 (hsub _ (g2.vis _ hv))
          · rw [hsw]; simpa using k1.toR
          · rw [hsw]
  · have e1 : (p_pitref1_Order o == 0) = false := by simp [h1]
    have e5 : (p_pitref1_Order o != 0) = true := by simp [h1]
    simp (decide := true) only [e1, e5, ifT_eq, ifF_eq, joinL, Int.reduceBEq, Int.reduceBNe, Bool.not_true, Bool.not_false]
    exact kept _ (by simp [swait, h1])
end Go.Sx
