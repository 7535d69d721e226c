/-
  Contracts of functions that this claim reaches. Conditions: those of the statement alone.
-/
import Derived.Test.YtnjnpfhgblcgnaaDoorLv7
set_option linter.unusedVariables false
set_option linter.unusedSimpArgs false
set_option maxRecDepth 100000
namespace Go.Sx

theorem err_ok (n : Int) : (codeOf (errOf n) == n) = true := by
  unfold errOf codeOf
  split
  · rename_i h; rw [h]; rfl
  · simp
theorem findV_eq (s : Int) (xs : List PL) (id : Int) : findV s xs id = ((if dropF s xs id ≠ 0 then 0 else (at_ xs id).1), (if dropF s xs id ≠ 0 then 0 else (at_ xs id).2), errOf (dropF s xs id)) := by
  unfold findV dropF
  by_cases h1 : lvF s xs = 0
  · by_cases h2 : (at_ xs id).1 < 0
    · simp [h1, h2, errOf]
    · simp [h1, h2, errOf]
  · simp [h1, errOf]

theorem law_SideTells {u : World} {V : VP} (hG : Glob u V) {l : Sl} {xs : List PL} (h : LvR u V l xs) (s p : Int) (r : Rest) (id n : Int) :
    GC PP F_pitlaw1_SideTells [.int .i64 s, .slice l.a l.len l.cap, .int .i64 p, .agg (Rest.cells r).toArray, .int .i64 id, .int .i64 n] u V (fun x => gval errT ((Enc.one eBool).enc x)) (fun x u' V' => x = true ∧ Upd Nix u V u' V') := by
  refine s_pitlaw1_SideTells s l p r id n u V _ ?_
  have hlen := h.len; have hle := h.le
  have moveL : ∀ {W : World} {V' : VP}, Upd Nix u V W V' → LvR W V l xs := fun hU => h.same (hU.same0 (Sub.refl V))
  have moveG : ∀ {W : World} {V' : VP}, Upd Nix u V W V' → Glob W V' := fun hU => hG.same (hU.same0 (Sub.blk hG.1)) hU.vis
  have hl0 : ((l.len : Int) == 0) = decide (xs = []) := by
    rw [Bool.eq_iff_iff, beq_iff_eq, decide_eq_true_iff]
    constructor
    · intro h; exact List.eq_nil_of_length_eq_zero (by omega)
    · intro h; rw [h] at hlen; rw [hlen]; rfl
  unfold vc_pitlaw1_SideTells
  refine ⟨_, r_pitref1_Levels h (Sub.refl V) s, _, r_side_Check h (Sub.refl V) s, _, r_pitsame_Error hG _ _, ?_⟩
  rw [err_ok]
  refine joinI fun Kj7 hKj7 => ?_
  suffices hgo7 : Kj7 (decide (lvF s xs = 0 ∧ xs = [])) u V by
    refine ifB (fun hb => ?_) (fun hb => ?_)
    · have h0 : lvF s xs = 0 := beq_iff_eq.1 hb
      rw [hl0]
      simpa [h0] using hgo7
    · have h0 : ¬ lvF s xs = 0 := by simpa using hb
      simpa [h0] using hgo7
  refine hKj7 _ _ _ ?_
  refine joinI fun Kj11 hKj11 => ?_
  suffices hgo11 : Kj11 (codeOf (bestV s xs).2, (bestV s xs).1) u V by
    by_cases h0 : lvF s xs = 0
    · cases xs with
      | nil =>
        have e : bestV s ([] : List PL) = (0, some 5) := by unfold bestV; rw [if_neg (by simp [h0])]
        rw [e] at hgo11
        have : decide (lvF s ([] : List PL) = 0 ∧ ([] : List PL) = []) = true := by simp [h0]
        rw [this]
        exact ifT hgo11
      | cons x xs =>
        have e : bestV s (x :: xs) = (x.price, none) := by unfold bestV; rw [if_neg (by simp [h0])]
        rw [e] at hgo11
        have : decide (lvF s (x :: xs) = 0 ∧ (x :: xs) = []) = false := by simp
        rw [this]
        refine ifF ?_
        refine joinI fun Kj15 hKj15 => ?_
        have : (lvF s (x :: xs) == 0) = true := by simp [h0]
        rw [this]
        refine ifT ?_
        refine h.ixN (i := 0) (by simp) fun ad lv _ hat hp hr => ⟨_, hat.fld (Sub.refl V) rfl, ?_⟩
        refine hKj15 _ _ _ ?_
        rw [hp, h0]
        exact hgo11
    · have e : bestV s xs = (0, some (lvF s xs)) := by unfold bestV; rw [if_pos h0]
      rw [e] at hgo11
      have : decide (lvF s xs = 0 ∧ xs = []) = false := by simp [h0]
      rw [this]
      refine ifF ?_
      refine joinI fun Kj15 hKj15 => ?_
      have : (lvF s xs == 0) = false := by simp [h0]
      rw [this]
      exact ifF (hKj15 _ _ _ hgo11)
  refine hKj11 _ _ _ ?_
  refine ⟨_, r_side_Best h (Sub.refl V) s, _, r_pitsame_Error hG _ _, ?_⟩
  have eb : (codeOf (bestV s xs).2 == codeOf (bestV s xs).2) = true := by simp
  rw [eb]
  refine joinI fun Kj23 hKj23 => ?_
  suffices hgo23 : Kj23 (decide (lvF s xs = 0 ∧ n < 0)) u V by
    refine ifB (fun hb => ?_) (fun hb => ?_)
    · have h0 : lvF s xs = 0 := beq_iff_eq.1 hb
      simpa [h0] using hgo23
    · have h0 : ¬ lvF s xs = 0 := by simpa using hb
      simpa [h0] using hgo23
  refine hKj23 _ _ _ ?_
  refine joinI fun Kj27 hKj27 => ?_
  suffices hgo27 : Kj27 (depF s xs n) u V by
    refine ifB (fun hb => ?_) (fun hb => ?_)
    · have hb := of_decide_eq_true hb
      have : depF s xs n = 1 := by unfold depF; rw [if_neg (by simp [hb.1]), if_pos hb.2]
      rw [this] at hgo27; exact hgo27
    · have hb := of_decide_eq_false hb
      have : depF s xs n = lvF s xs := by
        unfold depF
        by_cases h0 : lvF s xs = 0
        · rw [if_neg (by simp [h0]), if_neg (fun hn => hb ⟨h0, hn⟩), h0]
        · rw [if_pos h0]
      rw [this] at hgo27; exact hgo27
  refine hKj27 _ _ _ ?_
  have hNl := depN_le s xs n
  -- the depth, as the law reckons it
  refine LoopN.st (fun (t : Sl × Int) u' V' => ∃ i : Nat, t.2 = i ∧ i ≤ depN s xs n ∧ Own Arr2_Int.cells 2 T_A2_i64 u' t.1 (dv (xs.take i)) ∧ Upd Nix u V u' V' ∧ Sub (sb t.1) V' ∧ Dis (sb t.1) V) (fun t => depN s xs n - t.2.toNat)
    ⟨0, rfl, Nat.zero_le _, Own.nil _ _ _ _, Upd.refl _ _ _, fun b hb => (sb_nil _ hb).elim, fun b hb => (sb_nil _ hb).elim⟩ ?_
  rintro ⟨o, _⟩ u1 V1 ⟨i, rfl, hi, hO, hU, hVo, hDo⟩ next31 hn31
  simp only at hO hVo hDo
  simp only [Int.toNat_natCast]
  refine joinI fun Kj35 hKj35 => ?_
  suffices hgo35 : Kj35 (decide (i < depN s xs n)) u1 V1 by
    refine ifB (fun hb => ?_) (fun hb => ?_)
    · have hb := of_decide_eq_true hb
      refine ifB (fun hb2 => ?_) (fun hb2 => ?_)
      · have hb2 := of_decide_eq_true hb2
        have : (depF s xs n == 0) = decide (i < depN s xs n) := by
          rw [Bool.eq_iff_iff, beq_iff_eq, decide_eq_true_iff]
          unfold depN
          constructor
          · intro h0; rw [if_pos h0]; omega
          · intro h0
            by_cases hF : depF s xs n = 0
            · exact hF
            · rw [if_neg hF] at h0; omega
        rw [this]; exact hgo35
      · have hb2 := of_decide_eq_false hb2
        have : decide (i < depN s xs n) = false := by
          rw [decide_eq_false_iff_not]
          unfold depN
          split <;> omega
        rw [this] at hgo35; exact hgo35
    · have hb := of_decide_eq_false hb
      have : decide (i < depN s xs n) = false := by
        rw [decide_eq_false_iff_not]; omega
      rw [this] at hgo35; exact hgo35
  refine hKj35 _ _ _ ?_
  refine ifB (fun hb => ?_) (fun hb => ?_)
  · have hlt : i < depN s xs n := of_decide_eq_true hb
    have hlx : i < xs.length := by omega
    have h1 : lvF s xs = 0 := by
      have hF : depF s xs n = 0 := by
        unfold depN at hlt
        split at hlt
        · assumption
        · omega
      unfold depF at hF
      split at hF
      · rename_i h2; exact absurd hF h2
      · rename_i h2; exact Decidable.not_not.1 h2
    obtain ⟨hs, hq, hxl, hcl⟩ := lvF_zero h1
    have hqt := lvF_qty h1
    have hmem := List.getElem_mem hlx
    have hql := hq _ hmem
    refine LoopN.st (fun (t : Int × Int) u' V' => u' = u1 ∧ V' = V1 ∧ ∃ j : Nat, t.2 = j ∧ j ≤ xs[i].rests.length ∧ t.1 = sumQ (xs[i].rests.take j)) (fun t => xs[i].rests.length - t.2.toNat)
      ⟨rfl, rfl, 0, rfl, Nat.zero_le _, rfl⟩ ?_
    rintro ⟨c, _⟩ u9 V10 ⟨rfl, rfl, j, rfl, hj, hc⟩ next39 hn39
    simp only at hc
    subst hc
    simp only [Int.toNat_natCast]
    have hbd := sumQ_bd (hqt _ hmem) j hj
    refine (moveL hU).ixN hlx fun ad40 lv40 _ hat40 hp40 hr40 => ⟨_, hat40.fld hU.vis rfl, ?_⟩
    have hrl40 := hr40.len
    refine ifB (fun hb2 => ?_) (fun hb2 => ?_)
    · have hlt2 : j < xs[i].rests.length := by have := of_decide_eq_true hb2; omega
      have hq1 := hqt _ hmem _ (List.getElem_mem hlt2)
      refine (moveL hU).ixN hlx fun ad42 lv42 _ hat42 hp42 hr42 => ⟨_, hat42.fld hU.vis rfl, ?_⟩
      refine hr42.ixN co_Rest.len hlt2 fun ad44 _ hat44 => ⟨_, hat44.fld hU.vis rfl, ?_⟩
      exact ⟨by unfold Rng; omega, rng_nat (by omega), hn39 (_, _) _ _ ⟨rfl, rfl, j + 1, rfl, by omega, (sumQ_take_succ hlt2).symm⟩ (by simp only; omega)⟩
    · have hge : xs[i].rests.length ≤ j := by have := of_decide_eq_false hb2; omega
      rw [List.take_of_length_le hge]
      refine (moveL hU).ixN hlx fun ad46 lv46 _ hat46 hp46 hr46 => ⟨xs[i].price, by rw [← hp46]; exact hat46.fld hU.vis rfl, ?_⟩
      refine NewC.mk fun b14 u15 V16 hbd2 hge2 hcell hsub hb14 hbd' hrel => ?_
      have hU15 : Upd Nix u9 V10 u15 V16 := upd_new Nix hsub hrel
      have hX : SlR Arr2_Int.cells u15 (Blk b14) ⟨some ⟨b14, 0, none⟩, 1, 1⟩ [⟨xs[i].price, sumQ xs[i].rests⟩] := (Own.new (e := T_A2_i64) (xs := [⟨xs[i].price, sumQ xs[i].rests⟩]) co_Arr2_Int.len (by simpa using hcell) rfl (by simp)).toR.sub fun k hk => sb_iff.1 hk
      refine opv_append ty_Sl_A2_i64 co_Arr2_Int (hO.same (hU15.same0 hVo)) (hVo.trans hsub) hX (Sub.blk hb14) _ (by simp; omega) (by simp; omega) ?_
      intro x17 u18 V19 k1 k2 k3 k4 _
      have hdv : dv (xs.take i) ++ [⟨xs[i].price, sumQ xs[i].rests⟩] = dv (xs.take (i + 1)) := by
        show _ = List.map _ (xs.take (i + 1))
        rw [List.take_succ_eq_append_getElem hlx, List.map_append]; rfl
      rw [hdv] at k1
      refine ⟨rng_nat (by omega), hn31 (_, _) _ _ ⟨i + 1, rfl, by omega, k1, (hU.trans hU15 fun b hb => hb.elim).trans k2 fun b hb => .inr (hDo b hb), k3, fun b hb => ?_⟩ (by simp only; omega)⟩
      rcases k4 b hb with hb | hb
      · exact hDo b hb
      · exact fun hv => hb (hsub _ (hU.vis _ hv))
  -- the depth is the program's
  have hie : i = depN s xs n := by have := of_decide_eq_false hb; omega
  subst hie
  refine (g_side_Depth (moveL hU) hU.vis s n).mono fun x54 u55 V56 hbd55 ⟨hU55, S54, hS54, hA54, hL54, he54⟩ => ?_
  obtain ⟨x54, e54⟩ := x54
  simp only at hL54 he54 ⊢
  subst he54
  have hU2 : Upd Nix u V u55 V56 := hU.trans hU55 fun b hb => hb.elim
  refine ⟨_, r_pitsame_Error (moveG hU2) _ _, ?_⟩
  rw [err_ok]
  have hOl := hO.len
  have hLl := hL54.len
  have hO2 := (hO.same (hU55.same0 hVo)).toR
  have hoV : Sub (sb o) V56 := hVo.trans hU55.vis
  have hdl : (depL s xs n).length = (dv (xs.take (depN s xs n))).length := rfl
  refine ifB (fun hb2 => ?_) (fun _ => ?_)
  · rw [hOl, hLl, hdl] at hb2; simp at hb2
  refine LoopN.st (fun (t : Int) u' V' => u' = u55 ∧ V' = V56 ∧ ∃ i : Nat, t = i ∧ i ≤ (depL s xs n).length) (fun t => (depL s xs n).length - t.toNat) ⟨rfl, rfl, 0, rfl, Nat.zero_le _⟩ ?_
  rintro _ u59 V60 ⟨rfl, rfl, j, rfl, hj⟩ next61 hn61
  simp only [Int.toNat_natCast]
  refine ifB (fun hb2 => ?_) (fun hb2 => ?_)
  · have hlt : j < (depL s xs n).length := by have := of_decide_eq_true hb2; omega
    refine hL54.ixN co_Arr2_Int.len hlt fun ad62 _ hat62 => ⟨_, hat62.sub hS54, ?_⟩
    refine hO2.ixN co_Arr2_Int.len hlt fun ad64 _ hat64 => ⟨_, hat64.sub hoV, ?_⟩
    refine ⟨_, fun w => neq_A2 _ _ w, fun w => grd_A2 _ _ _ _ _ _, ?_⟩
    refine ifB (fun hb3 => ?_) (fun hb3 => ?_)
    · exfalso
      have : ((depL s xs n)[j].L == (depL s xs n)[j].L) = true := by simp
      rw [show (dv (xs.take (depN s xs n)))[j]'hlt = (depL s xs n)[j] from rfl, this] at hb3
      cases hb3
    · have hbig := hL54.big
      exact ⟨rng_nat (by omega), hn61 _ _ _ ⟨rfl, rfl, j + 1, rfl, by omega⟩ (by omega)⟩
  -- one more
  refine joinI fun Kj70 hKj70 => ?_
  suffices hgo70 : ∀ (w : Sl) (uw : World) (Vw Sw : VP), Upd Nix u V uw Vw → LvR uw Sw w (if lvF s xs = 0 then addL s xs p r else []) → Sub Sw Vw → Kj70 ((if lvF s xs = 0 then addF s xs p r else lvF s xs), w) uw Vw by
    refine ifB (fun hb => ?_) (fun hb => ?_)
    · have h0 : lvF s xs = 0 := beq_iff_eq.1 hb
      obtain ⟨hs, hq, hxl, hcl⟩ := lvF_zero h0
      refine (g_pitref1_Add (moveL hU2) hU2.vis hs p r hxl hq).mono fun x71 u72 V73 hbd72 ⟨hU72, S71, hS71, hA71, hL71, he71⟩ => ?_
      obtain ⟨x71, e71⟩ := x71
      simp only at hL71 he71 ⊢
      subst he71
      have := hgo70 x71 u72 V73 S71 (hU2.trans hU72 fun b hb => hb.elim) (by rw [if_pos h0]; exact hL71) hS71
      rwa [if_pos h0] at this
    · have h0 : ¬ lvF s xs = 0 := by simpa using hb
      have := hgo70 ⟨none, 0, 0⟩ u59 V60 Nix hU2 (by rw [if_neg h0]; exact LvR.nil _ _ _ _) (fun b hb => hb.elim)
      rwa [if_neg h0] at this
  intro w uw Vw Sw hUw hLw hSw
  refine hKj70 _ _ _ ?_
  refine (g_side_Add (moveL hUw) hUw.vis s p r).mono fun x74 u75 V76 hbd75 ⟨hU75, S74, hS74, hA74, hL74, he74⟩ => ?_
  obtain ⟨x74, e74⟩ := x74
  simp only at hL74 he74 ⊢
  subst he74
  have hU3 : Upd Nix u V u75 V76 := hUw.trans hU75 fun b hb => hb.elim
  refine ⟨_, r_pitsame_Error (moveG hU3) _ _, ?_⟩
  rw [err_ok]
  obtain ⟨r78, hr78, hro78⟩ := r_pitsame_Levels hL74 hS74 (hLw.same (hU75.same0 hSw)) (hSw.trans hU75.vis)
  have hr78t : r78 = true := hr78.2 rfl
  subst hr78t
  refine ⟨_, hro78, ?_⟩
  refine ⟨_, r_pitref1_At (moveL hU3) hU3.vis id, ?_⟩
  -- without one
  refine joinI fun Kj83 hKj83 => ?_
  suffices hgo83 : Kj83 (decide (lvF s xs = 0 ∧ (at_ xs id).1 < 0)) u75 V76 by
    refine ifB (fun hb => ?_) (fun hb => ?_)
    · have h0 : lvF s xs = 0 := beq_iff_eq.1 hb
      simpa [h0] using hgo83
    · have h0 : ¬ lvF s xs = 0 := by simpa using hb
      simpa [h0] using hgo83
  refine hKj83 _ _ _ ?_
  refine joinI fun Kj87 hKj87 => ?_
  suffices hgo87 : ∀ (w : Sl) (uw : World) (Vw Sw : VP), Upd Nix u V uw Vw → LvR uw Sw w (dropL s xs id) → Sub Sw Vw → Kj87 (dropF s xs id, w, dropP s xs id, dropR s xs id) uw Vw by
    have hbad : ∀ e : Int, e ≠ 0 → dropF s xs id = e → Kj87 (e, (⟨none, 0, 0⟩ : Sl), 0, (⟨0, 0, 0, 0, 0⟩ : Rest)) u75 V76 := by
      intro e he hF
      have hne : ¬ dropF s xs id = 0 := by rw [hF]; exact he
      have h1 : dropL s xs id = [] := by unfold dropL; rw [if_neg hne]
      have h2 : dropP s xs id = 0 := by unfold dropP; rw [if_neg hne]
      have h3 : dropR s xs id = ⟨0, 0, 0, 0, 0⟩ := by unfold dropR; rw [if_neg hne]
      have := hgo87 ⟨none, 0, 0⟩ u75 V76 Nix hU3 (by rw [h1]; exact LvR.nil _ _ _ _) (fun b hb => hb.elim)
      rwa [h2, h3, hF] at this
    refine ifB (fun hb => ?_) (fun hb => ?_)
    · have hb := of_decide_eq_true hb
      exact hbad 5 (by decide) (by unfold dropF; rw [if_neg (by simp [hb.1]), if_pos hb.2])
    · have hb := of_decide_eq_false hb
      refine joinI fun Kj91 hKj91 => ?_
      refine ifB (fun hb2 => ?_) (fun hb2 => ?_)
      · have h0 : lvF s xs = 0 := beq_iff_eq.1 hb2
        have h4 : ¬ (at_ xs id).1 < 0 := fun h => hb ⟨h0, h⟩
        have hF : dropF s xs id = 0 := by unfold dropF; rw [if_neg (by simp [h0]), if_neg h4]
        obtain ⟨hs, hq, hxl, hcl⟩ := lvF_zero h0
        rcases at_cases xs id with e | ⟨i, k, hi, hk, e⟩
        · rw [e] at h4; exact absurd (by decide : ((-1 : Int), (-1 : Int)).1 < 0) h4
        have gL : dropL s xs id = outL xs i k := by unfold dropL; rw [if_pos hF, e]; rfl
        have gR : dropR s xs id = xs[i].rests[k] := by
          unfold dropR; rw [if_pos hF, e]
          simp [restAt, hi, hk]
        have gP : dropP s xs id = xs[i].price := by
          unfold dropP; rw [if_pos hF, e]
          simp [priceAt, hi]
        rw [e]
        simp only [Int.toNat_natCast]
        refine (g_pitref1_Out (moveL hU3) hU3.vis hi hk (by omega) fun x hx => by have := hq x hx; omega).mono fun x92 u93 V94 hbd93 ⟨hU93, S92, hS92, hA92, hL92⟩ => ?_
        have hU4 : Upd Nix u V u93 V94 := hU3.trans hU93 fun b hb => hb.elim
        refine (moveL hU4).ixN hi fun ad95 lv95 _ hat95 hp95 hr95 => ⟨_, hat95.fld hU4.vis rfl, ?_⟩
        refine hr95.ixN co_Rest.len hk fun ad97 _ hat97 => ⟨_, hat97.sub hU4.vis, ?_⟩
        refine (moveL hU4).ixN hi fun ad99 lv99 _ hat99 hp99 hr99 => ⟨xs[i].price, by rw [← hp99]; exact hat99.fld hU4.vis rfl, ?_⟩
        refine hKj91 _ _ _ ?_
        have := hgo87 x92 u93 V94 S92 hU4 (by rw [gL]; exact hL92) hS92
        rw [gP, gR, hF] at this
        rw [h0]; exact this
      · have h0 : ¬ lvF s xs = 0 := by simpa using hb2
        refine hKj91 _ _ _ ?_
        exact hbad _ h0 (by unfold dropF; rw [if_pos h0])
  intro w2 uw2 Vw2 Sw2 hUw2 hLw2 hSw2
  refine hKj87 _ _ _ ?_
  refine (g_side_Drop (moveL hUw2) hUw2.vis s id).mono fun x101 u102 V103 hbd102 ⟨hU102, S101, hS101, hA101, hL101, he101⟩ => ?_
  obtain ⟨x101, y101⟩ := x101
  simp only at hL101 he101 ⊢
  subst he101
  have hU5 : Upd Nix u V u102 V103 := hUw2.trans hU102 fun b hb => hb.elim
  refine ⟨_, r_pitsame_Error (moveG hU5) _ _, ?_⟩
  simp only [err_ok]
  obtain ⟨r105, hr105, hro105⟩ := r_pitsame_Levels hL101 hS101 (hLw2.same (hU102.same0 hSw2)) (hSw2.trans hU102.vis)
  have hr105t : r105 = true := hr105.2 rfl
  subst hr105t
  refine ⟨_, hro105, ?_⟩
  refine joinI fun Kj109 hKj109 => ?_
  suffices hgo109 : Kj109 ((if dropF s xs id ≠ 0 then 0 else (at_ xs id).1), (if dropF s xs id ≠ 0 then 0 else (at_ xs id).2)) u102 V103 by
    refine ifB (fun hb => ?_) (fun hb => ?_)
    · have h0 : dropF s xs id ≠ 0 := by simpa using hb
      rwa [if_pos h0, if_pos h0] at hgo109
    · have h0 : ¬ dropF s xs id ≠ 0 := by simpa using hb
      rwa [if_neg h0, if_neg h0] at hgo109
  refine hKj109 _ _ _ ?_
  refine ⟨_, r_side_Find (moveL hU5) hU5.vis s id, ?_⟩
  rw [findV_eq]
  refine ⟨_, r_pitsame_Error (moveG hU5) _ _, ?_⟩
  simp only [err_ok]
  refine ifT (ifT (ifT (ifT (ifT (ifT (ifT (ifT ?_)))))))
  rw [beq_self_eq_true]
  refine ifT ?_
  refine ⟨_, fun w => eql_Rest _ _ w, fun w => eqt_Rest.grd _ _ _ _ _ _, ?_⟩
  rw [beq_self_eq_true, beq_self_eq_true, beq_self_eq_true, beq_self_eq_true]
  refine ifT (ifT (ifT ?_))
  intro w3 V4 hv _ hrl
  exact ⟨rfl, upd_fin hU5 hv hrl⟩
end Go.Sx
