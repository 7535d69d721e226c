/-
  SideTells holds of the given program, for every input: the call returns true and each argument reads afterwards as before. Conditions: none but those of the given card (the package-level variable errors.errorType starts as the program's text lays it).
-/
import Derived.Test.YtnjnpfhgblcgnaaDoorLv8
import Derived.Test.YtnjnpfhgblcgnaaDoorSpB
import Derived.Test.YtnjnpfhgblcgnaaDoorGlDoor
import Derived.Test.YtnjnpfhgblcgnaaDoorCards
import Derived.Test.YtnjnpfhgblcgnaaDoorTie
import Derived.SevenTiedAt
set_option linter.unusedVariables false
set_option linter.unusedSimpArgs false
namespace Go.Sx
theorem levels_of {W : World} {S : VP} {s : Sl} {ls : List Level} (h : SlR Level.cells W S s ls) (hr : ∀ lv ∈ ls, ∃ ys : List Rest, SlR Rest.cells W S lv.Rests ys) : ∃ xs : List PL, LvR W S s xs := by
  have : ∃ ps : List LP, l1 ps = ls ∧ ∀ p ∈ ps, RR W S p := by
    clear h
    induction ls with
    | nil => exact ⟨[], rfl, fun p hp => by cases hp⟩
    | cons lv ls ih =>
      obtain ⟨ps, h1, h2⟩ := ih fun x hx => hr x (by simp [hx])
      obtain ⟨ys, hy⟩ := hr lv (by simp)
      refine ⟨(lv, ⟨lv.Price, ys⟩) :: ps, by rw [← h1]; rfl, fun p hp => ?_⟩
      rcases List.mem_cons.1 hp with rfl | hp
      · exact ⟨rfl, hy⟩
      · exact h2 p hp
  obtain ⟨ps, rfl, h2⟩ := this
  exact ⟨l2 ps, LvR.of h h2⟩

end Go.Sx
namespace Go.Proofs.YtnjnpfhgblcgnaaDoor
open Go.ChangeShapes Go.WideShapes Go.RowKit Go.Sx

set_option maxRecDepth 100000 in
theorem sideTells_lifted (os : Os) (started : os.Started) (H : Type) (enc : TypeId × Value → H) :
    ReturnsInHanded {} Tryd.checked os 4 .any (fun w args => (Rows.sideTellsSpec.pre enc Tryd.prog Tryd.f4 [] false w args ∧ laidMetH Tryd.prog [("errors.errorType", Rows.laid_errors_errorType)] w) ∧ sizedMet enc Tryd.prog Tryd.f4 (OpenSpec.ofChange Rows.sideTellsSpec) false w args)
      (Rows.sideTellsSpec.post enc Tryd.prog Tryd.f4 false true false false) := by
  refine returnsInHanded_of_change_and (C := Tryd.checked) (X := fun w _ => laidMetH Tryd.prog [("errors.errorType", Rows.laid_errors_errorType)] w) (fun _ _ _ hh h => h.of_heap hh) own started (by kernel_rfl) Tryd.func4
    (ChangeSpec.witness_at (enc := enc) (C := Tryd.checked) (os := os) (X := fun w _ => laidMetH Tryd.prog [("errors.errorType", Rows.laid_errors_errorType)] w) false (laidWorld os) #[.int .i64 0, .slice none 0 0, .int .i64 0, .agg #[.int .i64 0, .int .i64 0, .int .i64 0, .int .i64 0, .int .i64 0], .int .i64 0, .int .i64 0] 8 rfl (by kernel_rfl) (by kernel_rfl) (by kernel_rfl) (by kernel_rfl) (by kernel_rfl) (laidWorld_met os _)) ?_
  intro W base args ds gs before hval0 hW _ hwt hL _
  have hval : ∀ (j : Nat) t v, Tryd.f4.params[j]? = some t → args[j]? = some v → Value.okWide Tryd.prog W .any base t v := hval0
  have hW' := hW
  obtain ⟨p, q, hA0, hV0, rfl, hfz, hnd⟩ := hW
  have hA : DataW.TrodAll enc Tryd.prog W 0 (fun _ => true) true Tryd.f4.params.toList args.toList ds p := hA0
  have hV : DataW.TrodVars enc Tryd.prog W (fun _ => true) [] gs q := hV0
  obtain ⟨rfl, rfl⟩ := trodVars_none hV
  rw [Tryd.params4] at hA hval
  obtain ⟨v0, vs0, d0, ds0, p0, q0, ha0, rfl, rfl, h0, hA⟩ := trodAll_cons hA
  obtain ⟨v1, vs1, d1, ds1, p1, q1, rfl, rfl, rfl, h1, hA⟩ := trodAll_cons hA
  obtain ⟨v2, vs2, d2, ds2, p2, q2, rfl, rfl, rfl, h2, hA⟩ := trodAll_cons hA
  obtain ⟨v3, vs3, d3, ds3, p3, q3, rfl, rfl, rfl, h3, hA⟩ := trodAll_cons hA
  obtain ⟨v4, vs4, d4, ds4, p4, q4, rfl, rfl, rfl, h4, hA⟩ := trodAll_cons hA
  obtain ⟨v5, vs5, d5, ds5, p5, q5, rfl, rfl, rfl, h5, hA⟩ := trodAll_cons hA
  obtain ⟨rfl, rfl, rfl⟩ := trodAll_nil hA
  obtain rfl : args = #[v0, v1, v2, v3, v4, v5] := by cases args; simp_all
  have hw1 : (d1.weights Tryd.prog T_Sl_Level).all (· ≤ reachBytes) = true := weight_at hwt (j := 1) rfl rfl
  have hw3 : (d3.weights Tryd.prog T_Rest).all (· ≤ reachBytes) = true := weight_at hwt (j := 3) rfl rfl
  have oR : Opens enc PP W T_Rest Rest.cells (fun y => ∀ v ∈ y.L, Rng v) := opens_struct eqt_Rest (by kernel_rfl) (by kernel_rfl) Rest.ofL_ok
  have oI : Opens enc PP W 3 cI Rng := opens_int (by kernel_rfl)
  have oSR := opens_slice (sz := 5) ty_Sl_Rest.und (by kernel_rfl) co_Rest.len (by omega) (Nat.lt_of_lt_of_le (by decide : 0 < 1) (Nat.le_of_ble_eq_true (by kernel_rfl))) oR
  have oL : Opens enc PP W T_Level Level.cells (fun lv => ∃ ys : List Sx.Rest, SlR Rest.cells W (Vis W) lv.Rests ys) :=
    (opens_fields (fl := [(3, 0), (T_Sl_Rest, 1)]) (total := 2) (by kernel_rfl) (by kernel_rfl) (opF_cons (sz := 1) (by kernel_rfl) oI (opF_cons (sz := 1) (by kernel_rfl) oSR opF_nil))).map (fun p => (⟨p.1, p.2.1⟩ : Level)) (fun y => rfl) (fun y hy => ⟨hy.2.1.choose, hy.2.1.choose_spec.1⟩)
  have oSL := opens_slice (sz := 2) ty_Sl_Level.und (by kernel_rfl) co_Level.len (by omega) (Nat.lt_of_lt_of_le (by decide : 0 < 1) (Nat.le_of_ble_eq_true (by kernel_rfl))) oL
  have hu : PP.underlying 3 = some (.int .i64) := by kernel_rfl
  obtain ⟨s, rfl, _⟩ := arg_int hu (hval 0 3 v0 rfl rfl) h0
  obtain ⟨sl, rfl, ls, hl, hr⟩ := arg_slice ty_Sl_Level.und (hval 1 T_Sl_Level v1 rfl rfl) h1 hw1 oSL
  obtain ⟨pr, rfl, _⟩ := arg_int hu (hval 2 3 v2 rfl rfl) h2
  obtain ⟨r, rfl, _⟩ := arg_agg (fs := PP.fieldsOf T_Rest) (by kernel_rfl) (hval 3 T_Rest v3 rfl rfl) h3 hw3 oR
  obtain ⟨id, rfl, _⟩ := arg_int hu (hval 4 3 v4 rfl rfl) h4
  obtain ⟨n, rfl, _⟩ := arg_int hu (hval 5 3 v5 rfl rfl) h5
  obtain ⟨xs, hxs⟩ := levels_of hl hr
  have hg := glob_of_laid hL
  refine (calls_true (law_SideTells hg hxs s pr r id n)).mono fun e W' ⟨he, hb⟩ => ?_
  subst he
  exact ⟨_, rfl, law_shut (tb := 4) laidOut (by rw [Tryd.params4]; intro t ht; simp only [List.mem_cons, List.not_mem_nil, or_false] at ht; rcases ht with rfl | rfl | rfl | rfl | rfl | rfl <;> exact ⟨by kernel_rfl, of_decide_eq_true (by kernel_rfl)⟩) rfl (by kernel_rfl) (by kernel_rfl) hW' rfl hb⟩

theorem sideTells_row : Rows.SideTellsSaid :=
  OpenClaim.holds_of_wide 4 Tryd.f4 rfl rfl rfl rfl rfl rfl rfl ⟨rfl, rfl, rfl, rfl, rfl⟩ rfl rfl rfl rfl rfl (by kernel_rfl) Tryd.func4 (by kernel_rfl)
    (of_decide_eq_true (by kernel_rfl)) (by unfold Func.isWrapper; rw [if_neg (of_decide_eq_false (by kernel_rfl))]; exact ⟨rfl, rfl⟩)
    (fun os started H enc _ => sideTells_lifted os started H enc)

theorem sideTells_holds : Rows.SideTellsCardSaid :=
  Claim7.holds_tied_plain_at .later [] [.handle] true (true, "489d0dbb696d63c19759591fb2b6a0dde551c9b4f692a1a0e70227aaab97afdb") true
    sideTells_row (fun _ h => by cases h) (by kernel_rfl) (fun _ h => by cases h) sideTells_row_tie rfl ⟨rfl, rfl⟩ (by kernel_rfl) rfl
    (fun f fn hf hfn => by
      obtain rfl : f = 4 := Option.some.inj ((show Tryd.prog.funcNamed "pitfloor/pitlaw1.SideTells" = some 4 by kernel_rfl).symm.trans hf) |>.symm
      obtain rfl : fn = Tryd.f4 := (Option.some.inj (Tryd.func4.symm.trans hfn)).symm
      exact ⟨by kernel_rfl, fun j t ht => by
        rw [Tryd.params4] at ht
        have hm : t ∈ [3, T_Sl_Level, 3, T_Rest, 3, 3] := by simpa using Array.mem_of_getElem? ht
        have hall : ([3, T_Sl_Level, 3, T_Rest, 3, 3].all fun u => !Tryd.prog.wantsStandIn u) = true := by kernel_rfl
        exact (show Tryd.prog.wantsStandIn t = false by simpa using List.all_eq_true.1 hall t hm)⟩)
    (by kernel_rfl)
#print axioms sideTells_holds
end Go.Proofs.YtnjnpfhgblcgnaaDoor
