/-
  WakePlays holds of the given program, for every input: the call returns true and each argument reads afterwards as before. Conditions: none but those of the given card (the package-level variable errors.errorType starts as the program's text lays it).
-/
import Derived.Test.YtnjnpfhgblcgnaaDoorWa9
import Derived.Test.YtnjnpfhgblcgnaaDoorGlDoor
import Derived.Test.YtnjnpfhgblcgnaaDoorCards
import Derived.Test.YtnjnpfhgblcgnaaDoorTie
import Derived.SevenTiedAt
set_option linter.unusedVariables false
set_option linter.unusedSimpArgs false
namespace Go.Proofs.YtnjnpfhgblcgnaaDoor
open Go.ChangeShapes Go.WideShapes Go.RowKit Go.Sx

set_option maxRecDepth 100000 in
theorem wakePlays_lifted (os : Os) (started : os.Started) (H : Type) (enc : TypeId × Value → H) :
    ReturnsInHanded {} Tryd.checked os 3 .any (fun w args => (Rows.wakePlaysSpec.pre enc Tryd.prog Tryd.f3 [] false w args ∧ laidMetH Tryd.prog [("errors.errorType", Rows.laid_errors_errorType)] w) ∧ sizedMet enc Tryd.prog Tryd.f3 (OpenSpec.ofChange Rows.wakePlaysSpec) false w args)
      (Rows.wakePlaysSpec.post enc Tryd.prog Tryd.f3 false true false false) := by
  refine returnsInHanded_of_change_and (C := Tryd.checked) (X := fun w _ => laidMetH Tryd.prog [("errors.errorType", Rows.laid_errors_errorType)] w) (fun _ _ _ hh h => h.of_heap hh) own started (by kernel_rfl) Tryd.func3
    (ChangeSpec.witness_at (enc := enc) (C := Tryd.checked) (os := os) (X := fun w _ => laidMetH Tryd.prog [("errors.errorType", Rows.laid_errors_errorType)] w) false (laidWorld os) #[.slice none 0 0, .slice none 0 0] 8 rfl (by kernel_rfl) (by kernel_rfl) (by kernel_rfl) (by kernel_rfl) (by kernel_rfl) (laidWorld_met os _)) ?_
  intro W base args ds gs before hval0 hW _ hwt hL _
  have hval : ∀ (j : Nat) t v, Tryd.f3.params[j]? = some t → args[j]? = some v → Value.okWide Tryd.prog W .any base t v := hval0
  have hW' := hW
  obtain ⟨p, q, hA0, hV0, rfl, hfz, hnd⟩ := hW
  have hA : DataW.TrodAll enc Tryd.prog W 0 (fun _ => true) true Tryd.f3.params.toList args.toList ds p := hA0
  have hV : DataW.TrodVars enc Tryd.prog W (fun _ => true) [] gs q := hV0
  obtain ⟨rfl, rfl⟩ := trodVars_none hV
  rw [Tryd.params3] at hA hval
  obtain ⟨v0, v1, d0, d1, p0, p1, rfl, rfl, rfl, h0, h1⟩ := trodAll_two hA
  have hw0 : (d0.weights Tryd.prog T_Sl_Order).all (· ≤ reachBytes) = true := weight_at hwt (j := 0) rfl rfl
  have hw1 : (d1.weights Tryd.prog T_Sl_Sl_i64).all (· ≤ reachBytes) = true := weight_at hwt (j := 1) rfl rfl
  have oO : Opens enc PP W T_Order Order.cells (fun y => ∀ v ∈ y.L, Rng v) := opens_struct eqt_Order (by kernel_rfl) (by kernel_rfl) Order.ofL_ok
  have oI : Opens enc PP W T_i64 cI Rng := opens_int (by kernel_rfl)
  have oSI := opens_slice (sz := 1) ty_Sl_i64.und (by kernel_rfl) coI.len (by omega) (Nat.lt_of_lt_of_le (by decide : 0 < 1) (Nat.le_of_ble_eq_true (by kernel_rfl))) oI
  have oL := opens_slice (sz := 8) ty_Sl_Order.und (by kernel_rfl) co_Order.len (by omega) (Nat.lt_of_lt_of_le (by decide : 0 < 1) (Nat.le_of_ble_eq_true (by kernel_rfl))) oO
  have oS := opens_slice (sz := 1) ty_Sl_Sl_i64.und (by kernel_rfl) coS.len (by omega) (Nat.lt_of_lt_of_le (by decide : 0 < 1) (Nat.le_of_ble_eq_true (by kernel_rfl))) oSI
  obtain ⟨s0, rfl, ls, hl, _⟩ := arg_slice ty_Sl_Order.und (hval 0 T_Sl_Order v0 rfl rfl) h0 hw0 oL
  obtain ⟨s1, rfl, sls, hs, hr⟩ := arg_slice ty_Sl_Sl_i64.und (hval 1 T_Sl_Sl_i64 v1 rfl rfl) h1 hw1 oS
  have hg := glob_of_laid hL
  refine (calls_true (law_WakePlays hg hl hs fun i hi => ?_)).mono fun e W' ⟨he, hb⟩ => ?_
  · obtain ⟨ys, hy, _⟩ := hr sls[i] (List.getElem_mem hi)
    exact ⟨ys, hy⟩
  · subst he
    exact ⟨_, rfl, law_shut (tb := 4) laidOut (by rw [Tryd.params3]; intro t ht; simp only [List.mem_cons, List.not_mem_nil, or_false] at ht; rcases ht with rfl | rfl <;> exact ⟨by kernel_rfl, of_decide_eq_true (by kernel_rfl)⟩) rfl (by kernel_rfl) (by kernel_rfl) hW' rfl hb⟩

theorem wakePlays_row : Rows.WakePlaysSaid :=
  OpenClaim.holds_of_wide 3 Tryd.f3 rfl rfl rfl rfl rfl rfl rfl ⟨rfl, rfl, rfl, rfl, rfl⟩ rfl rfl rfl rfl rfl (by kernel_rfl) Tryd.func3 (by kernel_rfl)
    (of_decide_eq_true (by kernel_rfl)) (by unfold Func.isWrapper; rw [if_neg (of_decide_eq_false (by kernel_rfl))]; exact ⟨rfl, rfl⟩)
    (fun os started H enc _ => wakePlays_lifted os started H enc)

theorem wakePlays_holds : Rows.WakePlaysCardSaid :=
  Claim7.holds_tied_plain_at .later [] [.handle] true (true, "489d0dbb696d63c19759591fb2b6a0dde551c9b4f692a1a0e70227aaab97afdb") true
    wakePlays_row (fun _ h => by cases h) (by kernel_rfl) (fun _ h => by cases h) wakePlays_row_tie rfl ⟨rfl, rfl⟩ (by kernel_rfl) rfl
    (fun f fn hf hfn => by
      obtain rfl : f = 3 := Option.some.inj ((show Tryd.prog.funcNamed "pitfloor/pitlaw2.WakePlays" = some 3 by kernel_rfl).symm.trans hf) |>.symm
      obtain rfl : fn = Tryd.f3 := (Option.some.inj (Tryd.func3.symm.trans hfn)).symm
      exact ⟨by kernel_rfl, fun j t ht => by
        rw [Tryd.params3] at ht
        have hm : t ∈ [22, 23] := by simpa using Array.mem_of_getElem? ht
        have hall : ([22, 23].all fun u => !Tryd.prog.wantsStandIn u) = true := by kernel_rfl
        exact (show Tryd.prog.wantsStandIn t = false by simpa using List.all_eq_true.1 hall t hm)⟩)
    (by kernel_rfl)
#print axioms wakePlays_holds
end Go.Proofs.YtnjnpfhgblcgnaaDoor
