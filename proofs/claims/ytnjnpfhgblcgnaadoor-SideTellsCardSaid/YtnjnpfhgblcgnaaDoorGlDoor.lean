/-
  Contracts of functions that this claim reaches. Conditions: those of the statement alone.
-/
import Derived.Test.YtnjnpfhgblcgnaaDoorTold
import Derived.Test.YtnjnpfhgblcgnaaDoorSpB
import Derived.Test.YtnjnpfhgblcgnaaDoorRows
import Derived.JoinedOf
import Derived.LaidLaws
import Derived.LaidHandle
import Derived.Stop.Joined
set_option linter.unusedVariables false
set_option linter.unusedSimpArgs false
namespace Go.Sx
open Go.ChangeShapes Go.WideShapes Go.RowKit

theorem calls_true {P : Program} {f : Nat} {args : List Value} {W : World} (h : GC P f args W (Vis W) (fun x => gval errT ((Enc.one eBool).enc x)) (fun x u' V' => x = true ∧ Upd Nix W (Vis W) u' V')) :
    Calls P f args.toArray W fun e w' => e = .returned (.bool true) ∧ Below W.heap.size W w' := by
  refine (h.2 W (Rel.refl fun b hb => hb)).mono ?_
  rintro e w' ⟨x, rfl, _, rfl, hU⟩
  exact ⟨rfl, hU.os, hU.tape, hU.output, hU.size, fun k hk => hU.blk k hk fun h => h⟩

theorem own : ownKnob PP.godebug = none := by kernel_rfl
theorem laidOut : laidOutB PP = true := by kernel_rfl
theorem eGlob : PP.globalNamed "errors.errorType" = some 0 := by kernel_rfl
theorem rType : (PP.cutTypes.find? (·.1 == "internal/reflectlite.rtype")).map (·.2) = some 203 := by kernel_rfl
theorem oneRow : ((List.range 264).filter fun t => PP.rowNamed t [101, 114, 114, 111, 114]) = [34] := by kernel_rfl
theorem tsize : PP.types.size = 264 := by kernel_rfl

/-- what the condition gives: the variable's one cell -/
theorem glob_of_laid {W : World} (h : laidMetH PP [("errors.errorType", Go.Proofs.YtnjnpfhgblcgnaaDoor.Rows.laid_errors_errorType)] W) : Glob W (Vis W) := by
  have h' : laidMet PP [] W ∧ handlesMet PP [("errors.errorType", Go.Proofs.YtnjnpfhgblcgnaaDoor.Rows.laid_errors_errorType)] W := h
  obtain ⟨name, u, ty, e1, e2, e3, e4, e5⟩ := h'.2 _ (List.mem_singleton.2 rfl)
  have en : name = [101, 114, 114, 111, 114] := (Option.some.inj e1).symm
  subst en
  obtain rfl := Option.some.inj (rType.symm.trans e2)
  have hm : ty ∈ (List.range 264).filter fun t => PP.rowNamed t [101, 114, 114, 111, 114] := List.mem_filter.2 ⟨List.mem_range.2 (by rw [← tsize]; exact e3), e4⟩
  rw [oneRow] at hm
  obtain rfl := List.mem_singleton.1 hm
  have hh : typeHandle PP 34 = .pointer (some ⟨4, 34, none⟩) := by kernel_rfl
  rw [hh] at e5
  have hc : W.cell? gErr = some (hT 34) := by simpa using World.var?_cell eGlob e5 0
  exact ⟨World.block_lt_of_cell? W _ hc, hc⟩

/-- a world that meets the condition -/
noncomputable def laidWorld (os : Os) : World :=
  let w0 := World.holding PP os ⟨#[], #[], []⟩
  { w0 with heap := w0.heap.modify 0 fun
      | .cells _ t frozen => .cells #[hT 34] t frozen
      | o => o }
theorem laidWorld_met (os : Os) (args : Array Value) : laidMetH PP [("errors.errorType", Go.Proofs.YtnjnpfhgblcgnaaDoor.Rows.laid_errors_errorType)] ((laidWorld os).forCall (fun _ _ => 0) ⟨#[], args, []⟩).memory :=
  laidMetH_of_parts (laidMet_nil _ _) (by kernel_rfl)
end Go.Sx
