/-
  Contracts of functions that this claim reaches. Conditions: those of the statement alone.
-/
import Derived.Test.YtnjnpfhgblcgnaaDoorAs
import Derived.Test.YtnjnpfhgblcgnaaDoorCo
set_option linter.unusedVariables false
set_option linter.unusedSimpArgs false
namespace Go.Sx
open Go.RowKit Go.Extern.Stop Go.Stop Go.Extern

theorem told_nil (w : World) : Calls PP 47 #[.nilIface] w fun e w' => e = .returned (.int .i64 0) ∧ w' = w := by
  go_enter Go.Proofs.Tryd.func47, Go.Proofs.Tryd.ntmps47
  go_wp2
  go_ret
  exact ⟨rfl, rfl⟩

set_option maxHeartbeats 4000000 in
theorem told_some (n : Int) (w : World) (hg : w.cell? gErr = some (hT 34)) : Calls PP 47 #[.iface 107 (.int .i64 n)] w fun e w' => e = .returned (.int .i64 n) ∧ Below w.heap.size w w' := by
  have hlt : 0 < w.heap.size := by
    rcases Nat.lt_or_ge 0 w.heap.size with h | h
    · exact h
    · simp [World.cell?, Array.getElem?_eq_none h] at hg
  have hgA : (w.alloc (.cells #[.int .i64 0] 107)).cell? gErr = some (hT 34) := by rw [World.cell?_alloc_lt _ _ gErr hlt]; exact hg
  have htA : (w.alloc (.cells #[.int .i64 0] 107)).cell? ⟨w.heap.size, 0, none⟩ = some (.int .i64 0) := by simp
  have hfA : (w.alloc (.cells #[.int .i64 0] 107)).frozen? ⟨w.heap.size, 0, none⟩ = false := by simp
  have hL : ((asW4 n ⟨w.heap.size, 0, none⟩ (w.alloc (.cells #[.int .i64 0] 107))).setCell ⟨w.heap.size, 0, none⟩ (.int .i64 n)).cell? ⟨w.heap.size, 0, none⟩ = some (.int .i64 n) := by
    have h1 : (asW4 n ⟨w.heap.size, 0, none⟩ (w.alloc (.cells #[.int .i64 0] 107))).heap[w.heap.size]? = some (.cells #[.int .i64 0] 107) := by
      show ((((((w.heap.push _).push _).push _).push _).push _))[w.heap.size]? = _
      simp [Array.getElem?_push]
      rw [if_neg (by omega), if_neg (by omega), if_neg (by omega)]
    simp [World.setCell, World.cell?, Array.getElem?_modify, h1]
  go_enter Go.Proofs.Tryd.func47, Go.Proofs.Tryd.ntmps47
  go_wp2_with (go_at_call 96; refine (as_hit n _ _ _ hgA htA hfA).mono ?_; rintro e w' ⟨rfl, rfl⟩)
  go_ret
  exact ⟨rfl, (((((Below.refl _ w).alloc (Nat.le_refl _) _).alloc (by simp) _).alloc (by simp; omega) _).alloc (by simp; omega) _).alloc (by simp; omega) _⟩

/-- the one package-level variable that is read -/
def Glob (u : World) (V : VP) : Prop := V gErr.block ∧ u.cell? gErr = some (hT 34)
theorem Glob.same {u u' : World} {V V' : VP} (h : Glob u V) (hs : Same (Blk gErr.block) u u') (hv : Sub V V') : Glob u' V' :=
  ⟨hv _ h.1, (World.cell?_of_block (w := u) (hs _ rfl)).trans h.2⟩
/-- an error's number -/
def codeOf (e : Option Int) : Int := e.getD 0
theorem r_plain_Told {u : World} {V : VP} (hG : Glob u V) (e : Option Int) : ROc PP F_plain_Told [gval1 errT (.err e)] u V (gval errT ((Enc.one eInt).enc (codeOf e))) := by
  refine ⟨ce_plain_Told, fun w hw => ?_⟩
  cases e with
  | none => exact (told_nil w).mono fun e w' ⟨h1, h2⟩ => ⟨h1, by rw [h2]; exact Below.refl _ _⟩
  | some n =>
    have hg : w.cell? gErr = some (hT 34) := (rel_cell hw hG.1).trans hG.2
    exact (told_some n w hg).mono fun e w' ⟨h1, h2⟩ => ⟨h1, h2⟩
theorem r_pitsame_Error {u : World} {V : VP} (hG : Glob u V) (e : Option Int) (n : Int) : ROc PP F_pitsame_Error [gval1 errT (.err e), .int .i64 n] u V (gval errT ((Enc.one eBool).enc (codeOf e == n))) := by
  refine s_pitsame_Error e n u V _ ?_
  exact ⟨_, r_plain_Told hG e, rfl, ext_refl _ _⟩

/-- two lists are the same -/
theorem r_pitsame_Rests {u : World} {V S T : VP} {a b : Sl} {xs ys : List Rest} (ha : SlR Rest.cells u S a xs) (hS : Sub S V) (hb : SlR Rest.cells u T b ys) (hT : Sub T V) :
    ∃ r : Bool, (r = true ↔ xs = ys) ∧ ROc PP F_pitsame_Rests [.slice a.a a.len a.cap, .slice b.a b.len b.cap] u V (gval errT ((Enc.one eBool).enc r)) := by
  have hla := ha.len; have hlb := hb.len; have hbig := ha.big
  by_cases hl : xs.length = ys.length
  · refine ⟨decide (∀ i (h1 : i < xs.length) (h2 : i < ys.length), (Rest.L xs[i] == Rest.L ys[i]) = true), ?_, ?_⟩
    · rw [decide_eq_true_iff]
      constructor
      · intro h
        refine List.ext_getElem hl fun i h1 h2 => Rest.L_inj (by simpa using h i h1 h2)
      · rintro rfl i h1 h2; simp
    · refine s_pitsame_Rests a b u V _ ?_
      unfold vc_pitsame_Rests
      refine ifB (fun hb1 => absurd hb1 (by simp; omega)) (fun _ => ?_)
      refine LoopN.rangeR xs.length (fun i => ∀ j (hj : j < i) (h1 : j < xs.length) (h2 : j < ys.length), (Rest.L xs[j] == Rest.L ys[j]) = true) (fun j hj => absurd hj (by omega)) ?_
      intro i hi hQ next hn
      refine ifB (fun hb2 => ?_) (fun hb2 => ?_)
      · have hlt : i < xs.length := by have := of_decide_eq_true hb2; omega
        have hlt2 : i < ys.length := by omega
        refine ha.ixN co_Rest.len hlt fun ad _ hat => ⟨_, hat.sub hS, ?_⟩
        refine hb.ixN co_Rest.len hlt2 fun ad2 _ hat2 => ⟨_, hat2.sub hT, ?_⟩
        refine ⟨_, fun w => neq_Rest _ _ w, fun w => eqt_Rest.grd _ _ _ _ _ _, ?_⟩
        refine ifB (fun hb3 => ?_) (fun hb3 => ?_)
        · refine ⟨?_, ext_refl _ _⟩
          symm
          rw [decide_eq_false_iff_not]
          intro h
          rw [h i hlt hlt2] at hb3; cases hb3
        · refine ⟨rng_nat (by omega), hn hlt fun j hj h1 h2 => ?_⟩
          rcases Nat.lt_succ_iff_lt_or_eq.1 hj with h | rfl
          · exact hQ j h h1 h2
          · simpa using hb3
      · have hge : xs.length ≤ i := by have := of_decide_eq_false hb2; omega
        refine ⟨?_, ext_refl _ _⟩
        symm
        rw [decide_eq_true_iff]
        exact fun j h1 h2 => hQ j (by omega) h1 h2
  · refine ⟨false, ⟨(fun h => by cases h), fun h => absurd (congrArg List.length h) hl⟩, ?_⟩
    refine s_pitsame_Rests a b u V _ ?_
    unfold vc_pitsame_Rests
    exact ifB (fun _ => ⟨rfl, ext_refl _ _⟩) (fun hb1 => absurd hb1 (by simp; omega))
end Go.Sx
