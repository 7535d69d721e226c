/-
  Contracts of functions that this claim reaches. Conditions: those of the statement alone.
-/
import Derived.Test.YtnjnpfhgblcgnaaDoorWa1
set_option linter.unusedVariables false
set_option linter.unusedSimpArgs false
namespace Go.Sx

/-- what waits, behind a pointer, one's own -/
def StopsR (u : World) (S : VP) (s : Option Addr) (l : List Order) : Prop :=
  ∃ ad sl, s = some ad ∧ Box Wake_Stops.cells 1 T_wake_Stops u ad ⟨sl⟩ ∧ Own Order.cells 8 T_Order u sl l ∧ ¬ sb sl ad.block ∧ S = Or2 (Blk ad.block) (sb sl)
theorem StopsR.same {u u' : World} {S : VP} {s : Option Addr} {l : List Order} (h : StopsR u S s l) (hs : Same S u u') : StopsR u' S s l := by
  obtain ⟨ad, sl, h1, h2, h3, h4, rfl⟩ := h
  exact ⟨ad, sl, h1, h2.same (hs.sub fun b hb => .inl hb), h3.same (hs.sub fun b hb => .inr hb), h4, rfl⟩

theorem r_wake_Stops_Where {u : World} {V S : VP} {s : Option Addr} {l : List Order} (h : StopsR u S s l) (hS : Sub S V) (id : Int) :
    ROc PP F_wake_Stops_Where [.pointer s, .int .i64 id] u V (gval errT ((Enc.one eInt).enc (idxI (fun o : Order => o.Id == id) l))) := by
  refine s_wake_Stops_Where s id u V _ ?_
  unfold vc_wake_Stops_Where
  refine NewC.mk fun b1 u2 V3 hbd hge hcell hsub hb1 hbd' hrel => ?_
  have h' := h.same (same_rel hrel hS)
  obtain ⟨ad, sl, rfl, hB, hO, hne, rfl⟩ := h'
  refine nilK_some ⟨sl, (hB.at_ co_Wake_Stops (S := V3) (hsub _ (hS _ (.inl rfl)))).fld (Sub.refl _) rfl, _, ?_, rfl, ext_new hsub hrel⟩
  refine r_slices_IndexFunc_Order hO.toR ((fun b hb => hsub _ (hS _ (.inr hb)))) _ [.pointer (some ⟨b1, 0, none⟩)] _ fun o _ => ?_
  refine r_wake_Stops_Where_1 o ⟨hb1, fun j x hj => ?_⟩
  have h0 : (Addr.add ⟨b1, 0, none⟩ j) = ⟨b1, j, none⟩ := by rw [addr_add0]; simp
  rw [h0]
  simp only [World.cell?, hcell]
  simpa using hj

theorem g_wake_New {u : World} {V : VP} : GC PP F_wake_New [] u V (fun x => gval errT ((Enc.one ePtr).enc x)) (Out Nix Nix u V fun x u' S => StopsR u' S x []) := by
  refine s_wake_New u V _ ?_
  unfold vc_wake_New
  refine NewC.mk fun b1 u2 V3 hbd hge hcell hsub hb1 hbd' hrel => ?_
  refine Out.fin (fun x u u' S h hs => h.same hs) ⟨upd_new _ hsub hrel, Blk b1, Sub.blk hb1, fun b hb => ?_, ⟨b1, 0, none⟩, ⟨none, 0, 0⟩, rfl, Box.new co_Wake_Stops.len hcell, Own.nil _ _ _ _, fun h => sb_nil _ h, ?_⟩
  · cases hb; exact .inr (not_vis hbd hge)
  · funext b; exact propext ⟨.inl, fun h => h.elim id fun h => (sb_nil _ h).elim⟩

theorem g_wake_Stops_All {u : World} {V S : VP} {s : Option Addr} {l : List Order} (h : StopsR u S s l) (hS : Sub S V) (hm : l.length * 64 ≤ 140737488355328) :
    GC PP F_wake_Stops_All [.pointer s] u V (fun x => gval errT ((Enc.one eSl).enc x)) (Out Nix Nix u V fun x u' S' => Own Order.cells 8 T_Order u' x l ∧ S' = sb x) := by
  refine s_wake_Stops_All s u V _ ?_
  have hloc : Loc (fun (x : Sl) u' (S' : VP) => Own Order.cells 8 T_Order u' x l ∧ S' = sb x) := fun x u u' S h hs => ⟨h.1.same (h.2 ▸ hs), h.2⟩
  unfold vc_wake_Stops_All
  obtain ⟨ad, sl, rfl, hB, hO, hne, rfl⟩ := h
  refine nilK_some ⟨sl, (hB.at_ co_Wake_Stops (S := V) (hS _ (.inl rfl))).fld (Sub.refl _) rfl, ?_⟩
  exact (g_slices_Clone_Order hO.toR (fun b hb => hS _ (.inr hb)) hm).mono fun x u' V' hbd hx => Out.fin hloc hx
end Go.Sx
