/-
  Contracts of functions that this claim reaches. Conditions: those of the statement alone.
-/
import Derived.Test.YtnjnpfhgblcgnaaDoorPu
import Derived.Test.YtnjnpfhgblcgnaaDoorCo
import Derived.Test.YtnjnpfhgblcgnaaDoorSpA
set_option linter.unusedVariables false
set_option linter.unusedSimpArgs false
namespace Go.Sx

/-- a new block, read -/
theorem new_at {u : World} {V : VP} {b T : Nat} {cs : List Value} (hb : V b) (h : u.heap[b]? = some (.cells cs.toArray T (0, 0))) : At u V ⟨b, 0, none⟩ cs := by
  refine ⟨hb, fun j x hj => ?_⟩
  have h0 : (Addr.add ⟨b, 0, none⟩ j) = ⟨b, j, none⟩ := by rw [addr_add0]; simp
  rw [h0]
  simp only [World.cell?, h]
  simpa using hj

theorem r_slices_IndexFunc_Rest {u : World} {V S : VP} {l : Sl} {xs : List Rest} (h : SlR Rest.cells u S l xs) (hS : Sub S V) (f : Nat) (caps : List Value) (p : Rest → Bool)
    (hf : ∀ o ∈ xs, ROc PP f ([.agg (Rest.cells o).toArray] ++ caps) u V (.bool (p o))) :
    ROc PP F_slices_IndexFunc_Rest [.slice l.a l.len l.cap, .func (.func f) #[] caps.toArray] u V (gval errT ((Enc.one eInt).enc (idxI p xs))) := by
  refine s_slices_IndexFunc_Rest l ⟨f, caps⟩ u V _ ?_
  unfold vc_slices_IndexFunc_Rest
  refine LoopN.rangeR xs.length (fun i => ∀ j (hj : j < i) (hx : j < xs.length), p xs[j] = false) (fun j hj => absurd hj (by omega)) ?_
  intro i hi hQ next hn
  refine ifB (fun hb => ?_) (fun hb => ?_)
  · have hlt : i < xs.length := by have := of_decide_eq_true hb; rw [h.len] at this; omega
    refine h.ixN co_Rest.len hlt fun ad _ hat => ?_
    refine ⟨_, hat.sub hS, _, hf _ (List.getElem_mem hlt), ?_⟩
    refine ifB (fun hb2 => ?_) (fun hb2 => ?_)
    · exact ⟨(idxI_some hlt hb2 fun j hj => hQ j hj _).symm, ext_refl _ _⟩
    · refine ⟨rng_nat (by have := h.big; omega), hn hlt fun j hj hx => ?_⟩
      rcases Nat.lt_succ_iff_lt_or_eq.1 hj with h1 | rfl
      · exact hQ j h1 hx
      · exact hb2
  · have hge : ¬ i < xs.length := by have := of_decide_eq_false hb; rw [h.len] at this; omega
    exact ⟨(idxI_none fun j hj => hQ j (by omega) hj).symm, ext_refl _ _⟩

/-- a clone: one's own -/
theorem g_slices_Clone_Rest {u : World} {V S : VP} {s : Sl} {xs : List Rest} (h : SlR Rest.cells u S s xs) (hS : Sub S V) (hm : xs.length * 40 ≤ 140737488355328) :
    GC PP F_slices_Clone_Rest [.slice s.a s.len s.cap] u V (fun x => gval errT ((Enc.one eSl).enc x)) (Out Nix Nix u V fun x u' S' => Own Rest.cells 5 T_Rest u' x xs ∧ S' = sb x) := by
  refine s_slices_Clone_Rest s u V _ ?_
  have hloc : Loc (fun (x : Sl) u' (S' : VP) => Own Rest.cells 5 T_Rest u' x xs ∧ S' = sb x) := fun x u u' S h hs => ⟨h.1.same (h.2 ▸ hs), h.2⟩
  unfold vc_slices_Clone_Rest
  refine ifB (fun hb => ?_) (fun hb => ?_)
  · have : xs = [] := by
      rcases h.lies with h1 | ⟨ad, e, _⟩
      · exact h1
      · rw [e] at hb; cases hb
    subst this
    exact Out.fin hloc ⟨Upd.refl _ _ _, sb ⟨none, 0, 0⟩, fun b hb => (sb_nil _ hb).elim, fun b hb => (sb_nil _ hb).elim, Own.nil _ _ _ _, rfl⟩
  · refine NewC.mk fun b1 u2 V3 hbd hge hcell hsub hb1 hbd' hrel => ?_
    have hO : Own Rest.cells 5 T_Rest u2 ⟨some ⟨b1, 0, none⟩, 0, 0⟩ [] := Own.new co_Rest.len (by simpa using hcell) rfl (by simp)
    refine opv_append ty_Sl_Rest co_Rest hO (fun b hb => by rw [sb_iff] at hb; subst hb; exact hb1) (h.same (same_rel hrel hS)) (hS.trans hsub) _ (by simpa using hm) (by simpa using h.big) ?_
    intro s' u' V' h1 h2 h3 h4 _
    refine Out.fin hloc ⟨(upd_new Nix hsub hrel).trans h2 fun b hb => ?_, sb s', h3, fun b hb => ?_, by simpa using h1, rfl⟩
    · rw [sb_iff] at hb; subst hb; exact .inr (not_vis hbd hge)
    · rcases h4 b hb with h5 | h5
      · rw [sb_iff] at h5; subst h5; exact .inr (not_vis hbd hge)
      · exact .inr fun hv => h5 (hsub _ hv)

/-- a clone: one's own -/
theorem g_slices_Clone_Level {u : World} {V S : VP} {s : Sl} {xs : List Level} (h : SlR Level.cells u S s xs) (hS : Sub S V) (hm : xs.length * 32 ≤ 140737488355328) :
    GC PP F_slices_Clone_Level [.slice s.a s.len s.cap] u V (fun x => gval errT ((Enc.one eSl).enc x)) (Out Nix Nix u V fun x u' S' => Own Level.cells 2 T_Level u' x xs ∧ S' = sb x) := by
  refine s_slices_Clone_Level s u V _ ?_
  have hloc : Loc (fun (x : Sl) u' (S' : VP) => Own Level.cells 2 T_Level u' x xs ∧ S' = sb x) := fun x u u' S h hs => ⟨h.1.same (h.2 ▸ hs), h.2⟩
  unfold vc_slices_Clone_Level
  refine ifB (fun hb => ?_) (fun hb => ?_)
  · have : xs = [] := by
      rcases h.lies with h1 | ⟨ad, e, _⟩
      · exact h1
      · rw [e] at hb; cases hb
    subst this
    exact Out.fin hloc ⟨Upd.refl _ _ _, sb ⟨none, 0, 0⟩, fun b hb => (sb_nil _ hb).elim, fun b hb => (sb_nil _ hb).elim, Own.nil _ _ _ _, rfl⟩
  · refine NewC.mk fun b1 u2 V3 hbd hge hcell hsub hb1 hbd' hrel => ?_
    have hO : Own Level.cells 2 T_Level u2 ⟨some ⟨b1, 0, none⟩, 0, 0⟩ [] := Own.new co_Level.len (by simpa using hcell) rfl (by simp)
    refine opv_append ty_Sl_Level co_Level hO (fun b hb => by rw [sb_iff] at hb; subst hb; exact hb1) (h.same (same_rel hrel hS)) (hS.trans hsub) _ (by simpa using hm) (by simpa using h.big) ?_
    intro s' u' V' h1 h2 h3 h4 _
    refine Out.fin hloc ⟨(upd_new Nix hsub hrel).trans h2 fun b hb => ?_, sb s', h3, fun b hb => ?_, by simpa using h1, rfl⟩
    · rw [sb_iff] at hb; subst hb; exact .inr (not_vis hbd hge)
    · rcases h4 b hb with h5 | h5
      · rw [sb_iff] at h5; subst h5; exact .inr (not_vis hbd hge)
      · exact .inr fun hv => h5 (hsub _ hv)


/-- places i to j are cut out, in place -/
theorem g_slices_Delete_Rest {u : World} {V : VP} {s : Sl} {xs : List Rest} (h : Own Rest.cells 5 T_Rest u s xs) (hV : Sub (sb s) V) {i j : Nat} (hij : i ≤ j) (hj : j ≤ xs.length) (hm : xs.length * 40 ≤ 140737488355328) :
    GC PP F_slices_Delete_Rest [.slice s.a s.len s.cap, .int .i64 (i : Int), .int .i64 (j : Int)] u V (fun x => gval errT ((Enc.one eSl).enc x)) (Out (sb s) (sb s) u V fun x u' S' => Own Rest.cells 5 T_Rest u' x (xs.take i ++ xs.drop j) ∧ S' = sb x) := by
  refine s_slices_Delete_Rest s i j u V _ ?_
  have hloc : Loc (fun (x : Sl) u' (S' : VP) => Own Rest.cells 5 T_Rest u' x (xs.take i ++ xs.drop j) ∧ S' = sb x) := fun x u u' S h hs => ⟨h.1.same (h.2 ▸ hs), h.2⟩
  unfold vc_slices_Delete_Rest
  have hlen := h.len; have hle := h.le; have hbig := h.big
  refine ⟨⟨by omega, by omega⟩, ⟨by omega, by omega⟩, ⟨by omega, by omega⟩, ifB (fun hb => ?_) (fun hb => ?_)⟩
  · have e : i = j := by have := beq_iff_eq.1 hb; omega
    subst e
    exact Out.fin hloc ⟨Upd.refl _ _ _, sb s, hV, fun b hb => .inl hb, by rw [List.take_append_drop]; exact h, rfl⟩
  · have hne : i ≠ j := by intro e; subst e; simp at hb
    refine ⟨⟨by omega, by omega⟩, ⟨by omega, by omega⟩, ?_⟩
    have hsb : sb (⟨s.a, i, s.cap⟩ : Sl) = sb s := rfl
    refine opv_append (s := ⟨s.a, i, s.cap⟩) (r := ⟨cutA s.a s.cap j 5, s.len - j, s.cap - j⟩) ty_Sl_Rest co_Rest (h.upto co_Rest.len (k := i) (by omega)) hV (h.toR.from co_Rest.len (l := j) hj) hV _ (by simp; omega) (by simp; omega) ?_
    intro s1 u1 V1 h1 h2 h3 h4 h5
    have e1 : s1 = ⟨s.a, i + (s.len - j), s.cap⟩ := h5 (by show i + (s.len - j) ≤ s.cap; omega)
    subst e1
    have hsub : Sub (sb s) V1 := hV.trans h2.vis
    dsimp only
    refine ⟨⟨by omega, by omega⟩, ⟨by omega, by omega⟩, ?_⟩
    refine opv_clear (s := ⟨s.a, i + (s.len - j), s.cap⟩) ty_Sl_Rest h1 hsub _ (n := s.len - (i + (s.len - j))) (by show i + (s.len - j) + (s.len - (i + (s.len - j))) ≤ s.cap; omega) ?_
    intro u2 V2 k1 k2 _
    exact Out.fin hloc ⟨h2.trans k2 fun b hb => .inl hb, sb s, hsub.trans k2.vis, fun b hb => .inl hb, k1, rfl⟩

/-- places i to j are cut out, in place -/
theorem g_slices_Delete_Level {u : World} {V : VP} {s : Sl} {xs : List Level} (h : Own Level.cells 2 T_Level u s xs) (hV : Sub (sb s) V) {i j : Nat} (hij : i ≤ j) (hj : j ≤ xs.length) (hm : xs.length * 32 ≤ 140737488355328) :
    GC PP F_slices_Delete_Level [.slice s.a s.len s.cap, .int .i64 (i : Int), .int .i64 (j : Int)] u V (fun x => gval errT ((Enc.one eSl).enc x)) (Out (sb s) (sb s) u V fun x u' S' => Own Level.cells 2 T_Level u' x (xs.take i ++ xs.drop j) ∧ S' = sb x) := by
  refine s_slices_Delete_Level s i j u V _ ?_
  have hloc : Loc (fun (x : Sl) u' (S' : VP) => Own Level.cells 2 T_Level u' x (xs.take i ++ xs.drop j) ∧ S' = sb x) := fun x u u' S h hs => ⟨h.1.same (h.2 ▸ hs), h.2⟩
  unfold vc_slices_Delete_Level
  have hlen := h.len; have hle := h.le; have hbig := h.big
  refine ⟨⟨by omega, by omega⟩, ⟨by omega, by omega⟩, ⟨by omega, by omega⟩, ifB (fun hb => ?_) (fun hb => ?_)⟩
  · have e : i = j := by have := beq_iff_eq.1 hb; omega
    subst e
    exact Out.fin hloc ⟨Upd.refl _ _ _, sb s, hV, fun b hb => .inl hb, by rw [List.take_append_drop]; exact h, rfl⟩
  · have hne : i ≠ j := by intro e; subst e; simp at hb
    refine ⟨⟨by omega, by omega⟩, ⟨by omega, by omega⟩, ?_⟩
    have hsb : sb (⟨s.a, i, s.cap⟩ : Sl) = sb s := rfl
    refine opv_append (s := ⟨s.a, i, s.cap⟩) (r := ⟨cutA s.a s.cap j 2, s.len - j, s.cap - j⟩) ty_Sl_Level co_Level (h.upto co_Level.len (k := i) (by omega)) hV (h.toR.from co_Level.len (l := j) hj) hV _ (by simp; omega) (by simp; omega) ?_
    intro s1 u1 V1 h1 h2 h3 h4 h5
    have e1 : s1 = ⟨s.a, i + (s.len - j), s.cap⟩ := h5 (by show i + (s.len - j) ≤ s.cap; omega)
    subst e1
    have hsub : Sub (sb s) V1 := hV.trans h2.vis
    dsimp only
    refine ⟨⟨by omega, by omega⟩, ⟨by omega, by omega⟩, ?_⟩
    refine opv_clear (s := ⟨s.a, i + (s.len - j), s.cap⟩) ty_Sl_Level h1 hsub _ (n := s.len - (i + (s.len - j))) (by show i + (s.len - j) + (s.len - (i + (s.len - j))) ≤ s.cap; omega) ?_
    intro u2 V2 k1 k2 _
    exact Out.fin hloc ⟨h2.trans k2 fun b hb => .inl hb, sb s, hsub.trans k2.vis, fun b hb => .inl hb, k1, rfl⟩
end Go.Sx
