/-
  Contracts of functions that this claim reaches. Conditions: those of the statement alone.
-/
import Derived.Test.YtnjnpfhgblcgnaaDoorWa8
set_option linter.unusedVariables false
set_option linter.unusedSimpArgs false
set_option maxRecDepth 100000
namespace Go.Sx

theorem errOf_code (n : Int) : codeOf (errOf n) = n := by
  unfold errOf codeOf
  split
  · rename_i h; rw [h]; rfl
  · rfl
theorem put_wait (l : List Order) (o : Order) : (wput l o).1 = (swait l o).1 ∧ codeOf (wput l o).2 = (swait l o).2 := by
  unfold wput swait
  rw [order_check_eq, rorder_eq]
  by_cases h : ordF o = 0
  · rw [h]
    simp only [errOf, if_true]
    repeat' split
    all_goals exact ⟨rfl, rfl⟩
  · rw [if_neg h]
    have : errOf (ordF o) = some (ordF o) := by unfold errOf; rw [if_neg h]
    rw [this]
    exact ⟨rfl, rfl⟩
theorem wput_inv (l : List Order) (o : Order) (hl : l.length ≤ 20) (hs : ∀ x ∈ l, SideOk x) : (wput l o).1.length ≤ 20 ∧ ∀ x ∈ (wput l o).1, SideOk x := by
  unfold wput
  rw [order_check_eq]
  by_cases h : ordF o = 0
  · rw [h]
    simp only [errOf, if_true]
    repeat' split
    all_goals first
      | exact ⟨hl, hs⟩
      | (refine ⟨by simp; omega, fun x hx => ?_⟩
         rcases List.mem_append.1 hx with hx | hx
         · exact hs x hx
         · have : x = o := by simpa using hx
           rw [this]; exact ordF_side h)
  · have : errOf (ordF o) = some (ordF o) := by unfold errOf; rw [if_neg h]
    rw [this]
    exact ⟨hl, hs⟩
theorem wprice (p : Int) : p_tick_Price p = if p_pitref1_Price p then none else some 1 := by
  have : p_tick_Valid p = p_pitref1_Price p := by rw [Bool.eq_iff_iff, valid_iff, rprice_iff]
  unfold p_tick_Price
  rw [this]
  cases p_pitref1_Price p <;> rfl

/-- what holds round by round -/
def WInv (u0 : World) (V0 : VP) (x1 : Option Addr) (u : World) (V : VP) (m : Sl) (l : List Order) : Prop :=
  ∃ Ss Sm, StopsR u Ss x1 l ∧ Sub Ss V ∧ SlR Order.cells u Sm m l ∧ Sub Sm V ∧ Dis Ss V0 ∧ Dis Ss Sm ∧ Upd Nix u0 V0 u V ∧ l.length ≤ 20 ∧ ∀ o ∈ l, SideOk o
/-- a step that turns nothing old -/
theorem WInv.step {u0 : World} {V0 : VP} {x1 : Option Addr} {u u' : World} {V V' : VP} {m : Sl} {l : List Order} (h : WInv u0 V0 x1 u V m l) (hU : Upd Nix u V u' V') : WInv u0 V0 x1 u' V' m l := by
  obtain ⟨Ss, Sm, h1, h2, h3, h4, h5, h6, h7, h8, h9⟩ := h
  exact ⟨Ss, Sm, h1.same (hU.same0 h2), h2.trans hU.vis, h3.same (hU.same0 h4), h4.trans hU.vis, h5, h6, h7.trans hU fun b hb => hb.elim, h8, h9⟩

theorem law_WakePlays {u : World} {V : VP} (hG : Glob u V) {lin steps : Sl} {ls : List Order} {sls : List Sl} (hl : SlR Order.cells u V lin ls) (hs : SlR cS u V steps sls) (hr : ∀ i (h : i < sls.length), ∃ row : List Int, SlR cI u V sls[i] row) :
    GC PP F_pitlaw2_WakePlays [.slice lin.a lin.len lin.cap, .slice steps.a steps.len steps.cap] u V (fun x => gval errT ((Enc.one eBool).enc x)) (fun x u' V' => x = true ∧ Upd Nix u V u' V') := by
  refine s_pitlaw2_WakePlays lin steps u V _ ?_
  have hfin : ∀ u' V', Upd Nix u V u' V' → Fin (fun (x : Bool) u' V' => x = true ∧ Upd Nix u V u' V') true u' V' := fun u' V' hU w V'' hv _ hrl => ⟨rfl, upd_fin hU hv hrl⟩
  unfold vc_pitlaw2_WakePlays
  have hslen := hs.len
  have hsbig := hs.big
  have hllen := hl.len
  refine g_wake_New.mono ?_
  rintro x1 u2 V2 hbd2 ⟨hU2, S2, hS2, hS2o, hR2⟩
  refine LoopN.st (fun (t : Sl × Int) u' V' => ∃ (i : Nat) (l : List Order), t.2 = i ∧ i ≤ sls.length ∧ WInv u V x1 u' V' t.1 l) (fun t => sls.length - t.2.toNat)
    ⟨0, [], rfl, Nat.zero_le _, S2, Nix, hR2, hS2, SlR.nil _ _ _ _ _, fun b hb => hb.elim, fun b hb => (hS2o b hb).elim (fun h => h.elim) fun h => h, Dis.nix _, hU2, by simp, fun o ho => by cases ho⟩ ?_
  rintro ⟨m, _⟩ u5 V5 ⟨i, l, rfl, hi, hW⟩ next7 hn7
  simp only at hW
  have hU5 : Upd Nix u V u5 V5 := by obtain ⟨_, _, _, _, _, _, _, _, h, _, _⟩ := hW; exact h
  refine joinI fun Kj11 hKj11 => ?_
  have kfalse : Kj11 false u5 V5 := hKj11 _ _ _ (ifF (hfin _ _ hU5))
  refine ifB (fun hb => ?_) (fun _ => kfalse)
  have hlt : i < sls.length := by have := of_decide_eq_true hb; simp only at this; omega
  cases h60 : decide (((i : Nat) : Int) < 60) with
  | false => exact kfalse
  | true =>
  refine hKj11 _ _ _ ?_
  refine ifT ?_
  refine NewC.mk fun b12 u13 V14 hbd hge hcell hsub hb1 hbd' hrel => ?_
  have hN : Own cI 1 T_A2_i64 u13 ⟨some ⟨b12, 0, none⟩, 2, 2⟩ [0, 0] := Own.new coI.len hcell rfl (by simp)
  have hb5 : ¬ V5 b12 := not_vis hbd hge
  have hW13 : WInv u V x1 u13 V14 m l := hW.step (upd_new Nix hsub hrel)
  have hU13 : Upd Nix u V u13 V14 := hU5.trans (upd_new Nix hsub hrel) fun b hb => hb.elim
  obtain ⟨row, hrow⟩ := hr i hlt
  refine joinI fun Kj18 hKj18 => ?_
  -- from here on: v0, v1 are what the step says
  have main : ∀ (u16 : World) (V17 : VP) (v0 v1 : Int), Own cI 1 T_A2_i64 u16 ⟨some ⟨b12, 0, none⟩, 2, 2⟩ [v0, v1] → Upd (Blk b12) u13 V14 u16 V17 → Kj18 () u16 V17 := by
    intro u16 V17 v0 v1 hv hU16
    refine hKj18 _ _ _ ?_
    have hU516 : Upd Nix u5 V5 u16 V17 := ((upd_new (Blk b12) hsub hrel).trans hU16 fun b hb => .inl hb).mono fun b hb => by cases hb; exact .inr hb5
    have hW16 := hW.step hU516
    have hU16' : Upd Nix u V u16 V17 := hU5.trans hU516 fun b hb => hb.elim
    have hb17 : V17 b12 := hU16.vis _ hb1
    have hvat : ∀ (u' : World) (V' : VP), Upd Nix u16 V17 u' V' → ∀ k (hk : k < 2) x, [v0, v1][k]? = some x → At u' V' ((⟨b12, 0, none⟩ : Addr).add (k * 1)) [.int .i64 x] := by
      intro u' V' hU' k hk x hx
      have hsb : Sub (sb ⟨some ⟨b12, 0, none⟩, 2, 2⟩) V17 := fun b hb => by rw [sb_iff] at hb; subst hb; exact hb17
      have hv' := hv.same (hU'.same0 hsb)
      obtain ⟨ad, ea, hat⟩ := hv'.toR.get coI.len (i := k) (by simpa using hk)
      cases ea
      have e : [v0, v1][k]'(by simpa using hk) = x := by rw [List.getElem?_eq_getElem (by simpa using hk)] at hx; exact Option.some.inj hx
      rw [e] at hat
      exact hat.sub fun b hb => hU'.vis _ (hsb b hb)
    refine ⟨⟨by omega, by omega⟩, v0, hvat _ _ (Upd.refl _ _ _) 0 (by omega) v0 rfl, ?_⟩
    refine joinI fun Kj34 hKj34 => ?_
    -- both readings of what is asked
    have rest : ∀ c : Bool, Kj34 c u16 V17 := by
      intro c
      refine hKj34 _ _ _ ?_
      refine joinI fun Kj42 hKj42 => ?_
      have key : ∀ (u' : World) (V' : VP) (m' : Sl) (l' : List Order), WInv u V x1 u' V' m' l' → Kj42 (m', true) u' V' := by
        rintro u' V' m' l' ⟨Ss, Sm, h1, h2, h3, h4, h5, h6, h7, h8, h9⟩
        refine hKj42 _ _ _ ?_
        refine (g_wake_Stops_All h1 h2 (by omega)).mono ?_
        rintro x101 u102 V103 _ ⟨k1, S3, k2, k3, k4, rfl⟩
        obtain ⟨r, hr1, hr2⟩ := r_pitsame_Orders k4.toR k2 (h3.same (k1.same0 h4)) (h4.trans k1.vis)
        have : r = true := hr1.2 rfl
        subst this
        refine ⟨_, hr2, ?_⟩
        refine ifF (ifF ⟨rng_nat (by omega), hn7 (m', (i : Int) + 1) _ _ ⟨i + 1, l', rfl, by omega, WInv.step ⟨Ss, Sm, h1, h2, h3, h4, h5, h6, h7, h8, h9⟩ k1⟩ (by simp only; omega)⟩)
      obtain ⟨Ss, Sm, h1, h2, h3, h4, h5, h6, h7, h8, h9⟩ := hW16
      have hSsV0 : ∀ b, Ss b → ¬ V b := h5
      cases c with
      | true =>
        refine ifT ?_
        refine joinI fun Kj46 hKj46 => ?_
        have one : ∀ o : Order, Kj46 o u16 V17 := by
          intro o
          refine hKj46 _ _ _ ?_
          refine (g_pitref2_Wait h3 h4 o (by omega)).mono ?_
          rintro x49 u50 V51 _ ⟨k1, S', k2, k3, k4, k5⟩
          refine (g_wake_Stops_Put (h1.same (k1.same0 h2)) (h2.trans k1.vis) o (by omega)).mono ?_
          rintro x52 u53 V54 _ ⟨j1, Ss', j2, j3, j4, j5⟩
          have hd : Dis S' Ss := fun b hb hb' => (k3 b hb).elim (h6 b hb') fun hn => hn (h2 b hb')
          have hUU : Upd Nix u V u53 V54 := (hU16'.trans k1 fun b hb => hb.elim).trans j1 fun b hb => .inr (h5 b hb)
          refine ⟨_, r_pitsame_Error (hG.same (hUU.same0 (Sub.blk hG.1)) hUU.vis) x52 x49.2, ?_⟩
          obtain ⟨e1, e2⟩ := put_wait l o
          have e3 : (codeOf x52 == x49.2) = true := by rw [j5, k5, e2]; simp
          rw [e3]
          obtain ⟨i1, i2⟩ := wput_inv l o h8 h9
          refine key _ _ _ (wput l o).1 ⟨Ss', S', j4, j2, ?_, k2.trans j1.vis, fun b hb hv => (j3 b hb).elim (fun h => h5 b h hv) fun hn => hn (k1.vis _ (hU16'.vis _ hv)), fun b hb hb' => (j3 b hb).elim (fun h => hd b hb' h) fun hn => hn (k2 b hb'), hUU, i1, i2⟩
          rw [e1]
          exact k4.same (j1.same k2 hd)
        refine ifB (fun hb2 => ?_) (fun _ => one _)
        have hpos : 0 < ls.length := by have := of_decide_eq_true hb2; omega
        refine ifB (fun hb3 => ?_) (fun _ => ?_)
        · have : (lin.len : Int) = 0 := by simpa using hb3
          omega
        · have t0 : 0 ≤ ((i : Int).tmod (lin.len : Int)) := Int.tmod_nonneg _ (by omega)
          have t1 : ((i : Int).tmod (lin.len : Int)) < (lin.len : Int) := Int.tmod_lt_of_pos _ (by omega)
          exact (hl.same (hU16'.same0 (Sub.refl _))).ixI co_Order.len t0 (by omega) fun ad47 _ hat47 => ⟨_, hat47.sub hU16'.vis, one _⟩
      | false =>
        refine ifF ?_
        refine joinI fun Kj59 hKj59 => ?_
        have key59 : ∀ (u' : World) (V' : VP) (m' : Sl) (l' : List Order), WInv u V x1 u' V' m' l' → Kj59 (m', true) u' V' := fun u' V' m' l' h => hKj59 _ _ _ (key u' V' m' l' h)
        refine ifB (fun _ => ?_) (fun _ => ?_)
        · -- one goes
          refine ⟨⟨by omega, by omega⟩, v1, hvat _ _ (Upd.refl _ _ _) 1 (by omega) v1 rfl, _, r_pitref2_Waits h3 h4 v1, ?_⟩
          refine joinI fun Kj65 hKj65 => ?_
          have gone : ∀ (u63 : World) (V64 : VP) (m' : Sl) (S' : VP), Upd Nix u16 V17 u63 V64 → SlR Order.cells u63 S' m' (wdrop l v1).1 → Sub S' V64 → (∀ b, S' b → Sm b ∨ ¬ V17 b) → ∀ (e : Int), codeOf (wdrop l v1).2.2 = e → Kj65 (m', e, (wdrop l v1).2.1) u63 V64 := by
            intro u63 V64 m' S' k1 k2 k3 k4 e he
            refine hKj65 _ _ _ ?_
            refine ⟨⟨by omega, by omega⟩, v1, hvat _ _ k1 1 (by omega) v1 rfl, ?_⟩
            refine (g_wake_Stops_Drop (h1.same (k1.same0 h2)) (h2.trans k1.vis) v1 (by omega)).mono ?_
            rintro x72 u73 V74 _ ⟨j1, Ss', j2, j3, j4, j5⟩
            have hd : Dis S' Ss := fun b hb hb' => (k4 b hb).elim (h6 b hb') fun hn => hn (h2 b hb')
            have hUU : Upd Nix u V u73 V74 := (hU16'.trans k1 fun b hb => hb.elim).trans j1 fun b hb => .inr (h5 b hb)
            refine joinI fun Kj78 hKj78 => ⟨_, r_pitsame_Error (hG.same (hUU.same0 (Sub.blk hG.1)) hUU.vis) x72.2 e, ?_⟩
            have e3 : (codeOf x72.2 == e) = true := by rw [j5, he]; simp
            rw [e3]
            refine ifT ⟨_, fun w => eql_Order _ _ w, fun w => eqt_Order.grd _ _ _ _ _ _, ?_⟩
            have e4 : (Order.L x72.1 == Order.L (wdrop l v1).2.1) = true := by rw [j5]; simp
            rw [e4]
            refine hKj78 _ _ _ ?_
            have hsub : ∀ x ∈ (wdrop l v1).1, x ∈ l := by
              unfold wdrop
              split
              · exact fun x hx => hx
              · exact fun x hx => List.mem_of_mem_eraseIdx hx
            have hlen : (wdrop l v1).1.length ≤ l.length := by
              unfold wdrop
              split
              · exact Nat.le_refl _
              · exact List.length_eraseIdx_le ..
            refine key59 _ _ _ (wdrop l v1).1 ⟨Ss', S', j4, j2, k2.same (j1.same k3 hd), k3.trans j1.vis, fun b hb hv => (j3 b hb).elim (fun h => h5 b h hv) fun hn => hn (k1.vis _ (hU16'.vis _ hv)), fun b hb hb' => (j3 b hb).elim (fun h => hd b hb' h) fun hn => hn (k3 b hb'), hUU, by omega, fun o ho => h9 o (hsub o ho)⟩
          refine ifB (fun hb3 => ?_) (fun hb3 => ?_)
          · have hge := of_decide_eq_true hb3
            rcases idxI_cases (fun x : Order => x.Id == v1) l with ⟨e, _⟩ | ⟨k, hk, e, _, _⟩
            · rw [e] at hge; omega
            · have hwd : wdrop l v1 = (l.eraseIdx k, l[k], none) := by simp [wdrop, e, hk]
              rw [e]
              refine h3.ixN co_Order.len hk fun ad66 _ hat66 => ⟨_, hat66.sub h4, ?_⟩
              refine (g_pitref2_Off h3 h4 hk (by omega)).mono ?_
              rintro x64 u65 V66 _ ⟨k1, S', k2, k3, k4, rfl⟩
              have := gone u65 V66 x64 (sb x64) k1 (by rw [hwd]; exact k4.toR) k2 (fun b hb => (k3 b hb).elim (fun h => h.elim) .inr) 0 (by rw [hwd]; rfl)
              rw [hwd] at this
              exact this
          · have hlt0 := of_decide_eq_false hb3
            have hwd : wdrop l v1 = (l, zOrder, some 5) := by simp [wdrop]; omega
            have := gone u16 V17 m Sm (Upd.refl _ _ _) (by rw [hwd]; exact h3) h4 (fun b hb => .inl hb) 5 (by rw [hwd]; rfl)
            rw [hwd] at this
            exact this
        · -- some wake
          refine ⟨⟨by omega, by omega⟩, v1, hvat _ _ (Upd.refl _ _ _) 1 (by omega) v1 rfl, _, r_pitref1_Price v1 _ _, ?_⟩
          refine joinI fun Kj86 hKj86 => ?_
          have woke : ∀ (u84 : World) (V85 : VP) (m' w' : Sl) (S' : VP), Upd Nix u16 V17 u84 V85 → SlR Order.cells u84 S' m' (wwake l v1).1 → SlR Order.cells u84 S' w' (wwake l v1).2.1 → Sub S' V85 → (∀ b, S' b → Sm b ∨ ¬ V17 b) → ∀ e : Int, codeOf (wwake l v1).2.2 = e → Kj86 (m', e, w') u84 V85 := by
            intro u84 V85 m' w' S' k1 k2 k2' k3 k4 e he
            refine hKj86 _ _ _ ?_
            refine ⟨⟨by omega, by omega⟩, v1, hvat _ _ k1 1 (by omega) v1 rfl, ?_⟩
            refine (g_wake_Stops_Wake (h1.same (k1.same0 h2)) (h2.trans k1.vis) v1 h8).mono ?_
            rintro x92 u93 V94 _ ⟨j1, Sx, j2, j3, ⟨Ss', q1, j4⟩, ⟨So, q2, j6⟩, j5⟩
            have hd : Dis S' Ss := fun b hb hb' => (k4 b hb).elim (h6 b hb') fun hn => hn (h2 b hb')
            have hUU : Upd Nix u V u93 V94 := (hU16'.trans k1 fun b hb => hb.elim).trans j1 fun b hb => .inr (h5 b hb)
            refine joinI fun Kj98 hKj98 => ⟨_, r_pitsame_Error (hG.same (hUU.same0 (Sub.blk hG.1)) hUU.vis) x92.2 e, ?_⟩
            have e3 : (codeOf x92.2 == e) = true := by rw [j5, he]; simp
            rw [e3]
            obtain ⟨r, hr1, hr2⟩ := r_pitsame_Orders j6 (q2.trans j2) (k2'.same (j1.same k3 hd)) (k3.trans j1.vis)
            have : r = true := hr1.2 rfl
            subst this
            refine ifT ⟨_, hr2, hKj98 _ _ _ ?_⟩
            have hsub : ∀ x ∈ (wwake l v1).1, x ∈ l := by
              unfold wwake
              split
              · exact fun x hx => hx
              · exact fun x hx => (List.mem_filter.1 hx).1
            have hlen : (wwake l v1).1.length ≤ l.length := by
              unfold wwake
              split
              · exact Nat.le_refl _
              · exact List.length_filter_le _ _
            refine key59 _ _ _ (wwake l v1).1 ⟨Ss', S', j4, q1.trans j2, k2.same (j1.same k3 hd), k3.trans j1.vis, fun b hb hv => (j3 b (q1 b hb)).elim (fun h => h5 b h hv) fun hn => hn (k1.vis _ (hU16'.vis _ hv)), fun b hb hb' => (j3 b (q1 b hb)).elim (fun h => hd b hb' h) fun hn => hn (k3 b hb'), hUU, by omega, fun o ho => h9 o (hsub o ho)⟩
          refine ifB (fun hb3 => ?_) (fun hb3 => ?_)
          · refine ⟨⟨by omega, by omega⟩, v1, hvat _ _ (Upd.refl _ _ _) 1 (by omega) v1 rfl, ?_⟩
            refine (g_pitref2_Wake h3 h4 v1 h9 h8).mono ?_
            rintro x80 u81 V82 _ ⟨k1, S', k2, k3, k4, k5⟩
            have hww : wwake l v1 = (l.filter (fun o => !p_wake_wakes o v1), (isort wlt (l.filter (fun o => p_wake_wakes o v1))).map noStop, none) := by
              unfold wwake; rw [wprice, hb3]; rfl
            exact woke u81 V82 x80.2 x80.1 S' k1 (by rw [hww]; exact k5) (by rw [hww]; exact k4) k2 k3 0 (by rw [hww]; rfl)
          · have hww : wwake l v1 = (l, [], some 1) := by
              unfold wwake; rw [wprice, hb3]; rfl
            exact woke u16 V17 m ⟨none, 0, 0⟩ Sm (Upd.refl _ _ _) (by rw [hww]; exact h3) (by rw [hww]; exact SlR.nil _ _ _ _ _) h4 (fun b hb => .inl hb) 1 (by rw [hww]; rfl)
    refine ifB (fun _ => rest _) (fun _ => ?_)
    refine joinI fun Kj38 hKj38 => ifB (fun _ => hKj38 _ _ _ (rest _)) (fun _ => hKj38 _ _ _ (rest _))
  refine LoopN.st (fun (t : Int) u' V' => ∃ (j : Nat) (v0 v1 : Int), t = j ∧ Own cI 1 T_A2_i64 u' ⟨some ⟨b12, 0, none⟩, 2, 2⟩ [v0, v1] ∧ Upd (Blk b12) u13 V14 u' V') (fun t => 2 - t.toNat) ⟨0, 0, 0, rfl, hN, Upd.refl _ _ _⟩ ?_
  rintro _ u20 V21 ⟨j, v0, v1, rfl, hv, hU20⟩ next22 hn22
  have hsame : Same V u u20 := fun b hb => (hU20.blk b (hU13.vis b hb) (fun e => by cases e; exact hb5 (hU5.vis _ hb))).trans (hU13.blk b hb fun x => x)
  have hV21 : Sub V V21 := hU13.vis.trans hU20.vis
  have hb21 : V21 b12 := hU20.vis _ hb1
  refine (hs.same hsame).ixN coS.len hlt fun ad19 _ hat19 => ⟨sls[i], hat19.sub hV21, ?_⟩
  have hrl := hrow.len
  refine ifB (fun hb2 => ?_) (fun _ => main _ _ _ _ hv hU20)
  refine ifB (fun hb3 => ?_) (fun _ => main _ _ _ _ hv hU20)
  have hj : j < row.length := by have := of_decide_eq_true hb2; omega
  have hj2 : j < 2 := by have := of_decide_eq_true hb3; omega
  refine (hs.same hsame).ixN coS.len hlt fun ad21 _ hat21 => ⟨sls[i], hat21.sub hV21, ?_⟩
  refine (hrow.same hsame).ixN coI.len hj fun ad23 _ hat23 => ⟨row[j], hat23.sub hV21, ⟨⟨by omega, by omega⟩, ?_⟩⟩
  intro w25 hw25
  have hbV : Sub (sb ⟨some ⟨b12, 0, none⟩, 2, 2⟩) V21 := fun b hb => by rw [sb_iff] at hb; subst hb; exact hb21
  obtain ⟨st1, st2, st3⟩ := Own.put coI hv hbV (i := j) (by simpa using hj2) row[j] (ad := ⟨b12, 0, none⟩) rfl (p := (⟨b12, 0, none⟩ : Addr).add (j * 1)) rfl hw25
  refine ⟨st1, rng_nat (by omega), ?_⟩
  have hU25 := hU20.trans st3 fun b hb => by rw [sb_iff] at hb; exact .inl hb
  obtain rfl | rfl : j = 0 ∨ j = 1 := by omega
  · exact hn22 _ _ _ ⟨1, row[0], v1, rfl, st2, hU25⟩ (by simp)
  · exact hn22 _ _ _ ⟨2, v0, row[1], rfl, st2, hU25⟩ (by simp)
end Go.Sx
