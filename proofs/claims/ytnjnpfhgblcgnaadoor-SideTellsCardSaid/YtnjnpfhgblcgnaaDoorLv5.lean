/-
  Contracts of functions that this claim reaches. Conditions: those of the statement alone.
-/
import Derived.Test.YtnjnpfhgblcgnaaDoorLv4
set_option linter.unusedVariables false
set_option linter.unusedSimpArgs false
set_option maxRecDepth 100000
namespace Go.Sx

/-! ### a rest is taken out -/
def cutR (l : List Rest) (k : Nat) : List Rest := l.take k ++ l.drop (k + 1)
def outB (k : Nat) : List PL → List PL
  | [] => []
  | x :: t => if (cutR x.rests k).length = 0 then t else ⟨x.price, cutR x.rests k⟩ :: t
def outL (xs : List PL) (i k : Nat) : List PL := xs.take i ++ outB k (xs.drop i)

theorem g_side_Cut {u : World} {V : VP} {s : Sl} {PA T : List LP} {q : LP} (h : LvO u s (PA ++ q :: T)) (hV : Sub (fpL s (PA ++ q :: T)) V) {k : Nat} (hk : k < q.2.rests.length) (hm : PA.length + T.length ≤ 1000) (hq : q.2.rests.length ≤ 1000) :
    GC PP F_side_Cut [.slice s.a s.len s.cap, .int .i64 (PA.length : Int), .int .i64 (k : Int)] u V (fun x => gval errT ((Enc.one eSl).enc x)) (Out (fpL s (PA ++ q :: T)) (fpL s (PA ++ q :: T)) u V fun x u' S' => ∃ ps', LvO u' x ps' ∧ l2 ps' = l2 PA ++ outB k (q.2 :: l2 T) ∧ S' = fpL x ps') := by
  refine s_side_Cut s PA.length k u V _ ?_
  have hloc : Loc (fun (x : Sl) u' (S' : VP) => ∃ ps', LvO u' x ps' ∧ l2 ps' = l2 PA ++ outB k (q.2 :: l2 T) ∧ S' = fpL x ps') := fun x u u' S ⟨ps, h1, h2, h3⟩ hs => ⟨ps, h1.same (h3 ▸ hs), h2, h3⟩
  unfold vc_side_Cut
  simp only [Int.toNat_natCast]
  have hilt : PA.length < (l1 (PA ++ q :: T)).length := by simp
  have e8 : (l1 (PA ++ q :: T))[PA.length] = q.1 := by simp
  have hrowV : Sub (sb s) V := fun b hb => hV b (.inl hb)
  have hqm : q ∈ PA ++ q :: T := by simp
  have hqV : Sub (sb q.1.Rests) V := fun b hb => hV b (.inr ⟨q, hqm, hb⟩)
  obtain ⟨q1, q2, q3⟩ := h.ok q hqm
  refine h.row.toR.ixN co_Level.len hilt fun ad1 _ hat1 => ?_
  rw [e8] at hat1
  refine ⟨q.1.Rests, hat1.fld hrowV rfl, rng_nat (by omega), ?_⟩
  have ek : ((k : Int) + 1) = ((k + 1 : Nat) : Int) := by omega
  rw [ek]
  refine (g_slices_Delete_Rest q2 hqV (i := k) (j := k + 1) (by omega) (by omega) (by omega)).mono fun x3 u4 V5 hbd ⟨hU, S', hS', hA', hO', hSe⟩ => ?_
  subst hSe
  have hrow2 := h.row.same (hU.same hrowV fun b hb hb2 => q3 b hb2 hb)
  refine hrow2.toR.ixN co_Level.len hilt fun ad6 had6 hat6 => ?_
  intro w7 hw7
  obtain ⟨t1, t2, t3⟩ := Own.st co_Level hrow2 (hrowV.trans hU.vis) hilt (j := 1) (l := [.slice x3.a x3.len x3.cap]) (x' := ⟨q.1.Price, x3⟩) (by simp [Value.oneCell']) (by simp) (by rw [e8]; rfl) had6 (p := (ad6.add (PA.length * 2)).add 1) (by rw [Addr.add_add]) rfl hw7
  have hset : (l1 (PA ++ q :: T)).set PA.length ⟨q.1.Price, x3⟩ = l1 (PA ++ (⟨q.1.Price, x3⟩, ⟨q.2.price, cutR q.2.rests k⟩) :: T) := by simp
  rw [hset] at t2
  refine ⟨t1, ?_⟩
  generalize stW w7 ((ad6.add (PA.length * 2)).add 1) [.slice x3.a x3.len x3.cap] 0 = W at *
  have hx3 : ∀ b, sb x3 b → sb q.1.Rests b ∨ ¬ V b := hA'
  have hx3s : Dis (sb x3) (sb s) := fun b hb hb2 => (hx3 b hb).elim (fun hx => q3 b hx hb2) fun hn => hn (hrowV b hb2)
  obtain ⟨e1, e2, e3⟩ := List.pairwise_append.1 h.each
  obtain ⟨e4, e5⟩ := List.pairwise_cons.1 e2
  have hoth : ∀ p, p ∈ PA ∨ p ∈ T → Dis (sb p.1.Rests) (sb q.1.Rests) := by
    rintro p (hp | hp)
    · exact e3 p hp q (by simp)
    · exact (e4 p hp).symm
  have hmem : ∀ p, p ∈ PA ∨ p ∈ T → p ∈ PA ++ q :: T := by
    rintro p (hp | hp) <;> simp [hp]
  have hothV : ∀ p, p ∈ PA ∨ p ∈ T → Sub (sb p.1.Rests) V := fun p hp b hb => hV b (.inr ⟨p, hmem p hp, hb⟩)
  have hok : ∀ p, p ∈ PA ∨ p ∈ T → p.1.Price = p.2.price ∧ Own Rest.cells 5 T_Rest W p.1.Rests p.2.rests ∧ Dis (sb p.1.Rests) (sb s) := by
    intro p hp
    obtain ⟨a1, a2, a3⟩ := h.ok p (hmem p hp)
    exact ⟨a1, (a2.same (hU.same (hothV p hp) (hoth p hp))).same (t3.same ((hothV p hp).trans hU.vis) a3), a3⟩
  have hUW : Upd (fpL s (PA ++ q :: T)) u V W V5 := (hU.mono fun b hb => .inl (.inr ⟨q, hqm, hb⟩)).trans t3 fun b hb => .inl (.inl hb)
  have hO3 : Own Rest.cells 5 T_Rest W x3 (cutR q.2.rests k) := hO'.same (t3.same hS' hx3s)
  have hl3 := hO3.len
  refine t2.toR.ixN co_Level.len (i := PA.length) (by simp) fun ad8 _ hat8 => ?_
  have e9 : (l1 (PA ++ (⟨q.1.Price, x3⟩, ⟨q.2.price, cutR q.2.rests k⟩) :: T))[PA.length]'(by simp) = ⟨q.1.Price, x3⟩ := by simp
  rw [e9] at hat8
  refine ⟨x3, hat8.fld (hrowV.trans hU.vis) rfl, ?_⟩
  refine ifB (fun hb => ?_) (fun hb => ?_)
  · have h0 : (cutR q.2.rests k).length = 0 := by have := beq_iff_eq.1 hb; omega
    have ei : ((PA.length : Int) + 1) = ((PA.length + 1 : Nat) : Int) := by omega
    refine ⟨rng_nat (by omega), ?_⟩
    rw [ei]
    refine (g_slices_Delete_Level t2 (hrowV.trans hU.vis) (i := PA.length) (j := PA.length + 1) (by omega) (by simp) (by simp; omega)).mono fun x10 u11 V12 hbd2 ⟨hU2, S2, hS2, hA2, hO2, hSe2⟩ => ?_
    subst hSe2
    have hrow3 : (l1 (PA ++ (⟨q.1.Price, x3⟩, ⟨q.2.price, cutR q.2.rests k⟩) :: T)).take PA.length ++ (l1 (PA ++ (⟨q.1.Price, x3⟩, ⟨q.2.price, cutR q.2.rests k⟩) :: T)).drop (PA.length + 1) = l1 (PA ++ T) := by
      simp [List.take_append, List.drop_append]
    rw [hrow3] at hO2
    have hx10 : ∀ b, sb x10 b → sb s b ∨ ¬ V b := fun b hb => (hA2 b hb).imp id fun hn hv => hn (hU.vis _ hv)
    have hmm : ∀ p, p ∈ PA ++ T → p ∈ PA ∨ p ∈ T := fun p hp => List.mem_append.1 hp
    refine Out.fin hloc ⟨hUW.trans hU2 fun b hb => .inl (.inl hb), fpL x10 (PA ++ T), ?_, ?_, PA ++ T, ⟨hO2, ?_, ?_⟩, ?_, rfl⟩
    · rintro b (hb | ⟨p, hp, hb⟩)
      · exact hS2 b hb
      · exact hU2.vis _ (hU.vis _ (hothV p (hmm p hp) b hb))
    · rintro b (hb | ⟨p, hp, hb⟩)
      · exact (hx10 b hb).imp .inl id
      · exact .inl (.inr ⟨p, hmem p (hmm p hp), hb⟩)
    · intro p hp
      obtain ⟨a1, a2, a3⟩ := hok p (hmm p hp)
      exact ⟨a1, a2.same (hU2.same ((hothV p (hmm p hp)).trans hU.vis) a3), fun b hb hb2 => (hx10 b hb2).elim (fun hx => a3 b hb hx) fun hn => hn (hothV p (hmm p hp) b hb)⟩
    · rw [List.pairwise_append]
      exact ⟨e1, e5, fun a ha b hb => e3 a ha b (by simp [hb])⟩
    · rw [outB, if_pos h0]; simp
  · have h0 : ¬ (cutR q.2.rests k).length = 0 := by intro h; rw [← hl3] at h; simp [h] at hb
    refine Out.fin hloc ⟨hUW, fpL s (PA ++ (⟨q.1.Price, x3⟩, ⟨q.2.price, cutR q.2.rests k⟩) :: T), ?_, ?_, _, ⟨t2, ?_, ?_⟩, by rw [outB, if_neg h0]; simp, rfl⟩
    · rintro b (hb | ⟨p, hp, hb⟩)
      · exact hU.vis _ (hrowV b hb)
      · rcases List.mem_append.1 hp with hp | hp
        · exact hU.vis _ (hothV p (.inl hp) b hb)
        · rcases List.mem_cons.1 hp with rfl | hp
          · exact hS' b hb
          · exact hU.vis _ (hothV p (.inr hp) b hb)
    · rintro b (hb | ⟨p, hp, hb⟩)
      · exact .inl (.inl hb)
      · rcases List.mem_append.1 hp with hp | hp
        · exact .inl (.inr ⟨p, hmem p (.inl hp), hb⟩)
        · rcases List.mem_cons.1 hp with rfl | hp
          · exact (hx3 b hb).imp (fun hx => .inr ⟨q, hqm, hx⟩) id
          · exact .inl (.inr ⟨p, hmem p (.inr hp), hb⟩)
    · intro p hp
      rcases List.mem_append.1 hp with hp | hp
      · exact hok p (.inl hp)
      · rcases List.mem_cons.1 hp with rfl | hp
        · exact ⟨q1, hO3, hx3s⟩
        · exact hok p (.inr hp)
    · have hnew : ∀ p, p ∈ PA ∨ p ∈ T → Dis (sb x3) (sb p.1.Rests) := fun p hp b hb hb2 => (hx3 b hb).elim (fun hx => hoth p hp b hb2 hx) fun hn => hn (hothV p hp b hb2)
      rw [List.pairwise_append]
      refine ⟨e1, List.pairwise_cons.2 ⟨fun p hp => hnew p (.inr hp), e5⟩, fun a ha b hb => ?_⟩
      rcases List.mem_cons.1 hb with rfl | hb
      · exact (hnew a (.inl ha)).symm
      · exact e3 a ha b (by simp [hb])

/-! ### Add and Drop -/
theorem lgo_cons {s : Int} {prev : Option Int} {x : PL} {xs : List PL} (h : lgo s prev (x :: xs) = 0) : x.rests.length ≠ 0 ∧ queueF x.rests = 0 ∧ lgo s (some x.price) xs = 0 := by
  rw [lgo] at h
  split at h
  · cases h
  · split at h
    · cases h
    · rename_i h2
      split at h
      · rename_i h3; exact absurd h h3
      · rename_i h3
        split at h
        · cases h
        · exact ⟨h2, Decidable.not_not.1 h3, h⟩
theorem lvF_zero {s : Int} {xs : List PL} (h : lvF s xs = 0) : (s = 1 ∨ s = 2) ∧ (∀ x ∈ xs, x.rests.length ≤ 60) ∧ xs.length ≤ 60 ∧ cntR xs ≤ 60 := by
  unfold lvF at h
  split at h
  · cases h
  · rename_i h1
    split at h
    · rename_i h2; exact absurd h h2
    · rename_i h2
      split at h
      · cases h
      · rename_i h3
        have hg : ∀ (ys : List PL) (prev : Option Int), lgo s prev ys = 0 → (∀ x ∈ ys, x.rests.length ≤ 60) ∧ ys.length ≤ cntR ys := by
          intro ys
          induction ys with
          | nil => intro prev _; exact ⟨(fun x hx => (List.not_mem_nil hx).elim), Nat.zero_le _⟩
          | cons y ys ih =>
            intro prev hy
            obtain ⟨a1, a2, a3⟩ := lgo_cons hy
            obtain ⟨b1, b2⟩ := ih _ a3
            refine ⟨fun x hx => ?_, ?_⟩
            · rcases List.mem_cons.1 hx with rfl | hx
              · exact queueF_le a2
              · exact b1 x hx
            · have : cntR (y :: ys) = y.rests.length + cntR ys := by simp [cntR]
              rw [this, List.length_cons]; omega
        obtain ⟨c1, c2⟩ := hg xs none (Decidable.not_not.1 h2)
        exact ⟨(rside_iff s).1 (by simpa using h1), c1, by omega, by omega⟩

/-- what Add answers: the fault, the levels -/
def addF (s : Int) (xs : List PL) (p : Int) (r : Rest) : Int := if p_pitref1_Price p = false then 1 else if restF r ≠ 0 then restF r else if (at_ xs r.Id).1 ≥ 0 then 7 else if cntR xs ≥ 60 then 4 else 0
def addL (s : Int) (xs : List PL) (p : Int) (r : Rest) : List PL := if addF s xs p r = 0 then putL s xs p r else []

theorem g_side_Add {u : World} {V S : VP} {l : Sl} {xs : List PL} (h : LvR u S l xs) (hS : Sub S V) (s p : Int) (r : Rest) :
    GC PP F_side_Add [.int .i64 s, .slice l.a l.len l.cap, .int .i64 p, .agg (Rest.cells r).toArray] u V (fun x => gval errT ((Enc.t2 eSl Enc1.err).enc x))
      (Out Nix Nix u V fun x u' S' => LvR u' S' x.1 (if lvF s xs = 0 then addL s xs p r else []) ∧ x.2 = errOf (if lvF s xs = 0 then addF s xs p r else lvF s xs)) := by
  refine s_side_Add s l p r u V _ ?_
  have hloc : Loc (fun (x : Sl × Option Int) u' (S' : VP) => LvR u' S' x.1 (if lvF s xs = 0 then addL s xs p r else []) ∧ x.2 = errOf (if lvF s xs = 0 then addF s xs p r else lvF s xs)) := fun x u u' S h hs => ⟨h.1.same hs, h.2⟩
  have bad : ∀ e : Option Int, (if lvF s xs = 0 then addL s xs p r else []) = [] → e = errOf (if lvF s xs = 0 then addF s xs p r else lvF s xs) → Fin (Out Nix Nix u V fun x u' S' => LvR u' S' x.1 (if lvF s xs = 0 then addL s xs p r else []) ∧ x.2 = errOf (if lvF s xs = 0 then addF s xs p r else lvF s xs)) ((⟨none, 0, 0⟩ : Sl), e) u V := fun e h1 h2 =>
    Out.fin hloc ⟨Upd.refl _ _ _, Nix, fun b hb => hb.elim, fun b hb => hb.elim, by rw [h1]; exact LvR.nil _ _ _ _, h2⟩
  unfold vc_side_Add
  refine ⟨_, r_side_Check h hS s, ?_⟩
  rw [isSome_errOf]
  refine ifB (fun hb => ?_) (fun hb => ?_)
  · have h1 := of_decide_eq_true hb
    exact bad _ (by rw [if_neg h1]) (by rw [if_neg h1])
  have h1 : lvF s xs = 0 := by have := of_decide_eq_false hb; exact Decidable.not_not.1 this
  obtain ⟨hs, hq, hxl, hcl⟩ := lvF_zero h1
  have bad2 : ∀ n : Int, n ≠ 0 → addF s xs p r = n → Fin (Out Nix Nix u V fun x u' S' => LvR u' S' x.1 (if lvF s xs = 0 then addL s xs p r else []) ∧ x.2 = errOf (if lvF s xs = 0 then addF s xs p r else lvF s xs)) ((⟨none, 0, 0⟩ : Sl), some n) u V := fun n hn hF =>
    bad _ (by rw [if_pos h1]; unfold addL; rw [if_neg (by rw [hF]; exact hn)]) (by rw [if_pos h1, hF, errOf_ne hn])
  refine ⟨_, r_tick_Price _ _ _, ?_⟩
  rw [tprice_eq]
  by_cases h2 : p_pitref1_Price p = false
  · rw [if_pos h2]
    exact ifT (bad2 1 (by decide) (by unfold addF; rw [if_pos h2]))
  rw [if_neg h2]
  refine ifF ?_
  refine ⟨_, r_queue_One _ _ _, ?_⟩
  rw [queue_one_eq, isSome_errOf]
  refine ifB (fun hb => ?_) (fun hb => ?_)
  · have h3 := of_decide_eq_true hb
    rw [errOf_ne h3]
    exact bad2 _ h3 (by unfold addF; rw [if_neg h2, if_pos h3])
  have h3 := of_decide_eq_false hb
  refine ⟨_, r_side_Where h hS _, ?_⟩
  refine ifB (fun hb => ?_) (fun hb => ?_)
  · exact bad2 7 (by decide) (by unfold addF; rw [if_neg h2, if_neg h3, if_pos (of_decide_eq_true hb)])
  have h4 := of_decide_eq_false hb
  refine ⟨_, r_side_Count h hS hq, ?_⟩
  refine ifB (fun hb => ?_) (fun hb => ?_)
  · have h5 : cntR xs ≥ 60 := by have := of_decide_eq_true hb; omega
    exact bad2 4 (by decide) (by unfold addF; rw [if_neg h2, if_neg h3, if_neg h4, if_pos h5])
  have h5 : ¬ cntR xs ≥ 60 := by have := of_decide_eq_false hb; omega
  have hF : addF s xs p r = 0 := by unfold addF; rw [if_neg h2, if_neg h3, if_neg h4, if_neg h5]
  refine (g_side_Own h hS (by omega) fun x hx => by have := hq x hx; omega).mono fun x6 u7 V8 hbd ⟨hU, S1, hS1, hA1, ps, hL, hps, hSe⟩ => ?_
  subst hSe
  have hA1' : Dis (fpL x6 ps) V := fun b hb => (hA1 b hb).resolve_left fun x => x
  refine (g_side_Put hL hS1 hs p r (by rw [← hps] at hxl; simp at hxl; omega) (fun q hq2 => by
    have := hq q.2 (by rw [← hps]; exact List.mem_map.2 ⟨q, hq2, rfl⟩)
    omega)).mono fun x9 u10 V11 hbd2 ⟨hU2, S2, hS2, hA2, ps', hL2, hps2, hSe2⟩ => ?_
  subst hSe2
  refine Out.fin hloc ⟨hU.trans hU2 fun b hb => .inr (hA1' b hb), fpL x9 ps', hS2, fun b hb => .inr fun hv => ?_, ?_, ?_⟩
  · rcases hA2 b hb with hb | hb
    · exact hA1' b hb hv
    · exact hb (hU.vis _ hv)
  · rw [if_pos h1]; unfold addL; rw [if_pos hF, ← hps, ← hps2]
    exact hL2.toR
  · rw [if_pos h1, hF]; rfl

def dropF (s : Int) (xs : List PL) (id : Int) : Int := if lvF s xs ≠ 0 then lvF s xs else if (at_ xs id).1 < 0 then 5 else 0
def restAt (xs : List PL) (i k : Nat) : Rest := ((xs[i]?).bind fun x => x.rests[k]?).getD ⟨0, 0, 0, 0, 0⟩
def priceAt (xs : List PL) (i : Nat) : Int := ((xs[i]?).map (·.price)).getD 0
def dropL (s : Int) (xs : List PL) (id : Int) : List PL := if dropF s xs id = 0 then outL xs (at_ xs id).1.toNat (at_ xs id).2.toNat else []
def dropR (s : Int) (xs : List PL) (id : Int) : Rest := if dropF s xs id = 0 then restAt xs (at_ xs id).1.toNat (at_ xs id).2.toNat else ⟨0, 0, 0, 0, 0⟩
def dropP (s : Int) (xs : List PL) (id : Int) : Int := if dropF s xs id = 0 then priceAt xs (at_ xs id).1.toNat else 0
theorem g_side_Drop {u : World} {V S : VP} {l : Sl} {xs : List PL} (h : LvR u S l xs) (hS : Sub S V) (s id : Int) :
    GC PP F_side_Drop [.int .i64 s, .slice l.a l.len l.cap, .int .i64 id] u V (fun x => gval errT ((Enc.t4 eSl eRest eInt Enc1.err).enc x))
      (Out Nix Nix u V fun x u' S' => LvR u' S' x.1 (dropL s xs id) ∧ x.2 = (dropR s xs id, dropP s xs id, errOf (dropF s xs id))) := by
  refine s_side_Drop s l id u V _ ?_
  have hloc : Loc (fun (x : Sl × Rest × Int × Option Int) u' (S' : VP) => LvR u' S' x.1 (dropL s xs id) ∧ x.2 = (dropR s xs id, dropP s xs id, errOf (dropF s xs id))) := fun x u u' S h hs => ⟨h.1.same hs, h.2⟩
  have bad : ∀ n : Int, n ≠ 0 → dropF s xs id = n → Fin (Out Nix Nix u V fun x u' S' => LvR u' S' x.1 (dropL s xs id) ∧ x.2 = (dropR s xs id, dropP s xs id, errOf (dropF s xs id))) ((⟨none, 0, 0⟩ : Sl), (⟨0, 0, 0, 0, 0⟩ : Rest), 0, some n) u V := fun n hn hF => by
    have hne : ¬ dropF s xs id = 0 := by rw [hF]; exact hn
    refine Out.fin hloc ⟨Upd.refl _ _ _, Nix, fun b hb => hb.elim, fun b hb => hb.elim, ?_, ?_⟩
    · unfold dropL; rw [if_neg hne]; exact LvR.nil _ _ _ _
    · unfold dropR dropP; rw [if_neg hne, if_neg hne, hF, errOf_ne hn]
  unfold vc_side_Drop
  refine ⟨_, r_side_Check h hS s, ?_⟩
  rw [isSome_errOf]
  refine ifB (fun hb => ?_) (fun hb => ?_)
  · have h1 := of_decide_eq_true hb
    rw [errOf_ne h1]
    exact bad _ h1 (by unfold dropF; rw [if_pos h1])
  have h1 : lvF s xs = 0 := by have := of_decide_eq_false hb; exact Decidable.not_not.1 this
  obtain ⟨hs, hq, hxl, hcl⟩ := lvF_zero h1
  refine ⟨_, r_side_Where h hS _, ?_⟩
  refine ifB (fun hb => ?_) (fun hb => ?_)
  · exact bad 5 (by decide) (by unfold dropF; rw [if_neg (by simp [h1]), if_pos (of_decide_eq_true hb)])
  have h4 := of_decide_eq_false hb
  have hF : dropF s xs id = 0 := by unfold dropF; rw [if_neg (by simp [h1]), if_neg h4]
  rcases at_cases xs id with e | ⟨i, k, hi, hk, e⟩
  · rw [e] at h4; exact absurd (by decide : ((-1 : Int), (-1 : Int)).1 < 0) h4
  have gL : dropL s xs id = outL xs i k := by unfold dropL; rw [if_pos hF, e]; rfl
  have gR : dropR s xs id = xs[i].rests[k] := by
    unfold dropR; rw [if_pos hF, e]
    simp [restAt, hi, hk]
  have gP : dropP s xs id = xs[i].price := by
    unfold dropP; rw [if_pos hF, e]
    simp [priceAt, hi]
  rw [e]
  simp only [Int.toNat_natCast]
  refine h.ixN hi fun ad3 lv3 _ hat3 hp3 hr3 => ⟨_, hat3.fld hS rfl, ?_⟩
  refine hr3.ixN co_Rest.len hk fun ad5 _ hat5 => ⟨_, hat5.sub hS, ?_⟩
  refine h.ixN hi fun ad7 lv7 _ hat7 hp7 hr7 => ⟨xs[i].price, ?_, ?_, ?_⟩
  · rw [← hp7]; exact hat7.fld hS rfl
  · rw [← hp7]; exact hat7.fld hS rfl
  refine (g_side_Own h hS (by omega) fun x hx => by have := hq x hx; omega).mono fun x6 u7 V8 hbd ⟨hU, S1, hS1, hA1, ps, hL, hps, hSe⟩ => ?_
  subst hSe
  have hA1' : Dis (fpL x6 ps) V := fun b hb => (hA1 b hb).resolve_left fun x => x
  subst hps
  have hil : i < ps.length := by simpa using hi
  have hsplit : ps = ps.take i ++ ps[i] :: ps.drop (i + 1) := by rw [← List.drop_eq_getElem_cons hil, List.take_append_drop]
  have hPA : (ps.take i).length = i := by rw [List.length_take]; omega
  have hk2 : k < ps[i].2.rests.length := by simpa using hk
  have hx60 : ps[i].2.rests.length ≤ 60 := hq _ (List.mem_map.2 ⟨_, List.getElem_mem hil, rfl⟩)
  have hg := g_side_Cut (u := u7) (V := V8) (s := x6) (PA := ps.take i) (T := ps.drop (i + 1)) (q := ps[i]) (hsplit ▸ hL) (hsplit ▸ hS1) hk2 (by
    simp only [List.length_map] at hxl
    rw [hPA, List.length_drop]; omega) (by omega)
  rw [hPA] at hg
  refine hg.mono fun x9 u10 V11 hbd2 ⟨hU2, S2, hS2, hA2, ps', hL2, hps2, hSe2⟩ => ?_
  subst hSe2
  have hfp : fpL x6 (ps.take i ++ ps[i] :: ps.drop (i + 1)) = fpL x6 ps := by rw [← hsplit]
  rw [hfp] at hU2 hA2
  refine Out.fin hloc ⟨hU.trans hU2 fun b hb => .inr (hA1' b hb), fpL x9 ps', hS2, fun b hb => .inr fun hv => ?_, ?_, ?_⟩
  · rcases hA2 b hb with hb | hb
    · exact hA1' b hb hv
    · exact hb (hU.vis _ hv)
  · have : l2 ps' = dropL s (l2 ps) id := by
      rw [hps2, gL]
      unfold outL
      have e1 : (l2 ps).drop i = ps[i].2 :: l2 (ps.drop (i + 1)) := by
        rw [show (l2 ps).drop i = l2 (ps.drop i) by simp, List.drop_eq_getElem_cons hil]; rfl
      rw [e1]; simp
    show LvR u10 _ x9 (dropL s (l2 ps) id)
    rw [← this]
    exact hL2.toR
  · show (_, _, _) = _
    rw [gR, gP, hF]; rfl
end Go.Sx
