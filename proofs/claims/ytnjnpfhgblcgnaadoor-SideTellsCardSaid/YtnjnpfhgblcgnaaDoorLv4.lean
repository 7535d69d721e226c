/-
  Contracts of functions that this claim reaches. Conditions: those of the statement alone.
-/
import Derived.Test.YtnjnpfhgblcgnaaDoorLv3
set_option linter.unusedVariables false
set_option linter.unusedSimpArgs false
set_option maxRecDepth 100000
namespace Go.Sx

/-! ### where a price stands, and a rest put there -/
def posL (s p : Int) (xs : List PL) : Nat := xs.findIdx fun x => !ahd s x.price p
def putB (p : Int) (r : Rest) : List PL → List PL
  | [] => [⟨p, [r]⟩]
  | x :: t => if x.price = p then ⟨p, x.rests ++ [r]⟩ :: t else ⟨p, [r]⟩ :: x :: t
def putL (s : Int) (xs : List PL) (p : Int) (r : Rest) : List PL := xs.take (posL s p xs) ++ putB p r (xs.drop (posL s p xs))
theorem posL_le (s p : Int) (xs : List PL) : posL s p xs ≤ xs.length := List.findIdx_le_length
theorem posL_stop {s p : Int} {xs : List PL} {i : Nat} (hi : i < xs.length) (hb : ∀ j (hj : j < i), ahd s (xs[j]'(by omega)).price p = true) (h : ahd s xs[i].price p = false) : posL s p xs = i := by
  unfold posL
  rw [List.findIdx_eq hi]
  exact ⟨by simp [h], fun j hj => by simp [hb j hj]⟩
theorem posL_end {s p : Int} {xs : List PL} (hb : ∀ j (hj : j < xs.length), ahd s xs[j].price p = true) : posL s p xs = xs.length := by
  unfold posL
  rw [List.findIdx_eq_length]
  intro x hx
  obtain ⟨j, hj, rfl⟩ := List.getElem_of_mem hx
  simp [hb j hj]

theorem g_side_Put {u : World} {V : VP} {s : Sl} {ps : List LP} (h : LvO u s ps) (hV : Sub (fpL s ps) V) {sd : Int} (hs : sd = 1 ∨ sd = 2) (price : Int) (r : Rest) (hm : ps.length ≤ 1000) (hq : ∀ p ∈ ps, p.2.rests.length ≤ 1000) :
    GC PP F_side_Put [.int .i64 sd, .slice s.a s.len s.cap, .int .i64 price, .agg (Rest.cells r).toArray] u V (fun x => gval errT ((Enc.one eSl).enc x)) (Out (fpL s ps) (fpL s ps) u V fun x u' S' => ∃ ps', LvO u' x ps' ∧ l2 ps' = putL sd (l2 ps) price r ∧ S' = fpL x ps') := by
  refine s_side_Put sd s price r u V _ ?_
  have hloc : Loc (fun (x : Sl) u' (S' : VP) => ∃ ps', LvO u' x ps' ∧ l2 ps' = putL sd (l2 ps) price r ∧ S' = fpL x ps') := fun x u u' S ⟨ps, h1, h2, h3⟩ hs => ⟨ps, h1.same (h3 ▸ hs), h2, h3⟩
  have hlen := h.row.len
  simp only [List.length_map] at hlen
  have hR := h.toR
  have hle := h.row.le
  obtain ⟨i, hi⟩ : ∃ i, i = posL sd price (l2 ps) := ⟨_, rfl⟩
  have hil : i ≤ ps.length := by rw [hi]; have := posL_le sd price (l2 ps); simpa using this
  have hput : putL sd (l2 ps) price r = (l2 ps).take i ++ putB price r ((l2 ps).drop i) := by unfold putL; rw [← hi]
  unfold vc_side_Put
  refine joinI fun Kj4 hKj4 => ?_
  have hgo : Kj4 (i : Int) u V := by
    refine hKj4 _ _ _ ?_
    simp only [Int.toNat_natCast]
    refine joinI fun Kj15 hKj15 => ?_
    have main2 : ∀ (s18 : Sl) (u19 : World) (V20 : VP) (PA T : List LP) (q : LP), PA.length = i → LvO u19 s18 (PA ++ q :: T) → Sub (fpL s18 (PA ++ q :: T)) V20 → Upd (fpL s ps) u V u19 V20 → (∀ b, fpL s18 (PA ++ q :: T) b → fpL s ps b ∨ ¬ V b) → q.2.rests.length ≤ 1000 →
        l2 PA ++ ⟨q.2.price, q.2.rests ++ [r]⟩ :: l2 T = putL sd (l2 ps) price r →
        ((0 ≤ (i : Int) ∧ (i : Int) < (s18.len : Int)) ∧ NilK s18.a fun ad28 => ∃ x29 : Sl, At u19 V20 ((ad28.add (i * 2)).add 1) [.slice x29.a x29.len x29.cap] ∧ NewC u19 V20 T_Rest ((Rest.cells r)) fun b30 u31 V32 => OpV PP errT (Builtin.append_ #[T_Sl_Rest, T_Sl_Rest] T_Sl_Rest #[.slice x29.a x29.len x29.cap, .slice (some (⟨b30, 0, none⟩ : Addr)) 1 1]) (Enc.one eSl) u31 V32 fun (x33 : Sl) u34 V35 => ((0 ≤ (i : Int) ∧ (i : Int) < (s18.len : Int)) ∧ NilK s18.a fun ad36 => ∀ w37, Rel V35 u34 w37 → StOk w37 V35 ((ad36.add (i * 2)).add 1) 1 ∧
          Fin (Out (fpL s ps) (fpL s ps) u V fun x u' S' => ∃ ps', LvO u' x ps' ∧ l2 ps' = putL sd (l2 ps) price r ∧ S' = fpL x ps') s18 (stW w37 ((ad36.add (i * 2)).add 1) [.slice x33.a x33.len x33.cap] 0) V35)) := by
      intro s18 u19 V20 PA T q hPA hL hLV hU hA hql hres
      subst hPA
      have hilt : PA.length < (l1 (PA ++ q :: T)).length := by simp
      have e8 : (l1 (PA ++ q :: T))[PA.length] = q.1 := by simp
      have hrowV : Sub (sb s18) V20 := fun b hb => hLV b (.inl hb)
      have hqm : q ∈ PA ++ q :: T := by simp
      have hqV : Sub (sb q.1.Rests) V20 := fun b hb => hLV b (.inr ⟨q, hqm, hb⟩)
      obtain ⟨q1, q2, q3⟩ := hL.ok q hqm
      refine hL.row.toR.ixN co_Level.len hilt fun ad28 _ hat28 => ?_
      rw [e8] at hat28
      refine ⟨q.1.Rests, hat28.fld hrowV rfl, ?_⟩
      refine NewC.mk fun b30 u31 V32 hbd hge hcell hsub hb30 hbd' hrel => ?_
      have hU31 : Upd Nix u19 V20 u31 V32 := upd_new Nix hsub hrel
      have hX : SlR Rest.cells u31 (Blk b30) ⟨some ⟨b30, 0, none⟩, 1, 1⟩ [r] := (Own.new (e := T_Rest) (xs := [r]) co_Rest.len (by simpa using hcell) rfl (by simp)).toR.sub fun k hk => sb_iff.1 hk
      refine opv_append ty_Sl_Rest co_Rest (q2.same (hU31.same0 hqV)) (hqV.trans hsub) hX (Sub.blk hb30) _ (by simp; omega) (by simp; omega) ?_
      intro x33 u34 V35 k1 k2 k3 k4 _
      have hrow2 := (hL.row.same (hU31.same0 hrowV)).same (k2.same (hrowV.trans hsub) fun b hb hb2 => q3 b hb2 hb)
      have hv35 : Sub V20 V35 := hsub.trans k2.vis
      refine hrow2.toR.ixN co_Level.len hilt fun ad36 had36 hat36 => ?_
      intro w37 hw37
      obtain ⟨t1, t2, t3⟩ := Own.st co_Level hrow2 (hrowV.trans hv35) hilt (j := 1) (l := [.slice x33.a x33.len x33.cap]) (x' := ⟨q.1.Price, x33⟩) (by simp [Value.oneCell']) (by simp) (by rw [e8]; rfl) had36 (p := (ad36.add (PA.length * 2)).add 1) (by rw [Addr.add_add]) rfl hw37
      have hset : (l1 (PA ++ q :: T)).set PA.length ⟨q.1.Price, x33⟩ = l1 (PA ++ (⟨q.1.Price, x33⟩, ⟨q.2.price, q.2.rests ++ [r]⟩) :: T) := by
        simp
      rw [hset] at t2
      have hx33 : ∀ b, sb x33 b → sb q.1.Rests b ∨ ¬ V20 b := fun b hb => (k4 b hb).imp id fun hn hv => hn (hsub _ hv)
      have hx33s : Dis (sb x33) (sb s18) := fun b hb hb2 => (hx33 b hb).elim (fun hx => q3 b hx hb2) fun hn => hn (hrowV b hb2)
      obtain ⟨e1, e2, e3⟩ := List.pairwise_append.1 hL.each
      obtain ⟨e4, e5⟩ := List.pairwise_cons.1 e2
      have hoth : ∀ p, p ∈ PA ∨ p ∈ T → Dis (sb p.1.Rests) (sb q.1.Rests) := by
        rintro p (hp | hp)
        · exact e3 p hp q (by simp)
        · exact (e4 p hp).symm
      have hmem : ∀ p, p ∈ PA ∨ p ∈ T → p ∈ PA ++ q :: T := by
        rintro p (hp | hp) <;> simp [hp]
      have hothV : ∀ p, p ∈ PA ∨ p ∈ T → Sub (sb p.1.Rests) V20 := fun p hp b hb => hLV b (.inr ⟨p, hmem p hp, hb⟩)
      have hok : ∀ p, p ∈ PA ∨ p ∈ T → p.1.Price = p.2.price ∧ Own Rest.cells 5 T_Rest (stW w37 ((ad36.add (PA.length * 2)).add 1) [.slice x33.a x33.len x33.cap] 0) p.1.Rests p.2.rests ∧ Dis (sb p.1.Rests) (sb s18) := by
        intro p hp
        obtain ⟨a1, a2, a3⟩ := hL.ok p (hmem p hp)
        exact ⟨a1, ((a2.same (hU31.same0 (hothV p hp))).same (k2.same ((hothV p hp).trans hsub) (hoth p hp))).same (t3.same ((hothV p hp).trans hv35) a3), a3⟩
      have hU34 : Upd (fpL s ps) u V u34 V35 := (hU.trans hU31 fun b hb => hb.elim).trans k2 fun b hb => hA b (.inr ⟨q, hqm, hb⟩)
      refine ⟨t1, Out.fin hloc ⟨hU34.trans t3 fun b hb => hA b (.inl hb), fpL s18 (PA ++ (⟨q.1.Price, x33⟩, ⟨q.2.price, q.2.rests ++ [r]⟩) :: T), ?_, ?_, _, ⟨t2, ?_, ?_⟩, by simpa using hres, rfl⟩⟩
      · rintro b (hb | ⟨p, hp, hb⟩)
        · exact hv35 b (hrowV b hb)
        · rcases List.mem_append.1 hp with hp | hp
          · exact hv35 b (hothV p (.inl hp) b hb)
          · rcases List.mem_cons.1 hp with rfl | hp
            · exact k3 b hb
            · exact hv35 b (hothV p (.inr hp) b hb)
      · rintro b (hb | ⟨p, hp, hb⟩)
        · exact hA b (.inl hb)
        · rcases List.mem_append.1 hp with hp | hp
          · exact hA b (.inr ⟨p, hmem p (.inl hp), hb⟩)
          · rcases List.mem_cons.1 hp with rfl | hp
            · rcases hx33 b hb with hb | hb
              · exact hA b (.inr ⟨q, hqm, hb⟩)
              · exact .inr fun hv => hb (hU.vis _ hv)
            · exact hA b (.inr ⟨p, hmem p (.inr hp), hb⟩)
      · intro p hp
        rcases List.mem_append.1 hp with hp | hp
        · exact hok p (.inl hp)
        · rcases List.mem_cons.1 hp with rfl | hp
          · exact ⟨q1, k1.same (t3.same k3 hx33s), hx33s⟩
          · exact hok p (.inr hp)
      · have hnew : ∀ p, p ∈ PA ∨ p ∈ T → Dis (sb x33) (sb p.1.Rests) := fun p hp b hb hb2 => (hx33 b hb).elim (fun hx => hoth p hp b hb2 hx) fun hn => hn (hothV p hp b hb2)
        rw [List.pairwise_append]
        refine ⟨e1, List.pairwise_cons.2 ⟨fun p hp => hnew p (.inr hp), e5⟩, fun a ha b hb => ?_⟩
        rcases List.mem_cons.1 hb with rfl | hb
        · exact (hnew a (.inl ha)).symm
        · exact e3 a ha b (by simp [hb])
    have hsplit : ps = ps.take i ++ ps.drop i := (List.take_append_drop _ _).symm
    have hPA : (ps.take i).length = i := by rw [List.length_take]; omega
    have hrowV : Sub (sb s) V := fun b hb => hV b (.inl hb)
    have t2 : (l2 ps).take i = l2 (ps.take i) := by simp
    have d2 : (l2 ps).drop i = l2 (ps.drop i) := by simp
    -- a level is put in
    have hins : putB price r (l2 (ps.drop i)) = ⟨price, [r]⟩ :: l2 (ps.drop i) → Kj15 true u V := by
      intro hB
      refine hKj15 _ _ _ ?_
      refine joinI fun Kj21 hKj21 => ?_
      refine ifT ?_
      refine NewC.mk fun b22 u23 V24 hbd hge hcell hsub hb22 hbd' hrel => ?_
      have hU23 : Upd Nix u V u23 V24 := upd_new Nix hsub hrel
      have hnb : ¬ V b22 := not_vis hbd hge
      refine (g_slices_Insert_Level (x := ⟨price, ⟨none, 0, 0⟩⟩) (h.row.same (hU23.same0 hrowV)) (hrowV.trans hsub) hcell hb22 (fun hx => hnb (hrowV _ hx)) (i := i) (by simpa using hil) (by simp; omega)).mono fun x25 u26 V27 hbd3 ⟨hU26, S', hS', hA', hO', hSe⟩ => ?_
      subst hSe
      refine hKj21 _ _ _ ?_
      have hxs : ∀ b, sb x25 b → sb s b ∨ ¬ V b := fun b hb => (hA' b hb).imp id fun hn hv => hn (hsub _ hv)
      have hpV : ∀ p ∈ ps, Sub (sb p.1.Rests) V := fun p hp b hb => hV b (.inr ⟨p, hp, hb⟩)
      have hmem : ∀ p, p ∈ ps.take i ∨ p ∈ ps.drop i → p ∈ ps := by
        rintro p (hp | hp)
        · exact List.mem_of_mem_take hp
        · exact List.mem_of_mem_drop hp
      have hok : ∀ p ∈ ps, p.1.Price = p.2.price ∧ Own Rest.cells 5 T_Rest u26 p.1.Rests p.2.rests ∧ Dis (sb p.1.Rests) (sb x25) := by
        intro p hp
        obtain ⟨a1, a2, a3⟩ := h.ok p hp
        exact ⟨a1, (a2.same (hU23.same0 (hpV p hp))).same (hU26.same ((hpV p hp).trans hsub) a3), fun b hb hb2 => (hxs b hb2).elim (fun hx => a3 b hb hx) fun hn => hn (hpV p hp b hb)⟩
      obtain ⟨e1, e2, e3⟩ := List.pairwise_append.1 (hsplit ▸ h.each)
      refine main2 x25 u26 V27 (ps.take i) (ps.drop i) (⟨price, ⟨none, 0, 0⟩⟩, ⟨price, []⟩) hPA ⟨?_, ?_, ?_⟩ ?_ ((hU23.mono fun b hb => hb.elim).trans hU26 fun b hb => .inl (.inl hb)) ?_ (by simp) ?_
      · have : l1 (ps.take i ++ (⟨price, ⟨none, 0, 0⟩⟩, ⟨price, []⟩) :: ps.drop i) = (l1 ps).take i ++ [⟨price, ⟨none, 0, 0⟩⟩] ++ (l1 ps).drop i := by simp
        rw [this]; exact hO'
      · intro p hp
        rcases List.mem_append.1 hp with hp | hp
        · exact hok p (hmem p (.inl hp))
        · rcases List.mem_cons.1 hp with rfl | hp
          · exact ⟨rfl, Own.nil _ _ _ _, fun b hb => (sb_nil _ hb).elim⟩
          · exact hok p (hmem p (.inr hp))
      · rw [List.pairwise_append]
        refine ⟨e1, List.pairwise_cons.2 ⟨fun p hp b hb => (sb_nil _ hb).elim, e2⟩, fun a ha b hb => ?_⟩
        rcases List.mem_cons.1 hb with rfl | hb
        · exact fun k hk hk2 => (sb_nil _ hk2).elim
        · exact e3 a ha b hb
      · rintro b (hb | ⟨p, hp, hb⟩)
        · exact hS' b hb
        · rcases List.mem_append.1 hp with hp | hp
          · exact hU26.vis _ (hsub _ (hpV p (hmem p (.inl hp)) b hb))
          · rcases List.mem_cons.1 hp with rfl | hp
            · exact (sb_nil _ hb).elim
            · exact hU26.vis _ (hsub _ (hpV p (hmem p (.inr hp)) b hb))
      · rintro b (hb | ⟨p, hp, hb⟩)
        · exact (hxs b hb).imp .inl id
        · rcases List.mem_append.1 hp with hp | hp
          · exact .inl (.inr ⟨p, hmem p (.inl hp), hb⟩)
          · rcases List.mem_cons.1 hp with rfl | hp
            · exact (sb_nil _ hb).elim
            · exact .inl (.inr ⟨p, hmem p (.inr hp), hb⟩)
      · rw [hput, t2, d2, hB]; rfl
    refine ifB (fun hb => ?_) (fun hb => ?_)
    · have e : i = ps.length := by have := beq_iff_eq.1 hb; omega
      refine hins ?_
      rw [List.drop_of_length_le (by omega)]; rfl
    · have hlt : i < ps.length := by
        rcases Nat.lt_or_ge i ps.length with h | h
        · exact h
        · have : (i : Int) = (s.len : Int) := by omega
          rw [this] at hb; simp at hb
      refine hR.ixN (by simpa using hlt) fun ad16 lv _ hat hp hr => ⟨_, hat.fld hV rfl, ?_⟩
      have hdr : ps.drop i = ps[i] :: ps.drop (i + 1) := List.drop_eq_getElem_cons hlt
      have hpe : ∀ h, ((l2 ps)[i]'h).price = ps[i].2.price := fun h => by simp
      rw [hp, hpe]
      by_cases hpr : ps[i].2.price = price
      · have : (ps[i].2.price != price) = false := by simp [hpr]
        rw [this]
        refine hKj15 _ _ _ ?_
        refine joinI fun Kj21 hKj21 => ?_
        refine ifF (hKj21 _ _ _ ?_)
        refine main2 s u V (ps.take i) (ps.drop (i + 1)) ps[i] hPA ?_ ?_ (Upd.refl _ _ _) ?_ (hq _ (List.getElem_mem _)) ?_
        · rw [← hdr, ← hsplit]; exact h
        · rw [← hdr, ← hsplit]; exact hV
        · rw [← hdr, ← hsplit]; exact fun b hb => .inl hb
        · rw [hput, t2, d2, hdr]
          show _ = _ ++ putB price r (ps[i].2 :: l2 (ps.drop (i + 1)))
          rw [putB, if_pos hpr, hpr]
      · have : (ps[i].2.price != price) = true := by simp [hpr]
        rw [this]
        refine hins ?_
        rw [hdr]
        show putB price r (ps[i].2 :: l2 (ps.drop (i + 1))) = _
        rw [putB, if_neg hpr]; rfl
  refine LoopN.rangeR ps.length (fun k => ∀ j (hj : j < k) (hx : j < (l2 ps).length), ahd sd (l2 ps)[j].price price = true) (fun j hj => absurd hj (by omega)) ?_
  intro k hk hQ next hn
  refine ifB (fun hb => ?_) (fun hb => ?_)
  · have hlt : k < ps.length := by have := of_decide_eq_true hb; omega
    refine hR.ixN (by simpa using hlt) fun ad9 lv _ hat hp hr => ⟨_, hat.fld hV rfl, _, r_side_ahead hs _ _, ?_⟩
    rw [hp]
    refine ifB (fun hb2 => ?_) (fun hb2 => ?_)
    · refine ⟨rng_nat (by omega), hn hlt fun j hj hx => ?_⟩
      rcases Nat.lt_succ_iff_lt_or_eq.1 hj with h1 | rfl
      · exact hQ j h1 hx
      · exact hb2
    · have : i = k := by rw [hi]; exact posL_stop (by simpa using hlt) (fun j hj => hQ j hj _) hb2
      rw [← this]; exact hgo
  · have hge : k = ps.length := by have := of_decide_eq_false hb; omega
    have : i = k := by rw [hi, hge, posL_end (fun j hj => hQ j (by simpa [hge] using hj) hj)]; simp
    rw [← this]; exact hgo
end Go.Sx
