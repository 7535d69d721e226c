/-
  Contracts of functions that this claim reaches. Conditions: those of the statement alone.
-/
import Derived.Test.YtnjnpfhgblcgnaaDoorLv5
set_option linter.unusedVariables false
set_option linter.unusedSimpArgs false
set_option maxRecDepth 100000
namespace Go.Sx

theorem g_pitref1_Without {u : World} {V S : VP} {l : Sl} {xs : List Rest} (h : SlR Rest.cells u S l xs) (hS : Sub S V) {i : Nat} (hi : i < xs.length) (hm : xs.length ≤ 1000) :
    GC PP F_pitref1_Without [.slice l.a l.len l.cap, .int .i64 (i : Int)] u V (fun x => gval errT ((Enc.one eSl).enc x)) (Out Nix Nix u V fun x u' S' => Own Rest.cells 5 T_Rest u' x (cutR xs i) ∧ S' = sb x) := by
  refine s_pitref1_Without l i u V _ ?_
  have hloc : Loc (fun (x : Sl) u' (S' : VP) => Own Rest.cells 5 T_Rest u' x (cutR xs i) ∧ S' = sb x) := fun x u u' S h hs => ⟨h.1.same (h.2 ▸ hs), h.2⟩
  unfold vc_pitref1_Without
  have ei : ((i : Int) + 1) = ((i + 1 : Nat) : Int) := by omega
  rw [ei]
  simp only [Int.toNat_natCast]
  have hlen := h.len; have hle := h.le
  refine ⟨⟨by omega, by omega⟩, ?_⟩
  refine opv_append (s := ⟨none, 0, 0⟩) (r := ⟨l.a, i, l.cap⟩) ty_Sl_Rest co_Rest (Own.nil _ _ _ _) (fun b hb => (sb_nil _ hb).elim) (h.upto (k := i) (by omega)) hS _ (by simp; omega) (by simp; omega) ?_
  intro x1 u2 V3 k1 k2 k3 k4 _
  have hD1 : Dis (sb x1) V := fun b hb => (k4 b hb).elim (fun hx => (sb_nil _ hx).elim) id
  have hU : Upd Nix u V u2 V3 := k2.mono fun b hb => (sb_nil _ hb).elim
  refine ⟨rng_nat (by omega), ⟨by omega, by omega⟩, ?_⟩
  refine opv_append (s := x1) (r := ⟨cutA l.a l.cap (i + 1) 5, l.len - (i + 1), l.cap - (i + 1)⟩) ty_Sl_Rest co_Rest k1 k3 ((h.same (hU.same0 hS)).from co_Rest.len (l := i + 1) (by omega)) (hS.trans hU.vis) _ (by simp; omega) (by simp; omega) ?_
  intro x4 u5 V6 q1 q2 q3 q4 _
  refine Out.fin hloc ⟨hU.trans q2 fun b hb => .inr (hD1 b hb), sb x4, q3, fun b hb => ?_, by simpa [cutR] using q1, rfl⟩
  rcases q4 b hb with hb | hb
  · exact .inr (hD1 b hb)
  · exact .inr fun hv => hb (hU.vis _ hv)

theorem g_pitref1_Put {u : World} {V S : VP} {l : Sl} {xs : List PL} (h : LvR u S l xs) (hS : Sub S V) {sd : Int} (hs : sd = 1 ∨ sd = 2) (price : Int) (r : Rest) (hm : xs.length ≤ 1000) (hq : ∀ x ∈ xs, x.rests.length ≤ 1000) :
    GC PP F_pitref1_Put [.int .i64 sd, .slice l.a l.len l.cap, .int .i64 price, .agg (Rest.cells r).toArray] u V (fun x => gval errT ((Enc.one eSl).enc x)) (Out Nix S u V fun x u' S' => LvR u' S' x (putL sd xs price r)) := by
  refine s_pitref1_Put sd l price r u V _ ?_
  have hloc : Loc (fun (x : Sl) u' (S' : VP) => LvR u' S' x (putL sd xs price r)) := fun x u u' S h hs => h.same hs
  obtain ⟨ps, h1, h2, h3⟩ := h.pairs
  subst h2
  have hlen := h1.len; have hle := h1.le
  simp only [List.length_map] at hlen hm
  obtain ⟨i, hi⟩ : ∃ i, i = posL sd price (l2 ps) := ⟨_, rfl⟩
  have hil : i ≤ ps.length := by rw [hi]; have := posL_le sd price (l2 ps); simpa using this
  have hput : putL sd (l2 ps) price r = (l2 ps).take i ++ putB price r ((l2 ps).drop i) := by unfold putL; rw [← hi]
  have t2 : (l2 ps).take i = l2 (ps.take i) := by simp
  have d2 : (l2 ps).drop i = l2 (ps.drop i) := by simp
  unfold vc_pitref1_Put
  refine joinI fun Kj4 hKj4 => ?_
  have hgo : Kj4 (i : Int) u V := by
    refine hKj4 _ _ _ ?_
    simp only [Int.toNat_natCast]
    refine ⟨⟨by omega, by omega⟩, ?_⟩
    refine opv_append (s := ⟨none, 0, 0⟩) (r := ⟨l.a, i, l.cap⟩) ty_Sl_Level co_Level (Own.nil _ _ _ _) (fun b hb => (sb_nil _ hb).elim) (h1.upto (k := i) (by simpa using hil)) hS _ (by simp; omega) (by simp; omega) ?_
    intro x12 u13 V14 k1 k2 k3 k4 _
    have hD12 : Dis (sb x12) V := fun b hb => (k4 b hb).elim (fun hx => (sb_nil _ hx).elim) id
    have hU13 : Upd Nix u V u13 V14 := k2.mono fun b hb => (sb_nil _ hb).elim
    have hk1 : Own Level.cells 2 T_Level u13 x12 (l1 (ps.take i)) := by simpa using k1
    refine joinI fun Kj18 hKj18 => ?_
    have main2 : ∀ (i' : Nat) (rs : Sl) (u22 : World) (V23 : VP) (rl : List Rest), i' ≤ ps.length → Own Level.cells 2 T_Level u22 x12 (l1 (ps.take i)) → Upd Nix u V u22 V23 → Sub (sb x12) V23 → Own Rest.cells 5 T_Rest u22 rs rl → Sub (sb rs) V23 → Dis (sb rs) V → Dis (sb rs) (sb x12) → rl.length ≤ 1000 →
        l2 (ps.take i) ++ ⟨price, rl ++ [r]⟩ :: l2 (ps.drop i') = putL sd (l2 ps) price r →
        NewC u22 V23 T_Rest ((Rest.cells r)) fun b30 u31 V32 => OpV PP errT (Builtin.append_ #[T_Sl_Rest, T_Sl_Rest] T_Sl_Rest #[.slice rs.a rs.len rs.cap, .slice (some (⟨b30, 0, none⟩ : Addr)) 1 1]) (Enc.one eSl) u31 V32 fun (x33 : Sl) u34 V35 => NewC u34 V35 T_Level ((Level.cells (⟨price, x33⟩ : Level))) fun b36 u37 V38 => OpV PP errT (Builtin.append_ #[T_Sl_Level, T_Sl_Level] T_Sl_Level #[.slice x12.a x12.len x12.cap, .slice (some (⟨b36, 0, none⟩ : Addr)) 1 1]) (Enc.one eSl) u37 V38 fun (x39 : Sl) u40 V41 => ((0 ≤ (i' : Int) ∧ (i' : Int) ≤ (l.len : Int)) ∧ OpV PP errT (Builtin.append_ #[T_Sl_Level, T_Sl_Level] T_Sl_Level #[.slice x39.a x39.len x39.cap, .slice (cutA l.a l.cap i' 2) (l.len - i') (l.cap - i')]) (Enc.one eSl) u40 V41 fun (x42 : Sl) u43 V44 => Fin (Out Nix S u V fun x u' S' => LvR u' S' x (putL sd (l2 ps) price r)) x42 u43 V44) := by
      intro i' rs u22 V23 rl hi' hrow hU hx12 hrs hrsV hrsD hrsx hrl hres
      refine NewC.mk fun b30 u31 V32 hbd hge hcell hsub hb30 hbd' hrel => ?_
      have hU31 : Upd Nix u22 V23 u31 V32 := upd_new Nix hsub hrel
      have hX : SlR Rest.cells u31 (Blk b30) ⟨some ⟨b30, 0, none⟩, 1, 1⟩ [r] := (Own.new (e := T_Rest) (xs := [r]) co_Rest.len (by simpa using hcell) rfl (by simp)).toR.sub fun k hk => sb_iff.1 hk
      refine opv_append ty_Sl_Rest co_Rest (hrs.same (hU31.same0 hrsV)) (hrsV.trans hsub) hX (Sub.blk hb30) _ (by simp; omega) (by simp; omega) ?_
      intro x33 u34 V35 q1 q2 q3 q4 _
      have hx33 : Dis (sb x33) V := fun b hb => (q4 b hb).elim (fun hx => hrsD b hx) fun hn hv => hn (hsub _ (hU.vis _ hv))
      have hx33x : Dis (sb x33) (sb x12) := fun b hb hb2 => (q4 b hb).elim (fun hx => hrsx b hx hb2) fun hn => hn (hsub _ (hx12 b hb2))
      have hrow34 := (hrow.same (hU31.same0 hx12)).same (q2.same (hx12.trans hsub) fun b hb hb2 => hrsx b hb2 hb)
      have hU34 : Upd Nix u V u34 V35 := (hU.trans hU31 fun b hb => hb.elim).trans q2 fun b hb => .inr (hrsD b hb)
      refine NewC.mk fun b36 u37 V38 hbd2 hge2 hcell2 hsub2 hb36 hbd2' hrel2 => ?_
      have hU37 : Upd Nix u34 V35 u37 V38 := upd_new Nix hsub2 hrel2
      have hx12b : Sub (sb x12) V35 := (hx12.trans hsub).trans q2.vis
      have hX2 : SlR Level.cells u37 (Blk b36) ⟨some ⟨b36, 0, none⟩, 1, 1⟩ [⟨price, x33⟩] := (Own.new (e := T_Level) (xs := [⟨price, x33⟩]) co_Level.len (by simpa using hcell2) rfl (by simp)).toR.sub fun k hk => sb_iff.1 hk
      refine opv_append ty_Sl_Level co_Level (hrow34.same (hU37.same0 hx12b)) (hx12b.trans hsub2) hX2 (Sub.blk hb36) _ (by simp; omega) (by simp; omega) ?_
      intro x39 u40 V41 p1 p2 p3 p4 _
      have hx39 : Dis (sb x39) V := fun b hb => (p4 b hb).elim (fun hx => hD12 b hx) fun hn hv => hn (hsub2 _ (hU34.vis _ hv))
      have hx33y : Dis (sb x33) (sb x39) := fun b hb hb2 => (p4 b hb2).elim (fun hx => hx33x b hb hx) fun hn => hn (hsub2 _ (q3 b hb))
      have hU40 : Upd Nix u V u40 V41 := (hU34.trans hU37 fun b hb => hb.elim).trans p2 fun b hb => .inr (hD12 b hb)
      refine ⟨⟨by omega, by omega⟩, ?_⟩
      refine opv_append (s := x39) (r := ⟨cutA l.a l.cap i' 2, l.len - i', l.cap - i'⟩) ty_Sl_Level co_Level p1 p3 ((h1.same (hU40.same0 hS)).from co_Level.len (l := i') (by simpa using hi')) (hS.trans hU40.vis) _ (by simp; omega) (by simp; omega) ?_
      intro x42 u43 V44 m1 m2 m3 m4 _
      have hU43 : Upd Nix u V u43 V44 := hU40.trans m2 fun b hb => .inr (hx39 b hb)
      have hx33b : Sub (sb x33) V41 := (q3.trans hsub2).trans p2.vis
      have hO33 : Own Rest.cells 5 T_Rest u43 x33 (rl ++ [r]) := ((q1.same (hU37.same0 q3)).same (p2.same (q3.trans hsub2) hx33x)).same (m2.same hx33b hx33y)
      have hrowE : l1 (ps.take i) ++ [⟨price, x33⟩] ++ (l1 ps).drop i' = l1 (ps.take i ++ (⟨price, x33⟩, ⟨price, rl ++ [r]⟩) :: ps.drop i') := by simp
      rw [hrowE] at m1
      have hmE : l2 (ps.take i ++ (⟨price, x33⟩, ⟨price, rl ++ [r]⟩) :: ps.drop i') = putL sd (l2 ps) price r := by rw [← hres]; simp
      refine Out.fin hloc ⟨hU43, Or2 S (Or2 (sb x42) (sb x33)), Sub.or (hS.trans hU43.vis) (Sub.or m3 (hx33b.trans m2.vis)), ?_, ?_⟩
      · rintro b (hb | hb | hb)
        · exact .inl hb
        · rcases m4 b hb with hb | hb
          · exact .inr (hx39 b hb)
          · exact .inr fun hv => hb (hU40.vis _ hv)
        · exact .inr (hx33 b hb)
      · rw [← hmE]
        refine LvR.of (m1.toR.sub fun b hb => .inr (.inl hb)) fun p hp => ?_
        have hold : ∀ p ∈ ps, RR u43 (Or2 S (Or2 (sb x42) (sb x33))) p := fun p hp => ((h3 p hp).same (hU43.same0 hS)).sub fun b hb => .inl hb
        rcases List.mem_append.1 hp with hp | hp
        · exact hold p (List.mem_of_mem_take hp)
        · rcases List.mem_cons.1 hp with rfl | hp
          · exact ⟨rfl, hO33.toR.sub fun b hb => .inr (.inr hb)⟩
          · exact hold p (List.mem_of_mem_drop hp)
    have hnone : putB price r (l2 (ps.drop i)) = ⟨price, [r]⟩ :: l2 (ps.drop i) → Kj18 false u13 V14 := by
      intro hB
      refine hKj18 _ _ _ ?_
      refine joinI fun Kj24 hKj24 => ?_
      refine ifF (hKj24 _ _ _ ?_)
      refine main2 i ⟨none, 0, 0⟩ u13 V14 [] hil hk1 hU13 k3 (Own.nil _ _ _ _) (fun b hb => (sb_nil _ hb).elim) (fun b hb => (sb_nil _ hb).elim) (fun b hb => (sb_nil _ hb).elim) (by simp) ?_
      rw [hput, t2, d2, hB]; rfl
    refine ifB (fun hb => ?_) (fun hb => ?_)
    · have hlt : i < ps.length := by have := of_decide_eq_true hb; omega
      have hR13 := h.same (hU13.same0 hS)
      refine hR13.ixN (by simpa using hlt) fun ad19 lv _ hat hp hr => ⟨_, hat.fld (hS.trans hU13.vis) rfl, ?_⟩
      have hdr : ps.drop i = ps[i] :: ps.drop (i + 1) := List.drop_eq_getElem_cons hlt
      have hpe : ∀ h, ((l2 ps)[i]'h).price = ps[i].2.price := fun h => by simp
      rw [hp, hpe]
      by_cases hpr : ps[i].2.price = price
      · have : (ps[i].2.price == price) = true := by simp [hpr]
        rw [this]
        refine hKj18 _ _ _ ?_
        refine joinI fun Kj24 hKj24 => ?_
        refine ifT ?_
        refine hR13.ixN (by simpa using hlt) fun ad25 lv2 _ hat2 hp2 hr2 => ⟨_, hat2.fld (hS.trans hU13.vis) rfl, ?_⟩
        have hqe : ∀ h, ((l2 ps)[i]'h).rests = ps[i].2.rests := fun h => by simp
        rw [hqe] at hr2
        have hl60 : ps[i].2.rests.length ≤ 1000 := hq _ (List.mem_map.2 ⟨_, List.getElem_mem hlt, rfl⟩)
        refine opv_append (s := ⟨none, 0, 0⟩) (r := lv2.Rests) ty_Sl_Rest co_Rest (Own.nil _ _ _ _) (fun b hb => (sb_nil _ hb).elim) hr2 (hS.trans hU13.vis) _ (by simp; omega) (by simp; omega) ?_
        intro x27 u28 V29 q1 q2 q3 q4 _
        have hU28 : Upd Nix u13 V14 u28 V29 := q2.mono fun b hb => (sb_nil _ hb).elim
        have hD27 : Dis (sb x27) V14 := fun b hb => (q4 b hb).elim (fun hx => (sb_nil _ hx).elim) id
        have ei : ((i : Int) + 1) = ((i + 1 : Nat) : Int) := by omega
        refine ⟨rng_nat (by omega), ?_⟩
        rw [ei]
        refine hKj24 _ _ _ ?_
        simp only [Int.toNat_natCast]
        refine main2 (i + 1) x27 u28 V29 ps[i].2.rests (by omega) (hk1.same (hU28.same0 k3)) (hU13.trans hU28 fun b hb => hb.elim) (k3.trans hU28.vis) (by simpa using q1) q3 (fun b hb hv => hD27 b hb (hU13.vis _ hv)) (fun b hb hb2 => hD27 b hb (k3 b hb2)) hl60 ?_
        rw [hput, t2, d2, hdr]
        show _ = _ ++ putB price r (ps[i].2 :: l2 (ps.drop (i + 1)))
        rw [putB, if_pos hpr]
      · have : (ps[i].2.price == price) = false := by simp [hpr]
        rw [this]
        refine hnone ?_
        rw [hdr]
        show putB price r (ps[i].2 :: l2 (ps.drop (i + 1))) = _
        rw [putB, if_neg hpr]; rfl
    · have hge : ps.length ≤ i := by have := of_decide_eq_false hb; omega
      refine hnone ?_
      rw [List.drop_of_length_le hge]; rfl
  refine LoopN.rangeR ps.length (fun k => ∀ j (hj : j < k) (hx : j < (l2 ps).length), ahd sd (l2 ps)[j].price price = true) (fun j hj => absurd hj (by omega)) ?_
  intro k hk hQ next hn
  refine ifB (fun hb => ?_) (fun hb => ?_)
  · have hlt : k < ps.length := by have := of_decide_eq_true hb; omega
    refine ⟨by unfold Rng; rcases hs with rfl | rfl <;> omega, ?_⟩
    refine h.ixN (by simpa using hlt) fun ad9 lv _ hat hp hr => ⟨_, hat.fld hS rfl, _, r_pitref1_Ahead _ _ _ _ _, ?_⟩
    rw [hp, rahead_eq hs]
    refine ifB (fun hb2 => ?_) (fun hb2 => ?_)
    · refine ⟨rng_nat (by omega), hn hlt fun j hj hx => ?_⟩
      rcases Nat.lt_succ_iff_lt_or_eq.1 hj with h1 | rfl
      · exact hQ j h1 hx
      · exact hb2
    · have : i = k := by rw [hi]; exact posL_stop (by simpa using hlt) (fun j hj => hQ j hj _) hb2
      rw [← this]; exact hgo
  · have hge : k = ps.length := by have := of_decide_eq_false hb; omega
    have : i = k := by rw [hi, hge, posL_end (fun j hj => hQ j (by simpa [hge] using hj) hj)]; simp
    rw [← this]; exact hgo

theorem g_pitref1_Out {u : World} {V S : VP} {l : Sl} {xs : List PL} (h : LvR u S l xs) (hS : Sub S V) {i k : Nat} (hi : i < xs.length) (hk : k < xs[i].rests.length) (hm : xs.length ≤ 1000) (hq : ∀ x ∈ xs, x.rests.length ≤ 1000) :
    GC PP F_pitref1_Out [.slice l.a l.len l.cap, .int .i64 (i : Int), .int .i64 (k : Int)] u V (fun x => gval errT ((Enc.one eSl).enc x)) (Out Nix S u V fun x u' S' => LvR u' S' x (outL xs i k)) := by
  refine s_pitref1_Out l i k u V _ ?_
  have hloc : Loc (fun (x : Sl) u' (S' : VP) => LvR u' S' x (outL xs i k)) := fun x u u' S h hs => h.same hs
  obtain ⟨ps, h1, h2, h3⟩ := h.pairs
  subst h2
  have hlen := h1.len; have hle := h1.le
  simp only [List.length_map] at hlen hm
  have hil : i < ps.length := by simpa using hi
  have hk2 : k < ps[i].2.rests.length := by simpa using hk
  have hl60 : ps[i].2.rests.length ≤ 1000 := hq _ (List.mem_map.2 ⟨_, List.getElem_mem hil, rfl⟩)
  have hout : outL (l2 ps) i k = l2 (ps.take i) ++ outB k (ps[i].2 :: l2 (ps.drop (i + 1))) := by
    have e1 : (l2 ps).drop i = ps[i].2 :: l2 (ps.drop (i + 1)) := by
      rw [show (l2 ps).drop i = l2 (ps.drop i) by simp, List.drop_eq_getElem_cons hil]; rfl
    unfold outL
    rw [e1]; simp
  unfold vc_pitref1_Out
  have ei : ((i : Int) + 1) = ((i + 1 : Nat) : Int) := by omega
  rw [ei]
  simp only [Int.toNat_natCast]
  refine ⟨⟨by omega, by omega⟩, ?_⟩
  refine opv_append (s := ⟨none, 0, 0⟩) (r := ⟨l.a, i, l.cap⟩) ty_Sl_Level co_Level (Own.nil _ _ _ _) (fun b hb => (sb_nil _ hb).elim) (h1.upto (k := i) (by simp; omega)) hS _ (by simp; omega) (by simp; omega) ?_
  intro x1 u2 V3 k1 k2 k3 k4 _
  have hD1 : Dis (sb x1) V := fun b hb => (k4 b hb).elim (fun hx => (sb_nil _ hx).elim) id
  have hU2 : Upd Nix u V u2 V3 := k2.mono fun b hb => (sb_nil _ hb).elim
  have hk1 : Own Level.cells 2 T_Level u2 x1 (l1 (ps.take i)) := by simpa using k1
  have hqe : ∀ h, ((l2 ps)[i]'h).rests = ps[i].2.rests := fun h => by simp
  have hpe : ∀ h, ((l2 ps)[i]'h).price = ps[i].2.price := fun h => by simp
  refine (h.same (hU2.same0 hS)).ixN hi fun ad4 lv4 _ hat4 hp4 hr4 => ⟨_, hat4.fld (hS.trans hU2.vis) rfl, ?_⟩
  rw [hqe] at hr4
  refine (g_pitref1_Without hr4 (hS.trans hU2.vis) hk2 hl60).mono fun x6 u7 V8 hbd ⟨hU, S6, hS6, hA6, hO6, hSe⟩ => ?_
  subst hSe
  have hD6 : Dis (sb x6) V3 := fun b hb => (hA6 b hb).resolve_left fun x => x
  have hU7 : Upd Nix u V u7 V8 := hU2.trans hU fun b hb => hb.elim
  have hl6 := hO6.len
  have hk7 := hk1.same (hU.same0 k3)
  have hd61 : Dis (sb x6) (sb x1) := fun b hb hb2 => hD6 b hb (k3 b hb2)
  have hold : ∀ {W : World} {V' : VP} {R : VP}, Upd Nix u V W V' → ∀ p ∈ ps, RR W (Or2 S R) p := fun hW p hp => ((h3 p hp).same (hW.same0 hS)).sub fun b hb => .inl hb
  refine ifB (fun hb => ?_) (fun hb => ?_)
  · have h0 : ¬ (cutR ps[i].2.rests k).length = 0 := by have := of_decide_eq_true hb; omega
    refine (h.same (hU7.same0 hS)).ixN hi fun ad9 lv9 _ hat9 hp9 hr9 => ⟨ps[i].2.price, ?_, ?_⟩
    · rw [← hpe (by simpa using hil), ← hp9]; exact hat9.fld (hS.trans hU7.vis) rfl
    refine NewC.mk fun b11 u12 V13 hbd2 hge2 hcell2 hsub2 hb11 hbd2' hrel2 => ?_
    have hU12 : Upd Nix u7 V8 u12 V13 := upd_new Nix hsub2 hrel2
    have hX2 : SlR Level.cells u12 (Blk b11) ⟨some ⟨b11, 0, none⟩, 1, 1⟩ [⟨ps[i].2.price, x6⟩] := (Own.new (e := T_Level) (xs := [⟨ps[i].2.price, x6⟩]) co_Level.len (by simpa using hcell2) rfl (by simp)).toR.sub fun k hk => sb_iff.1 hk
    have hx1b : Sub (sb x1) V8 := k3.trans hU.vis
    refine opv_append ty_Sl_Level co_Level (hk7.same (hU12.same0 hx1b)) (hx1b.trans hsub2) hX2 (Sub.blk hb11) _ (by simp; omega) (by simp; omega) ?_
    intro x14 u15 V16 p1 p2 p3 p4 _
    have hx14 : Dis (sb x14) V := fun b hb => (p4 b hb).elim (fun hx => hD1 b hx) fun hn hv => hn (hsub2 _ (hU7.vis _ hv))
    have hd614 : Dis (sb x6) (sb x14) := fun b hb hb2 => (p4 b hb2).elim (fun hx => hd61 b hb hx) fun hn => hn (hsub2 _ (hS6 b hb))
    have hU15 : Upd Nix u V u15 V16 := (hU7.trans hU12 fun b hb => hb.elim).trans p2 fun b hb => .inr (hD1 b hb)
    refine ⟨rng_nat (by omega), ⟨by omega, by omega⟩, ?_⟩
    refine opv_append (s := x14) (r := ⟨cutA l.a l.cap (i + 1) 2, l.len - (i + 1), l.cap - (i + 1)⟩) ty_Sl_Level co_Level p1 p3 ((h1.same (hU15.same0 hS)).from co_Level.len (l := i + 1) (by simp; omega)) (hS.trans hU15.vis) _ (by simp; omega) (by simp; omega) ?_
    intro x17 u18 V19 m1 m2 m3 m4 _
    have hU18 : Upd Nix u V u18 V19 := hU15.trans m2 fun b hb => .inr (hx14 b hb)
    have hx6b : Sub (sb x6) V16 := (hS6.trans hsub2).trans p2.vis
    have hO18 : Own Rest.cells 5 T_Rest u18 x6 (cutR ps[i].2.rests k) := ((hO6.same (hU12.same0 hS6)).same (p2.same (hS6.trans hsub2) hd61)).same (m2.same hx6b hd614)
    have hrowE : l1 (ps.take i) ++ [⟨ps[i].2.price, x6⟩] ++ (l1 ps).drop (i + 1) = l1 (ps.take i ++ (⟨ps[i].2.price, x6⟩, ⟨ps[i].2.price, cutR ps[i].2.rests k⟩) :: ps.drop (i + 1)) := by simp
    rw [hrowE] at m1
    have hmE : l2 (ps.take i ++ (⟨ps[i].2.price, x6⟩, ⟨ps[i].2.price, cutR ps[i].2.rests k⟩) :: ps.drop (i + 1)) = outL (l2 ps) i k := by rw [hout, outB, if_neg h0]; simp
    refine Out.fin hloc ⟨hU18, Or2 S (Or2 (sb x17) (sb x6)), Sub.or (hS.trans hU18.vis) (Sub.or m3 (hx6b.trans m2.vis)), ?_, ?_⟩
    · rintro b (hb | hb | hb)
      · exact .inl hb
      · rcases m4 b hb with hb | hb
        · exact .inr (hx14 b hb)
        · exact .inr fun hv => hb (hU15.vis _ hv)
      · exact .inr fun hv => hD6 b hb (hU2.vis _ hv)
    · rw [← hmE]
      refine LvR.of (m1.toR.sub fun b hb => .inr (.inl hb)) fun p hp => ?_
      rcases List.mem_append.1 hp with hp | hp
      · exact hold hU18 p (List.mem_of_mem_take hp)
      · rcases List.mem_cons.1 hp with rfl | hp
        · exact ⟨rfl, hO18.toR.sub fun b hb => .inr (.inr hb)⟩
        · exact hold hU18 p (List.mem_of_mem_drop hp)
  · have h0 : (cutR ps[i].2.rests k).length = 0 := by have := of_decide_eq_false hb; omega
    refine ⟨rng_nat (by omega), ⟨by omega, by omega⟩, ?_⟩
    refine opv_append (s := x1) (r := ⟨cutA l.a l.cap (i + 1) 2, l.len - (i + 1), l.cap - (i + 1)⟩) ty_Sl_Level co_Level hk7 (k3.trans hU.vis) ((h1.same (hU7.same0 hS)).from co_Level.len (l := i + 1) (by simp; omega)) (hS.trans hU7.vis) _ (by simp; omega) (by simp; omega) ?_
    intro x20 u21 V22 m1 m2 m3 m4 _
    have hU21 : Upd Nix u V u21 V22 := hU7.trans m2 fun b hb => .inr (hD1 b hb)
    have hrowE : l1 (ps.take i) ++ (l1 ps).drop (i + 1) = l1 (ps.take i ++ ps.drop (i + 1)) := by simp
    rw [hrowE] at m1
    have hmE : l2 (ps.take i ++ ps.drop (i + 1)) = outL (l2 ps) i k := by rw [hout, outB, if_pos h0]; simp
    refine Out.fin hloc ⟨hU21, Or2 S (sb x20), Sub.or (hS.trans hU21.vis) m3, ?_, ?_⟩
    · rintro b (hb | hb)
      · exact .inl hb
      · rcases m4 b hb with hb | hb
        · exact .inr (hD1 b hb)
        · exact .inr fun hv => hb (hU7.vis _ hv)
    · rw [← hmE]
      refine LvR.of (m1.toR.sub fun b hb => .inr hb) fun p hp => ?_
      rcases List.mem_append.1 hp with hp | hp
      · exact hold hU21 p (List.mem_of_mem_take hp)
      · exact hold hU21 p (List.mem_of_mem_drop hp)

theorem g_pitref1_Add {u : World} {V S : VP} {l : Sl} {xs : List PL} (h : LvR u S l xs) (hS : Sub S V) {s : Int} (hs : s = 1 ∨ s = 2) (p : Int) (r : Rest) (hm : xs.length ≤ 60) (hq : ∀ x ∈ xs, x.rests.length ≤ 60) :
    GC PP F_pitref1_Add [.int .i64 s, .slice l.a l.len l.cap, .int .i64 p, .agg (Rest.cells r).toArray] u V (fun x => gval errT ((Enc.t2 eSl eInt).enc x))
      (Out Nix S u V fun x u' S' => LvR u' S' x.1 (addL s xs p r) ∧ x.2 = addF s xs p r) := by
  refine s_pitref1_Add s l p r u V _ ?_
  have hloc : Loc (fun (x : Sl × Int) u' (S' : VP) => LvR u' S' x.1 (addL s xs p r) ∧ x.2 = addF s xs p r) := fun x u u' S h hs => ⟨h.1.same hs, h.2⟩
  have bad2 : ∀ n : Int, n ≠ 0 → addF s xs p r = n → Fin (Out Nix S u V fun x u' S' => LvR u' S' x.1 (addL s xs p r) ∧ x.2 = addF s xs p r) ((⟨none, 0, 0⟩ : Sl), n) u V := fun n hn hF =>
    Out.fin hloc ⟨Upd.refl _ _ _, Nix, fun b hb => hb.elim, fun b hb => hb.elim, by unfold addL; rw [if_neg (by rw [hF]; exact hn)]; exact LvR.nil _ _ _ _, hF.symm⟩
  unfold vc_pitref1_Add
  refine ⟨_, r_pitref1_Price _ _ _, ?_⟩
  refine ifB (fun hb => ?_) (fun hb => ?_)
  · exact bad2 1 (by decide) (by unfold addF; rw [if_pos (by simpa using hb)])
  have h2 : ¬ p_pitref1_Price p = false := by simpa using hb
  refine ⟨_, r_pitref1_Rest _ _ _, ?_⟩
  rw [rrest_eq]
  refine ifB (fun hb => ?_) (fun hb => ?_)
  · have h3 : restF r ≠ 0 := by simpa using hb
    exact bad2 _ h3 (by unfold addF; rw [if_neg h2, if_pos h3])
  have h3 : ¬ restF r ≠ 0 := by simpa using hb
  refine ⟨_, r_pitref1_At h hS _, ?_⟩
  refine ifB (fun hb => ?_) (fun hb => ?_)
  · exact bad2 7 (by decide) (by unfold addF; rw [if_neg h2, if_neg h3, if_pos (of_decide_eq_true hb)])
  have h4 := of_decide_eq_false hb
  refine ⟨_, r_pitref1_Count h hS hq, ?_⟩
  refine ifB (fun hb => ?_) (fun hb => ?_)
  · have h5 : cntR xs ≥ 60 := by have := of_decide_eq_true hb; omega
    exact bad2 4 (by decide) (by unfold addF; rw [if_neg h2, if_neg h3, if_neg h4, if_pos h5])
  have h5 : ¬ cntR xs ≥ 60 := by have := of_decide_eq_false hb; omega
  have hF : addF s xs p r = 0 := by unfold addF; rw [if_neg h2, if_neg h3, if_neg h4, if_neg h5]
  refine (g_pitref1_Put h hS hs p r (by omega) fun x hx => by have := hq x hx; omega).mono fun x5 u6 V7 hbd ⟨hU, S1, hS1, hA1, hL⟩ => ?_
  exact Out.fin hloc ⟨hU, S1, hS1, hA1, by unfold addL; rw [if_pos hF]; exact hL, hF.symm⟩
end Go.Sx
