/-
  Contracts of functions that this claim reaches. Conditions: those of the statement alone.
-/
import Derived.Test.YtnjnpfhgblcgnaaDoorIns
import Derived.Test.YtnjnpfhgblcgnaaDoorTold
set_option linter.unusedVariables false
set_option linter.unusedSimpArgs false
set_option maxRecDepth 100000
namespace Go.Sx

/-! ### levels, each beside its meaning -/
abbrev LP := Level × PL
abbrev l1 (ps : List LP) : List Level := ps.map (·.1)
abbrev l2 (ps : List LP) : List PL := ps.map (·.2)
def RR (u : World) (S : VP) (p : LP) : Prop := p.1.Price = p.2.price ∧ SlR Rest.cells u S p.1.Rests p.2.rests
theorem RR.same {u u' : World} {S : VP} {p : LP} (h : RR u S p) (hs : Same S u u') : RR u' S p := ⟨h.1, h.2.same hs⟩
theorem RR.sub {u : World} {S T : VP} {p : LP} (h : RR u S p) (hs : Sub S T) : RR u T p := ⟨h.1, h.2.sub hs⟩
theorem LvR.pairs {u : World} {S : VP} {s : Sl} {xs : List PL} (h : LvR u S s xs) : ∃ ps : List LP, SlR Level.cells u S s (l1 ps) ∧ l2 ps = xs ∧ ∀ p ∈ ps, RR u S p := by
  obtain ⟨ls, h1, h2, h3⟩ := h
  have e1 : l1 (ls.zip xs) = ls := List.map_fst_zip (Nat.le_of_eq h2)
  have e2 : l2 (ls.zip xs) = xs := List.map_snd_zip (Nat.le_of_eq h2.symm)
  refine ⟨ls.zip xs, by rw [e1]; exact h1, e2, fun p hp => ?_⟩
  obtain ⟨i, hi, rfl⟩ := List.getElem_of_mem hp
  rw [List.getElem_zip]
  simp only [List.length_zip] at hi
  exact h3 i (by omega) (by omega)
theorem LvR.of {u : World} {S : VP} {s : Sl} {ps : List LP} (h : SlR Level.cells u S s (l1 ps)) (hp : ∀ p ∈ ps, RR u S p) : LvR u S s (l2 ps) := by
  refine ⟨l1 ps, h, by simp, fun i a b => ?_⟩
  simp only [List.getElem_map]
  exact hp _ (List.getElem_mem _)

/-! ### levels of one's own -/
structure LvO (u : World) (s : Sl) (ps : List LP) : Prop where
  row : Own Level.cells 2 T_Level u s (l1 ps)
  ok : ∀ p ∈ ps, p.1.Price = p.2.price ∧ Own Rest.cells 5 T_Rest u p.1.Rests p.2.rests ∧ Dis (sb p.1.Rests) (sb s)
  each : ps.Pairwise fun a b => Dis (sb a.1.Rests) (sb b.1.Rests)
def fpL (s : Sl) (ps : List LP) : VP := fun b => sb s b ∨ ∃ p ∈ ps, sb p.1.Rests b
theorem LvO.same {u u' : World} {s : Sl} {ps : List LP} (h : LvO u s ps) (hs : Same (fpL s ps) u u') : LvO u' s ps :=
  ⟨h.row.same (hs.sub fun b hb => .inl hb), fun p hp => ⟨(h.ok p hp).1, (h.ok p hp).2.1.same (hs.sub fun b hb => .inr ⟨p, hp, hb⟩), (h.ok p hp).2.2⟩, h.each⟩
theorem LvO.toR {u : World} {s : Sl} {ps : List LP} (h : LvO u s ps) : LvR u (fpL s ps) s (l2 ps) :=
  LvR.of (h.row.toR.sub fun b hb => .inl hb) fun p hp => ⟨(h.ok p hp).1, (h.ok p hp).2.1.toR.sub fun b hb => .inr ⟨p, hp, hb⟩⟩

theorem g_side_Own {u : World} {V S : VP} {l : Sl} {xs : List PL} (h : LvR u S l xs) (hS : Sub S V) (hm : xs.length ≤ 1000) (hq : ∀ x ∈ xs, x.rests.length ≤ 1000) :
    GC PP F_side_Own [.slice l.a l.len l.cap] u V (fun x => gval errT ((Enc.one eSl).enc x)) (Out Nix Nix u V fun x u' S' => ∃ ps, LvO u' x ps ∧ l2 ps = xs ∧ S' = fpL x ps) := by
  refine s_side_Own l u V _ ?_
  have hloc : Loc (fun (x : Sl) u' (S' : VP) => ∃ ps, LvO u' x ps ∧ l2 ps = xs ∧ S' = fpL x ps) := fun x u u' S ⟨ps, h1, h2, h3⟩ hs => ⟨ps, h1.same (h3 ▸ hs), h2, h3⟩
  obtain ⟨ps, h1, h2, h3⟩ := h.pairs
  have hpl : ps.length = xs.length := by rw [← h2]; simp
  unfold vc_side_Own
  refine (g_slices_Clone_Level h1 hS (by simp; omega)).mono fun x1 u2 V3 hbd ⟨hU1, S1, hS1, hD1, hO, hSe⟩ => ?_
  subst hSe
  have hD1' : Dis (sb x1) V := fun b hb => (hD1 b hb).resolve_left fun x => x
  refine LoopN.st (fun (t : Int) u' V' => ∃ A B : List LP, t = (A.length : Int) ∧ l2 A ++ l2 B = xs ∧ (∀ p ∈ B, p ∈ ps) ∧ Own Level.cells 2 T_Level u' x1 (l1 A ++ l1 B) ∧ Upd Nix u V u' V' ∧ Sub (sb x1) V' ∧
      (∀ p ∈ A, p.1.Price = p.2.price ∧ Own Rest.cells 5 T_Rest u' p.1.Rests p.2.rests ∧ Dis (sb p.1.Rests) (sb x1) ∧ Sub (sb p.1.Rests) V' ∧ Dis (sb p.1.Rests) V) ∧ A.Pairwise fun a b => Dis (sb a.1.Rests) (sb b.1.Rests))
    (fun t => xs.length - t.toNat)
    ⟨[], ps, rfl, h2, fun p hp => hp, hO, hU1, hS1, (fun p hp => (List.not_mem_nil hp).elim), List.Pairwise.nil⟩ ?_
  rintro _ u5 V6 ⟨A, B, rfl, hx, hB, hrow, hU, hx1, hA, hpw⟩ next7 hn7
  simp only [Int.toNat_natCast]
  have hlen := hrow.len
  have hxl := congrArg List.length hx
  simp only [List.length_append, List.length_map] at hlen hxl
  refine ifB (fun hb => ?_) (fun hb => ?_)
  · have hlt : A.length < x1.len := by have := of_decide_eq_true hb; omega
    obtain ⟨q, B', rfl⟩ : ∃ q B', B = q :: B' := by
      cases B with
      | nil => simp at hlen; omega
      | cons q B' => exact ⟨q, B', rfl⟩
    have hqr := (h3 q (hB q (by simp))).same (hU.same0 hS)
    have hget : ∀ (z : Level) (h : A.length < (l1 A ++ z :: l1 B').length), (l1 A ++ z :: l1 B')[A.length] = z := by
      intro z h
      rw [List.getElem_append_right (by simp)]; simp
    have hil : A.length < (l1 A ++ l1 (q :: B')).length := by simp
    refine hrow.toR.ixN co_Level.len hil fun ad8 _ hat8 => ?_
    have e8 : (l1 A ++ l1 (q :: B'))[A.length] = q.1 := hget q.1 (by simp)
    rw [e8] at hat8
    refine ⟨q.1, hat8.sub hx1, ?_⟩
    have hql : q.2.rests.length ≤ 1000 := hq _ (by rw [← hx]; simp)
    refine (g_slices_Clone_Rest hqr.2 (hS.trans hU.vis) (by omega)).mono fun x10 u11 V12 hbd2 ⟨hU2, S2, hS2, hD2, hO2, hSe2⟩ => ?_
    subst hSe2
    have hD2' : Dis (sb x10) V6 := fun b hb => (hD2 b hb).resolve_left fun x => x
    have hrow2 := hrow.same (hU2.same0 hx1)
    refine hrow2.toR.ixN co_Level.len hil fun ad13 had13 hat13 => ?_
    intro w14 hw14
    obtain ⟨t1, t2, t3⟩ := Own.st co_Level hrow2 (hx1.trans hU2.vis) hil (j := 1) (l := [.slice x10.a x10.len x10.cap]) (x' := ⟨q.1.Price, x10⟩) (by simp [Value.oneCell']) (by simp) (by rw [e8]; rfl) had13 (p := (ad13.add (A.length * 2)).add 1) (by rw [Addr.add_add]) rfl hw14
    have hset : (l1 A ++ l1 (q :: B')).set A.length ⟨q.1.Price, x10⟩ = l1 (A ++ [(⟨q.1.Price, x10⟩, q.2)]) ++ l1 B' := by
      rw [List.set_append_right _ _ (by simp)]
      simp
    rw [hset] at t2
    have hU3 : Upd Nix u V u11 V12 := hU.trans hU2 fun b hb => hb.elim
    have hU4 : Upd Nix u V (stW w14 ((ad13.add (A.length * 2)).add 1) [.slice x10.a x10.len x10.cap] 0) V12 := hU3.trans t3 fun b hb => .inr (hD1' b hb)
    refine ⟨t1, ⟨by unfold Rng; omega, hn7 _ _ _ ⟨A ++ [(⟨q.1.Price, x10⟩, q.2)], B', by simp, by rw [← hx]; simp, fun p hp => hB p (by simp [hp]), t2, hU4, hx1.trans hU2.vis, ?_, ?_⟩ (by omega)⟩⟩
    · intro p hp
      rcases List.mem_append.1 hp with hp | hp
      · obtain ⟨a1, a2, a3, a4, a5⟩ := hA p hp
        exact ⟨a1, (a2.same (hU2.same0 a4)).same (t3.same (a4.trans hU2.vis) a3), a3, a4.trans hU2.vis, a5⟩
      · obtain rfl := List.mem_singleton.1 hp
        have ha3 : Dis (sb x10) (sb x1) := fun b hb hb1 => hD2' b hb (hx1 b hb1)
        exact ⟨hqr.1, hO2.same (t3.same hS2 ha3), ha3, hS2, fun b hb hv => hD2' b hb (hU.vis _ hv)⟩
    · rw [List.pairwise_append]
      refine ⟨hpw, List.pairwise_singleton _ _, fun a ha b hb => ?_⟩
      obtain rfl := List.mem_singleton.1 hb
      exact fun k hk hk2 => hD2' k hk2 ((hA a ha).2.2.2.1 k hk)
  · have hge : x1.len ≤ A.length := by have := of_decide_eq_false hb; omega
    have hBn : B = [] := List.eq_nil_of_length_eq_zero (by omega)
    subst hBn
    simp only [List.map_nil, List.append_nil] at hrow hx
    refine Out.fin hloc ⟨hU, fpL x1 A, ?_, ?_, A, ⟨hrow, fun p hp => ⟨(hA p hp).1, (hA p hp).2.1, (hA p hp).2.2.1⟩, hpw⟩, hx, rfl⟩
    · rintro b (hb | ⟨p, hp, hb⟩)
      · exact hx1 b hb
      · exact (hA p hp).2.2.2.1 b hb
    · rintro b (hb | ⟨p, hp, hb⟩)
      · exact .inr (hD1' b hb)
      · exact .inr ((hA p hp).2.2.2.2 b hb)
end Go.Sx
