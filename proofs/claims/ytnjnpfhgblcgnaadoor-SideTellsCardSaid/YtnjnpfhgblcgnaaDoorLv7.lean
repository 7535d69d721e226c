/-
  Contracts of functions that this claim reaches. Conditions: those of the statement alone.
-/
import Derived.Test.YtnjnpfhgblcgnaaDoorLv6
set_option linter.unusedVariables false
set_option linter.unusedSimpArgs false
set_option maxRecDepth 100000
namespace Go.Sx
open Go.RowKit

/-! ### pairs are compared -/
theorem part_int {P : Program} {T : Nat} (h : P.underlying T = some (.int .i64)) (xs : Array Value) (j : Nat) (v : Value) (hj : xs[j]? = some v) (w : World) : (part T xs j).run P w = .ok v w := by
  simp [part, isAgg, run_underlying h, hj]
theorem eqIn_arr2 {P : Program} {T e : Nat} (h : P.underlying T = some (.array 2 e)) (he : P.underlying e = some (.int .i64)) (hs : ∀ w, (sizeOf e).run P w = .ok 1 w) (D : Nat) (q : ∀ (z z' : Int) w, (Op.equalIn D e (.int .i64 z) (.int .i64 z')).run P w = .ok (z == z') w) (a b x y : Int) (w : World) :
    (Op.equalIn (D + 1) T (.agg #[.int .i64 a, .int .i64 b]) (.agg #[.int .i64 x, .int .i64 y])).run P w = .ok ([a, b] == [x, y]) w := by
  have p0 : ∀ (z z' : Int) w, (part e #[.int .i64 z, .int .i64 z'] 0).run P w = .ok (.int .i64 z) w := fun z z' w => part_int he _ 0 _ rfl w
  have p1 : ∀ (z z' : Int) w, (part e #[.int .i64 z, .int .i64 z'] 1).run P w = .ok (.int .i64 z') w := fun z z' w => part_int he _ 1 _ rfl w
  simp only [Op.equalIn, Sem.run_bind, run_underlying h, Result.andThen_ok, hs]
  simp [Std.Legacy.Range.forIn_eq_forIn_range', List.range', p0, p1, q]
  by_cases h1 : a = x <;> by_cases h2 : b = y <;> simp [h1, h2, p0, p1, q]
theorem neq_A2 (a b : Arr2_Int) (w : World) : (binOp .neq T_A2_i64 (.agg (Arr2_Int.cells a).toArray) (.agg (Arr2_Int.cells b).toArray)).run PP w = .ok (.bool (!(a.L == b.L))) w := by
  have h1 : PP.underlying T_A2_i64 = some (.array 2 3) := by kernel_rfl
  have h2 : PP.underlying 3 = some (.int .i64) := by kernel_rfl
  have h3 : ((PP.info? 3).map (·.size)) = some 1 := by kernel_rfl
  have hs : ∀ w, (sizeOf 3).run PP w = .ok 1 w := by
    intro w
    cases hi : PP.info? 3 with
    | none => rw [hi] at h3; cases h3
    | some i => rw [hi] at h3; rw [run_sizeOf' hi]; exact congrArg (fun n => Result.ok n w) (Option.some.inj h3)
  rw [run_neq_struct]
  have := eqIn_arr2 h1 h2 hs 9999 (fun z z' w => run_equalIn_int w 9998 3 .i64 .i64 z z' h2) a.x0 a.x1 b.x0 b.x1 w
  show ((Op.equalIn (9999 + 1) T_A2_i64 (.agg #[.int .i64 a.x0, .int .i64 a.x1]) (.agg #[.int .i64 b.x0, .int .i64 b.x1])).run PP w).andThen _ = _
  rw [this]
  rfl
theorem grd_A2 (op : BinOp) (x y : Operand) (xs ys : Array Value) (w : World) : (eqGuard op T_A2_i64 x y (.agg xs) (.agg ys)).run PP w = .ok () w := run_eqGuard_agg w op T_A2_i64 x y xs ys (by kernel_rfl)

/-! ### levels are the same -/
theorem PL_eq {a b : PL} (h1 : a.price = b.price) (h2 : a.rests = b.rests) : a = b := by
  cases a; cases b; cases h1; cases h2; rfl
theorem r_pitsame_Levels {u : World} {V S T : VP} {a b : Sl} {xs ys : List PL} (ha : LvR u S a xs) (hS : Sub S V) (hb : LvR u T b ys) (hT : Sub T V) :
    ∃ r : Bool, (r = true ↔ xs = ys) ∧ ROc PP F_pitsame_Levels [.slice a.a a.len a.cap, .slice b.a b.len b.cap] u V (gval errT ((Enc.one eBool).enc r)) := by
  have hla := ha.len; have hlb := hb.len; have hbig := ha.big
  refine ⟨@decide (xs = ys) (Classical.propDecidable _), by simp, ?_⟩
  have no : xs ≠ ys → false = @decide (xs = ys) (Classical.propDecidable _) := fun h => by simp [h]
  have yes : xs = ys → true = @decide (xs = ys) (Classical.propDecidable _) := fun h => by simp [h]
  refine s_pitsame_Levels a b u V _ ?_
  unfold vc_pitsame_Levels
  refine ifB (fun hb1 => ?_) (fun hb1 => ?_)
  · refine ⟨no fun e => ?_, ext_refl _ _⟩
    rw [hla, hlb, e] at hb1; simp at hb1
  have hl : xs.length = ys.length := by
    rw [hla, hlb] at hb1
    have : (xs.length : Int) = (ys.length : Int) := by simpa using hb1
    omega
  refine LoopN.rangeR xs.length (fun i => ∀ j (hj : j < i) (h1 : j < xs.length) (h2 : j < ys.length), xs[j] = ys[j]) (fun j hj => absurd hj (by omega)) ?_
  intro i hi hQ next hn
  refine ifB (fun hb2 => ?_) (fun hb2 => ?_)
  · have hlt : i < xs.length := by have := of_decide_eq_true hb2; omega
    have hlt2 : i < ys.length := by omega
    refine ha.ixN hlt fun ad5 lv5 _ hat5 hp5 hr5 => ⟨_, hat5.fld hS rfl, ?_⟩
    refine hb.ixN hlt2 fun ad7 lv7 _ hat7 hp7 hr7 => ⟨_, hat7.fld hT rfl, ?_⟩
    obtain ⟨r, hr, hro⟩ := r_pitsame_Rests hr5 hS hr7 hT
    refine ⟨r, hro, ?_⟩
    refine ifB (fun hb3 => ?_) (fun hb3 => ?_)
    · refine ⟨no fun e => ?_, ext_refl _ _⟩
      have : xs[i].rests = ys[i].rests := by subst e; rfl
      rw [hr.2 this] at hb3; cases hb3
    have hrr : xs[i].rests = ys[i].rests := hr.1 (by simpa using hb3)
    refine ha.ixN hlt fun ad10 lv10 _ hat10 hp10 hr10 => ⟨_, hat10.fld hS rfl, ?_⟩
    refine hb.ixN hlt2 fun ad12 lv12 _ hat12 hp12 hr12 => ⟨_, hat12.fld hT rfl, ?_⟩
    rw [hp10, hp12]
    refine ifB (fun hb4 => ?_) (fun hb4 => ?_)
    · refine ⟨no fun e => ?_, ext_refl _ _⟩
      subst e; simp at hb4
    · refine ⟨rng_nat (by omega), hn hlt fun j hj h1 h2 => ?_⟩
      rcases Nat.lt_succ_iff_lt_or_eq.1 hj with h | rfl
      · exact hQ j h h1 h2
      · exact PL_eq (by simpa using hb4) hrr
  · have hge : xs.length ≤ i := by have := of_decide_eq_false hb2; omega
    exact ⟨yes (List.ext_getElem hl fun j h1 h2 => hQ j (by omega) h1 h2), ext_refl _ _⟩

/-! ### how deep a side is -/
def sumQ (l : List Rest) : Int := (l.map (·.Qty)).sum
theorem sumQ_take_succ {l : List Rest} {j : Nat} (hj : j < l.length) : sumQ (l.take (j + 1)) = sumQ (l.take j) + l[j].Qty := by
  unfold sumQ; rw [List.take_succ_eq_append_getElem hj, List.map_append, List.sum_append]; simp
theorem sumQ_bd {l : List Rest} (hq : ∀ r ∈ l, 1 ≤ r.Qty ∧ r.Qty ≤ 10000) (j : Nat) (hj : j ≤ l.length) : 0 ≤ sumQ (l.take j) ∧ sumQ (l.take j) ≤ 10000 * (j : Int) := by
  induction j with
  | zero => simp [sumQ]
  | succ j ih =>
    rw [sumQ_take_succ (by omega)]
    have := ih (by omega)
    have := hq _ (List.getElem_mem (show j < l.length by omega))
    omega
abbrev dv (xs : List PL) : List Arr2_Int := xs.map fun x => ⟨x.price, sumQ x.rests⟩
theorem restF_qty {r : Rest} (h : restF r = 0) : 1 ≤ r.Qty ∧ r.Qty ≤ 10000 := by
  unfold restF at h
  split at h
  · cases h
  · rename_i h1; omega
theorem qF_all : ∀ (l pre : List Rest), qF pre l = 0 → ∀ r ∈ l, restF r = 0 := by
  intro l
  induction l with
  | nil => intro pre _ r hr; cases hr
  | cons x l ih =>
    intro pre h r hr
    rw [qF] at h
    split at h
    · rename_i h1; exact absurd h h1
    · rename_i h1
      split at h
      · cases h
      · rcases List.mem_cons.1 hr with rfl | hr
        · exact Decidable.not_not.1 h1
        · exact ih _ h r hr
theorem lvF_qty {s : Int} {xs : List PL} (h : lvF s xs = 0) : ∀ x ∈ xs, ∀ r ∈ x.rests, 1 ≤ r.Qty ∧ r.Qty ≤ 10000 := by
  have h0 : lgo s none xs = 0 := by
    unfold lvF at h
    split at h
    · cases h
    · split at h
      · rename_i h2; exact absurd h h2
      · rename_i h2; exact Decidable.not_not.1 h2
  have hg : ∀ (ys : List PL) (prev : Option Int), lgo s prev ys = 0 → ∀ x ∈ ys, ∀ r ∈ x.rests, 1 ≤ r.Qty ∧ r.Qty ≤ 10000 := by
    intro ys
    induction ys with
    | nil => intro prev _ x hx; cases hx
    | cons y ys ih =>
      intro prev hy x hx
      obtain ⟨a1, a2, a3⟩ := lgo_cons hy
      rcases List.mem_cons.1 hx with rfl | hx
      · intro r hr
        unfold queueF at a2
        split at a2
        · cases a2
        · exact restF_qty (qF_all _ _ a2 r hr)
      · exact ih _ a3 x hx
  exact hg xs none h0
def depF (s : Int) (xs : List PL) (n : Int) : Int := if lvF s xs ≠ 0 then lvF s xs else if n < 0 then 1 else 0
def depN (s : Int) (xs : List PL) (n : Int) : Nat := if depF s xs n = 0 then min xs.length n.toNat else 0
def depL (s : Int) (xs : List PL) (n : Int) : List Arr2_Int := dv (xs.take (depN s xs n))
theorem depN_le (s : Int) (xs : List PL) (n : Int) : depN s xs n ≤ xs.length := by unfold depN; split <;> omega
theorem g_side_Depth {u : World} {V S : VP} {l : Sl} {xs : List PL} (h : LvR u S l xs) (hS : Sub S V) (s n : Int) :
    GC PP F_side_Depth [.int .i64 s, .slice l.a l.len l.cap, .int .i64 n] u V (fun x => gval errT ((Enc.t2 eSl Enc1.err).enc x)) (Out Nix Nix u V fun x u' S' => SlR Arr2_Int.cells u' S' x.1 (depL s xs n) ∧ x.2 = errOf (depF s xs n)) := by
  refine s_side_Depth s l n u V _ ?_
  have hloc : Loc (fun (x : Sl × Option Int) u' (S' : VP) => SlR Arr2_Int.cells u' S' x.1 (depL s xs n) ∧ x.2 = errOf (depF s xs n)) := fun x u u' S h hs => ⟨h.1.same hs, h.2⟩
  have hlen := h.len; have hle := h.le
  have bad : ∀ m : Int, m ≠ 0 → depF s xs n = m → Fin (Out Nix Nix u V fun x u' S' => SlR Arr2_Int.cells u' S' x.1 (depL s xs n) ∧ x.2 = errOf (depF s xs n)) ((⟨none, 0, 0⟩ : Sl), some m) u V := fun m hm hF =>
    Out.fin hloc ⟨Upd.refl _ _ _, Nix, fun b hb => hb.elim, fun b hb => hb.elim, by
      have : depL s xs n = [] := by unfold depL depN; rw [if_neg (by rw [hF]; exact hm)]; rfl
      rw [this]; exact SlR.nil _ _ _ _ _, by rw [hF, errOf_ne hm]⟩
  unfold vc_side_Depth
  refine ⟨_, r_side_Check h hS s, ?_⟩
  rw [isSome_errOf]
  refine ifB (fun hb => ?_) (fun hb => ?_)
  · have h1 := of_decide_eq_true hb
    rw [errOf_ne h1]
    exact bad _ h1 (by unfold depF; rw [if_pos h1])
  have h1 : lvF s xs = 0 := by have := of_decide_eq_false hb; exact Decidable.not_not.1 this
  obtain ⟨hs, hq, hxl, hcl⟩ := lvF_zero h1
  have hqt := lvF_qty h1
  refine ifB (fun hb => ?_) (fun hb => ?_)
  · exact bad 1 (by decide) (by unfold depF; rw [if_neg (by simp [h1]), if_pos (of_decide_eq_true hb)])
  have hn0 := of_decide_eq_false hb
  have hF : depF s xs n = 0 := by unfold depF; rw [if_neg (by simp [h1]), if_neg hn0]
  have hN : depN s xs n = min xs.length n.toNat := by unfold depN; rw [if_pos hF]
  have hmin : (if (l.len : Int) < n then (l.len : Int) else n) = ((depN s xs n : Nat) : Int) := by
    rw [hN]; split <;> omega
  rw [hmin]
  have hNl := depN_le s xs n
  simp only [Int.toNat_natCast]
  refine ⟨⟨by omega, by omega⟩, ?_⟩
  refine LoopN.st (fun (t : Sl × Int) u' V' => ∃ i : Nat, t.2 = i ∧ i ≤ depN s xs n ∧ Own Arr2_Int.cells 2 T_A2_i64 u' t.1 (dv (xs.take i)) ∧ Upd Nix u V u' V' ∧ Sub (sb t.1) V' ∧ Dis (sb t.1) V) (fun t => depN s xs n - t.2.toNat)
    ⟨0, rfl, Nat.zero_le _, Own.nil _ _ _ _, Upd.refl _ _ _, fun b hb => (sb_nil _ hb).elim, fun b hb => (sb_nil _ hb).elim⟩ ?_
  rintro ⟨o, _⟩ u1 V1 ⟨i, rfl, hi, hO, hU, hVo, hDo⟩ next hn
  simp only at hO hVo hDo
  simp only [Int.toNat_natCast]
  refine ifB (fun hb => ?_) (fun hb => ?_)
  · have hlt : i < depN s xs n := by have := of_decide_eq_true hb; omega
    have hlx : i < xs.length := by omega
    have h1' := h.same (hU.same0 hS)
    have hmem := List.getElem_mem hlx
    refine ⟨⟨by omega, by omega⟩, ((h1'.ixN hlx (K := _) fun ad lv _ hat hp hr => ?_).2)⟩
    refine ⟨lv, hat.sub (hS.trans hU.vis), ?_⟩
    have hrl := hr.len; have hql := hq _ hmem
    refine LoopN.st (fun (t : Int × Int) u' V' => u' = u1 ∧ V' = V1 ∧ ∃ j : Nat, t.2 = j ∧ j ≤ xs[i].rests.length ∧ t.1 = sumQ (xs[i].rests.take j)) (fun t => xs[i].rests.length - t.2.toNat)
      ⟨rfl, rfl, 0, rfl, Nat.zero_le _, rfl⟩ ?_
    rintro ⟨c, _⟩ u9 V10 ⟨rfl, rfl, j, rfl, hj, hc⟩ next11 hn11
    simp only at hc
    subst hc
    simp only [Int.toNat_natCast]
    have hbd := sumQ_bd (hqt _ hmem) j hj
    refine ifB (fun hb2 => ?_) (fun hb2 => ?_)
    · have hlt2 : j < xs[i].rests.length := by have := of_decide_eq_true hb2; omega
      have hq1 := hqt _ hmem _ (List.getElem_mem hlt2)
      refine hr.ixN co_Rest.len hlt2 fun ad12 _ hat12 => ⟨_, hat12.sub (hS.trans hU.vis), ?_⟩
      refine ⟨by unfold Rng; omega, rng_nat (by omega), hn11 (_, _) _ _ ⟨rfl, rfl, j + 1, rfl, by omega, (sumQ_take_succ hlt2).symm⟩ (by simp only; omega)⟩
    · have hge : xs[i].rests.length ≤ j := by have := of_decide_eq_false hb2; omega
      rw [List.take_of_length_le hge]
      rw [hp]
      refine NewC.mk fun b14 u15 V16 hbd2 hge2 hcell hsub hb14 hbd' hrel => ?_
      have hU15 : Upd Nix u9 V10 u15 V16 := upd_new Nix hsub hrel
      have hX : SlR Arr2_Int.cells u15 (Blk b14) ⟨some ⟨b14, 0, none⟩, 1, 1⟩ [⟨xs[i].price, sumQ xs[i].rests⟩] := (Own.new (e := T_A2_i64) (xs := [⟨xs[i].price, sumQ xs[i].rests⟩]) co_Arr2_Int.len (by simpa using hcell) rfl (by simp)).toR.sub fun k hk => sb_iff.1 hk
      refine opv_append ty_Sl_A2_i64 co_Arr2_Int (hO.same (hU15.same0 hVo)) (hVo.trans hsub) hX (Sub.blk hb14) _ (by simp; omega) (by simp; omega) ?_
      intro x17 u18 V19 k1 k2 k3 k4 _
      have hdv : dv (xs.take i) ++ [⟨xs[i].price, sumQ xs[i].rests⟩] = dv (xs.take (i + 1)) := by
        show _ = List.map _ (xs.take (i + 1))
        rw [List.take_succ_eq_append_getElem hlx, List.map_append]; rfl
      rw [hdv] at k1
      refine ⟨rng_nat (by omega), hn (_, _) _ _ ⟨i + 1, rfl, by omega, k1, (hU.trans hU15 fun b hb => hb.elim).trans k2 fun b hb => .inr (hDo b hb), k3, fun b hb => ?_⟩ (by simp only; omega)⟩
      rcases k4 b hb with hb | hb
      · exact hDo b hb
      · exact fun hv => hb (hsub _ (hU.vis _ hv))
  · have hge : i = depN s xs n := by have := of_decide_eq_false hb; omega
    subst hge
    exact Out.fin hloc ⟨hU, sb o, hVo, fun b hb => .inr (hDo b hb), hO.toR, by rw [hF]; rfl⟩
end Go.Sx
