/-
  Contracts of functions that this claim reaches. Conditions: those of the statement alone.
-/
import Derived.Test.YtnjnpfhgblcgnaaDoorQ1
set_option linter.unusedVariables false
set_option linter.unusedSimpArgs false
set_option maxRecDepth 100000
namespace Go.Sx

/-! ### levels that are read -/
structure PL where
  price : Int
  rests : List Rest
def LvR (u : World) (S : VP) (s : Sl) (xs : List PL) : Prop :=
  ∃ ls : List Level, SlR Level.cells u S s ls ∧ ls.length = xs.length ∧ ∀ i (h : i < ls.length) (h' : i < xs.length), ls[i].Price = xs[i].price ∧ SlR Rest.cells u S ls[i].Rests xs[i].rests
section
variable {u u' : World} {S T V : VP} {s : Sl} {xs : List PL}
theorem LvR.same (h : LvR u S s xs) (hs : Same S u u') : LvR u' S s xs := by
  obtain ⟨ls, h1, h2, h3⟩ := h
  exact ⟨ls, h1.same hs, h2, fun i a b => ⟨(h3 i a b).1, (h3 i a b).2.same hs⟩⟩
theorem LvR.sub (h : LvR u S s xs) (hs : Sub S T) : LvR u T s xs := by
  obtain ⟨ls, h1, h2, h3⟩ := h
  exact ⟨ls, h1.sub hs, h2, fun i a b => ⟨(h3 i a b).1, (h3 i a b).2.sub hs⟩⟩
theorem LvR.len (h : LvR u S s xs) : s.len = xs.length := by obtain ⟨ls, h1, h2, h3⟩ := h; rw [h1.len, h2]
theorem LvR.le (h : LvR u S s xs) : s.len ≤ s.cap := by obtain ⟨ls, h1, h2, h3⟩ := h; exact h1.le
theorem LvR.big (h : LvR u S s xs) : xs.length ≤ 140737488355328 := by obtain ⟨ls, h1, h2, h3⟩ := h; rw [← h2]; exact h1.big
theorem LvR.nil (u : World) (S : VP) (a : Option Addr) (n : Nat) : LvR u S ⟨a, 0, n⟩ [] := ⟨[], SlR.nil _ _ _ _ _, rfl, fun i h => by simp at h⟩
theorem LvR.ixN (h : LvR u S s xs) {i : Nat} (hi : i < xs.length) {K : Addr → Prop} (hK : ∀ ad lv, s.a = some ad → At u S (ad.add (i * 2)) (Level.cells lv) → lv.Price = xs[i].price → SlR Rest.cells u S lv.Rests xs[i].rests → K ad) : (0 ≤ (i : Int) ∧ (i : Int) < (s.len : Int)) ∧ NilK s.a K := by
  obtain ⟨ls, h1, h2, h3⟩ := h
  exact h1.ixN co_Level.len (by omega) fun ad e hat => hK ad _ e hat (h3 i (by omega) hi).1 (h3 i (by omega) hi).2
end
def cntR (xs : List PL) : Nat := (xs.map fun x => x.rests.length).sum
theorem cnt_take_succ {xs : List PL} {i : Nat} (hi : i < xs.length) : cntR (xs.take (i + 1)) = cntR (xs.take i) + xs[i].rests.length := by
  unfold cntR; rw [List.take_succ_eq_append_getElem hi, List.map_append, List.sum_append]; simp
theorem cnt_take_le {xs : List PL} (hq : ∀ x ∈ xs, x.rests.length ≤ 60) (i : Nat) (hi : i ≤ xs.length) : cntR (xs.take i) ≤ 60 * i := by
  induction i with
  | zero => simp [cntR]
  | succ i ih =>
    rw [cnt_take_succ (by omega)]
    have := ih (by omega)
    have := hq _ (List.getElem_mem (show i < xs.length by omega))
    omega
theorem r_side_Count {u : World} {V S : VP} {l : Sl} {xs : List PL} (h : LvR u S l xs) (hS : Sub S V) (hq : ∀ x ∈ xs, x.rests.length ≤ 60) :
    ROc PP F_side_Count [.slice l.a l.len l.cap] u V (gval errT ((Enc.one eInt).enc (cntR xs : Int))) := by
  refine s_side_Count l u V _ ?_
  unfold vc_side_Count
  have hlen := h.len; have hbig := h.big
  refine LoopN.st (fun (t : Int × Int) u' V' => u' = u ∧ V' = V ∧ ∃ i : Nat, t.2 = i ∧ i ≤ xs.length ∧ t.1 = (cntR (xs.take i) : Int)) (fun t => xs.length - t.2.toNat) ⟨rfl, rfl, 0, rfl, Nat.zero_le _, by simp [cntR]⟩ ?_
  rintro ⟨c, _⟩ uu VV ⟨rfl, rfl, i, rfl, hi, hc⟩ next hn
  simp only at hc
  subst hc
  have hct := cnt_take_le hq i hi
  refine ifB (fun hb => ?_) (fun hb => ?_)
  · have hlt : i < xs.length := by have := of_decide_eq_true hb; simp only at this; omega
    refine h.ixN hlt fun ad lv _ hat hp hr => ⟨_, by first | exact hat.sub hS | exact hat.fld hS rfl, ?_⟩
    have hl := hr.len
    have hx := hq _ (List.getElem_mem hlt)
    refine ⟨by unfold Rng; simp only; omega, rng_nat (by omega), hn _ _ _ ⟨rfl, rfl, i + 1, rfl, by omega, ?_⟩ (by simp only; omega)⟩
    rw [cnt_take_succ hlt]; simp only; omega
  · have hge : xs.length ≤ i := by have := of_decide_eq_false hb; simp only at this; omega
    exact ⟨by rw [List.take_of_length_le hge], ext_refl _ _⟩
theorem r_pitref1_Count {u : World} {V S : VP} {l : Sl} {xs : List PL} (h : LvR u S l xs) (hS : Sub S V) (hq : ∀ x ∈ xs, x.rests.length ≤ 60) :
    ROc PP F_pitref1_Count [.slice l.a l.len l.cap] u V (gval errT ((Enc.one eInt).enc (cntR xs : Int))) := by
  refine s_pitref1_Count l u V _ ?_
  unfold vc_pitref1_Count
  have hlen := h.len; have hbig := h.big
  refine LoopN.st (fun (t : Int × Int) u' V' => u' = u ∧ V' = V ∧ ∃ i : Nat, t.2 = i ∧ i ≤ xs.length ∧ t.1 = (cntR (xs.take i) : Int)) (fun t => xs.length - t.2.toNat) ⟨rfl, rfl, 0, rfl, Nat.zero_le _, by simp [cntR]⟩ ?_
  rintro ⟨c, _⟩ uu VV ⟨rfl, rfl, i, rfl, hi, hc⟩ next hn
  simp only at hc
  subst hc
  have hct := cnt_take_le hq i hi
  refine ifB (fun hb => ?_) (fun hb => ?_)
  · have hlt : i < xs.length := by have := of_decide_eq_true hb; simp only at this; omega
    refine h.ixN hlt fun ad lv _ hat hp hr => ⟨_, by first | exact hat.sub hS | exact hat.fld hS rfl, ?_⟩
    have hl := hr.len
    have hx := hq _ (List.getElem_mem hlt)
    refine ⟨by unfold Rng; simp only; omega, rng_nat (by omega), hn _ _ _ ⟨rfl, rfl, i + 1, rfl, by omega, ?_⟩ (by simp only; omega)⟩
    rw [cnt_take_succ hlt]; simp only; omega
  · have hge : xs.length ≤ i := by have := of_decide_eq_false hb; simp only at this; omega
    exact ⟨by rw [List.take_of_length_le hge], ext_refl _ _⟩

/-! ### is an id there twice? -/
def tw (pre : List Rest) : List Rest → Bool
  | [] => false
  | x :: xs => if idxI (hasId x.Id) pre ≥ 0 then true else tw (pre ++ [x]) xs
theorem r_pitref1_Twice {u : World} {V S : VP} {l : Sl} {xs : List Rest} (h : SlR Rest.cells u S l xs) (hS : Sub S V) :
    ROc PP F_pitref1_Twice [.slice l.a l.len l.cap] u V (gval errT ((Enc.one eBool).enc (tw [] xs))) := by
  refine s_pitref1_Twice l u V _ ?_
  unfold vc_pitref1_Twice
  have hlen := h.len
  refine LoopN.rangeR xs.length (fun i => tw [] xs = tw (xs.take i) (xs.drop i)) rfl ?_
  intro i hi hQ next hn
  refine ifB (fun hb2 => ?_) (fun hb2 => ?_)
  · have hlt : i < xs.length := by have := of_decide_eq_true hb2; omega
    rw [List.drop_eq_getElem_cons hlt, tw, ← List.take_succ_eq_append_getElem hlt] at hQ
    refine ⟨⟨by omega, by have := h.le; omega⟩, ?_⟩
    refine h.ixN co_Rest.len hlt fun ad2 _ hat2 => ⟨_, hat2.fld hS rfl, _, r_pitref1_In (l := ⟨l.a, i, l.cap⟩) (h.upto (by omega)) hS _, ?_⟩
    refine ifB (fun hb4 => ?_) (fun hb4 => ?_)
    · rw [if_pos (of_decide_eq_true hb4)] at hQ
      exact ⟨hQ.symm, ext_refl _ _⟩
    · rw [if_neg (of_decide_eq_false hb4)] at hQ
      exact ⟨rng_nat (by have := h.big; omega), hn hlt hQ⟩
  · have hge : xs.length ≤ i := by have := of_decide_eq_false hb2; omega
    rw [List.drop_of_length_le hge] at hQ
    exact ⟨hQ.symm, ext_refl _ _⟩
def flat (xs : List PL) : List Rest := xs.flatMap fun x => x.rests
theorem flat_length (xs : List PL) : (flat xs).length = cntR xs := by
  unfold flat cntR
  induction xs with
  | nil => rfl
  | cons x xs ih => simp
theorem flat_take_succ {xs : List PL} {i : Nat} (hi : i < xs.length) : flat (xs.take (i + 1)) = flat (xs.take i) ++ xs[i].rests := by
  unfold flat; rw [List.take_succ_eq_append_getElem hi, List.flatMap_append]; simp
theorem flat_drop {xs : List PL} {i : Nat} (hi : i < xs.length) : flat (xs.drop i) = xs[i].rests ++ flat (xs.drop (i + 1)) := by
  unfold flat; rw [List.drop_eq_getElem_cons hi, List.flatMap_cons]
theorem cnt_take_mono (xs : List PL) (i : Nat) : cntR (xs.take i) ≤ cntR xs := by
  rw [← flat_length, ← flat_length, ← List.take_append_drop i xs]
  unfold flat
  rw [List.flatMap_append, List.take_append_drop, List.length_append]
  omega
theorem g_pitref1_Flat {u : World} {V S : VP} {l : Sl} {xs : List PL} (h : LvR u S l xs) (hS : Sub S V) (hm : cntR xs ≤ 1000) :
    GC PP F_pitref1_Flat [.slice l.a l.len l.cap] u V (fun x => gval errT ((Enc.one eSl).enc x)) (Out Nix Nix u V fun x u' S' => Own Rest.cells 5 T_Rest u' x (flat xs) ∧ S' = sb x) := by
  refine s_pitref1_Flat l u V _ ?_
  have hloc : Loc (fun (x : Sl) u' (S' : VP) => Own Rest.cells 5 T_Rest u' x (flat xs) ∧ S' = sb x) := fun x u u' S h hs => ⟨h.1.same (h.2 ▸ hs), h.2⟩
  unfold vc_pitref1_Flat
  have hlen := h.len; have hbig := h.big
  refine LoopN.st (fun (t : Sl × Int) u' V' => ∃ i : Nat, t.2 = i ∧ i ≤ xs.length ∧ Own Rest.cells 5 T_Rest u' t.1 (flat (xs.take i)) ∧ Upd Nix u V u' V' ∧ Sub (sb t.1) V' ∧ Dis (sb t.1) V) (fun t => xs.length - t.2.toNat)
    ⟨0, rfl, Nat.zero_le _, Own.nil _ _ _ _, Upd.refl _ _ _, fun b hb => (sb_nil _ hb).elim, fun b hb => (sb_nil _ hb).elim⟩ ?_
  rintro ⟨o, _⟩ u1 V1 ⟨i, rfl, hi, hO, hU, hVo, hDo⟩ next hn
  simp only at hO hVo hDo
  refine ifB (fun hb => ?_) (fun hb => ?_)
  · have hlt : i < xs.length := by have := of_decide_eq_true hb; simp only at this; omega
    have h1 := h.same (hU.same0 hS)
    have hb1 := cnt_take_mono xs (i + 1)
    rw [cnt_take_succ hlt] at hb1
    refine h1.ixN hlt fun ad lv _ hat hp hr => ⟨_, hat.fld (hS.trans hU.vis) rfl, ?_⟩
    refine opv_append (s := o) (r := lv.Rests) ty_Sl_Rest co_Rest hO hVo hr (hS.trans hU.vis) _ (by rw [flat_length]; omega) (by rw [flat_length]; omega) ?_
    intro s2 u3 V3 k1 k2 k3 k4 _
    refine ⟨rng_nat (by omega), hn (s2, (i : Int) + 1) _ _ ⟨i + 1, rfl, by omega, by rw [flat_take_succ hlt]; exact k1, hU.trans k2 fun b hb => .inr (hDo b hb), k3, fun b hb => ?_⟩ (by simp only; omega)⟩
    rcases k4 b hb with hb | hb
    · exact hDo b hb
    · exact fun hv => hb (hU.vis _ hv)
  · have hge : xs.length ≤ i := by have := of_decide_eq_false hb; simp only at this; omega
    rw [List.take_of_length_le hge] at hO
    exact Out.fin hloc ⟨hU, sb o, hVo, fun b hb => .inr (hDo b hb), hO, rfl⟩

/-! ### a map of ids -/
theorem tyM_ids : TyM PP T_M_i64_bool 3 4 (.bool false) := ⟨by kernel_rfl, by kernel_rfl, by kernel_rfl⟩
def SeenR (u : World) (m : Nat) (pre : List Rest) : Prop := ∃ es, MapR u m es ∧ ∀ id, kVal (.bool false) id es = .bool (decide (idxI (hasId id) pre ≥ 0))
theorem SeenR.same {u u' : World} {m : Nat} {pre : List Rest} (h : SeenR u m pre) (hs : Same (Blk m) u u') : SeenR u' m pre := by
  obtain ⟨es, h1, h2⟩ := h; exact ⟨es, h1.same hs, h2⟩
theorem idxI_snoc (p : Rest → Bool) (l : List Rest) (x : Rest) : idxI p (l ++ [x]) ≥ 0 ↔ idxI p l ≥ 0 ∨ p x = true := by
  have hiff : ∀ ys : List Rest, idxI p ys ≥ 0 ↔ ∃ y ∈ ys, p y = true := by
    intro ys
    rcases idxI_cases p ys with ⟨e, hn⟩ | ⟨i, hi, e, hp, _⟩
    · rw [e]
      constructor
      · intro h; omega
      · rintro ⟨y, hy, hp⟩; rw [hn y hy] at hp; cases hp
    · rw [e]
      constructor
      · intro _; exact ⟨_, List.getElem_mem hi, hp⟩
      · intro _; omega
  rw [hiff, hiff]
  simp only [List.mem_append, List.mem_singleton]
  constructor
  · rintro ⟨y, hy | rfl, hp⟩
    · exact .inl ⟨y, hy, hp⟩
    · exact .inr hp
  · rintro (⟨y, hy, hp⟩ | hp)
    · exact ⟨y, .inl hy, hp⟩
    · exact ⟨x, .inr rfl, hp⟩
theorem r_side_Twice {u : World} {V S : VP} {l : Sl} {xs : List PL} (h : LvR u S l xs) (hS : Sub S V) :
    ROc PP F_side_Twice [.slice l.a l.len l.cap] u V (gval errT ((Enc.one eBool).enc (tw [] (flat xs)))) := by
  refine s_side_Twice l u V _ ?_
  unfold vc_side_Twice
  have hlen := h.len; have hbig := h.big
  refine opv_makeMap _ fun m u2 V2 hbd hge hM hsub hm hrel => ?_
  have hmV : ¬ V m := not_vis hbd hge
  refine LoopN.st (fun (t : Int) u' V' => ∃ i : Nat, t = i ∧ i ≤ xs.length ∧ Upd Nix u V u' V' ∧ V' m ∧ SeenR u' m (flat (xs.take i)) ∧ tw [] (flat xs) = tw (flat (xs.take i)) (flat (xs.drop i))) (fun t => xs.length - t.toNat)
    ⟨0, rfl, Nat.zero_le _, upd_new Nix hsub hrel, hm, ⟨[], hM, fun id => rfl⟩, rfl⟩ ?_
  rintro _ u5 V5 ⟨i, rfl, hi, hU, hm5, hSn, heq⟩ next7 hn7
  refine ifB (fun hb => ?_) (fun hb => ?_)
  · have hlt : i < xs.length := by have := of_decide_eq_true hb; omega
    refine (h.same (hU.same0 hS)).ixN hlt fun ad lv _ hat hp hr => ⟨_, hat.sub (hS.trans hU.vis), ?_⟩
    have hrl := hr.len; have hrb := hr.big
    rw [flat_drop hlt] at heq
    refine LoopN.st (fun (t : Int) u' V' => ∃ j : Nat, t = j ∧ j ≤ xs[i].rests.length ∧ Upd (Blk m) u5 V5 u' V' ∧ SeenR u' m (flat (xs.take i) ++ xs[i].rests.take j) ∧ tw [] (flat xs) = tw (flat (xs.take i) ++ xs[i].rests.take j) (xs[i].rests.drop j ++ flat (xs.drop (i + 1)))) (fun t => xs[i].rests.length - t.toNat)
      ⟨0, rfl, Nat.zero_le _, Upd.refl _ _ _, by simpa using hSn, by simpa using heq⟩ ?_
    rintro _ u11 V12 ⟨j, rfl, hj, hU2, hSn2, heq2⟩ next13 hn13
    have hUU : Upd Nix u V u11 V12 := hU.trans hU2 fun b hb => by cases hb; exact .inr hmV
    have hm12 : V12 m := hU2.vis _ hm5
    have hSm : ∀ b, S b → b ≠ m := fun b hb e => hmV (e ▸ hS b hb)
    refine ifB (fun hb2 => ?_) (fun hb2 => ?_)
    · have hlt2 : j < xs[i].rests.length := by have := of_decide_eq_true hb2; omega
      have hr2 := hr.same (hU2.same (hS.trans hU.vis) fun b hb e => hSm b hb e)
      refine hr2.ixN co_Rest.len hlt2 fun ad14 _ hat14 => ⟨_, hat14.sub (hS.trans hUU.vis), ?_⟩
      obtain ⟨es, e1, e2⟩ := hSn2
      rw [List.drop_eq_getElem_cons hlt2, List.cons_append, tw, List.append_assoc, ← List.take_succ_eq_append_getElem hlt2] at heq2
      refine opv_read (x := decide (idxI (hasId xs[i].rests[j].Id) (flat (xs.take i) ++ xs[i].rests.take j) ≥ 0)) (fun w hw => ?_) fun u17 V18 hrl2 hs1 hs2 => ?_
      · rw [run_lookup tyM_ids (e1.same (same_rel hw (Sub.blk hm12))), e2]; rfl
      · have hU17 : Upd Nix u V u17 V18 := hUU.trans (upd_new Nix hs1 hrl2) fun b hb => hb.elim
        refine ifB (fun hb3 => ?_) (fun hb3 => ?_)
        · rw [if_pos (of_decide_eq_true hb3)] at heq2
          exact ⟨heq2.symm, hU17.ext hbd⟩
        · have h3 := of_decide_eq_false hb3
          rw [if_neg h3] at heq2
          refine opu_mapUpdate tyM_ids (e1.same (same_rel hrl2 (Sub.blk hm12))) (hs1 _ hm12) _ _ fun u19 V20 hM2 hU19 => ?_
          refine ⟨rng_nat (by omega), hn13 _ _ _ ⟨j + 1, rfl, by omega, (hU2.trans (upd_new (Blk m) hs1 hrl2) fun b hb => .inl hb).trans hU19 fun b hb => .inl hb, ⟨_, hM2, fun id => ?_⟩, heq2⟩ (by omega)⟩
          rw [kVal_put, List.take_succ_eq_append_getElem hlt2, ← List.append_assoc]
          have hsn := idxI_snoc (hasId id) (flat (xs.take i) ++ xs[i].rests.take j) xs[i].rests[j]
          by_cases hid : id = xs[i].rests[j].Id
          · rw [if_pos hid, decide_eq_true (hsn.2 (.inr (by simp [hasId, hid])))]
          · rw [if_neg hid, e2]
            have : (idxI (hasId id) (flat (xs.take i) ++ xs[i].rests.take j ++ [xs[i].rests[j]]) ≥ 0) = (idxI (hasId id) (flat (xs.take i) ++ xs[i].rests.take j) ≥ 0) := by
              rw [hsn]
              exact propext ⟨fun h => h.resolve_right (by simp [hasId]; exact fun e => hid e.symm), .inl⟩
            simp only [this]
    · have hge : xs[i].rests.length ≤ j := by have := of_decide_eq_false hb2; omega
      rw [List.take_of_length_le hge, List.drop_of_length_le hge, List.nil_append] at heq2
      rw [List.take_of_length_le hge] at hSn2
      exact ⟨rng_nat (by omega), hn7 _ _ _ ⟨i + 1, rfl, by omega, hUU, hm12, by rw [flat_take_succ hlt]; exact hSn2, by rw [flat_take_succ hlt]; exact heq2⟩ (by omega)⟩
  · have hge : xs.length ≤ i := by have := of_decide_eq_false hb; omega
    rw [List.drop_of_length_le hge] at heq
    exact ⟨heq.symm, hU.ext hbd⟩
end Go.Sx
