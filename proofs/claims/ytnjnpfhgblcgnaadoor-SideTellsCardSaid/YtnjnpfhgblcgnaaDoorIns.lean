/-
  Contracts of functions that this claim reaches. Conditions: those of the statement alone.
-/
import Derived.Test.YtnjnpfhgblcgnaaDoorLv2
import Derived.Test.YtnjnpfhgblcgnaaDoorSpA
import Derived.WalkKit
import Derived.Shelf.Spec.SlicesInsert
set_option linter.unusedVariables false
set_option linter.unusedSimpArgs false
set_option maxRecDepth 100000
namespace Go.Sx
open Go.RowKit Go.Proofs Go.Lib

/-- a copy of cells that are known onto a row's piece -/
theorem run_copy_at {P : Program} {t e sz bytes : Nat} (hT : TyS P t e sz bytes) (w : World) (g o dLen dCap : Nat) (a : Addr) (sLen sCap : Nat) (cur : Array Value) (l : List Value) (ty : Nat) (hg : w.heap[g]? = some (.cells cur e (0, 0))) {n : Nat} (hn : Nat.min sLen dLen = n) (hl : l.length = n * sz)
    (hsrc : ∀ j v, l[j]? = some v → w.cell? (a.add j) = some v) (hfit : o + l.length ≤ cur.size) (h1 : ∀ v ∈ l, v.oneCell' = true) :
    (Builtin.copy_ #[t, t] ty #[.slice (some ⟨g, o, none⟩) dLen dCap, .slice (some a) sLen sCap]).run P w = .ok (goInt n) (w.setRow g (cur.toList.take o ++ l ++ cur.toList.drop (o + l.length)).toArray) := by
  obtain ⟨i0, z, hi0, hz, e1, e2, _⟩ := hT.info
  subst e1
  have hst := run_storeCells_at P g o e l 0 cur w hg (by simpa using hfit) h1
  have hld := run_firstCells_some (P := P) w i0.size n a sLen sCap l hl hsrc
  simp only [Nat.add_zero] at hst
  simp [Builtin.copy_, run_underlying hT.und, Builtin.lenOf, sizeOf, typeInfo, hi0, hn, hld, hst]

theorem splice_ins {cs X Y D : List Value} {off a y d : Nat} (hX : (cs.drop off).take a = X) (hY : Y.length = y) (hD : D.length = d) (hfit : off + a + y + d ≤ cs.length) {r1 : List Value} (hr : r1 = cs.take (off + a + y) ++ D ++ cs.drop (off + a + y + D.length)) :
    ((r1.take (off + a) ++ Y ++ r1.drop (off + a + Y.length)).drop off).take (a + y + d) = X ++ Y ++ D := by
  have l1 : (cs.take (off + a + y)).length = off + a + y := by rw [List.length_take]; omega
  have e1 : r1.take (off + a) = cs.take (off + a) := by
    rw [hr, List.append_assoc, List.take_append_of_le_length (by omega), List.take_take]
    congr 1; omega
  have e2 : r1.drop (off + a + Y.length) = D ++ cs.drop (off + a + y + D.length) := by
    rw [hr, List.append_assoc, hY]
    exact List.drop_left' l1
  have l2 : (cs.take (off + a)).length = off + a := by rw [List.length_take]; omega
  have e3 : (cs.take (off + a)).drop off = X := by
    rw [List.drop_take, ← hX]
    congr 1; omega
  have l3 : X.length = a := by rw [← e3, List.length_drop, l2]; omega
  rw [e1, e2, List.append_assoc, List.drop_append_of_le_length (by omega), e3, ← List.append_assoc, ← List.append_assoc]
  have : (X ++ Y ++ D).length = a + y + d := by simp [l3, hY, hD]; omega
  rw [← this, List.take_left]

def Level.zero : Level := ⟨0, ⟨none, 0, 0⟩⟩
theorem ins_list {α : Type} (xs : List α) (x x0 : α) {i n : Nat} (hi : i ≤ xs.length) (hn : n = xs.length - i) :
    (((xs.take i ++ List.replicate (n + 1) x0).take i ++ [x].take 1 ++ (xs.take i ++ List.replicate (n + 1) x0).drop (i + 1)).take (i + 1) ++ (xs.drop i).take n ++ ((xs.take i ++ List.replicate (n + 1) x0).take i ++ [x].take 1 ++ (xs.take i ++ List.replicate (n + 1) x0).drop (i + 1)).drop (i + 1 + n)) = xs.take i ++ [x] ++ xs.drop i := by
  have l1 : (xs.take i).length = i := by rw [List.length_take]; omega
  have e1 : (xs.take i ++ List.replicate (n + 1) x0).take i = xs.take i := List.take_left' l1
  have e2 : (xs.take i ++ List.replicate (n + 1) x0).drop (i + 1) = List.replicate n x0 := by
    rw [List.replicate_succ, ← List.singleton_append, ← List.append_assoc]
    exact List.drop_left' (by simp [l1])
  rw [e1, e2]
  have l2 : (xs.take i ++ [x].take 1).length = i + 1 := by simp [l1]
  have l3 : (xs.take i ++ [x].take 1 ++ List.replicate n x0).length ≤ i + 1 + n := by simp [l1]; omega
  rw [List.take_left' l2, List.take_of_length_le (l := xs.drop i) (by rw [List.length_drop]; omega), List.drop_of_length_le l3, List.append_nil]
  rfl

set_option maxHeartbeats 4000000 in
theorem ins_shift_Level (b off n c i vb voff m vc : Nat) (w : World) (cur : Array Value) (xs ys : List Level) (curv : Array Value) (hi : i < n) (hm : 0 < m) (hroom : n + m ≤ c) (hmx : n + m ≤ 140737488355328) (hvb : vb ≠ b)
    (hg : w.heap[b]? = some (.cells cur T_Level (0, 0))) (hgv : w.heap[vb]? = some (.cells curv T_Level (0, 0))) (hfit : off + c * 2 ≤ cur.size) (hx : xs.length = n) (hy : ys.length = m)
    (hcs : (cur.toList.drop off).take (n * 2) = xs.flatMap Level.cells) (hvs : ∀ j v, (ys.flatMap Level.cells)[j]? = some v → w.cell? ⟨vb, voff + j, none⟩ = some v) :
    Calls PP 109 #[.slice (some ⟨b, off, none⟩) n c, .int .i64 i, .slice (some ⟨vb, voff, none⟩) m vc] w fun e w' =>
      e = .returned (.slice (some ⟨b, off, none⟩) (n + m) c) ∧ Own Level.cells 2 T_Level w' ⟨some ⟨b, off, none⟩, n + m, c⟩ (xs.take i ++ ys ++ xs.drop i) ∧ FrameV (Blk b) w w' := by
  have hz1 : ¬ ((m : Int) = 0) := by omega
  have hz2 : ¬ ((i : Int) = (n : Int)) := by omega
  have hmulc : n * 2 + m * 2 ≤ c * 2 := by rw [← Nat.add_mul]; exact Nat.mul_le_mul_right _ hroom
  have hxf : (xs.flatMap Level.cells).length = n * 2 := by rw [flat_len co_Level.len, hx]
  have hyf : (ys.flatMap Level.cells).length = m * 2 := by rw [flat_len co_Level.len, hy]
  have hcell : ∀ j v, (xs.flatMap Level.cells)[j]? = some v → w.cell? ⟨b, off + j, none⟩ = some v := by
    intro j v hj
    rw [← hcs, List.getElem?_take, List.getElem?_drop] at hj
    split at hj
    · simp only [World.cell?, hg]; simpa using hj
    · cases hj
  have hfrz : ∀ (k : Nat) (a : Array Value) o, w.heap[k]? = some (.cells a T_Level (0, 0)) → w.frozen? ⟨k, o, none⟩ = false := by
    intro k a o h; simp [World.frozen?, h]
  have hov : ∀ lb cb, (callFunc 133 #[.slice (some ⟨vb, voff, none⟩) m vc, .slice (some ⟨b, off + (i + m) * 2, none⟩) lb cb]).run PP w = .ok (.value (.bool false)) w := fun lb cb => by
    obtain ⟨i0, z, hi0, hz, e1, e2, _⟩ := (ty_Sl_Level).info
    rw [run_callFunc_extern Go.Proofs.Tryd.func133 (by kernel_rfl) (by kernel_rfl) (by kernel_rfl) (e := Extern.SlicesOverlaps.overlaps #[T_Sl_Level, T_Sl_Level] #[4]) (by kernel_rfl),
      Lib.run_overlaps_apart w T_Sl_Level 4 T_Level ty_Sl_Level.und 2 (fun w => by rw [run_sizeOf' hi0, e1]) ⟨vb, voff, none⟩ ⟨b, off + (i + m) * 2, none⟩ m vc lb cb hvb T_Level T_Level curv.size cur.size (by simp [World.shape?, hgv]) (by simp [World.shape?, hg]) (by omega) (hfrz _ _ _ hgv) (hfrz _ _ _ hgv)]
    rfl
  have hw1 : IntKind.i64.wrap ((i : Int) + (m : Int)) = (i : Int) + (m : Int) := by rw [IntKind.wrap_i64]; omega
  have hb1 : (0 : Int) ≤ (i : Int) + (m : Int) := by omega
  have hin : i ≤ n := by omega
  have htn : ((i : Int) + (m : Int)).toNat = i + m := by omega
  have hb2 : ¬ (c = i + m) := by omega
  have hb3 : (i : Int) ≤ (n : Int) + (m : Int) := by omega
  have hb4 : ¬ (c = i) := by omega
  have hdl : ((xs.drop i).flatMap Level.cells).length = (n - i) * 2 := by rw [flat_len co_Level.len, List.length_drop, hx]
  have hcurl : cur.toList.length = cur.size := Array.length_toList
  obtain ⟨r1, hr1⟩ : ∃ r1, r1 = (cur.toList.take (off + (i + m) * 2) ++ (xs.drop i).flatMap Level.cells ++ cur.toList.drop (off + (i + m) * 2 + ((xs.drop i).flatMap Level.cells).length)).toArray := ⟨_, rfl⟩
  have hr1s : r1.size = cur.size := by
    rw [hr1]; simp only [List.size_toArray, List.length_append, List.length_take, List.length_drop, hdl]; omega
  have hcp1 : ∀ ty dc sc, (Builtin.copy_ #[T_Sl_Level, T_Sl_Level] ty #[.slice (some ⟨b, off + (i + m) * 2, none⟩) (n + m - (i + m)) dc, .slice (some ⟨b, off + i * 2, none⟩) (n + m - i) sc]).run PP w.drew = .ok (goInt ((n - i : Nat) : Int)) (w.drew.setRow b r1) := fun ty dc sc => by
    rw [hr1]
    refine run_copy_at (n := n - i) ty_Sl_Level w.drew b (off + (i + m) * 2) (n + m - (i + m)) dc ⟨b, off + i * 2, none⟩ (n + m - i) sc cur ((xs.drop i).flatMap Level.cells) ty hg (by simp only [Nat.min_def]; split <;> omega) hdl (fun j v hj => ?_) (by rw [hdl]; omega) (co_Level.flat _)
    rw [addr_add0]
    show w.cell? _ = _
    rw [← fm_drop co_Level.len, List.getElem?_drop] at hj
    have := hcell _ _ hj
    rwa [← Nat.add_assoc] at this
  obtain ⟨r2, hr2⟩ : ∃ r2, r2 = (r1.toList.take (off + i * 2) ++ ys.flatMap Level.cells ++ r1.toList.drop (off + i * 2 + (ys.flatMap Level.cells).length)).toArray := ⟨_, rfl⟩
  have hcp2 : ∀ (W : World), W.heap = (w.drew.setRow b r1).heap → ∀ ty dc, (Builtin.copy_ #[T_Sl_Level, T_Sl_Level] ty #[.slice (some ⟨b, off + i * 2, none⟩) (n + m - i) dc, .slice (some ⟨vb, voff, none⟩) m vc]).run PP W = .ok (goInt m) (W.setRow b r2) := fun W hW ty dc => by
    rw [hr2]
    have hgW : W.heap[b]? = some (.cells r1 T_Level (0, 0)) := by rw [hW]; exact setRow_heap w.drew b cur r1 T_Level _ hg
    refine run_copy_at (n := m) ty_Sl_Level W b (off + i * 2) (n + m - i) dc ⟨vb, voff, none⟩ m vc r1 (ys.flatMap Level.cells) ty hgW (by simp only [Nat.min_def]; split <;> omega) hyf (fun j v hj => ?_) (by rw [hyf, hr1s]; omega) (co_Level.flat _)
    rw [addr_add0]
    have hb0 : W.heap[vb]? = w.heap[vb]? := by rw [hW]; exact setRow_other w.drew b vb _ hvb
    rw [World.cell?_of_block (w := w) hb0]
    exact hvs j v hj
  have hfin : ∀ W : World, W.heap = ((w.drew.setRow b r1).setRow b r2).heap → Own Level.cells 2 T_Level W ⟨some ⟨b, off, none⟩, n + m, c⟩ (xs.take i ++ ys ++ xs.drop i) := by
    intro W hW
    have hg1 : (w.drew.setRow b r1).heap[b]? = some (.cells r1 T_Level (0, 0)) := setRow_heap w.drew b cur r1 T_Level _ hg
    have hr2s : r2.size = cur.size := by
      rw [hr2]; simp only [List.size_toArray, List.length_append, List.length_take, List.length_drop, hyf, Array.length_toList, hr1s]; omega
    refine ⟨by simp; omega, hroom, .inr ⟨b, off, r2, rfl, by rw [hW]; exact setRow_heap _ b r1 r2 T_Level _ hg1, by rw [hr2s]; exact hfit, ?_⟩, by simp; omega⟩
    show (r2.toList.drop off).take ((n + m) * 2) = _
    have h1 : (cur.toList.drop off).take (i * 2) = (xs.take i).flatMap Level.cells := by
      rw [← fm_take co_Level.len, ← hcs, List.take_take, Nat.min_eq_left (Nat.mul_le_mul_right _ hin)]
    have e1 : off + (i + m) * 2 = off + i * 2 + m * 2 := by omega
    have h2 := splice_ins (r1 := r1.toList) h1 hyf hdl (by omega) (by rw [hr1, e1])
    have e2 : i * 2 + m * 2 + (n - i) * 2 = (n + m) * 2 := by omega
    rw [e2] at h2
    rw [hr2, List.flatMap_append, List.flatMap_append]
    exact h2
  clear hr1 hr2
  have mixed : PP.follows .mixedOrders = true := by kernel_rfl
  go_enter Go.Proofs.Tryd.func109, Go.Proofs.Tryd.ntmps109
  go_wp2_with (simp only [hov])
  go_region_law_o (refine step_copy_runI rfl _ _ T_Sl_Level T_Sl_Level rfl _ _ (by simp [Act.eval, Act.put]) (by simp [Act.eval, Act.put]) (hcp1 _ _ _) ?_)
  go_wp2_with (at_builtin; refine wpList_copy_runI _ rfl _ _ T_Sl_Level T_Sl_Level rfl _ _ rfl rfl (hcp2 _ rfl _ _) ?_)
  go_ret
  refine ⟨rfl, hfin _ rfl, ⟨rfl, rfl, rfl, by simp [World.setRow], fun k _ hk => ?_⟩⟩
  have hk' : k ≠ b := hk
  exact (setRow_other _ b k r2 hk').trans (setRow_other w.drew b k r1 hk')

/-- one is put in at a place: in place, or in a new row -/
theorem g_slices_Insert_Level {u : World} {V : VP} {s : Sl} {xs : List Level} (h : Own Level.cells 2 T_Level u s xs) (hV : Sub (sb s) V) {b : Nat} {x : Level} (hb : u.heap[b]? = some (.cells (Level.cells x).toArray T_Level (0, 0))) (hVb : V b) (hd : ¬ sb s b) {i : Nat} (hi : i ≤ xs.length) (hm : (xs.length + 1) * 32 ≤ 140737488355328) :
    GC PP F_slices_Insert_Level [.slice s.a s.len s.cap, .int .i64 (i : Int), .slice (some ⟨b, 0, none⟩) 1 1] u V (fun x => gval errT ((Enc.one eSl).enc x)) (Out (sb s) (sb s) u V fun x' u' S' => Own Level.cells 2 T_Level u' x' (xs.take i ++ [x] ++ xs.drop i) ∧ S' = sb x') := by
  have hloc : Loc (fun (x' : Sl) u' (S' : VP) => Own Level.cells 2 T_Level u' x' (xs.take i ++ [x] ++ xs.drop i) ∧ S' = sb x') := fun x u u' S h hs => ⟨h.1.same (h.2 ▸ hs), h.2⟩
  have hlen := h.len; have hle := h.le; have hbig := h.big
  by_cases hroad : i < xs.length ∧ s.len + 1 ≤ s.cap
  · refine ⟨ce_slices_Insert_Level, fun w hw => ?_⟩
    have hO := h.same (same_rel hw hV)
    rcases hO.lies with ⟨h3, h4⟩ | ⟨g, off, cs, ea, hg, h3, h4⟩
    · omega
    · have hgb : w.heap[b]? = some (.cells (Level.cells x).toArray T_Level (0, 0)) := (hw.blk b hVb).2.trans hb
      have hne : b ≠ g := fun e => hd (e ▸ ⟨_, ea, rfl⟩)
      have hs : s = ⟨some ⟨g, off, none⟩, s.len, s.cap⟩ := by rw [← ea]
      have hblk : Sub (Blk g) (sb s) := fun k hk => by cases hk; exact ⟨_, ea, rfl⟩
      have := ins_shift_Level g off s.len s.cap i b 0 1 1 w cs xs [x] _ (by omega) (by omega) (by omega) (by omega) hne hg hgb h3 hlen.symm rfl h4 (fun j v hj => by
        simp only [World.cell?, hgb]
        simpa using hj)
      rw [ea]
      refine this.mono fun e w' ⟨h5, h6, h7⟩ => ⟨⟨some ⟨g, off, none⟩, s.len + 1, s.cap⟩, h5, ⟨h7.os, h7.tape, h7.output, h7.size, fun k hk hn => h7.blk k hk fun hx => hn (hV k (hblk k hx))⟩, ?_⟩
      have hsame : sb (⟨some ⟨g, off, none⟩, s.len + 1, s.cap⟩ : Sl) = sb s := by
        funext k; rw [hs]; rfl
      refine ⟨⟨h7.os.trans hw.os, h7.tape.trans hw.tape, h7.output.trans hw.output, Nat.le_trans hw.size h7.size, fun k hk => .inl hk, fun k hk hn => ?_⟩, sb (⟨some ⟨g, off, none⟩, s.len + 1, s.cap⟩ : Sl), fun k hk => ?_, fun k hk => ?_, h6, rfl⟩
      · exact (h7.blk k (hw.lt hk) fun hx => hn (hblk k hx)).trans (hw.blk k hk).2
      · rw [hsame] at hk; exact .inl (hV k hk)
      · rw [hsame] at hk; exact .inl hk
  · refine s_slices_Insert_Level s i ⟨some ⟨b, 0, none⟩, 1, 1⟩ u V _ ?_
    have hX : SlR Level.cells u (Blk b) ⟨some ⟨b, 0, none⟩, 1, 1⟩ [x] := (Own.new (e := T_Level) (xs := [x]) co_Level.len (by simpa using hb) rfl (by simp)).toR.sub fun k hk => sb_iff.1 hk
    have hbV : Sub (Blk b) V := Sub.blk hVb
    unfold vc_slices_Insert_Level
    refine ⟨⟨by omega, by omega⟩, ifF ?_⟩
    refine ifB (fun hb1 => ?_) (fun hb1 => ?_)
    · have e : i = xs.length := by have := beq_iff_eq.1 hb1; omega
      subst e
      refine opv_append ty_Sl_Level co_Level h hV hX hbV _ (by simpa using hm) (by simp; omega) ?_
      intro s' u' V' k1 k2 k3 k4 _
      exact Out.fin hloc ⟨k2, sb s', k3, k4, by simpa using k1, rfl⟩
    · have hlt : i < xs.length := by
        rcases Nat.lt_or_ge i xs.length with h | h
        · exact h
        · have : (i : Int) = (s.len : Int) := by omega
          rw [this] at hb1; simp at hb1
      have hgrow : s.cap < s.len + 1 := by omega
      refine ⟨by unfold Rng; simp only; omega, ?_⟩
      refine ifB (fun hb2 => ?_) (fun hb2 => absurd (of_decide_eq_false hb2) (by simp only; omega))
      refine ⟨⟨by omega, by omega⟩, by unfold Rng; simp only; omega, by unfold Rng; simp only; omega, ?_⟩
      have ek : ((s.len : Int) + ((1 : Nat) : Int) - (i : Int)) = ((s.len + 1 - i : Nat) : Int) := by omega
      have e1 : ((i : Int) + ((1 : Nat) : Int)).toNat = i + 1 := by omega
      have hn1 : s.len + 1 - i = (s.len - i) + 1 := by omega
      simp only [Int.toNat_natCast, ek]
      refine opv_append_zeros (s := ⟨s.a, i, s.cap⟩) (k := s.len + 1 - i) (x0 := Level.zero) ty_Sl_Level (by kernel_rfl) co_Level (by decide) (by kernel_rfl) (h.upto co_Level.len (k := i) hi) hV _ (by omega) (by show s.cap < i + (s.len + 1 - i); omega) (by rw [List.length_take, Nat.min_eq_left hi, show i + (s.len + 1 - i) = xs.length + 1 by omega]; exact hm) (by rw [List.length_take, Nat.min_eq_left hi]; omega) ?_
      intro s2 u5 V6 k1 k2 k3 k4 k5
      rw [hn1] at k1
      have hl2 := k1.len
      simp only [List.length_append, List.length_take, Nat.min_eq_left hi, List.length_replicate] at hl2
      have hS1 : Sub (sb s) V6 := hV.trans k2.vis
      refine ⟨⟨by omega, by omega⟩, ?_⟩
      refine opv_copy (i := i) (n := 1) ty_Sl_Level co_Level k1 k3 (by simp; omega) (hX.same (k2.same0 hbV)) (hbV.trans k2.vis) _ (by simp only [Nat.min_def]; split <;> omega) ?_
      intro u8 V9 q1 q2 q3
      have hU2 : Upd Nix u V u8 V9 := k2.trans q2 fun k hk => .inr (k4 k hk)
      refine ⟨by unfold Rng; omega, ⟨by omega, by omega⟩, ⟨by omega, by omega⟩, ?_⟩
      rw [e1]
      have hR := (h.toR.from co_Level.len (l := i) hi).same (hU2.same0 hV)
      refine opv_copy (i := i + 1) (n := s.len - i) ty_Sl_Level co_Level q1 (k3.trans q2.vis) (by simp; omega) hR (hV.trans hU2.vis) _ (by simp only [Nat.min_def]; split <;> omega) ?_
      intro u11 V12 t1 t2 t3
      rw [ins_list xs x Level.zero hi (by omega)] at t1
      have hU3 : Upd Nix u V u11 V12 := hU2.trans t2 fun k hk => .inr (k4 k hk)
      exact Out.fin hloc ⟨hU3.mono fun k hk => hk.elim, sb s2, (k3.trans q2.vis).trans t2.vis, fun k hk => .inr (k4 k hk), t1, rfl⟩
end Go.Sx
