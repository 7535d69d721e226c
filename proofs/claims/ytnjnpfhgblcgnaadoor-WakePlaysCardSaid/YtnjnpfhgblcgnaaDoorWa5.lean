/-
  Contracts of functions that this claim reaches. Conditions: those of the statement alone.
-/
import Derived.Test.YtnjnpfhgblcgnaaDoorWa4
set_option linter.unusedVariables false
set_option linter.unusedSimpArgs false
namespace Go.Sx

def wput (l : List Order) (o : Order) : List Order × Option Int :=
  match p_order_Check o with
  | some e => (l, some e)
  | none => if o.Stop = 0 then (l, some 6) else if idxI (fun x : Order => x.Id == o.Id) l ≥ 0 then (l, some 7) else if l.length ≥ 20 then (l, some 4) else (l ++ [o], none)

theorem g_wake_Stops_Put {u : World} {V S : VP} {s : Option Addr} {l : List Order} (h : StopsR u S s l) (hS : Sub S V) (o : Order) (hm : l.length ≤ 1000) :
    GC PP F_wake_Stops_Put [.pointer s, .agg (Order.cells o).toArray] u V (fun x => gval errT ((Enc.one Enc1.err).enc x)) (Out S S u V fun x u' S' => StopsR u' S' s (wput l o).1 ∧ x = (wput l o).2) := by
  refine s_wake_Stops_Put s o u V _ ?_
  have hloc : Loc (fun (x : Option Int) u' (S' : VP) => StopsR u' S' s (wput l o).1 ∧ x = (wput l o).2) := fun x u u' S h hs => ⟨h.1.same hs, h.2⟩
  have kept : ∀ e, wput l o = (l, e) → Fin (Out S S u V fun x u' S' => StopsR u' S' s (wput l o).1 ∧ x = (wput l o).2) e u V := fun e he =>
    Out.fin hloc ⟨Upd.refl _ _ _, S, hS, fun b hb => .inl hb, by rw [he]; exact h, by rw [he]⟩
  unfold vc_wake_Stops_Put
  refine ⟨_, r_order_Check o u V, ?_⟩
  refine ifB (fun hb => ?_) (fun hb => ?_)
  · obtain ⟨e, he⟩ := Option.isSome_iff_exists.1 hb
    rw [he]; exact kept _ (by simp [wput, he])
  · have he : p_order_Check o = none := by simpa using hb
    refine ifB (fun hb2 => ?_) (fun hb2 => ?_)
    · exact kept _ (by simp [wput, he, show o.Stop = 0 by simpa using hb2])
    · have h2 : ¬ o.Stop = 0 := by simpa using hb2
      refine ⟨_, r_wake_Stops_Where h hS o.Id, ifB (fun hb3 => ?_) (fun hb3 => ?_)⟩
      · have h3 := of_decide_eq_true hb3
        exact kept _ (by simp [wput, he, h2, h3])
      · have h3 := of_decide_eq_false hb3
        have h' := h
        obtain ⟨ad, sl, rfl, hB, hO, hne, rfl⟩ := h'
        have hlen := hO.len
        have hat := (hB.at_ co_Wake_Stops (S := V) (hS _ (.inl rfl))).fld (j := 0) (l := [.slice sl.a sl.len sl.cap]) (Sub.refl V) rfl
        refine nilK_some ⟨sl, hat, ifB (fun hb4 => ?_) (fun hb4 => ?_)⟩
        · have h4 := of_decide_eq_true hb4
          exact kept _ (by simp [wput, he, h2, h3]; omega)
        · have h4 := of_decide_eq_false hb4
          have hw : wput l o = (l ++ [o], none) := by simp [wput, he, h2, h3]; omega
          refine nilK_some ⟨sl, hat, ?_⟩
          refine NewC.mk fun b1 u2 V2 hbd hge hcell hsub hb1 hbd' hrel => ?_
          have hN : Own Order.cells 8 T_Order u2 ⟨some ⟨b1, 0, none⟩, 1, 1⟩ [o] := Own.new co_Order.len (by simpa using hcell) rfl (by simp)
          have hslV : Sub (sb sl) V := fun b hb => hS _ (.inr hb)
          refine opv_append (s := sl) (r := ⟨some ⟨b1, 0, none⟩, 1, 1⟩) ty_Sl_Order co_Order (hO.same (same_rel hrel hslV)) (hslV.trans hsub) hN.toR (fun b hb => by rw [sb_iff] at hb; subst hb; exact hb1) _ (by simp; omega) (by simp; omega) ?_
          intro s2 u3 V3 k1 k2 k3 k4 _
          refine nilK_some fun w14 hw14 => ?_
          have hU3 : Upd (sb sl) u V u3 V3 := (upd_new (sb sl) hsub hrel).trans k2 fun b hb => .inl hb
          have hadV : V ad.block := hS _ (.inl rfl)
          have hB3 : Box Wake_Stops.cells 1 T_wake_Stops u3 ad ⟨sl⟩ := hB.same (hU3.same (Sub.blk hadV) (fun b hb => by cases hb; exact hne))
          obtain ⟨t1, t2, t3⟩ := Box.st co_Wake_Stops hB3 (hU3.vis _ hadV) (j := 0) (l := [.slice s2.a s2.len s2.cap]) (x' := ⟨s2⟩) (by simp [Value.oneCell']) (by simp) rfl (p := ad.add 0) rfl rfl hw14
          refine ⟨t1, Out.fin hloc ⟨(hU3.mono fun b hb => .inl (.inr hb)).trans t3 fun b hb => .inl (.inl hb), Or2 (Blk ad.block) (sb s2), ?_, ?_, ?_, ?_⟩⟩
          · exact (Sub.blk (hU3.vis _ hadV)).or k3
          · rintro b (hb | hb)
            · exact .inl (.inl hb)
            · rcases k4 b hb with hb | hb
              · exact .inl (.inr hb)
              · exact .inr fun hv => hb (hsub _ hv)
          · have hne2 : ¬ sb s2 ad.block := fun hb => (k4 _ hb).elim hne fun hb => hb (hsub _ hadV)
            rw [hw]
            exact ⟨ad, s2, rfl, t2, k1.same (t3.same k3 fun b hb e => by cases e; exact hne2 hb), hne2, rfl⟩
          · rw [hw]

def zOrder : Order := ⟨0, 0, 0, 0, 0, 0, 0, 0⟩
def wdrop (l : List Order) (id : Int) : List Order × Order × Option Int :=
  if idxI (fun x : Order => x.Id == id) l < 0 then (l, zOrder, some 5) else (l.eraseIdx (idxI (fun x : Order => x.Id == id) l).toNat, (l[(idxI (fun x : Order => x.Id == id) l).toNat]?).getD zOrder, none)

theorem g_wake_Stops_Drop {u : World} {V S : VP} {s : Option Addr} {l : List Order} (h : StopsR u S s l) (hS : Sub S V) (id : Int) (hm : l.length ≤ 1000) :
    GC PP F_wake_Stops_Drop [.pointer s, .int .i64 id] u V (fun x => gval errT ((Enc.t2 eOrder Enc1.err).enc x)) (Out S S u V fun x u' S' => StopsR u' S' s (wdrop l id).1 ∧ x = (wdrop l id).2) := by
  refine s_wake_Stops_Drop s id u V _ ?_
  have hloc : Loc (fun (x : Order × Option Int) u' (S' : VP) => StopsR u' S' s (wdrop l id).1 ∧ x = (wdrop l id).2) := fun x u u' S h hs => ⟨h.1.same hs, h.2⟩
  unfold vc_wake_Stops_Drop
  refine ⟨_, r_wake_Stops_Where h hS id, ?_⟩
  refine ifB (fun hb => ?_) (fun hb => ?_)
  · have h3 := of_decide_eq_true hb
    have he : wdrop l id = (l, zOrder, some 5) := by simp [wdrop, h3]
    exact Out.fin hloc ⟨Upd.refl _ _ _, S, hS, fun b hb => .inl hb, by rw [he]; exact h, by rw [he]; rfl⟩
  · have h3 := of_decide_eq_false hb
    rcases idxI_cases (fun x : Order => x.Id == id) l with ⟨e, _⟩ | ⟨i, hi, e, _, _⟩
    · rw [e] at h3; omega
    have he : wdrop l id = (l.eraseIdx i, l[i], none) := by simp [wdrop, e, hi]
    rw [e]
    obtain ⟨ad, sl, rfl, hB, hO, hne, rfl⟩ := h
    have hlen := hO.len
    have hadV : V ad.block := hS _ (.inl rfl)
    have hslV : Sub (sb sl) V := fun b hb => hS _ (.inr hb)
    have hat := (hB.at_ co_Wake_Stops (S := V) hadV).fld (j := 0) (l := [.slice sl.a sl.len sl.cap]) (Sub.refl V) rfl
    refine nilK_some ⟨sl, hat, ?_⟩
    refine hO.toR.ixN co_Order.len hi fun ad4 _ hat4 => ⟨_, hat4.sub hslV, nilK_some ⟨sl, hat, rng_nat (by have := hO.big; omega), ?_⟩⟩
    refine (g_slices_Delete_Order hO hslV (i := i) (j := i + 1) (by omega) (by omega) (by omega)).mono ?_
    rintro s2 u2 V2 _ ⟨k1, S2, k2, k3, k4, rfl⟩
    refine nilK_some fun w hw => ?_
    have hB2 : Box Wake_Stops.cells 1 T_wake_Stops u2 ad ⟨sl⟩ := hB.same (k1.same (Sub.blk hadV) (fun b hb => by cases hb; exact hne))
    obtain ⟨t1, t2, t3⟩ := Box.st co_Wake_Stops hB2 (k1.vis _ hadV) (j := 0) (l := [.slice s2.a s2.len s2.cap]) (x' := ⟨s2⟩) (by simp [Value.oneCell']) (by simp) rfl (p := ad.add 0) rfl rfl hw
    have hne2 : ¬ sb s2 ad.block := fun hb => (k3 _ hb).elim hne fun hb => hb hadV
    refine ⟨t1, Out.fin hloc ⟨(k1.mono fun b hb => .inl (.inr hb)).trans t3 fun b hb => .inl (.inl hb), Or2 (Blk ad.block) (sb s2), ?_, ?_, ?_, ?_⟩⟩
    · exact (Sub.blk (k1.vis _ hadV)).or k2
    · rintro b (hb | hb)
      · exact .inl (.inl hb)
      · exact (k3 b hb).imp .inr fun h => h
    · rw [he]
      rw [← eraseIdx_split] at k4
      exact ⟨ad, s2, rfl, t2, k4.same (t3.same k2 fun b hb e => by cases e; exact hne2 hb), hne2, rfl⟩
    · rw [he]
end Go.Sx
