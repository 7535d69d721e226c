/-
  Footprints, slices that are read, slices that are one's own, append, loops, stable sorting, equality of plain structs: plain lemmas. Conditions: those of the statement alone.
-/
import Derived.Test.YtnjnpfhgblcgnaaDoorSxD
import Derived.Laws.AppendOwn
import Derived.DataElems
import Derived.Laws.StructEq
import Derived.Lib.AppendZerosOnto
import Derived.Lib.Overlaps
set_option linter.unusedVariables false
set_option linter.unusedSimpArgs false

-- SpBase
namespace Go.Sx
open Go.RowKit

/-! ### footprints: sets of blocks -/
def Sub (S T : VP) : Prop := ∀ b, S b → T b
def Dis (S T : VP) : Prop := ∀ b, S b → ¬ T b
def Nix : VP := fun _ => False
def Blk (k : Nat) : VP := fun b => b = k
def Or2 (S T : VP) : VP := fun b => S b ∨ T b
def sb (s : Sl) : VP := fun b => ∃ ad, s.a = some ad ∧ ad.block = b
def Same (S : VP) (u u' : World) : Prop := ∀ b, S b → u'.heap[b]? = u.heap[b]?

theorem Sub.refl (S : VP) : Sub S S := fun _ h => h
theorem Sub.trans {S T R : VP} (h : Sub S T) (h' : Sub T R) : Sub S R := fun b hb => h' b (h b hb)
theorem Sub.or {S T R : VP} (h : Sub S R) (h' : Sub T R) : Sub (Or2 S T) R := fun b hb => hb.elim (h b) (h' b)
theorem Sub.nix (S : VP) : Sub Nix S := fun _ h => h.elim
theorem Sub.blk {k : Nat} {S : VP} (h : S k) : Sub (Blk k) S := fun b hb => by cases hb; exact h
theorem Dis.symm {S T : VP} (h : Dis S T) : Dis T S := fun b ht hs => h b hs ht
theorem Dis.sub {S T S' : VP} (h : Dis S T) (hs : Sub S' S) : Dis S' T := fun b hb => h b (hs b hb)
theorem Dis.sub2 {S T T' : VP} (h : Dis S T) (hs : Sub T' T) : Dis S T' := fun b hb ht => h b hb (hs b ht)
theorem Dis.or {S T R : VP} (h : Dis S R) (h' : Dis T R) : Dis (Or2 S T) R := fun b hb => hb.elim (h b) (h' b)
theorem Dis.nix (S : VP) : Dis S Nix := fun _ _ h => h
theorem Dis.nix' (S : VP) : Dis Nix S := fun _ h => h.elim
theorem Same.refl (S : VP) (u : World) : Same S u u := fun _ _ => rfl
theorem Same.trans {S : VP} {u u' u'' : World} (h : Same S u u') (h' : Same S u' u'') : Same S u u'' := fun b hb => (h' b hb).trans (h b hb)
theorem Same.sub {S T : VP} {u u' : World} (h : Same T u u') (hs : Sub S T) : Same S u u' := fun b hb => h b (hs b hb)
theorem sb_nil {n c : Nat} : Sub (sb ⟨none, n, c⟩) Nix := fun b ⟨ad, h, _⟩ => by cases h
theorem sb_some {ad : Addr} {n c : Nat} : sb ⟨some ad, n, c⟩ ad.block := ⟨ad, rfl, rfl⟩
theorem sb_iff {ad : Addr} {n c b : Nat} : sb ⟨some ad, n, c⟩ b ↔ b = ad.block := ⟨fun ⟨a, h, hb⟩ => by cases h; exact hb.symm, fun h => ⟨ad, rfl, h.symm⟩⟩

/-! ### from one sight to the next: at most the blocks of M are turned -/
structure Upd (M : VP) (u : World) (V : VP) (u' : World) (V' : VP) : Prop where
  os : u'.os = u.os
  tape : u'.tape = u.tape
  output : u'.output = u.output
  size : u.heap.size ≤ u'.heap.size
  vis : Sub V V'
  blk : ∀ b, V b → ¬ M b → u'.heap[b]? = u.heap[b]?

theorem Upd.refl (M : VP) (u : World) (V : VP) : Upd M u V u V := ⟨rfl, rfl, rfl, Nat.le_refl _, Sub.refl _, fun _ _ _ => rfl⟩
theorem Upd.trans {M : VP} {u u' u'' : World} {V V' V'' : VP} (h : Upd M u V u' V') {M' : VP} (h' : Upd M' u' V' u'' V'') (hm : ∀ b, M' b → M b ∨ ¬ V b) : Upd M u V u'' V'' :=
  ⟨h'.os.trans h.os, h'.tape.trans h.tape, h'.output.trans h.output, Nat.le_trans h.size h'.size, h.vis.trans h'.vis, fun b hb hn =>
    (h'.blk b (h.vis b hb) fun hx => (hm b hx).elim hn fun hv => hv hb).trans (h.blk b hb hn)⟩
theorem Upd.mono {M M' : VP} {u u' : World} {V V' : VP} (h : Upd M u V u' V') (hm : ∀ b, M b → M' b ∨ ¬ V b) : Upd M' u V u' V' :=
  ⟨h.os, h.tape, h.output, h.size, h.vis, fun b hb hn => h.blk b hb fun hx => (hm b hx).elim hn fun hv => hv hb⟩
theorem Upd.same {M S : VP} {u u' : World} {V V' : VP} (h : Upd M u V u' V') (hs : Sub S V) (hd : Dis S M) : Same S u u' := fun b hb => h.blk b (hs b hb) (hd b hb)
theorem Upd.same0 {S : VP} {u u' : World} {V V' : VP} (h : Upd Nix u V u' V') (hs : Sub S V) : Same S u u' := fun b hb => h.blk b (hs b hb) (fun x => x)
theorem Upd.ext {u u' : World} {V V' : VP} (h : Upd Nix u V u' V') (hb : ∀ b, V b → b < u.heap.size) : Ext u V u' V' :=
  .inr ⟨h.vis, h.os, h.tape, h.output, h.size, fun b hv => ⟨hb b hv, h.blk b hv (fun x => x)⟩⟩
theorem upd_ext {u u' : World} {V V' : VP} (h : Ext u V u' V') : Upd Nix u V u' V' := by
  rcases h with ⟨rfl, rfl⟩ | ⟨h1, h2⟩
  · exact Upd.refl _ _ _
  · exact ⟨h2.os, h2.tape, h2.output, h2.size, h1, fun b hb _ => (h2.blk b hb).2⟩
theorem upd_rel {u w : World} {V : VP} (h : Rel V u w) : Upd Nix u V w V := ⟨h.os, h.tape, h.output, h.size, Sub.refl _, fun b hb _ => (h.blk b hb).2⟩
theorem upd_fin {M : VP} {u u' w : World} {V V' V'' : VP} (h : Upd M u V u' V') (hv : Sub V' V'') (hr : Rel V' u' w) : Upd M u V w V'' :=
  ⟨hr.os.trans h.os, hr.tape.trans h.tape, hr.output.trans h.output, Nat.le_trans h.size hr.size, h.vis.trans hv, fun b hb hn => (hr.blk b (h.vis b hb)).2.trans (h.blk b hb hn)⟩
theorem same_rel {S V : VP} {u w : World} (h : Rel V u w) (hs : Sub S V) : Same S u w := fun b hb => (h.blk b (hs b hb)).2
theorem ext_trans {u u' u'' : World} {V V' V'' : VP} (h : Ext u V u' V') (h' : Ext u' V' u'' V'') : Ext u V u'' V'' := by
  rcases h with ⟨rfl, rfl⟩ | ⟨h1, h2⟩
  · exact h'
  · rcases h' with ⟨rfl, rfl⟩ | ⟨h3, h4⟩
    · exact .inr ⟨h1, h2⟩
    · exact .inr ⟨fun b hb => h3 b (h1 b hb), h4.os.trans h2.os, h4.tape.trans h2.tape, h4.output.trans h2.output, Nat.le_trans h2.size h4.size, fun b hb => ⟨(h2.blk b hb).1, (h4.blk b (h1 b hb)).2.trans (h2.blk b hb).2⟩⟩

/-! ### what a function that makes memory, or turns some, promises -/
/-- Q: what its result means in a world, in a footprint; A: what the footprint may take of the old blocks -/
def Out {α : Type} (M A : VP) (u : World) (V : VP) (Q : α → World → VP → Prop) : α → World → VP → Prop := fun x u' V' =>
  Upd M u V u' V' ∧ ∃ S, Sub S V' ∧ (∀ b, S b → A b ∨ ¬ V b) ∧ Q x u' S
def Loc {α : Type} (Q : α → World → VP → Prop) : Prop := ∀ x u u' S, Q x u S → Same S u u' → Q x u' S
theorem Out.fin {α : Type} {M A : VP} {u u' : World} {V V' : VP} {Q : α → World → VP → Prop} {x : α} (hQ : Loc Q) (h : Out M A u V Q x u' V') : Fin (Out M A u V Q) x u' V' := by
  intro w V'' hv _ hr
  obtain ⟨h1, S, h2, h3, h4⟩ := h
  exact ⟨upd_fin h1 hv hr, S, h2.trans hv, h3, hQ _ _ _ _ h4 (same_rel hr h2)⟩
theorem fin_upd {α : Type} {M : VP} {u u' : World} {V V' : VP} {R : α → Prop} {x : α} (h : Upd M u V u' V') (hx : R x) : Fin (fun x u' V' => Upd M u V u' V' ∧ R x) x u' V' := fun _ _ hv _ hr => ⟨upd_fin h hv hr, hx⟩

/-! ### contracts made weaker -/
section
variable {P : Program}
theorem GC.mono {α : Type} {f : Nat} {args : List Value} {u : World} {V : VP} {enc : α → Value} {K K' : α → World → VP → Prop} (h : GC P f args u V enc K) (hk : ∀ x u' V', (∀ b, V' b → b < u'.heap.size) → K x u' V' → K' x u' V') : GC P f args u V enc K' :=
  ⟨h.1, fun w hw => Calls.mono (h.2 w hw) fun _ _ ⟨x, e, hf, hK⟩ => ⟨x, e, hf, hk _ _ _ (Vn_lt hw hf.size) hK⟩⟩
/-- a contract may lean on it that what is seen is there -/
theorem GC.bd {α : Type} {f : Nat} {args : List Value} {u : World} {V : VP} {enc : α → Value} {K : α → World → VP → Prop} (hc : CanEnter P f) (h : (∀ b, V b → b < u.heap.size) → GC P f args u V enc K) : GC P f args u V enc K :=
  ⟨hc, fun w hw => (h fun b hb => (hw.blk b hb).1).2 w hw⟩
theorem ROc.ext {f : Nat} {args : List Value} {u u' : World} {V V' : VP} {r : Value} (h : ROc P f args u V r) (he : Ext u V u' V') : ROc P f args u' V' r := Rd.ext (rd := .ro f args r) h he
end

/-! ### cells at an address -/
theorem At.same {S : VP} {u u' : World} {ad : Addr} {cs : List Value} (h : At u S ad cs) (hs : Same S u u') : At u' S ad cs :=
  ⟨h.1, fun j x hj => (World.cell?_of_block (w := u) (by rw [add_block]; exact hs _ h.1)).trans (h.2 j x hj)⟩
theorem At.sub {S T : VP} {u : World} {ad : Addr} {cs : List Value} (h : At u S ad cs) (hs : Sub S T) : At u T ad cs := ⟨hs _ h.1, h.2⟩
theorem At.left {S : VP} {u : World} {ad : Addr} {xs ys : List Value} (h : At u S ad (xs ++ ys)) : At u S ad xs :=
  ⟨h.1, fun j x hj => h.2 j x (by rw [List.getElem?_append_left (List.getElem?_eq_some_iff.1 hj).1]; exact hj)⟩
theorem At.right {S : VP} {u : World} {ad : Addr} {xs ys : List Value} (h : At u S ad (xs ++ ys)) {n : Nat} (hn : n = xs.length) : At u S (ad.add n) ys := by
  subst hn
  refine ⟨by rw [add_block]; exact h.1, fun j x hj => ?_⟩
  rw [Addr.add_add]
  refine h.2 _ x ?_
  rw [List.getElem?_append_right (by omega)]
  simpa using hj
theorem flat_len {α : Type} {c : α → List Value} {sz : Nat} (hz : ∀ x, (c x).length = sz) (xs : List α) : (xs.flatMap c).length = xs.length * sz := by
  induction xs with
  | nil => simp
  | cons x xs ih => simp only [List.flatMap_cons, List.length_append, hz, ih, List.length_cons, Nat.add_mul]; omega
theorem flat_at {α : Type} (c : α → List Value) (xs : List α) (i : Nat) (hi : i < xs.length) : xs.flatMap c = (xs.take i).flatMap c ++ (c xs[i] ++ (xs.drop (i + 1)).flatMap c) := by
  have : xs = xs.take i ++ (xs[i] :: xs.drop (i + 1)) := by rw [← List.drop_eq_getElem_cons hi, List.take_append_drop]
  conv => lhs; rw [this]
  rw [List.flatMap_append, List.flatMap_cons]
theorem At.idx {α : Type} {c : α → List Value} {sz : Nat} {S : VP} {u : World} {ad : Addr} {xs : List α} (h : At u S ad (xs.flatMap c)) (hz : ∀ x, (c x).length = sz) {i : Nat} (hi : i < xs.length) : At u S (ad.add (i * sz)) (c xs[i]) := by
  rw [flat_at c xs i hi] at h
  refine (h.right (n := i * sz) ?_).left
  rw [flat_len hz, List.length_take]
  congr 1
  omega

/-! ### slices that are read -/
structure SlR {α : Type} (c : α → List Value) (u : World) (S : VP) (s : Sl) (xs : List α) : Prop where
  len : s.len = xs.length
  le : s.len ≤ s.cap
  lies : xs = [] ∨ ∃ ad, s.a = some ad ∧ At u S ad (xs.flatMap c)
  big : xs.length ≤ 140737488355328
section
variable {α : Type} {c : α → List Value} {u u' : World} {S T : VP} {s : Sl} {xs : List α}
theorem SlR.same (h : SlR c u S s xs) (hs : Same S u u') : SlR c u' S s xs := ⟨h.len, h.le, h.lies.imp id fun ⟨ad, e, ha⟩ => ⟨ad, e, ha.same hs⟩, h.big⟩
theorem SlR.sub (h : SlR c u S s xs) (hs : Sub S T) : SlR c u T s xs := ⟨h.len, h.le, h.lies.imp id fun ⟨ad, e, ha⟩ => ⟨ad, e, ha.sub hs⟩, h.big⟩
theorem SlR.nil (c : α → List Value) (u : World) (S : VP) (n : Nat) (a : Option Addr) : SlR c u S ⟨a, 0, n⟩ [] := ⟨rfl, Nat.zero_le _, .inl rfl, Nat.zero_le _⟩
theorem SlR.get (h : SlR c u S s xs) {sz : Nat} (hz : ∀ x, (c x).length = sz) {i : Nat} (hi : i < xs.length) : ∃ ad, s.a = some ad ∧ At u S (ad.add (i * sz)) (c xs[i]) := by
  rcases h.lies with rfl | ⟨ad, e, ha⟩
  · exact absurd hi (by simp)
  · exact ⟨ad, e, ha.idx hz hi⟩
/-- the index step of a condition -/
theorem SlR.ix (h : SlR c u S s xs) {sz : Nat} (hz : ∀ x, (c x).length = sz) {n : Int} (h0 : 0 ≤ n) (hi : n.toNat < xs.length) {K : Addr → Prop} (hK : ∀ ad, At u S (ad.add (n.toNat * sz)) (c xs[n.toNat]) → K ad) : (0 ≤ n ∧ n < (s.len : Int)) ∧ NilK s.a K := by
  obtain ⟨ad, e, ha⟩ := h.get hz hi
  refine ⟨⟨h0, ?_⟩, ?_⟩
  · rw [h.len]; omega
  · rw [e]; exact hK ad ha
theorem SlR.cut (h : SlR c u S s xs) {sz : Nat} (hz : ∀ x, (c x).length = sz) {l k : Nat} (hl : l ≤ k) (hk : k ≤ xs.length) : SlR c u S ⟨cutA s.a s.cap l sz, k - l, s.cap - l⟩ ((xs.drop l).take (k - l)) := by
  have h1 := h.len; have h2 := h.le; have h3 := h.big
  refine ⟨by simp; omega, by simp; omega, ?_, by simp; omega⟩
  rcases h.lies with rfl | ⟨ad, e, ha⟩
  · exact .inl (by simp)
  · by_cases he : k - l = 0
    · exact .inl (by simp [he])
    · refine .inr ⟨ad.add (l * sz), ?_, ?_⟩
      · unfold cutA
        rw [if_neg (by omega), e]; rfl
      · have hx : xs.flatMap c = (xs.take l).flatMap c ++ (((xs.drop l).take (k - l)).flatMap c ++ ((xs.drop l).drop (k - l)).flatMap c) := by
          rw [← List.flatMap_append, List.take_append_drop, ← List.flatMap_append, List.take_append_drop]
        rw [hx] at ha
        refine (ha.right (n := l * sz) ?_).left
        rw [flat_len hz, List.length_take]
        congr 1; omega
theorem SlR.upto (h : SlR c u S s xs) {k : Nat} (hk : k ≤ xs.length) : SlR c u S ⟨s.a, k, s.cap⟩ (xs.take k) := by
  have h1 := h.len; have h2 := h.le; have h3 := h.big
  refine ⟨by simp; omega, by show k ≤ s.cap; omega, ?_, by simp; omega⟩
  rcases h.lies with rfl | ⟨ad, e, ha⟩
  · exact .inl (by simp)
  · refine .inr ⟨ad, e, ?_⟩
    have hx : xs.flatMap c = (xs.take k).flatMap c ++ (xs.drop k).flatMap c := by rw [← List.flatMap_append, List.take_append_drop]
    rw [hx] at ha
    exact ha.left
theorem SlR.from (h : SlR c u S s xs) {sz : Nat} (hz : ∀ x, (c x).length = sz) {l : Nat} (hl : l ≤ xs.length) : SlR c u S ⟨cutA s.a s.cap l sz, s.len - l, s.cap - l⟩ (xs.drop l) := by
  have h1 := h.len
  have := h.cut hz (l := l) (k := xs.length) hl (Nat.le_refl _)
  rw [h1]
  rwa [List.take_of_length_le (by simp)] at this
end

/-! ### slices that are one's own: laid from a place on to the capacity's end, written freely -/
structure Own {α : Type} (c : α → List Value) (sz e : Nat) (u : World) (s : Sl) (xs : List α) : Prop where
  len : s.len = xs.length
  le : s.len ≤ s.cap
  lies : (s.a = none ∧ s.cap = 0) ∨ ∃ (g off : Nat) (cs : Array Value), s.a = some ⟨g, off, none⟩ ∧ u.heap[g]? = some (.cells cs e (0, 0)) ∧ off + s.cap * sz ≤ cs.size ∧ (cs.toList.drop off).take (s.len * sz) = xs.flatMap c
  big : xs.length ≤ 140737488355328
section
variable {α : Type} {c : α → List Value} {sz e : Nat} {u u' : World} {S T : VP} {s : Sl} {xs : List α}
theorem Own.same (h : Own c sz e u s xs) (hs : Same (sb s) u u') : Own c sz e u' s xs :=
  ⟨h.len, h.le, h.lies.imp id fun ⟨g, off, cs, ea, hg, h1, h2⟩ => ⟨g, off, cs, ea, (hs g ⟨_, ea, rfl⟩).trans hg, h1, h2⟩, h.big⟩
theorem Own.nil (c : α → List Value) (sz e : Nat) (u : World) : Own c sz e u ⟨none, 0, 0⟩ [] := ⟨rfl, Nat.le_refl _, .inl ⟨rfl, rfl⟩, Nat.zero_le _⟩
theorem Own.new (hz : ∀ x, (c x).length = sz) {b : Nat} (hb : u.heap[b]? = some (.cells (xs.flatMap c).toArray e (0, 0))) {n : Nat} (hn : n = xs.length) (hm : xs.length ≤ 140737488355328) : Own c sz e u ⟨some ⟨b, 0, none⟩, n, n⟩ xs := by
  subst hn
  refine ⟨rfl, Nat.le_refl _, .inr ⟨b, 0, _, rfl, hb, ?_, ?_⟩, hm⟩
  · simp [flat_len hz]
  · show (((xs.flatMap c).toArray).toList.drop 0).take (xs.length * sz) = _
    simp only [List.drop_zero]
    exact List.take_of_length_le (by rw [flat_len hz]; exact Nat.le_refl _)
theorem Own.cell (h : Own c sz e u s xs) {j : Nat} {x : Value} (hj : (xs.flatMap c)[j]? = some x) : ∃ ad, s.a = some ad ∧ u.cell? (ad.add j) = some x := by
  rcases h.lies with ⟨h1, h2⟩ | ⟨g, off, cs, ea, hg, h1, h2⟩
  · have : xs = [] := List.eq_nil_of_length_eq_zero (by have := h.len; have := h.le; omega)
    subst this; cases hj
  · refine ⟨_, ea, ?_⟩
    rw [addr_add0]
    have hlt := (List.getElem?_eq_some_iff.1 hj).1
    rw [← h2] at hj
    rw [List.getElem?_take, List.getElem?_drop] at hj
    split at hj
    · show World.cell? u ⟨g, off + j, none⟩ = some x
      simp only [World.cell?, hg]
      simpa using hj
    · cases hj
theorem Own.toR (h : Own c sz e u s xs) : SlR c u (sb s) s xs := by
  refine ⟨h.len, h.le, ?_, h.big⟩
  rcases h.lies with ⟨h1, h2⟩ | ⟨g, off, cs, ea, hg, h1, h2⟩
  · exact .inl (List.eq_nil_of_length_eq_zero (by have := h.len; have := h.le; omega))
  · refine .inr ⟨_, ea, ⟨_, ea, rfl⟩, fun j x hj => ?_⟩
    obtain ⟨ad, ead, hx⟩ := h.cell hj
    rw [ea] at ead; cases ead
    exact hx
theorem Own.lt (h : Own c sz e u s xs) {b : Nat} (hb : sb s b) : b < u.heap.size := by
  obtain ⟨ad, ea, rfl⟩ := hb
  rcases h.lies with ⟨h1, h2⟩ | ⟨g, off, cs, ea', hg, h1, h2⟩
  · rw [h1] at ea; cases ea
  · rw [ea'] at ea; cases ea
    exact (Array.getElem?_eq_some_iff.1 hg).1
theorem sb_cut {a : Option Addr} {m l z n k n' k' : Nat} : Sub (sb ⟨cutA a m l z, n, k⟩) (sb ⟨a, n', k'⟩) := by
  rintro b ⟨ad, ea, hb⟩
  unfold cutA at ea
  simp only at ea
  split at ea
  · exact ⟨ad, ea, hb⟩
  · cases a with
    | none => cases ea
    | some a0 =>
      simp only [Option.map_some, Option.some.injEq] at ea
      subst ea
      exact ⟨a0, rfl, by rw [add_block] at hb; exact hb⟩
theorem Own.cut (h : Own c sz e u s xs) (hz : ∀ x, (c x).length = sz) {l k : Nat} (hl : l ≤ k) (hk : k ≤ xs.length) : Own c sz e u ⟨cutA s.a s.cap l sz, k - l, s.cap - l⟩ ((xs.drop l).take (k - l)) := by
  have h1 := h.len; have h2 := h.le; have hbig := h.big
  refine ⟨by simp; omega, by simp; omega, ?_, by simp; omega⟩
  rcases h.lies with ⟨h3, h4⟩ | ⟨g, off, cs, ea, hg, h3, h4⟩
  · refine .inl ⟨?_, by simp; omega⟩
    unfold cutA; simp only; split
    · exact h3
    · rw [h3]; rfl
  · have hfl : ((xs.drop l).take (k - l)).flatMap c = ((xs.flatMap c).drop (l * sz)).take ((k - l) * sz) := by
      have hx : xs.flatMap c = (xs.take l).flatMap c ++ (((xs.drop l).take (k - l)).flatMap c ++ ((xs.drop l).drop (k - l)).flatMap c) := by
        rw [← List.flatMap_append, List.take_append_drop, ← List.flatMap_append, List.take_append_drop]
      have e1 : ((xs.take l).flatMap c).length = l * sz := by rw [flat_len hz, List.length_take, Nat.min_eq_left (by omega)]
      have e2 : (((xs.drop l).take (k - l)).flatMap c).length = (k - l) * sz := by
        rw [flat_len hz, List.length_take, List.length_drop, Nat.min_eq_left (by omega)]
      rw [hx, ← e1, List.drop_left, ← e2, List.take_left]
    by_cases hc : s.cap = l
    · refine .inr ⟨g, off, cs, ?_, hg, ?_, ?_⟩
      · unfold cutA; simp [hc, ea]
      · show off + (s.cap - l) * sz ≤ cs.size
        rw [hc, Nat.sub_self, Nat.zero_mul]; omega
      · have e0 : k - l = 0 := by omega
        simp [e0]
    · refine .inr ⟨g, off + l * sz, cs, ?_, hg, ?_, ?_⟩
      · unfold cutA; simp only; rw [if_neg hc, ea]; simp [addr_add0]
      · show off + l * sz + (s.cap - l) * sz ≤ cs.size
        have : l * sz + (s.cap - l) * sz = s.cap * sz := by rw [← Nat.add_mul]; congr 1; omega
        omega
      · show (cs.toList.drop (off + l * sz)).take ((k - l) * sz) = _
        rw [hfl, ← h4, List.drop_take, List.drop_drop, List.take_take]
        congr 1
        rw [← Nat.sub_mul, Nat.min_eq_left]
        exact Nat.mul_le_mul_right _ (by omega)
theorem Own.upto (h : Own c sz e u s xs) (hz : ∀ x, (c x).length = sz) {k : Nat} (hk : k ≤ xs.length) : Own c sz e u ⟨s.a, k, s.cap⟩ (xs.take k) := by
  have h1 := h.len; have h2 := h.le; have hbig := h.big
  refine ⟨by simp; omega, by show k ≤ s.cap; omega, ?_, by simp; omega⟩
  rcases h.lies with h3 | ⟨g, off, cs, ea, hg, h3, h4⟩
  · exact .inl h3
  · refine .inr ⟨g, off, cs, ea, hg, h3, ?_⟩
    show (cs.toList.drop off).take (k * sz) = _
    have hx : xs.flatMap c = (xs.take k).flatMap c ++ (xs.drop k).flatMap c := by rw [← List.flatMap_append, List.take_append_drop]
    have e1 : (xs.take k).flatMap c = (xs.flatMap c).take (k * sz) := by
      have e2 : ((xs.take k).flatMap c).length = k * sz := by rw [flat_len hz, List.length_take, Nat.min_eq_left (by omega)]
      rw [hx, ← e2, List.take_left]
    rw [e1, ← h4, List.take_take]
    congr 1
    rw [Nat.min_eq_left]
    exact Nat.mul_le_mul_right _ (by omega)
theorem Own.from (h : Own c sz e u s xs) (hz : ∀ x, (c x).length = sz) {l : Nat} (hl : l ≤ xs.length) : Own c sz e u ⟨cutA s.a s.cap l sz, s.len - l, s.cap - l⟩ (xs.drop l) := by
  have h1 := h.len
  have := h.cut hz (l := l) (k := xs.length) hl (Nat.le_refl _)
  rw [h1]
  rwa [List.take_of_length_le (by simp)] at this
end

/-! ### new memory -/
theorem NewC.mk {w0 : World} {V : VP} {T : Nat} {cs : List Value} {K : Nat → World → VP → Prop}
    (h : ∀ b u' V', (∀ k, V k → k < w0.heap.size) → w0.heap.size ≤ b → u'.heap[b]? = some (.cells cs.toArray T (0, 0)) → Sub V V' → V' b → (∀ k, V' k → k < u'.heap.size) → Rel V w0 u' → K b u' V') : NewC w0 V T cs K := by
  intro w hw
  refine h _ _ _ (fun k hk => (hw.blk k hk).1) hw.size (heap_alloc_new w _) (fun b hb => .inl hb) (.inr ⟨Nat.le_refl _, by simp⟩) ?_ (hw.alloc _)
  intro k hk
  rcases hk with hk | hk
  · have := hw.lt hk; simp; omega
  · exact hk.2
end Go.Sx

-- SpMem
namespace Go.Sx
open Go.RowKit

/-- how an element lies: its cells' number, each one cell -/
structure CO {α : Type} (c : α → List Value) (sz : Nat) : Prop where
  len : ∀ x, (c x).length = sz
  one : ∀ x, ∀ v ∈ c x, v.oneCell' = true
theorem CO.flat {α : Type} {c : α → List Value} {sz : Nat} (h : CO c sz) (xs : List α) : ∀ v ∈ xs.flatMap c, v.oneCell' = true := by
  intro v hv
  obtain ⟨x, _, hx⟩ := List.mem_flatMap.1 hv
  exact h.one x v hx

/-! ### stores -/
/-- cells laid over others -/
def overL (cs : List Value) (j : Nat) (l : List Value) : List Value := cs.take j ++ l ++ cs.drop (j + l.length)

theorem stW_row (g o : Nat) (t : TypeId) (l : List Value) (h1 : ∀ v ∈ l, v.oneCell' = true) (cur : Array Value) (w : World) (hg : w.heap[g]? = some (.cells cur t (0, 0))) (hl : o + l.length ≤ cur.size) (P : Program) :
    stW w ⟨g, o, none⟩ l 0 = w.setRow g (cur.toList.take o ++ l ++ cur.toList.drop (o + l.length)).toArray := by
  have h2 := run_storeCells_at P g o t l 0 cur w hg (by omega) h1
  have h3 := run_storeCells_st (P := P) ⟨g, o, none⟩ l h1 w 0 fun j _ hj => by
    rw [addr_add0]
    have : o + j < cur.size := by omega
    exact ⟨⟨cur[o + j], by simp [World.cell?, hg, this]⟩, by simp [World.frozen?, hg]⟩
  rw [h2] at h3
  simpa using (Result.ok.inj h3).2.symm

theorem take_over {cs xs l : List Value} {off n k : Nat} (hx : (cs.drop off).take n = xs) (hk : k + l.length ≤ n) (hn : off + n ≤ cs.length) :
    ((cs.take (off + k) ++ l ++ cs.drop (off + k + l.length)).drop off).take n = overL xs k l := by
  have hxl : xs.length = n := by rw [← hx, List.length_take, List.length_drop]; omega
  apply List.ext_getElem?
  intro i
  simp only [overL, List.getElem?_take, List.getElem?_drop, List.getElem?_append, List.length_append, List.length_take, hxl]
  have hxi : ∀ i, i < n → xs[i]? = cs[off + i]? := by
    intro i hi; rw [← hx, List.getElem?_take, List.getElem?_drop, if_pos hi]
  by_cases h1 : i < n
  · simp only [h1, if_true]
    by_cases h2 : i < k
    · have a1 : off + i < min (off + k) cs.length + l.length := by omega
      have a2 : off + i < min (off + k) cs.length := by omega
      have a3 : i < min k n + l.length := by omega
      have a4 : i < min k n := by omega
      have a5 : off + i < off + k := by omega
      simp only [a1, a2, a3, a4, a5, h2, if_true]
      rw [hxi _ h1]
    · by_cases h3 : i < k + l.length
      · have a1 : off + i < min (off + k) cs.length + l.length := by omega
        have a2 : ¬ off + i < min (off + k) cs.length := by omega
        have a3 : i < min k n + l.length := by omega
        have a4 : ¬ i < min k n := by omega
        simp only [a1, a2, a3, a4, if_true, if_false]
        congr 1; omega
      · have a1 : ¬ off + i < min (off + k) cs.length + l.length := by omega
        have a3 : ¬ i < min k n + l.length := by omega
        simp only [a1, a3, if_false]
        rw [hxi _ (by omega)]
        congr 1; omega
  · simp only [h1, if_false]
    have a3 : ¬ i < min k n + l.length := by omega
    simp only [a3, if_false]
    symm
    rw [List.getElem?_eq_none]; omega

theorem over_flat {α : Type} {c : α → List Value} {sz : Nat} (hz : ∀ x, (c x).length = sz) {xs : List α} {i j : Nat} (hi : i < xs.length) {l : List Value} {x' : α} (hj : j + l.length ≤ sz) (hx : overL (c xs[i]) j l = c x') :
    overL (xs.flatMap c) (i * sz + j) l = (xs.set i x').flatMap c := by
  have h1 := flat_at c xs i hi
  have h2 := flat_at c (xs.set i x') i (by simpa using hi)
  have h3 : (xs.set i x').take i = xs.take i := by rw [List.take_set]; exact List.set_eq_of_length_le (by simp; omega)
  have h4 : (xs.set i x').drop (i + 1) = xs.drop (i + 1) := by rw [List.drop_set]; simp
  rw [h3, h4] at h2
  rw [List.getElem_set_self] at h2
  rw [h2, h1, ← hx]
  have hA : ((xs.take i).flatMap c).length = i * sz := by rw [flat_len hz, List.length_take, Nat.min_eq_left (by omega)]
  have hB := hz xs[i]
  generalize (xs.take i).flatMap c = A at *
  generalize (xs.drop (i + 1)).flatMap c = D at *
  generalize c xs[i] = B at *
  unfold overL
  rw [List.take_append, List.take_of_length_le (by omega), hA, Nat.add_sub_cancel_left, List.take_append_of_le_length (by omega)]
  rw [List.drop_append, List.drop_of_length_le (l := A) (by omega), hA, List.nil_append]
  have : i * sz + j + l.length - i * sz = j + l.length := by omega
  rw [this, List.drop_append_of_le_length (by omega)]
  simp [List.append_assoc]

section
variable {α : Type} {c : α → List Value} {sz e : Nat} {u u' : World} {V : VP} {s : Sl} {xs : List α}

/-- one's own row is written at one place -/
theorem Own.st (hc : CO c sz) (h : Own c sz e u s xs) (hV : Sub (sb s) V) {i : Nat} (hi : i < xs.length) {j : Nat} {l : List Value} (h1 : ∀ v ∈ l, v.oneCell' = true) (hj : j + l.length ≤ sz) {x' : α} (hx : overL (c xs[i]) j l = c x') {ad p : Addr} (ha : s.a = some ad) (hp : p = ad.add (i * sz + j)) {n : Nat} (hn : n = l.length)
    {w : World} (hw : Rel V u w) : StOk w V p n ∧ (Own c sz e (stW w p l 0) s (xs.set i x') ∧ Upd (sb s) u V (stW w p l 0) V) := by
  have P : Program := default
  subst hn
  have hs : Same (sb s) u w := same_rel hw hV
  have hO := h.same hs
  have hlen := h.len; have hle := h.le
  rcases hO.lies with ⟨h3, h4⟩ | ⟨g, off, cs, ea, hg, h3, h4⟩
  · rw [ha] at h3; cases h3
  · rw [ha] at ea; cases ea
    have hblk : sb s g := ⟨_, ha, rfl⟩
    have hle2 : (i + 1) * sz ≤ s.cap * sz := Nat.mul_le_mul_right _ (by omega)
    have hmul : (i + 1) * sz = i * sz + sz := by rw [Nat.add_mul, Nat.one_mul]
    have hpe : p = ⟨g, off + (i * sz + j), none⟩ := by rw [hp, addr_add0]
    subst hpe
    have hfit : off + (i * sz + j) + l.length ≤ cs.size := by omega
    have hrow := stW_row g (off + (i * sz + j)) e l h1 cs w hg hfit P
    refine ⟨⟨hV _ hblk, fun k hk => ?_⟩, ?_, ?_⟩
    · rw [addr_add0]
      have : off + (i * sz + j) + k < cs.size := by omega
      exact ⟨⟨cs[off + (i * sz + j) + k], by simp [World.cell?, hg, this]⟩, by simp [World.frozen?, hg]⟩
    · rw [hrow]
      refine ⟨by simpa using hlen, hle, .inr ⟨g, off, _, ha, setRow_heap w g cs _ e _ hg, ?_, ?_⟩, by simpa using h.big⟩
      · simp only [List.size_toArray, List.length_append, List.length_take, List.length_drop, Array.length_toList]
        omega
      · have hk : i * sz + j + l.length ≤ s.len * sz := by
          have : (i + 1) * sz ≤ s.len * sz := Nat.mul_le_mul_right _ (by omega)
          omega
        have hn2 : off + s.len * sz ≤ cs.toList.length := by
          have : s.len * sz ≤ s.cap * sz := Nat.mul_le_mul_right _ hle
          simp only [Array.length_toList]; omega
        have h5 := take_over (l := l) h4 hk hn2
        simp only
        rw [h5]
        exact over_flat hc.len hi hj hx
    · have hf := stW_frame (sb s) w ⟨g, off + (i * sz + j), none⟩ l hblk
      refine ⟨hf.os.trans hw.os, hf.tape.trans hw.tape, hf.output.trans hw.output, Nat.le_trans hw.size hf.size, Sub.refl _, fun b hb hn => ?_⟩
      rw [hf.blk b (hw.lt hb) hn, (hw.blk b hb).2]
end

/-! ### a struct behind a pointer: a row of one -/
def Box {α : Type} (c : α → List Value) (sz e : Nat) (u : World) (ad : Addr) (x : α) : Prop := Own c sz e u ⟨some ad, 1, 1⟩ [x]
section
variable {α : Type} {c : α → List Value} {sz e : Nat} {u u' : World} {V : VP} {ad : Addr} {x : α}
theorem Box.same (h : Box c sz e u ad x) (hs : Same (Blk ad.block) u u') : Box c sz e u' ad x := Own.same h fun b hb => hs b (sb_iff.1 hb)
theorem Box.at_ (h : Box c sz e u ad x) (hc : CO c sz) {S : VP} (hS : S ad.block) : At u S ad (c x) := by
  have h1 := Own.toR h
  obtain ⟨ad', ea, hat⟩ := h1.get hc.len (i := 0) (by simp)
  cases ea
  rw [Nat.zero_mul, Addr.add_zero'] at hat
  exact ⟨hS, hat.2⟩
/-- a piece of it -/
theorem Box.piece (h : Box c sz e u ad x) (hc : CO c sz) {S : VP} (hS : S ad.block) {j : Nat} {l : List Value} {r : List Value} {p : List Value} (hx : c x = p ++ (l ++ r)) (hj : j = p.length) : At u S (ad.add j) l := by
  have h1 := h.at_ hc hS
  rw [hx] at h1
  exact (h1.right hj).left
theorem Box.st (hc : CO c sz) (h : Box c sz e u ad x) (hV : V ad.block) {j : Nat} {l : List Value} (h1 : ∀ v ∈ l, v.oneCell' = true) (hj : j + l.length ≤ sz) {x' : α} (hx : overL (c x) j l = c x') {p : Addr} (hp : p = ad.add j) {n : Nat} (hn : n = l.length)
    {w : World} (hw : Rel V u w) : StOk w V p n ∧ (Box c sz e (stW w p l 0) ad x' ∧ Upd (Blk ad.block) u V (stW w p l 0) V) := by
  have := Own.st hc h (V := V) (fun b hb => by rw [sb_iff] at hb; subst hb; exact hV) (i := 0) (by simp) h1 hj (x' := x') hx (ad := ad) rfl (p := p) (by rw [hp, Nat.zero_mul, Nat.zero_add]) hn hw
  exact ⟨this.1, this.2.1, this.2.2.mono fun b hb => .inl (sb_iff.1 hb)⟩
theorem Box.new (hz : ∀ x, (c x).length = sz) {b : Nat} (hb : u.heap[b]? = some (.cells (c x).toArray e (0, 0))) : Box c sz e u ⟨b, 0, none⟩ x := Own.new hz (by simpa using hb) rfl (by simp)
end

/-! ### append -/
abbrev cI (n : Int) : List Value := [.int .i64 n]
abbrev cS (s : Sl) : List Value := [.slice s.a s.len s.cap]
theorem coI : CO cI 1 := ⟨fun _ => rfl, fun x v hv => by simp only [List.mem_cons, List.not_mem_nil, or_false] at hv; subst hv; rfl⟩
theorem coS : CO cS 1 := ⟨fun _ => rfl, fun x v hv => by simp only [List.mem_cons, List.not_mem_nil, or_false] at hv; subst hv; rfl⟩
/-- what is asked of a slice's type -/
def tyAsk (P : Program) (e : Nat) : Option (Nat × Nat × Option (Nat × Bool)) := (P.info? e).map fun i => (i.size, i.bytes, i.zero.map fun z => (z.cells.size, z.cells.toList.all Value.oneCell'))
structure TyS (P : Program) (t e sz bytes : Nat) : Prop where
  und : P.underlying t = some (.slice e)
  ask : tyAsk P e = some (sz, bytes, some (sz, true))
theorem TyS.info {P : Program} {t e sz bytes : Nat} (h : TyS P t e sz bytes) : ∃ i z, P.info? e = some i ∧ i.zero = some z ∧ i.size = sz ∧ i.bytes = bytes ∧ z.cells.size = sz ∧ (∀ v ∈ z.cells.toList, v.oneCell' = true) := by
  have h1 := h.ask
  unfold tyAsk at h1
  cases hi : P.info? e with
  | none => rw [hi] at h1; cases h1
  | some i =>
    rw [hi] at h1
    simp only [Option.map_some, Option.some.injEq, Prod.mk.injEq] at h1
    obtain ⟨h2, h3, h4⟩ := h1
    cases hz : i.zero with
    | none => rw [hz] at h4; cases h4
    | some z => rw [hz] at h4; simp only [Option.map_some, Option.some.injEq, Prod.mk.injEq] at h4; exact ⟨i, z, rfl, hz, h2, h3, h4.1, fun v hv => List.all_eq_true.1 h4.2 v hv⟩

section
variable {P : Program} {α : Type} {c : α → List Value} {sz e t bytes : Nat} {w : World} {S : VP} {s r : Sl} {xs ys : List α}

theorem run_first {size : Nat} (hz : ∀ x, (c x).length = size) (h : SlR c w S r ys) : (Builtin.firstCells size r.len (.slice r.a r.len r.cap)).run P w = .ok (ys.flatMap c).toArray w := by
  rcases h.lies with rfl | ⟨ad, ea, hat⟩
  · have h0 : r.len = 0 := by simpa using h.len
    rw [h0]
    cases r.a with
    | none => exact run_firstCells_none (P := P) w size 0 0 r.cap
    | some ad => exact run_firstCells_some (P := P) w size 0 ad 0 r.cap [] (by simp) (by simp)
  · rw [ea]
    exact run_firstCells_some (P := P) w size r.len ad r.len r.cap _ (by rw [flat_len hz, h.len]) hat.2

theorem run_append (hT : TyS P t e sz bytes) (hc : CO c sz) (h : Own c sz e w s xs) (hr : SlR c w S r ys) (ty : Nat) (hb : (xs.length + ys.length) * bytes ≤ 140737488355328) (hm : xs.length + ys.length ≤ 140737488355328) :
    ∃ (s' : Sl) (w' : World), (Builtin.append_ #[t, t] ty #[.slice s.a s.len s.cap, .slice r.a r.len r.cap]).run P w = .ok (.slice s'.a s'.len s'.cap) w' ∧ Own c sz e w' s' (xs ++ ys) ∧ FrameV (sb s) w w' ∧ (∀ b, sb s' b → sb s b ∨ (w.heap.size ≤ b ∧ b < w'.heap.size)) ∧ (s.len + r.len ≤ s.cap → s' = ⟨s.a, s.len + r.len, s.cap⟩) := by
  obtain ⟨i, z, hi, hz, h1, h2, h3, _⟩ := hT.info
  subst h1; subst h2
  have ht := hT.und
  have hsl := h.len; have hsc := h.le; have hrl := hr.len
  have hf : ∀ w2 : World, (∀ j v, (ys.flatMap c)[j]? = some v → ∃ ad, r.a = some ad ∧ w2.cell? (ad.add j) = some v) → (Builtin.firstCells i.size r.len (.slice r.a r.len r.cap)).run P w2 = .ok (ys.flatMap c).toArray w2 := by
    intro w2 hw2
    cases hra : r.a with
    | none =>
      have hy : ys = [] := by
        rcases hr.lies with hy | ⟨ad, ea, _⟩
        · exact hy
        · rw [hra] at ea; cases ea
      subst hy
      exact run_firstCells_none (P := P) w2 i.size r.len r.len r.cap
    | some ad =>
      refine run_firstCells_some (P := P) w2 i.size r.len ad r.len r.cap _ (by rw [flat_len hc.len, hr.len]) fun j v hj => ?_
      obtain ⟨ad', ea, hcell⟩ := hw2 j v hj
      rw [hra] at ea; cases ea; exact hcell
  have hcellr : ∀ j v, (ys.flatMap c)[j]? = some v → ∃ ad, r.a = some ad ∧ w.cell? (ad.add j) = some v := by
    intro j v hj
    rcases hr.lies with rfl | ⟨ad, ea, hat⟩
    · cases hj
    · exact ⟨ad, ea, hat.2 j v hj⟩
  by_cases hroom : s.len + r.len ≤ s.cap
  · have hf1 := hf w hcellr
    rcases h.lies with ⟨h4, h5⟩ | ⟨g, off, cs, ea, hg, h4, h5⟩
    · have e1 : r.len = 0 := by omega
      have e2 : s.len = 0 := by omega
      have e3 : ys = [] := List.eq_nil_of_length_eq_zero (by omega)
      have e4 : xs = [] := List.eq_nil_of_length_eq_zero (by omega)
      subst e3; subst e4
      refine ⟨s, w, ?_, h, ⟨rfl, rfl, rfl, Nat.le_refl _, fun _ _ _ => rfl⟩, fun b hb => .inl hb, fun _ => by rw [e1]; rfl⟩
      simp only [List.flatMap_nil] at hf1
      rw [h4, e2, h5]
      rw [e1] at hf1 ⊢
      simp [Builtin.append_, run_underlying ht, sizeOf, typeInfo, hi, Builtin.lenOf, hf1]
    · have hlen2 : (ys.flatMap c).length = r.len * i.size := by rw [flat_len hc.len, hrl]
      have hmul : s.len * i.size + r.len * i.size ≤ s.cap * i.size := by rw [← Nat.add_mul]; exact Nat.mul_le_mul_right _ hroom
      have hst := run_storeCells_at P g (off + s.len * i.size) e (ys.flatMap c) 0 cs w hg (by rw [hlen2]; omega) (hc.flat ys)
      simp only [Nat.add_zero] at hst
      refine ⟨⟨s.a, s.len + r.len, s.cap⟩, w.setRow g (cs.toList.take (off + s.len * i.size) ++ ys.flatMap c ++ cs.toList.drop (off + s.len * i.size + (ys.flatMap c).length)).toArray, ?_, ?_, ?_, ?_, fun _ => rfl⟩
      · rw [ea]
        simp [Builtin.append_, run_underlying ht, sizeOf, typeInfo, hi, Builtin.lenOf, hroom, hf1, addr_add0, hst]
      · refine ⟨by simp [hsl, hrl], hroom, .inr ⟨g, off, _, ea, setRow_heap w g cs _ e _ hg, ?_, ?_⟩, by simpa using hm⟩
        · simp only [List.size_toArray, List.length_append, List.length_take, List.length_drop, Array.length_toList]
          omega
        · simp only [List.flatMap_append]
          rw [← h5]
          have e1 : off + s.len * i.size ≤ cs.toList.length := by simp only [Array.length_toList]; omega
          rw [List.append_assoc, List.drop_append_of_le_length (by rw [List.length_take]; omega), List.drop_take, Nat.add_sub_cancel_left, Nat.add_mul, ← hlen2, List.take_append]
          have e2 : ((cs.toList.drop off).take (s.len * i.size)).length = s.len * i.size := by rw [List.length_take, List.length_drop]; omega
          rw [List.take_of_length_le (by rw [e2]; omega), e2, Nat.add_sub_cancel_left, List.take_left']
          rfl
      · refine ⟨rfl, rfl, rfl, by simp [World.setRow], fun b _ hn => setRow_other w g b _ fun e => hn ⟨_, ea, e.symm⟩⟩
      · rintro b ⟨ad, ea2, hb⟩
        exact .inl ⟨ad, ea2, hb⟩
  · have hgrow : s.cap < s.len + r.len := by omega
    have hn : ¬ (s.len + r.len ≤ s.cap) := hroom
    have h63' : ¬ (9223372036854775807 < ((s.len : Int) + (r.len : Int))) := by omega
    have hfit := growslice_fits (need := s.len + r.len) (old := s.cap) (bytes := i.bytes) hgrow (by rw [hsl, hrl]; exact hb)
    have h48' : ¬ (281474976710656 < Builtin.nextslicecap (s.len + r.len) s.cap * i.bytes) := by omega
    have hf2 := hf w.drew hcellr
    have ho2 : (Builtin.firstCells i.size s.len (.slice s.a s.len s.cap)).run P w.drew = .ok (xs.flatMap c).toArray w.drew := by
      have := run_first (P := P) (w := w) hc.len h.toR
      cases hsa : s.a with
      | none =>
        have hx : xs = [] := by
          rcases h.lies with ⟨_, h5⟩ | ⟨g, off, cs, ea, _⟩
          · exact List.eq_nil_of_length_eq_zero (by omega)
          · rw [hsa] at ea; cases ea
        subst hx
        exact run_firstCells_none (P := P) w.drew i.size s.len s.len s.cap
      | some ad =>
        refine run_firstCells_some (P := P) w.drew i.size s.len ad s.len s.cap _ (by rw [flat_len hc.len, h.len]) fun j v hj => ?_
        obtain ⟨ad', ea, hcell⟩ := h.cell hj
        rw [hsa] at ea; cases ea; exact hcell
    have hge := grownCap_ge w (s.len + r.len) s.cap e
    refine ⟨⟨some ⟨w.heap.size, 0, none⟩, s.len + r.len, grownCap w (s.len + r.len) s.cap e⟩,
      w.drew.alloc (.cells ((xs.flatMap c).toArray ++ (ys.flatMap c).toArray ++ Builtin.zeroCells z.cells (grownCap w (s.len + r.len) s.cap e - (s.len + r.len))) e), ?_, ?_, ?_, ?_, fun hx => absurd hx hn⟩
    · simp [Builtin.append_, run_underlying ht, sizeOf, typeInfo, zeroValue, hi, hz, Builtin.lenOf, hn, h63', h48', Question.forced, hf2, ho2, newRow, grownCap]
      congr 2
      apply Array.ext'
      simp [List.append_assoc]
    · refine ⟨by simp [hsl, hrl], hge, .inr ⟨w.heap.size, 0, _, rfl, heap_alloc_new w.drew _, ?_, ?_⟩, by simpa using hm⟩
      · simp only [Array.size_append, List.size_toArray, size_zeroCells, h3, flat_len hc.len, ← hsl, ← hrl]
        rw [← Nat.add_mul, ← Nat.add_mul]
        have : 0 + grownCap w (s.len + r.len) s.cap e = s.len + r.len + (grownCap w (s.len + r.len) s.cap e - (s.len + r.len)) := by omega
        rw [Nat.zero_add] at this ⊢
        exact Nat.le_of_eq (congrArg (· * i.size) this)
      · simp only [List.drop_zero, Array.toList_append, List.append_assoc, List.flatMap_append]
        rw [← List.append_assoc]
        have : (xs.flatMap c ++ ys.flatMap c).length = (s.len + r.len) * i.size := by rw [List.length_append, flat_len hc.len, flat_len hc.len, ← hsl, ← hrl, Nat.add_mul]
        rw [← this]
        exact List.take_left
    · exact ⟨rfl, rfl, rfl, by simp, fun k hk _ => heap_alloc_old w.drew _ k hk⟩
    · rintro b ⟨ad, ea2, hb⟩
      cases ea2
      subst hb
      exact .inr ⟨Nat.le_refl _, by simp⟩

/-- append in a condition: onto one's own, of what is read -/
theorem opv_append {eT : Nat} {u : World} {V : VP} {K : Sl → World → VP → Prop} (hT : TyS P t e sz bytes) (hc : CO c sz) (h : Own c sz e u s xs) (hV : Sub (sb s) V) (hr : SlR c u S r ys) (hS : Sub S V) (ty : Nat) (hb : (xs.length + ys.length) * bytes ≤ 140737488355328) (hm : xs.length + ys.length ≤ 140737488355328)
    (hK : ∀ s' u' V', Own c sz e u' s' (xs ++ ys) → Upd (sb s) u V u' V' → Sub (sb s') V' → (∀ b, sb s' b → sb s b ∨ ¬ V b) → (s.len + r.len ≤ s.cap → s' = ⟨s.a, s.len + r.len, s.cap⟩) → K s' u' V') :
    OpV P eT (Builtin.append_ #[t, t] ty #[.slice s.a s.len s.cap, .slice r.a r.len r.cap]) (Enc.one eSl) u V K := by
  intro w hw
  obtain ⟨s', w', h1, h2, h3, h4, h5⟩ := run_append hT hc (h.same (same_rel hw hV)) (hr.same (same_rel hw hS)) ty hb hm
  refine ⟨s', w', h1, ⟨h3.os, h3.tape, h3.output, h3.size, fun b hb hn => h3.blk b hb fun hx => hn (hV b hx)⟩, hK s' w' _ h2 ?_ ?_ ?_ h5⟩
  · exact ⟨h3.os.trans hw.os, h3.tape.trans hw.tape, h3.output.trans hw.output, Nat.le_trans hw.size h3.size, fun b hb => .inl hb, fun b hb hn => (h3.blk b (hw.lt hb) hn).trans (hw.blk b hb).2⟩
  · intro b hb
    rcases h4 b hb with hb | hb
    · exact .inl (hV b hb)
    · exact .inr hb
  · intro b hb
    rcases h4 b hb with hb | hb
    · exact .inl hb
    · exact .inr fun hv => by have := hw.lt hv; omega

theorem zero_one {z : Array Value} {n : Nat} (hz : ∀ v ∈ z.toList, v.oneCell' = true) : ∀ v ∈ (Builtin.zeroCells z n).toList, v.oneCell' = true := by
  intro v hv
  simp only [Builtin.zeroCells, Array.toList_map, List.mem_map] at hv
  obtain ⟨i, hi, rfl⟩ := hv
  have hi : i < n * z.size := by simpa using hi
  have hpos : 0 < z.size := by
    rcases Nat.eq_zero_or_pos z.size with h | h
    · rw [h] at hi; simp at hi
    · exact h
  have hm : i % z.size < z.size := Nat.mod_lt _ hpos
  rw [getElem!_pos z _ hm]
  exact hz _ (by simp)

/-- what lies behind one's own row is made zero -/
theorem opv_clear {eT : Nat} {u : World} {V : VP} {K : Unit → World → VP → Prop} (hT : TyS P t e sz bytes) (h : Own c sz e u s xs) (hV : Sub (sb s) V) (ty : Nat) {n : Nat} (hn : s.len + n ≤ s.cap)
    (hK : ∀ u' V', Own c sz e u' s xs → Upd (sb s) u V u' V' → (∀ k, V' k → k < u'.heap.size) → K () u' V') :
    OpV P eT (Builtin.clear_ #[t] ty #[.slice (cutA s.a s.cap s.len sz) n (s.cap - s.len)]) Enc.t0 u V K := by
  intro w hw
  obtain ⟨i, z, hi, hz, h1, h2, h3, h4⟩ := hT.info
  subst h1; subst h2
  have ht := hT.und
  have hO := h.same (same_rel hw hV)
  have key : ∃ w', (Builtin.clear_ #[t] ty #[.slice (cutA s.a s.cap s.len i.size) n (s.cap - s.len)]).run P w = .ok (.tuple #[]) w' ∧ FrameV (sb s) w w' ∧ Own c i.size e w' s xs := by
    rcases Nat.eq_zero_or_pos n with rfl | hpos
    · refine ⟨w, ?_, ⟨rfl, rfl, rfl, Nat.le_refl _, fun _ _ _ => rfl⟩, hO⟩
      cases hx : cutA s.a s.cap s.len i.size <;> simp [Builtin.clear_, run_underlying ht]
    · rcases hO.lies with ⟨h5, h6⟩ | ⟨g, off, cs, ea, hg, h5, h6⟩
      · omega
      · have hcut : cutA s.a s.cap s.len i.size = some ⟨g, off + s.len * i.size, none⟩ := by
          unfold cutA; rw [if_neg (by omega), ea]; simp [addr_add0]
        have hlen2 : (Builtin.zeroCells z.cells n).toList.length = n * i.size := by rw [Array.length_toList, size_zeroCells, h3]
        have hmul : s.len * i.size + n * i.size ≤ s.cap * i.size := by rw [← Nat.add_mul]; exact Nat.mul_le_mul_right _ hn
        have hst := run_storeCells_at P g (off + s.len * i.size) e (Builtin.zeroCells z.cells n).toList 0 cs w hg (by rw [hlen2]; omega) (zero_one h4)
        simp only [Nat.add_zero] at hst
        refine ⟨w.setRow g (cs.toList.take (off + s.len * i.size) ++ (Builtin.zeroCells z.cells n).toList ++ cs.toList.drop (off + s.len * i.size + (Builtin.zeroCells z.cells n).toList.length)).toArray, ?_, ⟨rfl, rfl, rfl, ?_, fun b _ hb => setRow_other w g b _ fun e => hb ⟨_, ea, e.symm⟩⟩, ⟨hO.len, hO.le, .inr ⟨g, off, _, ea, setRow_heap w g cs _ e _ hg, ?_, ?_⟩, hO.big⟩⟩
        · rw [hcut]
          obtain ⟨m, rfl⟩ : ∃ m, n = m + 1 := ⟨n - 1, by omega⟩
          simp [Builtin.clear_, run_underlying ht, zeroValue, typeInfo, hi, hz, hst]
        · simp [World.setRow]
        · simp only [List.size_toArray, List.length_append, List.length_take, List.length_drop, Array.length_toList]
          simp only [Array.length_toList] at hlen2
          omega
        · rw [← h6]
          have e1 : off + s.len * i.size ≤ cs.toList.length := by simp only [Array.length_toList]; omega
          rw [List.append_assoc, List.drop_append_of_le_length (by rw [List.length_take]; omega), List.drop_take, Nat.add_sub_cancel_left]
          rw [List.take_append_of_le_length (by rw [List.length_take, List.length_drop]; omega), List.take_take, Nat.min_self]
  obtain ⟨w', h5, h6, h7⟩ := key
  refine ⟨(), w', h5, ⟨h6.os, h6.tape, h6.output, h6.size, fun b hb hn => h6.blk b hb fun hx => hn (hV b hx)⟩, hK w' _ h7 ?_ (Vn_lt hw h6.size)⟩
  exact ⟨h6.os.trans hw.os, h6.tape.trans hw.tape, h6.output.trans hw.output, Nat.le_trans hw.size h6.size, fun b hb => .inl hb, fun b hb hn => (h6.blk b (hw.lt hb) hn).trans (hw.blk b hb).2⟩
end
end Go.Sx

-- SpWalk
namespace Go.Sx
theorem ifB {b : Bool} {A B : Prop} (h1 : b = true → A) (h2 : b = false → B) : IfB b A B := by
  cases b
  · exact h2 rfl
  · exact h1 rfl
theorem joinI {σ : Type} {rest : σ → World → VP → Prop} {A : (σ → World → VP → Prop) → Prop} (h : ∀ Kj : σ → World → VP → Prop, (∀ s u V, rest s u V → Kj s u V) → A Kj) : JoinN rest A := h
theorem ifT {A B : Prop} (h : A) : IfB true A B := h
theorem ifF {A B : Prop} (h : B) : IfB false A B := h

/-! ### loops -/
section
variable {σ : Type} {s0 : σ} {u : World} {V : VP} {body : σ → World → VP → (σ → World → VP → Prop) → Prop}
theorem LoopN.st (Inv : σ → World → VP → Prop) (m : σ → Nat) (h0 : Inv s0 u V) (h : ∀ s u V, Inv s u V → ∀ next : σ → World → VP → Prop, (∀ s' u' V', Inv s' u' V' → m s' < m s → next s' u' V') → body s u V next) : LoopN s0 u V body :=
  ⟨Inv, fun s _ _ => m s, h0, fun s u V hI => h s u V hI _ fun _ _ _ h1 h2 => ⟨h1, h2⟩⟩
end
/-- a loop that is left in its first round -/
theorem LoopN.skip {σ : Type} {s0 : σ} {u : World} {V : VP} {body : σ → World → VP → (σ → World → VP → Prop) → Prop} (h : ∀ next : σ → World → VP → Prop, body s0 u V next) : LoopN s0 u V body :=
  LoopN.st (fun s u' V' => s = s0 ∧ u' = u ∧ V' = V) (fun _ => 0) ⟨rfl, rfl, rfl⟩ fun _ _ _ ⟨h1, h2, h3⟩ next _ => by subst h1; subst h2; subst h3; exact h next
theorem LoopN.range {u : World} {V : VP} {body : Int → World → VP → (Int → World → VP → Prop) → Prop} (n : Nat) (Inv : Nat → World → VP → Prop) (h0 : Inv 0 u V)
    (h : ∀ (i : Nat) u V, i ≤ n → Inv i u V → ∀ next : Int → World → VP → Prop, (∀ u' V', i < n → Inv (i + 1) u' V' → next ((i : Int) + 1) u' V') → body (i : Int) u V next) : LoopN (σ := Int) 0 u V body := by
  refine LoopN.st (fun s u V => ∃ i : Nat, s = i ∧ i ≤ n ∧ Inv i u V) (fun s => n - s.toNat) ⟨0, rfl, Nat.zero_le _, h0⟩ ?_
  rintro s u V ⟨i, rfl, hi, hI⟩ next hn
  refine h i u V hi hI next fun u' V' h1 h2 => hn _ _ _ ⟨i + 1, by omega, by omega, h2⟩ (by omega)
/-- a loop that only reads -/
theorem LoopN.rangeR {u : World} {V : VP} {body : Int → World → VP → (Int → World → VP → Prop) → Prop} (n : Nat) (Q : Nat → Prop) (h0 : Q 0)
    (h : ∀ (i : Nat), i ≤ n → Q i → ∀ next : Int → World → VP → Prop, (i < n → Q (i + 1) → next ((i : Int) + 1) u V) → body (i : Int) u V next) : LoopN (σ := Int) 0 u V body :=
  LoopN.range n (fun i u' V' => u' = u ∧ V' = V ∧ Q i) ⟨rfl, rfl, h0⟩ fun i u' V' hi ⟨e1, e2, hQ⟩ next hn => by
    subst e1; subst e2
    exact h i hi hQ next fun h1 h2 => hn _ _ h1 ⟨rfl, rfl, h2⟩
theorem rng_nat {n : Nat} (h : n ≤ 140737488355328) : Rng ((n : Int) + 1) := by unfold Rng; omega
theorem ext_refl (u : World) (V : VP) : Ext u V u V := .inl ⟨rfl, rfl⟩
theorem ext_new {u u' : World} {V V' : VP} (h : Sub V V') (hr : Rel V u u') : Ext u V u' V' := .inr ⟨h, hr⟩

/-! ### reading steps -/
section
variable {α : Type} {c : α → List Value} {u u' : World} {S T V : VP} {s : Sl} {xs : List α}
theorem SlR.ixN (h : SlR c u S s xs) {sz : Nat} (hz : ∀ x, (c x).length = sz) {i : Nat} (hi : i < xs.length) {K : Addr → Prop} (hK : ∀ ad, s.a = some ad → At u S (ad.add (i * sz)) (c xs[i]) → K ad) : (0 ≤ (i : Int) ∧ (i : Int) < (s.len : Int)) ∧ NilK s.a K := by
  obtain ⟨ad, e, ha⟩ := h.get hz hi
  refine ⟨⟨by omega, by rw [h.len]; omega⟩, ?_⟩
  have := hK ad e ha
  rw [e]; exact this
theorem SlR.ixI (h : SlR c u S s xs) {sz : Nat} (hz : ∀ x, (c x).length = sz) {n : Int} (h0 : 0 ≤ n) (hi : n.toNat < xs.length) {K : Addr → Prop} (hK : ∀ ad, s.a = some ad → At u S (ad.add (n.toNat * sz)) (c xs[n.toNat]) → K ad) : (0 ≤ n ∧ n < (s.len : Int)) ∧ NilK s.a K := by
  obtain ⟨ad, e, ha⟩ := h.get hz hi
  refine ⟨⟨h0, by rw [h.len]; omega⟩, ?_⟩
  have := hK ad e ha
  rw [e]; exact this
theorem At.fld {ad : Addr} {cs : List Value} (h : At u S ad cs) (hS : Sub S V) {j : Nat} {l : List Value} (hx : (cs.drop j).take l.length = l) : At u V (ad.add j) l := by
  have h1 : cs = cs.take j ++ ((cs.drop j).take l.length ++ (cs.drop j).drop l.length) := by rw [List.take_append_drop, List.take_append_drop]
  rw [hx] at h1
  refine ⟨by rw [add_block]; exact hS _ h.1, fun k x hk => ?_⟩
  rw [Addr.add_add]
  refine h.2 _ x ?_
  have h2 : ((cs.drop j).take l.length)[k]? = some x := by rw [hx]; exact hk
  rw [List.getElem?_take] at h2
  split at h2
  · rw [List.getElem?_drop] at h2; exact h2
  · cases h2
end
/-- where the first one is; -1: nowhere -/
def idxI {α : Type} (p : α → Bool) (xs : List α) : Int := match xs.findIdx? p with | some i => (i : Int) | none => -1
theorem idxI_some {α : Type} {p : α → Bool} {xs : List α} {i : Nat} (hi : i < xs.length) (h : p xs[i] = true) (hb : ∀ j (hj : j < i), p (xs[j]'(by omega)) = false) : idxI p xs = i := by
  have : xs.findIdx? p = some i := by
    rw [List.findIdx?_eq_some_iff_getElem]
    exact ⟨hi, h, fun j hj => by simpa using hb j hj⟩
  simp [idxI, this]
theorem idxI_none {α : Type} {p : α → Bool} {xs : List α} (h : ∀ j (hj : j < xs.length), p xs[j] = false) : idxI p xs = -1 := by
  have : xs.findIdx? p = none := by
    rw [List.findIdx?_eq_none_iff]
    intro x hx
    obtain ⟨j, hj, rfl⟩ := List.getElem_of_mem hx
    exact h j hj
  simp [idxI, this]
theorem idxI_cases {α : Type} (p : α → Bool) (xs : List α) : (idxI p xs = -1 ∧ ∀ x ∈ xs, p x = false) ∨ ∃ (i : Nat) (hi : i < xs.length), idxI p xs = i ∧ p xs[i] = true ∧ ∀ j (hj : j < i), p (xs[j]'(by omega)) = false := by
  unfold idxI
  cases h : xs.findIdx? p with
  | none => exact .inl ⟨rfl, List.findIdx?_eq_none_iff.1 h⟩
  | some i =>
    obtain ⟨hi, h1, h2⟩ := List.findIdx?_eq_some_iff_getElem.1 h
    exact .inr ⟨i, hi, rfl, h1, fun j hj => by simpa using h2 j hj⟩
theorem nilK_some {α : Type} {x : α} {K : α → Prop} (h : K x) : NilK (some x) K := h
theorem Same.vis {S V : VP} {u u' : World} (hr : Rel V u u') (hS : Sub S V) : Same S u u' := same_rel hr hS
/-- nothing is turned but what is new -/
theorem upd_new {u u' : World} {V V' : VP} (M : VP) (hs : Sub V V') (hr : Rel V u u') : Upd M u V u' V' := ⟨hr.os, hr.tape, hr.output, hr.size, hs, fun b hb _ => (hr.blk b hb).2⟩
theorem not_vis {u : World} {V : VP} {b : Nat} (hbd : ∀ k, V k → k < u.heap.size) (hb : u.heap.size ≤ b) : ¬ V b := fun h => by have := hbd _ h; omega

/-! ### conditions made plain by simp -/
theorem ifT_eq (A B : Prop) : IfB true A B = A := rfl
theorem ifF_eq (A B : Prop) : IfB false A B = B := rfl
theorem joinL {σ : Type} (rest : σ → World → VP → Prop) (s : σ) (u : World) (V : VP) : JoinN rest (fun Kj => Kj s u V) = rest s u V :=
  propext ⟨fun h => h rest fun _ _ _ h => h, fun h _ hK => hK _ _ _ h⟩
end Go.Sx

-- SpSort
namespace Go.Sx

/-- a strict weak order -/
structure SWO {α : Type} (lt : α → α → Bool) : Prop where
  tr : ∀ x y z, lt x y = true → lt y z = true → lt x z = true
  nt : ∀ x y z, lt x y = false → lt y z = false → lt x z = false
  irr : ∀ x, lt x x = false
section
variable {α : Type} (lt : α → α → Bool)
/-- x goes ahead of its equals -/
def insL (x : α) : List α → List α
  | [] => [x]
  | y :: ys => if lt y x then y :: insL x ys else x :: y :: ys
/-- x goes behind its equals -/
def insR (x : α) : List α → List α
  | [] => [x]
  | y :: ys => if lt x y then x :: y :: ys else y :: insR x ys
def isort : List α → List α
  | [] => []
  | x :: xs => insL lt x (isort xs)
end
section
variable {α : Type} {lt : α → α → Bool}
theorem mem_insL {x y : α} {l : List α} : y ∈ insL lt x l ↔ y = x ∨ y ∈ l := by
  induction l with
  | nil => simp [insL]
  | cons z zs ih =>
    unfold insL
    split
    · simp only [List.mem_cons, ih]
      constructor
      · rintro (h | h | h) <;> simp [h]
      · rintro (h | h | h) <;> simp [h]
    · simp
theorem mem_isort {y : α} {l : List α} : y ∈ isort lt l ↔ y ∈ l := by
  induction l with
  | nil => simp [isort]
  | cons x xs ih => simp [isort, mem_insL, ih]
theorem length_insL {x : α} {l : List α} : (insL lt x l).length = l.length + 1 := by
  induction l with
  | nil => rfl
  | cons z zs ih => unfold insL; split <;> simp [ih]
theorem length_isort {l : List α} : (isort lt l).length = l.length := by
  induction l with
  | nil => rfl
  | cons x xs ih => simp [isort, length_insL, ih]
theorem insL_insR (h : SWO lt) (x y : α) (s : List α) : insL lt y (insR lt x s) = insR lt x (insL lt y s) := by
  induction s with
  | nil => simp only [insL, insR]
  | cons z s ih =>
    by_cases h1 : lt x z = true
    · by_cases h2 : lt z y = true
      · have h3 := h.tr _ _ _ h1 h2
        simp only [insL, insR, h1, h2, h3, if_true]
      · have h2' : lt z y = false := by simpa using h2
        by_cases h3 : lt x y = true
        · simp [insL, insR, h1, h2', h3]
        · have h3' : lt x y = false := by simpa using h3
          simp [insL, insR, h1, h2', h3']
    · have h1' : lt x z = false := by simpa using h1
      by_cases h2 : lt z y = true
      · simp [insL, insR, h1', h2, ih]
      · have h2' : lt z y = false := by simpa using h2
        have h3 := h.nt _ _ _ h1' h2'
        simp [insL, insR, h1', h2', h3]
theorem isort_snoc (h : SWO lt) (l : List α) (x : α) : isort lt (l ++ [x]) = insR lt x (isort lt l) := by
  induction l with
  | nil => rfl
  | cons y l ih => simp only [List.cons_append, isort, ih, insL_insR h]
theorem insR_split {x : α} {p q : List α} (hp : ∀ y ∈ p, lt x y = false) (hq : ∀ y ∈ q, lt x y = true) : insR lt x (p ++ q) = p ++ x :: q := by
  induction p with
  | nil => cases q with
    | nil => rfl
    | cons z q => simp [insR, hq z (by simp)]
  | cons y p ih =>
    simp only [List.cons_append, insR, hp y (by simp)]
    simp [ih fun z hz => hp z (by simp [hz])]
theorem insL_head {x : α} {s : List α} (h : ∀ y ∈ s, lt y x = false) : insL lt x s = x :: s := by
  cases s with
  | nil => rfl
  | cons y s => simp [insL, h y (by simp)]
/-- the first of the least goes first -/
theorem isort_sel {m : α} {a b : List α} (ha : ∀ x ∈ a, lt m x = true) (hb : ∀ x ∈ b, lt x m = false) : isort lt (a ++ m :: b) = m :: isort lt (a ++ b) := by
  induction a with
  | nil => exact insL_head fun y hy => hb y (mem_isort.1 hy)
  | cons x a ih =>
    simp only [List.cons_append, isort, ih fun y hy => ha y (by simp [hy])]
    simp [insL, ha x (by simp)]
def Srt (lt : α → α → Bool) (l : List α) : Prop := l.Pairwise fun a b => lt b a = false
theorem srt_insL (h : SWO lt) {x : α} {s : List α} (hs : Srt lt s) : Srt lt (insL lt x s) := by
  induction s with
  | nil => simp [insL, Srt]
  | cons y s ih =>
    unfold Srt at hs ⊢
    rw [List.pairwise_cons] at hs
    unfold insL
    split
    · rename_i hy
      rw [List.pairwise_cons]
      refine ⟨fun z hz => ?_, ih hs.2⟩
      rcases mem_insL.1 hz with rfl | hz
      · cases hh : lt z y with
        | false => rfl
        | true => have := h.tr _ _ _ hy hh; rw [h.irr] at this; cases this
      · exact hs.1 z hz
    · rename_i hy
      have hy' : lt y x = false := by simpa using hy
      rw [List.pairwise_cons]
      refine ⟨fun z hz => ?_, List.pairwise_cons.2 hs⟩
      rcases List.mem_cons.1 hz with rfl | hz
      · exact hy'
      · exact h.nt _ _ _ (hs.1 z hz) hy'
theorem srt_isort (h : SWO lt) (l : List α) : Srt lt (isort lt l) := by
  induction l with
  | nil => exact List.Pairwise.nil
  | cons x l ih => exact srt_insL h ih
/-- what the inner loop leaves: all behind x are above it, the one ahead is not -/
theorem isort_step (h : SWO lt) {l p q : List α} {x : α} (hl : isort lt l = p ++ q) (hq : ∀ y ∈ q, lt x y = true) (hp : ∀ y, p.getLast? = some y → lt x y = false) : isort lt (l ++ [x]) = p ++ x :: q := by
  rw [isort_snoc h, hl]
  refine insR_split ?_ hq
  intro y hy
  have hs := srt_isort h l
  rw [hl] at hs
  have hs := (List.pairwise_append.1 hs).1
  rcases List.eq_nil_or_concat p with rfl | ⟨p', z, rfl⟩
  · cases hy
  · have hz := hp z (by simp)
    rw [List.concat_eq_append, List.mem_append] at hy
    rcases hy with hy | hy
    · rw [List.concat_eq_append] at hs
      have := (List.pairwise_append.1 hs).2.2 y hy z (by simp)
      exact h.nt _ _ _ hz this
    · have : y = z := by simpa using hy
      subst this; exact hz
theorem isort_of_srt {l : List α} (h : Srt lt l) : isort lt l = l := by
  induction l with
  | nil => rfl
  | cons x l ih =>
    unfold Srt at h
    rw [List.pairwise_cons] at h
    simp only [isort, ih h.2]
    exact insL_head h.1
theorem isort_one (x : α) : isort lt [x] = [x] := rfl
end
end Go.Sx

-- SpEq
namespace Go.Sx
open Go.RowKit

/-! ### structs of plain integers are compared -/
def ints (xs : List Int) : List Value := xs.map (Value.int .i64)
def isAggT (P : Program) (T : Nat) : Bool := match P.underlying T with | some (.struct _) => true | some (.array _ _) => true | _ => false
def valI (P : Program) (T : Nat) (xs : List Int) : Value := match isAggT P T with | true => .agg (ints xs).toArray | false => match xs with | x :: _ => .int .i64 x | [] => undef
def plainFs (f : Nat → Option Nat) : List Field → Nat → Option Nat
  | [], off => some off
  | fd :: l, off => match (fd.name != "_").and (Nat.beq fd.offset off) with
    | true => (match f fd.type with | some n => plainFs f l (off + n) | none => none)
    | false => none
def plainT (P : Program) : Nat → Nat → Option Nat
  | 0, _ => none
  | d + 1, T => match P.underlying T, P.info? T with
    | some (.int .i64), _ => some 1
    | some (.struct fs), some i => (match P.stoodInHeld T, plainFs (fun t => plainT P d t) fs.toList 0 with
      | false, some n => (match Nat.beq n i.size with | true => some n | false => none)
      | _, _ => none)
    | _, _ => none

section
variable {P : Program}
theorem plainT_size {d T n : Nat} (h : plainT P d T = some n) (hagg : isAggT P T = true) : ∃ i, P.info? T = some i ∧ i.size = n := by
  cases d with
  | zero => cases h
  | succ d =>
    unfold plainT at h
    split at h
    · rename_i hu; simp [isAggT, hu] at hagg
    · rename_i fs i hu hi
      split at h
      · split at h
        · cases h; rename_i _ _ _ hb; exact ⟨i, hi, (Nat.eq_of_beq_eq_true hb).symm⟩
        · cases h
      · cases h
    · cases h
theorem plainT_one {d T n : Nat} (h : plainT P d T = some n) (hagg : isAggT P T = false) : n = 1 := by
  cases d with
  | zero => cases h
  | succ d =>
    unfold plainT at h
    split at h
    · cases h; rfl
    · rename_i hu _; simp [isAggT, hu] at hagg
    · cases h
theorem run_isAgg {T : Nat} {d n : Nat} (h : plainT P d T = some n) (w : World) : (isAgg T).run P w = .ok (isAggT P T) w := by
  cases d with
  | zero => cases h
  | succ d =>
    unfold plainT at h
    split at h
    · rename_i hu; simp [isAgg, isAggT, run_underlying hu, hu]
    · rename_i hu _; simp [isAgg, isAggT, run_underlying hu, hu]
    · cases h
theorem run_part {T d n off : Nat} (h : plainT P d T = some n) {xs : List Int} (hl : off + n ≤ xs.length) (w : World) : (part T (ints xs).toArray off).run P w = .ok (valI P T ((xs.drop off).take n)) w := by
  unfold part
  simp only [Sem.run_bind, run_isAgg h, Result.andThen_ok]
  cases hagg : isAggT P T with
  | true =>
    obtain ⟨i, hi, hs⟩ := plainT_size h hagg
    have : (sizeOf T).run P w = .ok n w := by rw [run_sizeOf' hi, hs]
    simp only [if_true, Sem.run_bind, this, Result.andThen_ok, Sem.run_pure, valI, hagg]
    congr 2
    apply Array.ext'
    simp [ints, List.map_take, List.map_drop]
  | false =>
    have h1 := plainT_one h hagg
    subst h1
    have hlt : off < xs.length := by omega
    have : ((ints xs).toArray)[off]? = some (.int .i64 xs[off]) := by simp [ints, hlt]
    simp only [Bool.false_eq_true, if_false, this, Sem.run_pure, valI, hagg]
    rw [List.drop_eq_getElem_cons hlt]
    rfl
theorem take_beq {n : Nat} {a b : List Int} : (a == b) = ((a.take n == b.take n) && (a.drop n == b.drop n)) := by
  rw [Bool.eq_iff_iff]
  simp only [beq_iff_eq, Bool.and_eq_true]
  constructor
  · rintro rfl; exact ⟨rfl, rfl⟩
  · rintro ⟨h1, h2⟩
    rw [← List.take_append_drop n a, ← List.take_append_drop n b, h1, h2]
theorem eq_fields {d D : Nat} (ih : ∀ T n, plainT P d T = some n → ∀ xs ys : List Int, xs.length = n → ys.length = n → ∀ w, (Op.equalIn D T (valI P T xs) (valI P T ys)).run P w = .ok (xs == ys) w)
    {xs ys : List Int} (hl : xs.length = ys.length) (w : World) : ∀ (fs : List Field) (off : Nat), plainFs (fun t => plainT P d t) fs off = some xs.length → off ≤ xs.length →
    (Op.eqFields D (ints xs).toArray (ints ys).toArray fs).run P w = .ok (xs.drop off == ys.drop off) w := by
  intro fs
  induction fs with
  | nil =>
    intro off h _
    simp only [plainFs, Option.some.injEq] at h
    subst h
    simp [Op.eqFields, hl]
  | cons f fs ih2 =>
    intro off h ho
    unfold plainFs at h
    split at h
    · rename_i hb
      split at h
      · rename_i n hn
        have hn' : plainT P d f.type = some n := hn
        simp only [Bool.and_eq_true, bne_iff_ne, ne_eq] at hb
        have hoff := Nat.eq_of_beq_eq_true hb.2
        have hle : off + n ≤ xs.length := by
          clear ih2
          have : ∀ (l : List Field) (o m : Nat), plainFs (fun t => plainT P d t) l o = some m → o ≤ m := by
            intro l
            induction l with
            | nil => intro o m hh; simp [plainFs] at hh; omega
            | cons g l ihl =>
              intro o m hh
              unfold plainFs at hh
              split at hh
              · split at hh
                · have := ihl _ _ hh; omega
                · cases hh
              · cases hh
          exact this _ _ _ h
        have ihn := ih2 (off + n) h hle
        simp only [Op.eqFields, hb.1, ne_eq, not_false_eq_true, if_true, Sem.run_bind, hoff]
        rw [run_part hn' hle]
        simp only [Result.andThen_ok]
        rw [run_part hn' (by omega)]
        simp only [Result.andThen_ok]
        rw [ih _ _ hn' _ _ (by simp; omega) (by simp; omega)]
        simp only [Result.andThen_ok, Sem.run_ite, ihn, Sem.run_pure]
        rw [take_beq (n := n) (a := xs.drop off) (b := ys.drop off), List.drop_drop, List.drop_drop]
        cases (List.take n (List.drop off xs) == List.take n (List.drop off ys)) <;> simp
      · cases h
    · cases h
theorem run_plain_eq : ∀ (d D : Nat), d ≤ D → ∀ T n, plainT P d T = some n → ∀ xs ys : List Int, xs.length = n → ys.length = n → ∀ w, (Op.equalIn D T (valI P T xs) (valI P T ys)).run P w = .ok (xs == ys) w := by
  intro d
  induction d with
  | zero => intro D _ T n h; cases h
  | succ d ih =>
    intro D hD T n h xs ys hx hy w
    obtain ⟨D, rfl⟩ : ∃ D', D = D' + 1 := ⟨D - 1, by omega⟩
    have h0 := h
    unfold plainT at h
    split at h
    · rename_i hu
      cases h
      have hagg : isAggT P T = false := by simp [isAggT, hu]
      match xs, ys, hx, hy with
      | [x], [y], _, _ =>
        simp only [valI, hagg]
        rw [run_equalIn_int w D T .i64 .i64 x y hu]
        simp
    · rename_i fs i hu hi
      have hagg : isAggT P T = true := by simp [isAggT, hu]
      split at h
      · rename_i m hst hfs
        split at h
        · cases h
          have hfo : P.fieldsOf T = fs := by simp [Program.fieldsOf, hu]
          simp only [valI, hagg]
          rw [run_equalIn_struct w D T _ _ (by rw [hfo]; exact hu) hst, hfo]
          have := eq_fields (d := d) (D := D) (fun T n hn xs ys hx hy w => ih D (by omega) T n hn xs ys hx hy w) (xs := xs) (ys := ys) (by omega) w fs.toList 0 (by rw [hx]; exact hfs) (Nat.zero_le _)
          simpa using this
        · cases h
      · cases h
    · cases h

/-- what is asked of a struct's type whose values are compared -/
structure EqT (P : Program) (T n : Nat) : Prop where
  plain : plainT P 12 T = some n
  agg : isAggT P T = true
  guard : P.eqGuardType P.depth T = false
theorem EqT.eql {T n : Nat} (h : EqT P T n) {xs ys : List Int} (hx : xs.length = n) (hy : ys.length = n) (w : World) : (binOp .eql T (.agg (ints xs).toArray) (.agg (ints ys).toArray)).run P w = .ok (.bool (xs == ys)) w := by
  have := run_plain_eq 12 10000 (by omega) T n h.plain xs ys hx hy w
  simp only [valI, h.agg] at this
  rw [run_eql_struct, this]; rfl
theorem EqT.neq {T n : Nat} (h : EqT P T n) {xs ys : List Int} (hx : xs.length = n) (hy : ys.length = n) (w : World) : (binOp .neq T (.agg (ints xs).toArray) (.agg (ints ys).toArray)).run P w = .ok (.bool (!(xs == ys))) w := by
  have := run_plain_eq 12 10000 (by omega) T n h.plain xs ys hx hy w
  simp only [valI, h.agg] at this
  rw [run_neq_struct, this]; rfl
theorem EqT.grd {T n : Nat} (h : EqT P T n) (op : BinOp) (x y : Operand) (xs ys : Array Value) (w : World) : (eqGuard op T x y (.agg xs) (.agg ys)).run P w = .ok () w := run_eqGuard_agg w op T x y xs ys h.guard
end
end Go.Sx

-- SpMap
namespace Go.Sx
open Go.RowKit

/-! ### maps keyed by int -/
/-- a map's entries: keys and values, in the order in which they lie -/
def MapR (u : World) (m : Nat) (es : List (Int × Value)) : Prop :=
  ∃ (a : Array MapEntry) (clock : Nat), u.heap[m]? = some (.map a clock) ∧ a.toList.map (fun e => (e.key, e.val)) = es.map fun p => (Value.int .i64 p.1, p.2)
theorem MapR.same {u u' : World} {m : Nat} {es : List (Int × Value)} (h : MapR u m es) (hs : Same (Blk m) u u') : MapR u' m es := by
  obtain ⟨a, c, h1, h2⟩ := h
  exact ⟨a, c, (hs m rfl).trans h1, h2⟩
/-- where a key lies -/
def kAt (k : Int) (es : List (Int × Value)) : Option Nat := es.findIdx? fun p => k == p.1
/-- what is asked of a map's type -/
structure TyM (P : Program) (t ek e : Nat) (z : Value) : Prop where
  und : P.underlying t = some (.map ek e)
  key : P.underlying ek = some (.int .i64)
  zask : (P.info? e).bind (·.zero) = some z
theorem TyM.zero {P : Program} {t ek e : Nat} {z : Value} (h : TyM P t ek e z) : ∃ i, P.info? e = some i ∧ i.zero = some z := by
  have h1 := h.zask
  cases hi : P.info? e with
  | none => rw [hi] at h1; cases h1
  | some i => rw [hi] at h1; exact ⟨i, rfl, h1⟩

section
variable {P : Program} {t ek e : Nat} {z : Value} {w : World}
theorem run_getMap {m : Nat} {a : Array MapEntry} {c : Nat} (h : w.heap[m]? = some (.map a c)) : (getObj m).run P w = .ok (.map a c) w := by
  show Sem.run P (.getObj m .pure) w = _
  unfold Sem.run
  rw [h]
  rfl
theorem find_now (k : Int) : ∀ (l : List MapEntry) (es : List (Int × Value)) (i : Nat), l.map (fun e => (e.key, e.val)) = es.map (fun p => (Value.int .i64 p.1, p.2)) →
    Instr.findNow (.int .i64) (.int .i64 k) l i = some ((es.findIdx? fun p => k == p.1).map fun j => (i + j, ((es[j]?).map (·.2)).getD undef)) := by
  intro l
  induction l with
  | nil =>
    intro es i h
    cases es with
    | nil => rfl
    | cons p es => cases h
  | cons x l ih =>
    intro es i h
    cases es with
    | nil => cases h
    | cons p es =>
      simp only [List.map_cons, List.cons.injEq, Prod.mk.injEq] at h
      obtain ⟨⟨hk, hv⟩, hr⟩ := h
      unfold Instr.findNow
      rw [hk]
      simp only [Instr.sameNow, if_true]
      by_cases hkk : k = p.1
      · subst hkk
        simp [List.findIdx?_cons, hv]
      · have hb : (k == p.1) = false := by simpa using hkk
        rw [hb]
        simp only
        rw [ih es (i + 1) hr, List.findIdx?_cons, hb]
        cases hf : es.findIdx? fun p => k == p.1 with
        | none => simp
        | some j => simp; omega
theorem run_findKey (hT : TyM P t ek e z) (k : Int) {l : List MapEntry} {es : List (Int × Value)} (h : l.map (fun e => (e.key, e.val)) = es.map fun p => (Value.int .i64 p.1, p.2)) :
    (Instr.findKey ek (.int .i64 k) l).run P w = .ok ((kAt k es).map fun j => (j, ((es[j]?).map (·.2)).getD undef)) w := by
  unfold Instr.findKey
  simp only [Sem.run_bind, run_underlying hT.key, Result.andThen_ok]
  rw [find_now k l es 0 h]
  simp only [Sem.run_pure, kAt, Nat.zero_add]
theorem run_checkKey (hT : TyM P t ek e z) (b : Bool) (k : Int) : (Instr.checkKey b 10000 ek (.int .i64 k)).run P w = .ok () w := by
  unfold Instr.checkKey
  simp [run_underlying hT.key]
def kVal (z : Value) (k : Int) (es : List (Int × Value)) : Value := match kAt k es with | some j => ((es[j]?).map (·.2)).getD undef | none => z
theorem run_lookup (hT : TyM P t ek e z) {m : Nat} {es : List (Int × Value)} (h : MapR w m es) (k : Int) :
    (Instr.lookup t (.map (some m)) (.int .i64 k) false).run P w = .ok (kVal z k es) w := by
  obtain ⟨a, c, h1, h2⟩ := h
  obtain ⟨i, hi, hz⟩ := hT.zero
  unfold Instr.lookup
  simp only [Sem.run_bind, run_underlying hT.und, Result.andThen_ok, run_getMap h1, Sem.run_pure]
  rw [run_checkKey hT]
  simp only [Result.andThen_ok]
  rw [run_findKey hT k h2]
  simp only [Result.andThen_ok]
  unfold kVal
  cases hk : kAt k es with
  | none => simp [zeroValue, typeInfo, hi, hz]
  | some j => simp
theorem run_lookup_ok (hT : TyM P t ek e z) {m : Nat} {es : List (Int × Value)} (h : MapR w m es) (k : Int) :
    (Instr.lookup t (.map (some m)) (.int .i64 k) true).run P w = .ok (.tuple #[kVal z k es, .bool (kAt k es).isSome]) w := by
  obtain ⟨a, c, h1, h2⟩ := h
  obtain ⟨i, hi, hz⟩ := hT.zero
  unfold Instr.lookup
  simp only [Sem.run_bind, run_underlying hT.und, Result.andThen_ok, run_getMap h1, Sem.run_pure]
  rw [run_checkKey hT]
  simp only [Result.andThen_ok]
  rw [run_findKey hT k h2]
  simp only [Result.andThen_ok]
  unfold kVal
  cases hk : kAt k es with
  | none => simp [zeroValue, typeInfo, hi, hz]
  | some j => simp
/-- one entry more, or another value at a key -/
def kPut (k : Int) (v : Value) (es : List (Int × Value)) : List (Int × Value) := match kAt k es with | some j => es.modify j fun p => (p.1, v) | none => es ++ [(k, v)]
theorem kAt_some {k : Int} {es : List (Int × Value)} {j : Nat} (h : kAt k es = some j) : ∃ hj : j < es.length, es[j].1 = k := by
  obtain ⟨hj, h1, _⟩ := List.findIdx?_eq_some_iff_getElem.1 h
  exact ⟨hj, (by simpa using h1 : k = es[j].1).symm⟩
theorem run_mapUpdate (hT : TyM P t ek e z) {m : Nat} {es : List (Int × Value)} (h : MapR w m es) (k : Int) (v : Value) :
    ∃ w', (Instr.mapUpdate t (.map (some m)) (.int .i64 k) v).run P w = .ok () w' ∧ MapR w' m (kPut k v es) ∧ w'.os = w.os ∧ w'.tape = w.tape ∧ w'.output = w.output ∧ w'.heap.size = w.heap.size ∧ ∀ b, b ≠ m → w'.heap[b]? = w.heap[b]? := by
  obtain ⟨a, c, h1, h2⟩ := h
  have hlt : m < w.heap.size := (Array.getElem?_eq_some_iff.1 h1).1
  have hset : ∀ o : Obj, ∃ w', (setObj m o).run P w = .ok () w' ∧ w'.heap[m]? = some o ∧ w'.os = w.os ∧ w'.tape = w.tape ∧ w'.output = w.output ∧ w'.heap.size = w.heap.size ∧ ∀ b, b ≠ m → w'.heap[b]? = w.heap[b]? := by
    intro o
    refine ⟨{ w with heap := w.heap.setIfInBounds m o }, by simp [setObj, Sem.run, h1], ?_, rfl, rfl, rfl, ?_, ?_⟩
    · simp [hlt]
    · simp
    · intro b hb
      simp [Array.getElem?_setIfInBounds, Ne.symm hb]
  unfold Instr.mapUpdate
  simp only [Sem.run_bind, run_underlying hT.und, Result.andThen_ok, run_getMap h1]
  rw [run_checkKey hT]
  simp only [Result.andThen_ok]
  rw [run_findKey hT k h2]
  simp only [Result.andThen_ok]
  have hlen : a.toList.length = es.length := by have := congrArg List.length h2; simpa using this
  cases hk : kAt k es with
  | none =>
    obtain ⟨w', e1, e2, e3⟩ := hset (.map (a.push { key := .int .i64 k, val := v, born := c }) (c + 1))
    refine ⟨w', by simpa using e1, ⟨_, _, e2, ?_⟩, e3⟩
    simp [kPut, hk, h2]
  | some j =>
    obtain ⟨hj, hkey⟩ := kAt_some hk
    have hja : j < a.size := by have : a.toList.length = a.size := Array.length_toList; omega
    have hel : (a[j].key, a[j].val) = (Value.int .i64 es[j].1, es[j].2) := by
      have := congrArg (fun l : List (Value × Value) => l[j]?) h2
      simpa [hja, hj] using this
    simp only [Prod.mk.injEq] at hel
    have hkk : a[j].key = .int .i64 k := by rw [hel.1, hkey]
    obtain ⟨w', e1, e2, e3⟩ := hset (.map (a.modify j fun e => { e with key := .int .i64 k, val := v }) c)
    refine ⟨w', ?_, ⟨_, _, e2, ?_⟩, e3⟩
    · simp only [Option.map_some, Sem.run_bind, hja, getElem?_pos, Option.getD_some, hkk, Instr.keyThatStays]
      have hs : Instr.sameBits 10000 (.int .i64 k) (.int .i64 k) = true := by simp [Instr.sameBits]
      simp [hs, e1]
    · unfold kPut
      rw [hk]
      apply List.ext_getElem?
      intro i
      have h3 := congrArg (fun l : List (Value × Value) => l[i]?) h2
      simp only [List.getElem?_map] at h3 ⊢
      by_cases hij : i = j
      · subst hij
        simp [Array.getElem?_modify, List.getElem?_modify, hja, hj, hkey]
      · simp only [Array.toList_modify, List.getElem?_modify, Ne.symm hij, if_false]
        simpa [Ne.symm hij] using h3

theorem opv_makeMap {eT : Nat} {u : World} {V : VP} {K : Option Nat → World → VP → Prop} (t : Nat)
    (hK : ∀ m u' V', (∀ k, V k → k < u.heap.size) → u.heap.size ≤ m → MapR u' m [] → Sub V V' → V' m → Rel V u u' → K (some m) u' V') : OpV P eT (Instr.makeMap t none) (Enc.one eMap) u V K := by
  intro w hw
  refine ⟨some w.heap.size, w.alloc (.map #[] 0), rfl, frame_alloc V w _, hK _ _ _ (fun k hk => (hw.blk k hk).1) hw.size ⟨#[], 0, heap_alloc_new w _, rfl⟩ (fun b hb => .inl hb) (.inr ⟨Nat.le_refl _, by simp⟩) (hw.alloc _)⟩
theorem Rel.to {u w : World} {V : VP} (h : Rel V u w) : Rel V u w := h
/-- a step that only reads leaves the sight as it is, but for the world's name -/
theorem opv_read {eT : Nat} {u : World} {V : VP} {E : Enc} {K : E.α → World → VP → Prop} {sem : Sem Value} {x : E.α} (h : ∀ w, Rel V u w → sem.run P w = .ok (gval eT (E.enc x)) w)
    (hK : ∀ u' V', Rel V u u' → Sub V V' → Sub V' V → K x u' V') : OpV P eT sem E u V K := by
  intro w hw
  refine ⟨x, w, h w hw, ⟨rfl, rfl, rfl, Nat.le_refl _, fun _ _ _ => rfl⟩, hK w _ hw (fun b hb => .inl hb) fun b hb => hb.elim id fun hx => by omega⟩
theorem opu_mapUpdate {u : World} {V : VP} {K : World → VP → Prop} (hT : TyM P t ek e z) {m : Nat} {es : List (Int × Value)} (h : MapR u m es) (hm : V m) (k : Int) (v : Value)
    (hK : ∀ u' V', MapR u' m (kPut k v es) → Upd (Blk m) u V u' V' → K u' V') : OpU P (Instr.mapUpdate t (.map (some m)) (.int .i64 k) v) u V K := by
  intro w hw
  obtain ⟨w', h1, h2, h3, h4, h5, h6, h7⟩ := run_mapUpdate hT (h.same (same_rel hw (Sub.blk hm))) k v
  refine ⟨w', h1, ⟨h3, h4, h5, Nat.le_of_eq h6.symm, fun b _ hn => h7 b fun e => hn (e ▸ hm)⟩, hK w' _ h2 ⟨h3.trans hw.os, h4.trans hw.tape, h5.trans hw.output, by rw [h6]; exact hw.size, fun b hb => .inl hb, fun b hb hn => (h7 b hn).trans (hw.blk b hb).2⟩⟩
end
def kGet (k : Int) : List (Int × Value) → Option Value
  | [] => none
  | p :: es => if k = p.1 then some p.2 else kGet k es
theorem kVal_get (z : Value) (k : Int) (es : List (Int × Value)) : kVal z k es = (kGet k es).getD z := by
  unfold kVal kAt
  induction es with
  | nil => rfl
  | cons p es ih =>
    rw [List.findIdx?_cons]
    by_cases h : k = p.1
    · simp [h, kGet]
    · have hb : (k == p.1) = false := by simpa using h
      rw [hb]
      simp only [kGet, if_neg h, ← ih]
      cases hf : es.findIdx? fun p => k == p.1 with
      | none => simp
      | some j => simp
theorem kAt_get (k : Int) (es : List (Int × Value)) : (kAt k es).isSome = (kGet k es).isSome := by
  unfold kAt
  induction es with
  | nil => rfl
  | cons p es ih =>
    rw [List.findIdx?_cons]
    by_cases h : k = p.1
    · simp [h, kGet]
    · have hb : (k == p.1) = false := by simpa using h
      rw [hb]
      simp only [kGet, if_neg h, ← ih]
      cases hf : es.findIdx? fun p => k == p.1 with
      | none => simp
      | some j => simp
theorem kPut_cons (k : Int) (v : Value) (p : Int × Value) (es : List (Int × Value)) : kPut k v (p :: es) = if k = p.1 then (p.1, v) :: es else p :: kPut k v es := by
  unfold kPut kAt
  rw [List.findIdx?_cons]
  by_cases h : k = p.1
  · simp [h]
  · have hb : (k == p.1) = false := by simpa using h
    rw [hb, if_neg h]
    cases hf : es.findIdx? fun p => k == p.1 with
    | none => simp
    | some j => simp
theorem kGet_put (k k' : Int) (v : Value) (es : List (Int × Value)) : kGet k' (kPut k v es) = if k' = k then some v else kGet k' es := by
  induction es with
  | nil => simp [kPut, kAt, kGet]
  | cons p es ih =>
    rw [kPut_cons]
    by_cases h : k = p.1
    · rw [if_pos h]
      simp only [kGet]
      by_cases h2 : k' = p.1
      · rw [if_pos h2, if_pos (by rw [h2, h])]
      · rw [if_neg h2, if_neg (by rw [h]; exact h2), if_neg h2]
    · rw [if_neg h]
      simp only [kGet, ih]
      by_cases h2 : k' = p.1
      · rw [if_pos h2, if_neg (fun e => h (by rw [← e, h2])), if_pos h2]
      · rw [if_neg h2, if_neg h2]
theorem kVal_put (z : Value) (k k' : Int) (v : Value) (es : List (Int × Value)) : kVal z k' (kPut k v es) = if k' = k then v else kVal z k' es := by
  rw [kVal_get, kVal_get, kGet_put]
  by_cases h : k' = k
  · rw [if_pos h, if_pos h]; rfl
  · rw [if_neg h, if_neg h]
end Go.Sx

-- SpCopy
namespace Go.Sx
open Go.RowKit

section
variable {α : Type} {c : α → List Value} {sz : Nat}
theorem fm_take (hz : ∀ x, (c x).length = sz) (xs : List α) (i : Nat) : (xs.flatMap c).take (i * sz) = (xs.take i).flatMap c := by
  rcases Nat.le_total i xs.length with h | h
  · have hx : xs.flatMap c = (xs.take i).flatMap c ++ (xs.drop i).flatMap c := by rw [← List.flatMap_append, List.take_append_drop]
    have e : ((xs.take i).flatMap c).length = i * sz := by rw [flat_len hz, List.length_take, Nat.min_eq_left h]
    rw [hx, ← e, List.take_left]
  · rw [List.take_of_length_le h, List.take_of_length_le]
    rw [flat_len hz]; exact Nat.mul_le_mul_right _ h
theorem fm_drop (hz : ∀ x, (c x).length = sz) (xs : List α) (i : Nat) : (xs.flatMap c).drop (i * sz) = (xs.drop i).flatMap c := by
  rcases Nat.le_total i xs.length with h | h
  · have hx : xs.flatMap c = (xs.take i).flatMap c ++ (xs.drop i).flatMap c := by rw [← List.flatMap_append, List.take_append_drop]
    have e : ((xs.take i).flatMap c).length = i * sz := by rw [flat_len hz, List.length_take, Nat.min_eq_left h]
    rw [hx, ← e, List.drop_left]
  · rw [List.drop_of_length_le h, List.drop_of_length_le]
    · rfl
    · rw [flat_len hz]; exact Nat.mul_le_mul_right _ h
theorem over_rows (hz : ∀ x, (c x).length = sz) (xs ys : List α) (i : Nat) : overL (xs.flatMap c) (i * sz) (ys.flatMap c) = (xs.take i ++ ys ++ xs.drop (i + ys.length)).flatMap c := by
  unfold overL
  rw [fm_take hz, flat_len hz, ← Nat.add_mul, fm_drop hz, List.flatMap_append, List.flatMap_append]
theorem zeros_flat (hz : ∀ x, (c x).length = sz) (x0 : α) (k : Nat) : (Builtin.zeroCells (c x0).toArray k).toList = (List.replicate k x0).flatMap c := by
  have hl := hz x0
  apply List.ext_getElem
  · simp [Builtin.zeroCells, flat_len hz, hl]
  · intro j h1 h2
    have hj : j < k * sz := by rw [flat_len hz, List.length_replicate] at h2; exact h2
    have hpos : 0 < sz := by
      rcases Nat.eq_zero_or_pos sz with h | h
      · rw [h] at hj; simp at hj
      · exact h
    have hdiv : j / sz < (List.replicate k x0).length := by rw [List.length_replicate]; exact Nat.div_lt_of_lt_mul (by rw [Nat.mul_comm]; exact hj)
    have hmod : j % sz < sz := Nat.mod_lt _ hpos
    have hjj : j = j / sz * sz + j % sz := by rw [Nat.mul_comm]; exact (Nat.div_add_mod j sz).symm
    have hpre : (((List.replicate k x0).take (j / sz)).flatMap c).length = j / sz * sz := by rw [flat_len hz, List.length_take, Nat.min_eq_left (by omega)]
    have hA : ((List.replicate k x0).flatMap c)[j]? = (c x0)[j % sz]? := by
      rw [flat_at c (List.replicate k x0) (j / sz) hdiv, List.getElem?_append_right (by rw [hpre]; omega), hpre, List.getElem?_append_left (by rw [hz]; omega), List.getElem_replicate]
      congr 1; omega
    have hB : (Builtin.zeroCells (c x0).toArray k).toList[j]? = (c x0)[j % sz]? := by
      have hm2 : j % (c x0).length < (c x0).length := by rw [hl]; exact hmod
      simp only [Builtin.zeroCells, Array.toList_map, List.getElem?_map, List.size_toArray, hl]
      rw [show (Array.range (k * sz)).toList[j]? = some j by simp [hj]]
      simp only [Option.map_some]
      rw [List.getElem?_eq_getElem (by rw [hl]; exact hmod)]
      congr 1
      rw [getElem!_pos _ _ (by simpa [hl] using hmod)]
      simp
    rw [List.getElem?_eq_getElem h2] at hA
    rw [List.getElem?_eq_getElem h1] at hB
    exact Option.some.inj (hB.trans hA.symm)
end

section
variable {P : Program} {α : Type} {c : α → List Value} {sz e t bytes : Nat} {w : World} {S : VP} {s r : Sl} {xs ys : List α}

/-- copy onto one's own row, from place i on -/
theorem run_copy (hT : TyS P t e sz bytes) (hc : CO c sz) (h : Own c sz e w s xs) {i : Nat} (hi : i ≤ xs.length) (hr : SlR c w S r ys) (ty : Nat) {n : Nat} (hn : Nat.min r.len (s.len - i) = n) :
    ∃ w', (Builtin.copy_ #[t, t] ty #[.slice (cutA s.a s.cap i sz) (s.len - i) (s.cap - i), .slice r.a r.len r.cap]).run P w = .ok (goInt n) w' ∧ Own c sz e w' s (xs.take i ++ ys.take n ++ xs.drop (i + n)) ∧ FrameV (sb s) w w' := by
  obtain ⟨i0, z, hi0, hz, h1, h2, h3, _⟩ := hT.info
  subst h1; subst h2
  have ht := hT.und
  have hsl := h.len; have hsc := h.le; have hrl := hr.len; have hbig := h.big
  have hn1 : n ≤ ys.length := by rw [← hn]; exact Nat.le_trans (Nat.min_le_left _ _) (Nat.le_of_eq hrl)
  have hn2 : n ≤ xs.length - i := by rw [← hn]; exact Nat.le_trans (Nat.min_le_right _ _) (by omega)
  have hfc : (Builtin.firstCells i0.size n (.slice r.a r.len r.cap)).run P w = .ok ((ys.take n).flatMap c).toArray w := by
    have e1 : Builtin.firstCells i0.size n (.slice r.a r.len r.cap) = Builtin.firstCells i0.size n (.slice r.a n r.cap) := by cases r.a <;> rfl
    rw [e1]
    exact run_first hc.len (hr.upto hn1)
  have hyl : (ys.take n).length = n := by rw [List.length_take, Nat.min_eq_left hn1]
  have hlen2 : ((ys.take n).flatMap c).length = n * i0.size := by rw [flat_len hc.len, hyl]
  rcases Nat.eq_zero_or_pos n with h0 | hpos
  · refine ⟨w, ?_, ?_, ⟨rfl, rfl, rfl, Nat.le_refl _, fun _ _ _ => rfl⟩⟩
    · rw [h0] at hfc hn ⊢
      simp only [List.take_zero, List.flatMap_nil] at hfc
      cases hx : cutA s.a s.cap i i0.size with
      | none => simp [Builtin.copy_, run_underlying ht, Builtin.lenOf, sizeOf, typeInfo, hi0, hn, hfc]
      | some ad => simp [Builtin.copy_, run_underlying ht, Builtin.lenOf, sizeOf, typeInfo, hi0, hn, hfc, storeCells]
    · rw [h0]; simpa using h
  · rcases h.lies with ⟨h4, h5⟩ | ⟨g, off, cs, ea, hg, h4, h5⟩
    · omega
    · have hcut : cutA s.a s.cap i i0.size = some ⟨g, off + i * i0.size, none⟩ := by
        unfold cutA; rw [if_neg (by omega), ea]; simp [addr_add0]
      have hmul : i * i0.size + n * i0.size ≤ s.len * i0.size := by rw [← Nat.add_mul]; exact Nat.mul_le_mul_right _ (by omega)
      have hmul2 : s.len * i0.size ≤ s.cap * i0.size := Nat.mul_le_mul_right _ hsc
      have hst := run_storeCells_at P g (off + i * i0.size) e ((ys.take n).flatMap c) 0 cs w hg (by rw [hlen2]; omega) (hc.flat _)
      simp only [Nat.add_zero] at hst
      refine ⟨w.setRow g (cs.toList.take (off + i * i0.size) ++ (ys.take n).flatMap c ++ cs.toList.drop (off + i * i0.size + ((ys.take n).flatMap c).length)).toArray, ?_, ⟨?_, hsc, .inr ⟨g, off, _, ea, setRow_heap w g cs _ e _ hg, ?_, ?_⟩, ?_⟩, ⟨rfl, rfl, rfl, ?_, fun b _ hb => setRow_other w g b _ fun e => hb ⟨_, ea, e.symm⟩⟩⟩
      · rw [hcut]
        simp [Builtin.copy_, run_underlying ht, Builtin.lenOf, sizeOf, typeInfo, hi0, hn, hfc, hst]
      · simp only [List.length_append, List.length_take, List.length_drop, hyl]; omega
      · simp only [List.size_toArray, List.length_append, List.length_take, List.length_drop, Array.length_toList] at hlen2 ⊢
        omega
      · have hn3 : off + s.len * i0.size ≤ cs.toList.length := by simp only [Array.length_toList]; omega
        have h6 := take_over (l := (ys.take n).flatMap c) h5 (k := i * i0.size) (by rw [hlen2]; omega) hn3
        simp only
        rw [h6, over_rows hc.len, hyl]
      · simp only [List.length_append, List.length_take, List.length_drop]; omega
      · simp [World.setRow]
theorem opv_copy {eT : Nat} {u : World} {V : VP} {K : Int → World → VP → Prop} (hT : TyS P t e sz bytes) (hc : CO c sz) (h : Own c sz e u s xs) (hV : Sub (sb s) V) {i : Nat} (hi : i ≤ xs.length) (hr : SlR c u S r ys) (hS : Sub S V) (ty : Nat) {n : Nat} (hn : Nat.min r.len (s.len - i) = n)
    (hK : ∀ u' V', Own c sz e u' s (xs.take i ++ ys.take n ++ xs.drop (i + n)) → Upd (sb s) u V u' V' → (∀ k, V' k → k < u'.heap.size) → K (n : Int) u' V') :
    OpV P eT (Builtin.copy_ #[t, t] ty #[.slice (cutA s.a s.cap i sz) (s.len - i) (s.cap - i), .slice r.a r.len r.cap]) (Enc.one eInt) u V K := by
  intro w hw
  obtain ⟨w', h1, h2, h3⟩ := run_copy hT hc (h.same (same_rel hw hV)) hi (hr.same (same_rel hw hS)) ty hn
  refine ⟨(n : Int), w', h1, ⟨h3.os, h3.tape, h3.output, h3.size, fun b hb hn => h3.blk b hb fun hx => hn (hV b hx)⟩, hK w' _ h2 ?_ (Vn_lt hw h3.size)⟩
  exact ⟨h3.os.trans hw.os, h3.tape.trans hw.tape, h3.output.trans hw.output, Nat.le_trans hw.size h3.size, fun b hb => .inl hb, fun b hb hn => (h3.blk b (hw.lt hb) hn).trans (hw.blk b hb).2⟩

/-- append of so many zero values, where there is no room: a new row -/
theorem opv_append_zeros {eT tn : Nat} {u : World} {V : VP} {K : Sl → World → VP → Prop} (hT : TyS P t e sz bytes) (htn : P.underlying tn = some (.int .i64)) (hc : CO c sz) (hsz : 0 < sz) {x0 : α} (hzero : ((P.info? e).bind (·.zero)).map (·.cells) = some (c x0).toArray) (h : Own c sz e u s xs) (hV : Sub (sb s) V) (ty : Nat) {k : Nat} (hk : 0 < k) (hgrow : s.cap < s.len + k)
    (hb : (xs.length + k) * bytes ≤ 140737488355328) (hm : xs.length + k ≤ 140737488355328)
    (hK : ∀ s' u' V', Own c sz e u' s' (xs ++ List.replicate k x0) → Upd Nix u V u' V' → Sub (sb s') V' → Dis (sb s') V → (∀ k, V' k → k < u'.heap.size) → K s' u' V') :
    OpV P eT (Builtin.append_ #[t, tn] ty #[.slice s.a s.len s.cap, .int .i64 (k : Int)]) (Enc.one eSl) u V K := by
  intro w hw
  obtain ⟨i, z, hi, hz, h1, h2, h3, _⟩ := hT.info
  subst h1; subst h2
  rw [hi] at hzero
  simp only [Option.bind_some, hz, Option.map_some, Option.some.injEq] at hzero
  have hO := h.same (same_rel hw hV)
  have hsl := h.len; have hsc := h.le
  have hold : (Builtin.firstCells i.size s.len (.slice s.a s.len s.cap)).run P w.drew = .ok (xs.flatMap c).toArray w.drew := by
    cases hsa : s.a with
    | none =>
      have hx : xs = [] := by
        rcases hO.lies with ⟨_, h5⟩ | ⟨g, off, cs, ea, _⟩
        · exact List.eq_nil_of_length_eq_zero (by omega)
        · rw [hsa] at ea; cases ea
      subst hx
      exact run_firstCells_none (P := P) w.drew i.size s.len s.len s.cap
    | some ad =>
      refine run_firstCells_some (P := P) w.drew i.size s.len ad s.len s.cap _ (by rw [flat_len hc.len, h.len]) fun j v hj => ?_
      obtain ⟨ad', ea, hcell⟩ := hO.cell hj
      rw [hsa] at ea; cases ea; exact hcell
  have hfit := growslice_fits (need := s.len + k) (old := s.cap) (bytes := i.bytes) hgrow (by rw [hsl]; exact hb)
  have hkb : k * i.bytes ≤ 281474976710656 := by
    have : k * i.bytes ≤ (xs.length + k) * i.bytes := Nat.mul_le_mul_right _ (by omega)
    omega
  have hrun := Lib.run_append_grow_zeros (P := P) w t tn ty e i z .i64 .i64 hT.und htn hi hz s.a s.len s.cap _ hold k hk hsz hgrow (by omega) hkb (by omega)
  have hge := grownCap_ge w (s.len + k) s.cap e
  have hf : FrameV V w (w.drew.alloc (.cells ((xs.flatMap c).toArray ++ Builtin.zeroCells z.cells k ++ Builtin.zeroCells z.cells (grownCap w (s.len + k) s.cap e - (s.len + k))) e)) := ⟨rfl, rfl, rfl, by simp, fun b hb _ => heap_alloc_old w.drew _ b hb⟩
  refine ⟨⟨some ⟨w.heap.size, 0, none⟩, s.len + k, grownCap w (s.len + k) s.cap e⟩, _, hrun, hf, hK _ _ _ ?_ ?_ ?_ ?_ (Vn_lt hw (by simp))⟩
  · refine ⟨by simp [hsl], hge, .inr ⟨w.heap.size, 0, _, rfl, heap_alloc_new w.drew _, ?_, ?_⟩, by simpa using hm⟩
    · simp only [Array.size_append, List.size_toArray, size_zeroCells, h3, flat_len hc.len, ← hsl]
      rw [← Nat.add_mul, ← Nat.add_mul]
      have : 0 + grownCap w (s.len + k) s.cap e = s.len + k + (grownCap w (s.len + k) s.cap e - (s.len + k)) := by omega
      rw [Nat.zero_add] at this ⊢
      exact Nat.le_of_eq (congrArg (· * i.size) this)
    · simp only [List.drop_zero, Array.toList_append, List.append_assoc, List.flatMap_append]
      rw [← List.append_assoc, hzero, zeros_flat hc.len]
      have : (xs.flatMap c ++ (List.replicate k x0).flatMap c).length = (s.len + k) * i.size := by rw [List.length_append, flat_len hc.len, flat_len hc.len, ← hsl, List.length_replicate, Nat.add_mul]
      rw [← this]
      exact List.take_left
  · exact ⟨hw.os, hw.tape, hw.output, Nat.le_trans hw.size hf.size, fun b hb => .inl hb, fun b hb _ => (heap_alloc_old w.drew _ b (hw.lt hb)).trans (hw.blk b hb).2⟩
  · intro b hb
    rw [sb_iff] at hb; subst hb
    exact .inr ⟨Nat.le_refl _, by simp⟩
  · intro b hb hv
    rw [sb_iff] at hb; subst hb
    exact absurd (hw.lt hv) (Nat.lt_irrefl _)
end
end Go.Sx
