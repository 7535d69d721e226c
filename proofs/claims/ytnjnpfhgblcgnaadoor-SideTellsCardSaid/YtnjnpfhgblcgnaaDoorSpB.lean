/-
  Arguments are laid open, results shut: generic lemmas. Conditions: those of the statement alone.
-/
import Derived.Test.YtnjnpfhgblcgnaaDoorSpA
import Derived.Deep.Slices
import Derived.ChangeSame
import Derived.RowKit
import Derived.Carry
import Derived.SizedLaws
import Derived.ProofKit
set_option linter.unusedVariables false
set_option linter.unusedSimpArgs false

-- SpGlue
namespace Go.Sx
open Go.ChangeShapes Go.WideShapes Go.RowKit

/-! ### what came in is laid open; what goes back is shut -/
def Vis (W : World) : VP := fun b => b < W.heap.size
abbrev Opened (H : Type) := DataW H × List MemPlace
section
variable {H : Type} {enc : TypeId × Value → H} {P : Program} {W : World}

/-- whatever is read as data at this type lies so in cells -/
def Opens (enc : TypeId × Value → H) (P : Program) (W : World) (t : Nat) {α : Type} (c : α → List Value) (Q : α → Prop) : Prop :=
  ∀ (n : Nat) (cs : List Value) (x : Opened H), DataW.trod enc P W 0 (fun _ => true) true n t cs = some x → (x.1.weights P t).all (· ≤ reachBytes) = true → ∃ y : α, cs = c y ∧ Q y

theorem rng_of_wf {n : Int} (h : (Lit.int .i64 n).wf = true) : Rng n := by
  simp only [Lit.wf, Bool.and_eq_true, decide_eq_true_eq] at h
  have h1 : IntKind.i64.min = -9223372036854775808 := rfl
  have h2 : IntKind.i64.max = 9223372036854775807 := rfl
  rw [h1, h2] at h
  exact h
theorem opens_int {t : Nat} (ht : P.underlying t = some (.int .i64)) : Opens enc P W t cI Rng := by
  intro n cs x h _
  obtain ⟨m, rfl, _, hw⟩ := DataW.trod_int ht h
  exact ⟨m, rfl, rng_of_wf hw⟩
theorem opens_string {t : Nat} (ht : P.underlying t = some .string) : Opens enc P W t (fun s : ByteArray => [.string s]) (fun s => s.size ≤ reachBytes) := by
  intro n cs x h hw
  obtain ⟨s, rfl, hx, _⟩ := DataW.trod_string ht h
  subst hx
  refine ⟨s, rfl, ?_⟩
  simp only [DataW.weights, List.all_cons, List.all_nil, Bool.and_true, decide_eq_true_eq] at hw
  simpa using hw

theorem weightsAll_mem {e : TypeId} : ∀ {l : List (DataW H)} {d : DataW H}, d ∈ l → ∀ n ∈ d.weights P e, n ∈ DataW.weightsAll P e l := by
  intro l
  induction l with
  | nil => intro d h; cases h
  | cons a l ih =>
    intro d h n hn
    rw [DataW.weightsAll, List.mem_append]
    rcases List.mem_cons.1 h with rfl | h
    · exact .inl hn
    · exact .inr (ih h n hn)

theorem opens_slice {t e sz : Nat} {α : Type} {c : α → List Value} {Q : α → Prop} (ht : P.underlying t = some (.slice e)) (hC : P.cellsOf e = sz) (hz : ∀ x, (c x).length = sz) (hs : 0 < sz) (hB : 0 < P.bytesOf e) (he : Opens enc P W e c Q) :
    Opens enc P W t cS (fun sl => ∃ ys : List α, SlR c W (Vis W) sl ys ∧ ∀ y ∈ ys, Q y) := by
  intro n cs x h hw
  rcases Go.Deep.open_slice ht h with ⟨rfl, _⟩ | ⟨a, len, cap, m, n', D, Pl, rfl, _, hle, hm, hmm, rfl, hi⟩
  · exact ⟨⟨none, 0, 0⟩, rfl, [], SlR.nil _ _ _ _ _, fun y hy => by cases hy⟩
  · simp only [if_true] at hmm
    subst hmm
    simp only [DataW.weights, ht, List.all_cons, List.all_append, Bool.and_eq_true, List.length_map, List.length_range, decide_eq_true_eq] at hw
    obtain ⟨hw1, hw2, hw3⟩ := hw
    have hlen : len + (m - len) = m := by omega
    rw [hlen] at hw1
    have hbig : m ≤ 140737488355328 := by
      have h1 : m * 1 ≤ m * P.bytesOf e := Nat.mul_le_mul_left _ hB
      have h2 : reachBytes ≤ 140737488355328 := by decide
      have h3 := hw1
      omega
    have hel : ∀ i, i < len → ∃ y : α, Q y ∧ ∀ j v, (c y)[j]? = some v → W.cell? (a.add (i * sz + j)) = some v := by
      intro i hil
      obtain ⟨cs', hc, htr⟩ := hi i (by omega)
      rw [hC] at hc
      obtain ⟨_, hcl, hat⟩ := World.cells?_some hc
      obtain ⟨y, rfl, hy⟩ := he n' cs' _ htr (by
        refine List.all_eq_true.2 fun k hk => ?_
        exact List.all_eq_true.1 hw2 k (weightsAll_mem (List.mem_map.2 ⟨i, List.mem_range.2 hil, rfl⟩) k hk))
      refine ⟨y, hy, fun j v hj => ?_⟩
      have hjl : j < sz := by have := (List.getElem?_eq_some_iff.1 hj).1; rw [hz] at this; exact this
      rw [← Addr.add_add, hat j hjl, hj]
    have hys : ∃ ys : List α, ys.length = len ∧ ∀ i (hi : i < ys.length), Q ys[i] ∧ ∀ j v, (c ys[i])[j]? = some v → W.cell? (a.add (i * sz + j)) = some v := by
      have : ∀ k, k ≤ len → ∃ ys : List α, ys.length = k ∧ ∀ i (hi : i < ys.length), Q ys[i] ∧ ∀ j v, (c ys[i])[j]? = some v → W.cell? (a.add (i * sz + j)) = some v := by
        intro k
        induction k with
        | zero => intro _; exact ⟨[], rfl, fun i hi => by simp at hi⟩
        | succ k ih =>
          intro hk
          obtain ⟨ys, hl, hy⟩ := ih (by omega)
          obtain ⟨y, h1, h2⟩ := hel k (by omega)
          refine ⟨ys ++ [y], by simp [hl], fun i hi => ?_⟩
          by_cases hik : i < ys.length
          · rw [List.getElem_append_left hik]; exact hy i hik
          · have : i = ys.length := by simp at hi; omega
            subst this
            rw [List.getElem_append_right (Nat.le_refl _)]
            simp only [Nat.sub_self, List.getElem_cons_zero]
            rw [hl]
            exact ⟨h1, h2⟩
      exact this len (Nat.le_refl _)
    obtain ⟨ys, hyl, hy⟩ := hys
    refine ⟨⟨some a, len, m⟩, rfl, ys, ⟨hyl.symm, hle, ?_, by omega⟩, fun y hyy => ?_⟩
    · by_cases h0 : ys = []
      · exact .inl h0
      · refine .inr ⟨a, rfl, ?_, ?_⟩
        · cases ys with
          | nil => exact absurd rfl h0
          | cons y ys =>
            have h1 := (hy 0 (by simp)).2 0
            have h2 : 0 < (c y).length := by rw [hz]; exact hs
            have h3 := h1 ((c y)[0]) (by simp [h2])
            simpa [Vis, block_add] using World.block_lt_of_cell? W _ h3
        · intro j v hj
          have hjl := (List.getElem?_eq_some_iff.1 hj).1
          rw [flat_len hz] at hjl
          have hdiv : j / sz < ys.length := Nat.div_lt_of_lt_mul (by rw [Nat.mul_comm]; exact hjl)
          have hsplit := flat_at c ys (j / sz) hdiv
          have hpre : ((ys.take (j / sz)).flatMap c).length = j / sz * sz := by rw [flat_len hz, List.length_take, Nat.min_eq_left (by omega)]
          have hjj : j = j / sz * sz + j % sz := by rw [Nat.mul_comm]; exact (Nat.div_add_mod j sz).symm
          have hmod : j % sz < sz := Nat.mod_lt _ hs
          rw [hsplit, List.getElem?_append_right (by rw [hpre]; omega), hpre, List.getElem?_append_left (by rw [hz]; omega)] at hj
          have := (hy (j / sz) hdiv).2 (j - j / sz * sz) v hj
          rw [show j / sz * sz + (j - j / sz * sz) = j by omega] at this
          exact this
    · obtain ⟨i, hi, rfl⟩ := List.getElem_of_mem hyy
      exact (hy i hi).1

/-- plain integers side by side -/
theorem plainFs_le {f : Nat → Option Nat} : ∀ (l : List Field) (o m : Nat), plainFs f l o = some m → o ≤ m := by
  intro l
  induction l with
  | nil => intro o m hh; simp [plainFs] at hh; omega
  | cons g l ih =>
    intro o m hh
    unfold plainFs at hh
    split at hh
    · split at hh
      · have := ih _ _ hh; omega
      · cases hh
    · cases hh
/-- the sizes that the model itself knows -/
def sizesOk (P : Program) : Nat → Nat → Bool
  | 0, _ => true
  | d + 1, T => match P.underlying T with
    | some (.int .i64) => Nat.beq (P.cellsOf T) 1
    | some (.struct fs) => fs.toList.all fun f => sizesOk P d f.type && (match plainT P d f.type with | some n => Nat.beq (P.cellsOf f.type) n | none => false)
    | _ => true
theorem opens_plain : ∀ (d T n : Nat), plainT P d T = some n → P.cellsOf T = n → sizesOk P d T = true → ∀ (m : Nat) (cs : List Value) (x : Opened H), DataW.trod enc P W 0 (fun _ => true) true m T cs = some x →
    ∃ L : List Int, cs = ints L ∧ L.length = n ∧ ∀ v ∈ L, Rng v := by
  intro d
  induction d with
  | zero => intro T n h; cases h
  | succ d ih =>
    intro T n h hn hsz m cs x htr
    unfold plainT at h
    split at h
    · rename_i hu
      cases h
      obtain ⟨k, rfl, _, hw⟩ := DataW.trod_int hu htr
      exact ⟨[k], rfl, rfl, fun v hv => by have : v = k := by simpa using hv
                                           rw [this]; exact rng_of_wf hw⟩
    · rename_i fs i hu hi
      split at h
      · rename_i N hst hfs
        split at h
        · cases h
          obtain ⟨xs, m', rfl, _, hcl, hxl, hf⟩ := DataW.trod_struct hu htr
          rw [hn] at hcl
          unfold sizesOk at hsz
          rw [hu] at hsz
          have key : ∀ (l : List Field) (off k : Nat), (∀ j f, l[j]? = some f → fs[k + j]? = some f) → k + l.length = fs.size → plainFs (fun t => plainT P d t) l off = some n →
              ∃ L : List Int, cs.drop off = ints L ∧ ∀ v ∈ L, Rng v := by
            intro l
            induction l with
            | nil =>
              intro off k _ _ hp
              simp only [plainFs, Option.some.injEq] at hp
              subst hp
              exact ⟨[], by rw [List.drop_of_length_le (by omega)]; rfl, fun v hv => by cases hv⟩
            | cons f l ihl =>
              intro off k hfs2 hkl hp
              unfold plainFs at hp
              split at hp
              · rename_i hb
                split at hp
                · rename_i q hq
                  have hq' : plainT P d f.type = some q := hq
                  simp only [Bool.and_eq_true] at hb
                  have hoff := Nat.eq_of_beq_eq_true hb.2
                  have hfk : fs[k]? = some f := by have := hfs2 0 f rfl; simpa using this
                  have hmem : f ∈ fs.toList := by
                    have := List.mem_of_getElem? (l := fs.toList) (i := k) (a := f) (by simpa using hfk)
                    exact this
                  have hsf := List.all_eq_true.1 hsz f hmem
                  rw [hq'] at hsf
                  simp only [Bool.and_eq_true] at hsf
                  have hcf := Nat.eq_of_beq_eq_true hsf.2
                  have h1 := hf k f hfk
                  rw [hoff, hcf] at h1
                  have hkx : k < xs.length := by rw [hxl]; have := (Array.getElem?_eq_some_iff.1 hfk).1; exact this
                  obtain ⟨L1, e1, l1, r1⟩ := ih f.type q hq' hcf hsf.1 m' _ xs[k] (by rw [h1]; simp [hkx])
                  obtain ⟨L2, e2, r2⟩ := ihl (off + q) (k + 1) (fun j g hj => by have := hfs2 (j + 1) g (by simpa using hj); rw [show k + 1 + j = k + (j + 1) by omega]; exact this) (by simp at hkl; omega) hp
                  refine ⟨L1 ++ L2, ?_, fun v hv => (List.mem_append.1 hv).elim (r1 v) (r2 v)⟩
                  rw [← List.take_append_drop q (cs.drop off), e1, List.drop_drop, e2]
                  simp [ints]
                · cases hp
              · cases hp
          obtain ⟨L, e, r⟩ := key fs.toList 0 0 (fun j f hj => by simpa using hj) (by simp) hfs
          rw [List.drop_zero] at e
          refine ⟨L, e, ?_, r⟩
          rw [e] at hcl
          simpa [ints] using hcl
        · cases h
      · cases h
    · cases h
theorem opens_struct {T n : Nat} {α : Type} {c : α → List Value} {Lf : α → List Int} {mk : List Int → α} (h : EqT P T n) (hC : P.cellsOf T = n) (hsz : sizesOk P 12 T = true) (hmk : ∀ L : List Int, L.length = n → c (mk L) = ints L ∧ Lf (mk L) = L) :
    Opens enc P W T c (fun y => ∀ v ∈ Lf y, Rng v) := by
  intro m cs x htr _
  obtain ⟨L, rfl, hl, hr⟩ := opens_plain 12 T n h.plain hC hsz m cs x htr
  exact ⟨mk L, (hmk L hl).1.symm, by show ∀ v ∈ Lf (mk L), Rng v; rw [(hmk L hl).2]; exact hr⟩

/-! ### arguments -/
theorem okWide_sl {r : Reach} {b0 t e : Nat} {v : Value} (ht : P.underlying t = some (.slice e)) (h : Value.okWide P W r b0 t v) : ∃ a n c, v = .slice a n c := by
  simp only [Value.okWide, ht, Cell.okWide] at h
  cases v <;> simp_all [Cell.ok]
theorem arg_slice {r : Reach} {b0 t e : Nat} {v : Value} {d : DataW H} {p : List MemPlace} {Q : Sl → Prop} (ht : P.underlying t = some (.slice e)) (hval : Value.okWide P W r b0 t v) (hd : DataW.Trod enc P W 0 (fun _ => true) true t v d p) (hw : (d.weights P t).all (· ≤ reachBytes) = true) (ho : Opens enc P W t cS Q) :
    ∃ sl : Sl, v = .slice sl.a sl.len sl.cap ∧ Q sl := by
  obtain ⟨a, n, c, rfl⟩ := okWide_sl ht hval
  obtain ⟨fuel, hf⟩ := hd
  obtain ⟨y, hy, hQ⟩ := ho _ _ _ hf hw
  refine ⟨y, ?_, hQ⟩
  simpa [Value.cells] using hy
theorem arg_int {r : Reach} {b0 t : Nat} {v : Value} {d : DataW H} {p : List MemPlace} (ht : P.underlying t = some (.int .i64)) (hval : Value.okWide P W r b0 t v) (hd : DataW.Trod enc P W 0 (fun _ => true) true t v d p) :
    ∃ n : Int, v = .int .i64 n ∧ Rng n := by
  obtain ⟨n, h1, _, _, hw⟩ := open_int ht hval hd
  exact ⟨n, h1, rng_of_wf hw⟩
theorem arg_agg {r : Reach} {b0 t : Nat} {fs : Array Field} {v : Value} {d : DataW H} {p : List MemPlace} {α : Type} {c : α → List Value} {Q : α → Prop} (ht : P.underlying t = some (.struct fs)) (hval : Value.okWide P W r b0 t v) (hd : DataW.Trod enc P W 0 (fun _ => true) true t v d p) (hw : (d.weights P t).all (· ≤ reachBytes) = true) (ho : Opens enc P W t c Q) :
    ∃ y : α, v = .agg (c y).toArray ∧ Q y := by
  obtain ⟨cs, rfl, _⟩ := okWide_struct ht hval
  obtain ⟨fuel, hf⟩ := hd
  obtain ⟨y, hy, hQ⟩ := ho _ _ _ hf hw
  refine ⟨y, ?_, hQ⟩
  have : cs.toList = c y := by simpa [Value.cells] using hy
  rw [← this]
theorem weight_at {ts : List TypeId} {ds : List (DataW H)} (h : (DataW.weightsEach P ts ds).all (· ≤ reachBytes) = true) {j : Nat} {t : TypeId} {d : DataW H} (ht : ts[j]? = some t) (hd : ds[j]? = some d) : (d.weights P t).all (· ≤ reachBytes) = true :=
  List.all_eq_true.2 fun n hn => List.all_eq_true.1 h n (DataW.weights_mem_each ht hd n hn)

/-! ### shut -/
theorem trodAll_kept (hl : laidOutB P = true) {W' : World} (hb : Below W.heap.size W W') {sp : Nat → Bool} : ∀ {ts : List TypeId} {vs : List Value} {ds : List (DataW H)} {ps : List MemPlace}, (∀ t ∈ ts, P.readableRec t = true ∧ t < P.types.size) →
    DataW.TrodAll enc P W 0 (fun _ => true) true ts vs ds ps → (∀ x ∈ ps, x.block < W.heap.size) → (∀ x ∈ ps, sp x.block = true) → DataW.TrodAll enc P W' 0 sp true ts vs ds ps := by
  intro ts
  induction ts with
  | nil =>
    intro vs ds ps _ h _ _
    obtain ⟨rfl, rfl, rfl⟩ := trodAll_nil h
    rfl
  | cons t ts ih =>
    intro vs ds ps hts h hlt hsp
    match vs, ds, h with
    | v :: vs, d :: ds, ⟨p, q, h1, h2, e⟩ =>
      subst e
      have ht := hts t (by simp)
      refine ⟨p, q, ?_, ih (fun t' h' => hts t' (by simp [h'])) h2 (fun x hx => hlt x (by simp [hx])) (fun x hx => hsp x (by simp [hx])), rfl⟩
      exact Go.WideElems.Trod_stays hl ht.1 ht.2 h1 (fun x hx => hb.same (hlt x (by simp [hx]))) fun x hx => hsp x (by simp [hx])

/-- a law's answer is true, and what came in lies as it lay -/
theorem law_shut {f : Func} {s : ChangeSpec} {apart fresh handsOn again : Bool} {W' : World} {args : Array Value} {ds gs : List (DataW H)} {before : List MemPlace} {tb : TypeId}
    (hl : laidOutB P = true) (hts : ∀ t ∈ f.params.toList, P.readableRec t = true ∧ t < P.types.size) (hv : s.vars = []) (hrt : f.resultTypes = #[tb]) (htb : P.underlying tb = some .bool)
    (hW : DataW.Whole enc P f.params.toList s.vars apart W args.toList ds gs before) (hs : s.fn H (ds ++ gs) = { results := [.lit (.bool true)], args := ds }) (hb : Below W.heap.size W W') :
    s.post enc P f apart fresh handsOn again W args (.bool true) W' := by
  have hlt : ∀ p ∈ before, p.block < W.heap.size := fun p hp => hW.lt p hp
  obtain ⟨p, q, hA, hV, hbq, hz, hn⟩ := hW
  have hgq : gs = [] ∧ q = [] := by
    rw [hv] at hV
    exact trodVars_none hV
  obtain ⟨rfl, rfl⟩ := hgq
  rw [List.append_nil] at hbq
  subst hbq
  have hres : ∀ (b : Nat) (sp : Nat → Bool) (hd : Bool), DataW.TrodAll enc P W' b sp hd f.resultTypes.toList ((Value.bool true).resultList f.resultTypes.size) (s.fn H (ds ++ [])).results [] := by
    intro b sp hd
    rw [hrt, hs]
    exact trodAll_mk1 (shut_bool htb true)
  have hargs : ∀ sp : Nat → Bool, (∀ x ∈ before, sp x.block = true) → DataW.TrodAll enc P W' 0 sp true f.params.toList args.toList (s.fn H (ds ++ [])).args before := by
    intro sp hsp
    rw [hs]
    exact trodAll_kept hl hb hts hA hlt hsp
  have hvars : ∀ sp : Nat → Bool, DataW.TrodVars enc P W' sp s.vars (s.fn H (ds ++ [])).vars [] := by
    intro sp
    rw [hv, hs]
    rfl
  have hW2 : DataW.Whole enc P f.params.toList s.vars apart W args.toList ds [] before := ⟨before, [], hA, by rw [hv]; rfl, by simp, hz, hn⟩
  have hin : ∀ x ∈ before, (fun b => decide (b < W.heap.size)) x.block = true := fun x hx => by simpa using hlt x hx
  refine ⟨ds, [], before, [], before, [], hW2, hres _ _ _, hargs _ hin, hvars _, World.keptBut_mono (fun x hx => ⟨hx, ?_⟩) (hb.frame (· ∈ before)), fun _ => ?_⟩
  · exact Or.inr (by simpa using hx)
  · refine ⟨ok_one hrt rfl (okWide_bool_mk htb true), _, _, ([] ++ before) ++ [], ⟨[] ++ before, [], trodAll_append (hargs _ (fun _ _ => rfl)) (hres _ _ _), hvars _, rfl, ?_, ?_⟩, ?_⟩
    · intro b off hp
      have hin2 : MemPlace.cell b off ∈ before := by simpa using hp
      rw [hb.frozen (hlt _ hin2)]
      exact hz b off hin2
    · intro ha
      simpa using hn ha
    · intro x hx _
      simpa using hx
end
end Go.Sx

-- SpOpen
namespace Go.Sx
open Go.ChangeShapes Go.WideShapes Go.RowKit

section
variable {H : Type} {enc : TypeId × Value → H} {P : Program} {W : World}

/-- fields from a place on, each read as data at its type -/
def OpF (enc : TypeId × Value → H) (P : Program) (W : World) (fl : List (Nat × Nat)) (off total : Nat) {β : Type} (c : β → List Value) (Q : β → Prop) : Prop :=
  ∀ (n : Nat) (cs : List Value) (xs : List (Opened H)), cs.length = total →
    (∀ (k t o : Nat), fl[k]? = some (t, o) → ∃ x, xs[k]? = some x ∧ DataW.trod enc P W 0 (fun _ => true) true n t ((cs.drop o).take (P.cellsOf t)) = some x ∧ (x.1.weights P t).all (· ≤ reachBytes) = true) →
    ∃ y : β, cs.drop off = c y ∧ Q y
theorem opF_nil {n : Nat} : OpF enc P W [] n n (fun _ : Unit => []) (fun _ => True) := by
  intro m cs xs hl _
  exact ⟨(), by rw [List.drop_of_length_le (by omega)], trivial⟩
theorem opF_cons {t off sz total : Nat} {fl : List (Nat × Nat)} {α β : Type} {ca : α → List Value} {cb : β → List Value} {Qa : α → Prop} {Qb : β → Prop} (hC : P.cellsOf t = sz) (ha : Opens enc P W t ca Qa) (hb : OpF enc P W fl (off + sz) total cb Qb) :
    OpF enc P W ((t, off) :: fl) off total (fun p : α × β => ca p.1 ++ cb p.2) (fun p => Qa p.1 ∧ Qb p.2) := by
  intro n cs xs hl hf
  obtain ⟨x, hx, htr, hw⟩ := hf 0 t off rfl
  obtain ⟨y, hy, hQ⟩ := ha n _ x htr hw
  obtain ⟨z, hz, hR⟩ := hb n cs xs.tail hl fun k t' o' hk => by
    obtain ⟨x', h1, h2, h3⟩ := hf (k + 1) t' o' (by simpa using hk)
    exact ⟨x', by rw [List.getElem?_tail]; exact h1, h2, h3⟩
  rw [hC] at hy
  refine ⟨(y, z), ?_, hQ, hR⟩
  show cs.drop off = ca y ++ cb z
  rw [← hy, ← hz, ← List.drop_drop, List.take_append_drop]
def fieldsAsk (P : Program) (t : Nat) : Option (List (Nat × Nat)) := match P.underlying t with | some (.struct fs) => some (fs.toList.map fun f => (f.type, f.offset)) | _ => none
theorem opens_fields {t total : Nat} {fl : List (Nat × Nat)} {β : Type} {c : β → List Value} {Q : β → Prop} (hask : fieldsAsk P t = some fl) (hC : P.cellsOf t = total) (h : OpF enc P W fl 0 total c Q) : Opens enc P W t c Q := by
  intro n cs x htr hw
  unfold fieldsAsk at hask
  split at hask
  · rename_i fs hu
    simp only [Option.some.injEq] at hask
    subst hask
    obtain ⟨xs, m, _, rfl, hcl, hxl, hf⟩ := DataW.trod_struct hu htr
    simp only [DataW.weights, hu] at hw
    obtain ⟨y, hy, hQ⟩ := h m cs xs (by rw [hcl, hC]) fun k t' o' hk => by
      simp only [List.getElem?_map] at hk
      cases hfk : fs.toList[k]? with
      | none => rw [hfk] at hk; cases hk
      | some f =>
        rw [hfk] at hk
        simp only [Option.map_some, Option.some.injEq, Prod.mk.injEq] at hk
        obtain ⟨rfl, rfl⟩ := hk
        have hfk' : fs[k]? = some f := by simpa using hfk
        have h1 := hf k f hfk'
        have hkx : k < xs.length := by rw [hxl]; have := (Array.getElem?_eq_some_iff.1 hfk').1; exact this
        refine ⟨xs[k], by simp [hkx], by rw [h1]; simp [hkx], ?_⟩
        exact weight_at hw (j := k) (by simp [hfk]) (by simp [hkx])
    exact ⟨y, by simpa using hy, hQ⟩
  · cases hask
theorem Opens.map {t : Nat} {α β : Type} {c : α → List Value} {c' : β → List Value} {Q : α → Prop} {Q' : β → Prop} (h : Opens enc P W t c Q) (g : α → β) (hc : ∀ y, c' (g y) = c y) (hQ : ∀ y, Q y → Q' (g y)) : Opens enc P W t c' Q' := by
  intro n cs x htr hw
  obtain ⟨y, hy, hq⟩ := h n cs x htr hw
  exact ⟨g y, by rw [hc]; exact hy, hQ y hq⟩
end
end Go.Sx
