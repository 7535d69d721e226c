/-
  The executor's operations are sound. Conditions: those of the statement alone.
-/
import Derived.Test.YtnjnpfhgblcgnaaDoorSxA
import Derived.Laws.Sem
import Derived.Laws.World
import Derived.IntWalk
import Derived.Laws.Cells
import Derived.Laws.Rows
import Derived.Laws.CopyRow
import Derived.Laws.NewFold
set_option linter.unusedVariables false
set_option linter.unusedSimpArgs false

-- SxPure
namespace Go.Sx
open Go.RowKit

section
variable {P : Program} (X : Ctx P)

def Mat (eT : Nat) (ρ : Nat → Nat) : SV → Value → Prop
  | .s .any, _ => True
  | .s (.loc k off), v => v = .pointer (some ⟨ρ k, off, none⟩)
  | .s (.v x), v => v = x
  | .s (.err e), v => v = gval1 eT (.err e)
  | .tup l, v => v = .tuple (l.map (gval1 eT)).toArray ∧ l.all good1 = true

structure EnvOk (ρ : Nat → Nat) (st : St) (a : Act) : Prop where
  env : ∀ t, Mat X.errT ρ (st.env t) (a.tmps.getD t undef)
  stale : ∀ t k off, st.env t = .s (.loc k off) → st.L k ≠ none

def NoSt (st : St) (x : SV) : Prop := ∀ k off, x = .s (.loc k off) → st.L k ≠ none

def Res (ρ : Nat → Nat) (st : St) (a : Act) (o : Oper) (K : SV → Prop) : Prop :=
  ∃ x v, K x ∧ (∀ w, (execOp a.eval o).run P w = .ok (.value v) w) ∧ Mat X.errT ρ x v ∧ NoSt st x

variable {X} {ρ : Nat → Nat} {st : St} {a : Act}

theorem constS_mat (v : Value) : Mat X.errT ρ (constS v) v := by
  cases v <;> simp [constS, Mat, gval1]
theorem constS_loc (v : Value) (k off : Nat) : constS v ≠ .s (.loc k off) := by
  cases v <;> simp [constS]

theorem ev_mat (h : EnvOk X ρ st a) (x : Operand) : Mat X.errT ρ (ev st x) (a.eval x) := by
  cases x with
  | tmp t => exact h.env t
  | const v => exact constS_mat v
  | global g => exact trivial
  | func f => exact rfl
theorem ev_st (h : EnvOk X ρ st a) (x : Operand) : NoSt st (ev st x) := by
  intro k off hx
  cases x with
  | tmp t => exact h.stale t k off hx
  | const v => exact absurd hx (constS_loc v k off)
  | global g => simp [ev] at hx
  | func f => simp [ev] at hx

theorem ev_v (h : EnvOk X ρ st a) {x : Operand} {v : Value} (e : ev st x = .s (.v v)) : a.eval x = v := by
  have := ev_mat h x; rw [e] at this; exact this
theorem ev_loc (h : EnvOk X ρ st a) {x : Operand} {k o : Nat} (e : ev st x = .s (.loc k o)) : a.eval x = .pointer (some ⟨ρ k, o, none⟩) := by
  have := ev_mat h x; rw [e] at this; exact this
theorem ev_err (h : EnvOk X ρ st a) {x : Operand} {r : Option Int} (e : ev st x = .s (.err r)) : a.eval x = gval1 X.errT (.err r) := by
  have := ev_mat h x; rw [e] at this; exact this
theorem ev_tup (h : EnvOk X ρ st a) {x : Operand} {l : List S1} (e : ev st x = .tup l) : a.eval x = .tuple (l.map (gval1 X.errT)).toArray ∧ l.all good1 = true := by
  have := ev_mat h x; rw [e] at this; exact this

theorem noSt_v (v : Value) : NoSt st (.s (.v v)) := by intro k off h; cases h
theorem noSt_err (e : Option Int) : NoSt st (.s (.err e)) := by intro k off h; cases h

theorem res_v {o : Oper} {K : SV → Prop} {v : Value} (hK : K (.s (.v v))) (hr : ∀ w, (execOp a.eval o).run P w = .ok (.value v) w) : Res X ρ st a o K :=
  ⟨_, v, hK, hr, rfl, noSt_v v⟩

theorem run_underlying' {T : Nat} {d : TypeDesc} (h : P.underlying T = some d) (w : World) : (underlying T).run P w = .ok d w := by
  simp [underlying, h]
theorem run_sizeOf' {T : Nat} {i : TypeInfo} (h : P.info? T = some i) (w : World) : (sizeOf T).run P w = .ok i.size w := by
  simp [sizeOf, typeInfo, h]
theorem run_zero' {T : Nat} {i : TypeInfo} {z : Value} (h : P.info? T = some i) (hz : i.zero = some z) (w : World) : (zeroValue T).run P w = .ok z w := by
  simp [zeroValue, typeInfo, h, hz]

theorem getN_eq {α : Type} (l : List α) (n : Nat) : getN l n = l[n]? := by
  induction l generalizing n with
  | nil => cases n <;> simp [getN]
  | cons x xs ih => cases n with
    | zero => simp [getN]
    | succ n => simp [getN, ih]
theorem takeN_eq {α : Type} (n : Nat) (l : List α) : takeN n l = l.take n := by
  induction n generalizing l with
  | zero => cases l <;> simp [takeN]
  | succ n ih => cases l <;> simp [takeN, ih]
theorem dropN_eq {α : Type} (n : Nat) (l : List α) : dropN n l = l.drop n := by
  induction n generalizing l with
  | zero => cases l <;> simp [dropN]
  | succ n ih => cases l <;> simp [dropN, ih]

theorem fieldsOk_at {fs : List Field} {es : List (Nat × Nat × Nat)} (h : fieldsOk P fs es) {n : Nat} {e : Nat × Nat × Nat} (he : es[n]? = some e) :
    ∃ f, fs[n]? = some f ∧ f.offset = e.1 ∧ f.type = e.2.1 ∧ (∃ i, P.info? e.2.1 = some i ∧ i.size = e.2.2) ∧ e.2.2 ≠ 0 := by
  induction es generalizing fs n with
  | nil => simp at he
  | cons x xs ih =>
    cases fs with
    | nil => exact h.elim
    | cons f fs =>
      obtain ⟨h1, h2, h3, h4, h5⟩ := h
      cases n with
      | zero => simp at he; subst he; exact ⟨f, by simp, h1, h2, h3, h4⟩
      | succ n => simp at he; obtain ⟨g, hg, r⟩ := ih h5 he; exact ⟨g, by simpa using hg, r⟩

theorem run_fieldAt {T f off : Nat} (h : fieldOff X T f = some off) (ad : Addr) (w : World) :
    (Instr.fieldAt T (.pointer (some ad)) f).run P w = .ok (.pointer (some (ad.add off))) w := by
  unfold fieldOff at h
  split at h
  · rename_i t ht
    split at h
    · rename_i fs hk
      rw [getN_eq] at h
      split at h
      · rename_i e he
        simp at h; subst h
        have hok := (X.htab T t ht).2
        rw [hk] at hok
        obtain ⟨fields, hu, hf⟩ := hok
        obtain ⟨g, hg, h1, h2, ⟨i, hi, hs⟩, hne⟩ := fieldsOk_at hf he
        have hg' : fields[f]? = some g := by simpa using hg
        simp [Instr.fieldAt, run_underlying' hu, hg', Instr.sureAddr, fieldPlace, run_sizeOf' (h2 ▸ hi), hs, hne, h1]
      · simp at h
    · simp at h
  · simp at h

theorem addr_add_loc (b o n : Nat) : (⟨b, o, none⟩ : Addr).add n = ⟨b, o + n, none⟩ := by
  unfold Addr.add; split <;> simp_all

theorem px_move {o : Oper} {x : Operand} {K : SV → Prop} (h : EnvOk X ρ st a) (ho : o.op = .move x ∨ o.op = .assign x) (hK : K (ev st x)) : Res X ρ st a o K := by
  refine ⟨_, a.eval x, hK, fun w => ?_, ev_mat h x, ev_st h x⟩
  rcases ho with ho | ho <;> simp [execOp, ho]

theorem px_pick {o : Oper} {c x y : Operand} {t : Bool} {K : SV → Prop} (h : EnvOk X ρ st a) (ho : o.op = .pick c x y) (hc : ev st c = .s (.v (.bool t))) (hK : IfB t (K (ev st x)) (K (ev st y))) : Res X ρ st a o K := by
  have e := ev_v h hc
  cases t with
  | true => exact ⟨_, a.eval x, hK, fun w => by simp [execOp, ho, e, asBool], ev_mat h x, ev_st h x⟩
  | false => exact ⟨_, a.eval y, hK, fun w => by simp [execOp, ho, e, asBool], ev_mat h y, ev_st h y⟩

theorem nilk {α : Type} {p : Option α} {K : α → Prop} (h : NilK p K) : ∃ x, p = some x ∧ K x := by
  cases p with
  | none => exact h.elim
  | some x => exact ⟨x, rfl, h⟩

theorem arK_sound {o : Oper} {k : IntKind} {e : Int} {K : SV → Prop} (hK : arK k e K) (hr : ∀ w, (execOp a.eval o).run P w = .ok (.value (.int k (k.wrap e))) w) : Res X ρ st a o K := by
  cases k
  case i64 =>
    obtain ⟨⟨h1, h2⟩, hK⟩ := hK
    refine res_v hK fun w => ?_
    rw [hr w, IntWalk.i64_in e ⟨h1, h2⟩]
  all_goals exact res_v hK hr

theorem ifb {b : Bool} {A B : Prop} (h : IfB b A B) : (b = true ∧ A) ∨ (b = false ∧ B) := by
  cases b with
  | true => exact .inl ⟨rfl, h⟩
  | false => exact .inr ⟨rfl, h⟩

theorem exec_bin {o : Oper} {op : BinOp} {T : Nat} {x y : Operand} {ty : Nat} (ho : o.op = .binOp op T x y ty) (w : World) {v : Value}
    (hg : (eqGuard op T x y (a.eval x) (a.eval y)).run P w = .ok () w) (hv : (binOp op T (a.eval x) (a.eval y)).run P w = .ok v w) : (execOp a.eval o).run P w = .ok (.value v) w := by
  simp [execOp, ho, hg, hv]

theorem ite_ok {c : Prop} [Decidable c] {A B : Sem Unit} {w : World} (ha : A.run P w = .ok () w) (hb : B.run P w = .ok () w) : (if c then A else B).run P w = .ok () w := by
  split <;> assumption

theorem guard_other {op : BinOp} {T : Nat} {x y : Operand} {u v : Value} (h : (match u, v with | .nilIface, .nilIface => false | .agg _, .agg _ => false | _, _ => true) = true) (w : World) :
    (eqGuard op T x y u v).run P w = .ok () w := by
  unfold eqGuard
  refine ite_ok rfl ?_
  split
  · simp at h
  · simp at h
  · rfl

theorem bin_int {o : Oper} {op : BinOp} {T : Nat} {x y : Operand} {ty : Nat} {K : SV → Prop} (h : EnvOk X ρ st a) (ho : o.op = .binOp op T x y ty) {k : IntKind} {m n : Int}
    (hx : ev st x = .s (.v (.int k m))) (hy : ev st y = .s (.v (.int k n))) (hK : bin X op T x y st K) : Res X ρ st a o K := by
  have ex := ev_v h hx
  have ey := ev_v h hy
  have hg : ∀ w, (eqGuard op T x y (a.eval x) (a.eval y)).run P w = .ok () w := fun w => guard_other (by rw [ex, ey]) w
  have ex' := fun w {v : Value} (hv : (binOp op T (.int k m) (.int k n)).run P w = .ok v w) => exec_bin (a := a) ho w (hg w) (by rw [ex, ey]; exact hv)
  unfold bin at hK
  rw [hx, hy] at hK
  simp only [decide_true] at hK
  cases op <;> simp only at hK
  case add => exact arK_sound hK fun w => ex' w (by simp [binOp, Op.intArith])
  case sub => exact arK_sound hK fun w => ex' w (by simp [binOp, Op.intArith])
  case mul => exact arK_sound hK fun w => ex' w (by simp [binOp, Op.intArith])
  case quo =>
    rcases ifb hK with ⟨_, hK⟩ | ⟨hb, hK⟩
    · exact hK.elim
    · have hn : n ≠ 0 := by simpa using hb
      exact arK_sound hK fun w => ex' w (by simp [binOp, Op.intDiv, hn])
  case rem =>
    rcases ifb hK with ⟨_, hK⟩ | ⟨hb, hK⟩
    · exact hK.elim
    · have hn : n ≠ 0 := by simpa using hb
      exact res_v hK fun w => ex' w (by simp [binOp, Op.intDiv, hn])
  case and => exact res_v hK fun w => ex' w (by simp [binOp, Op.intBits])
  case or => exact res_v hK fun w => ex' w (by simp [binOp, Op.intBits])
  case xor => exact res_v hK fun w => ex' w (by simp [binOp, Op.intBits])
  case shl =>
    rcases ifb hK with ⟨_, hK⟩ | ⟨hb, hK⟩
    · exact hK.elim
    · have hn : ¬ n < 0 := by simpa using hb
      exact res_v hK fun w => ex' w (by simp [binOp, Op.shift, hn])
  case shr =>
    rcases ifb hK with ⟨_, hK⟩ | ⟨hb, hK⟩
    · exact hK.elim
    · have hn : ¬ n < 0 := by simpa using hb
      exact res_v hK fun w => ex' w (by simp [binOp, Op.shift, hn])
  case eql => exact res_v hK fun w => ex' w (by simp [binOp, Op.intCmp])
  case neq => exact res_v hK fun w => ex' w (by simp [binOp, Op.intCmp])
  case lss => exact res_v hK fun w => ex' w (by simp [binOp, Op.intCmp])
  case leq => exact res_v hK fun w => ex' w (by simp [binOp, Op.intCmp])
  case gtr => exact res_v hK fun w => ex' w (by simp [binOp, Op.intCmp])
  case geq => exact res_v hK fun w => ex' w (by simp [binOp, Op.intCmp])

theorem err_val (e : Option Int) : (gval1 X.errT (.err e) = .nilIface ∧ e = none) ∨ ∃ n, e = some n ∧ gval1 X.errT (.err e) = .iface X.errT (.int .i64 n) := by
  cases e with
  | none => exact .inl ⟨rfl, rfl⟩
  | some n => exact .inr ⟨n, rfl, rfl⟩

theorem isConst_spec {x : Operand} (h : isConst x = true) : ∃ v, x = .const v := by
  cases x with
  | const v => exact ⟨v, rfl⟩
  | tmp t => cases h
  | global t => cases h
  | func t => cases h

theorem run_eql {T : Nat} {x y : Value} {r : Bool} {w : World} (hb : binOp .eql T x y = (do pure (.bool (← Op.equal T x y)))) (h : ∀ d, (Op.equalIn (d + 1) T x y).run P w = .ok r w) : (binOp .eql T x y).run P w = .ok (.bool r) w := by
  rw [hb, Sem.run_bind]
  show ((Op.equalIn (9999 + 1) T x y).run P w).andThen _ = _
  rw [h]; rfl
theorem run_neq {T : Nat} {x y : Value} {r : Bool} {w : World} (hb : binOp .neq T x y = (do pure (.bool (!(← Op.equal T x y))))) (h : ∀ d, (Op.equalIn (d + 1) T x y).run P w = .ok r w) : (binOp .neq T x y).run P w = .ok (.bool !r) w := by
  rw [hb, Sem.run_bind]
  show ((Op.equalIn (9999 + 1) T x y).run P w).andThen _ = _
  rw [h]; rfl
theorem eq_bool {T : Nat} (hok : P.underlying T = some .bool) (s t : Bool) (w : World) (d : Nat) : (Op.equalIn (d + 1) T (.bool s) (.bool t)).run P w = .ok (s == t) w := by
  simp [Op.equalIn, run_underlying' hok]
theorem eq_err {T : Nat} {ms : Array (String × Nat)} (hok : P.underlying T = some (.interface ms)) (e : Option Int) (w : World) (d : Nat) : (Op.equalIn (d + 1) T (gval1 X.errT (.err e)) .nilIface).run P w = .ok e.isNone w := by
  cases e <;> simp [gval1, Op.equalIn, run_underlying' hok]
theorem eq_slice {T e : Nat} (hok : P.underlying T = some (.slice e)) (ad : Option Addr) (n c n' c' : Nat) (w : World) (d : Nat) : (Op.equalIn (d + 1) T (.slice ad n c) (.slice none n' c')).run P w = .ok ad.isNone w := by
  cases ad <;> simp [Op.equalIn, run_underlying' hok]
theorem eq_ptr {T e : Nat} (hok : P.underlying T = some (.pointer e)) (ad : Option Addr) (w : World) (d : Nat) : (Op.equalIn (d + 1) T (.pointer ad) (.pointer none)).run P w = .ok ad.isNone w := by
  cases ad <;> simp [Op.equalIn, run_underlying' hok]

theorem bin_sound {o : Oper} {op : BinOp} {T : Nat} {x y : Operand} {ty : Nat} {K : SV → Prop} (h : EnvOk X ρ st a) (ho : o.op = .binOp op T x y ty) (hK : bin X op T x y st K) : Res X ρ st a o K := by
  have hK0 := hK
  unfold bin at hK
  split at hK
  · -- ints
    rename_i k m k' n hx hy
    split at hK
    · exact hK.elim
    · rename_i hd
      have hk : k = k' := by simpa using hd
      subst hk
      exact bin_int h ho hx hy hK0
  · -- strings
    rename_i s t hx hy
    have ex := ev_v h hx
    have ey := ev_v h hy
    have hg : ∀ w, (eqGuard op T x y (a.eval x) (a.eval y)).run P w = .ok () w := fun w => guard_other (by rw [ex, ey]) w
    have ex' := fun w {v : Value} (hv : (binOp op T (.string s) (.string t)).run P w = .ok v w) => exec_bin (a := a) ho w (hg w) (by rw [ex, ey]; exact hv)
    split at hK
    · obtain ⟨hl, hK⟩ := hK
      refine res_v hK fun w => ex' w ?_
      have : ¬ (((s.size + t.size : Nat) : Int) > IntKind.i64.max) := by
        have : IntKind.i64.max = 9223372036854775807 := by decide
        omega
      simp only [binOp, Op.stringOp]
      rw [if_neg this]; rfl
    · exact res_v hK fun w => ex' w (by simp [binOp, Op.stringOp])
    · exact res_v hK fun w => ex' w (by simp [binOp, Op.stringOp])
    · exact hK.elim
  · -- bools
    rename_i s t hx hy
    have ex := ev_v h hx
    have ey := ev_v h hy
    have hg : ∀ w, (eqGuard op T x y (a.eval x) (a.eval y)).run P w = .ok () w := fun w => guard_other (by rw [ex, ey]) w
    have ex' := fun w {v : Value} (hv : (binOp op T (.bool s) (.bool t)).run P w = .ok v w) => exec_bin (a := a) ho w (hg w) (by rw [ex, ey]; exact hv)
    split at hK
    · rename_i ti hti
      have hok := (X.htab T ti hti).2
      split at hK
      · rename_i hk
        rw [hk] at hok
        exact res_v hK fun w => ex' w (run_eql rfl (eq_bool hok _ _ w))
      · rename_i hk
        rw [hk] at hok
        exact res_v hK fun w => ex' w (run_neq rfl (eq_bool hok _ _ w))
      · exact hK.elim
    · exact hK.elim
  · -- errors
    rename_i e hx hy
    have ex := ev_err h hx
    have ey : a.eval y = .nilIface := ev_err h hy
    split at hK
    · rename_i ti hc hti
      have hok := (X.htab T ti hti).2
      have hg : ∀ w, (eqGuard op T x y (a.eval x) (a.eval y)).run P w = .ok () w := by
        intro w
        rw [ex, ey]
        obtain ⟨vy, rfl⟩ := isConst_spec hc
        rcases err_val (X := X) e with ⟨e1, e2⟩ | ⟨n, e2, e1⟩
        · rw [e1]
          unfold eqGuard
          refine ite_ok rfl ?_
          rw [if_pos (by simp)]; rfl
        · rw [e1]; exact guard_other rfl w
      have ex' := fun w {v : Value} (hv : (binOp op T (gval1 X.errT (.err e)) .nilIface).run P w = .ok v w) => exec_bin (a := a) ho w (hg w) (by rw [ex, ey]; exact hv)
      split at hK
      · rename_i hk
        rw [hk] at hok
        obtain ⟨ms, hok⟩ := hok
        exact res_v hK fun w => ex' w (run_eql (by cases e <;> rfl) (eq_err hok e w))
      · rename_i hk
        rw [hk] at hok
        obtain ⟨ms, hok⟩ := hok
        have hb : e.isSome = !e.isNone := by cases e <;> rfl
        rw [hb] at hK
        exact res_v hK fun w => ex' w (run_neq (by cases e <;> rfl) (eq_err hok e w))
      · exact hK.elim
    · exact hK.elim
  · -- slices and nil
    rename_i ad n c n' c' hx hy
    have ex := ev_v h hx
    have ey := ev_v h hy
    have hg : ∀ w, (eqGuard op T x y (a.eval x) (a.eval y)).run P w = .ok () w := fun w => guard_other (by rw [ex, ey]) w
    have ex' := fun w {v : Value} (hv : (binOp op T (.slice ad n c) (.slice none n' c')).run P w = .ok v w) => exec_bin (a := a) ho w (hg w) (by rw [ex, ey]; exact hv)
    split at hK
    · rename_i ti hc hti
      have hok := (X.htab T ti hti).2
      split at hK
      · rename_i e hk
        rw [hk] at hok
        exact res_v hK fun w => ex' w (run_eql rfl (eq_slice hok ad n c n' c' w))
      · rename_i e hk
        rw [hk] at hok
        exact res_v hK fun w => ex' w (run_neq rfl (eq_slice hok ad n c n' c' w))
      · exact hK.elim
    · exact hK.elim
  · -- pointers and nil
    rename_i ad hx hy
    have ex := ev_v h hx
    have ey := ev_v h hy
    have hg : ∀ w, (eqGuard op T x y (a.eval x) (a.eval y)).run P w = .ok () w := fun w => guard_other (by rw [ex, ey]) w
    have ex' := fun w {v : Value} (hv : (binOp op T (.pointer ad) (.pointer none)).run P w = .ok v w) => exec_bin (a := a) ho w (hg w) (by rw [ex, ey]; exact hv)
    split at hK
    · rename_i ti hc hti
      have hok := (X.htab T ti hti).2
      split at hK
      · rename_i e hk
        rw [hk] at hok
        exact res_v hK fun w => ex' w (run_eql rfl (eq_ptr hok ad w))
      · rename_i e hk
        rw [hk] at hok
        exact res_v hK fun w => ex' w (run_neq rfl (eq_ptr hok ad w))
      · exact hK.elim
    · exact hK.elim
  · -- structs
    rename_i m n hx hy
    have ex := ev_v h hx
    have ey := ev_v h hy
    split at hK
    · obtain ⟨r, hr, hg, hK⟩ := hK
      exact res_v hK fun w => exec_bin (a := a) ho w (by rw [ex, ey]; exact hg w) (by rw [ex, ey]; exact hr w)
    · obtain ⟨r, hr, hg, hK⟩ := hK
      exact res_v hK fun w => exec_bin (a := a) ho w (by rw [ex, ey]; exact hg w) (by rw [ex, ey]; exact hr w)
    · exact hK.elim
  · exact hK.elim

/-! ### cutting -/
theorem bound_ok {k : IntKind} {i : Int} {y : Nat} {c : BoundsCode} (h0 : 0 ≤ i) (h1 : i ≤ (y : Int)) (w : World) : (Instr.sliceBound (.int k i) y c).run P w = .ok i.toNat w := by
  simp [Instr.sliceBound, asIntOf, h0, h1]

theorem optI_some {x : Operand} {n : Int} (h : EnvOk X ρ st a) (e : optI st (some x) = some (some n)) : ∃ k, a.eval x = .int k n := by
  simp only [optI] at e
  split at e
  · rename_i k m hx
    simp at e; subst e
    exact ⟨k, ev_v h hx⟩
  · cases e
theorem optI_cases {x : Option Operand} {r : Option Int} (h : EnvOk X ρ st a) (e : optI st x = some r) :
    (x = none ∧ r = none) ∨ ∃ y n k, x = some y ∧ r = some n ∧ a.eval y = .int k n := by
  cases x with
  | none => simp [optI] at e; exact .inl ⟨rfl, e.symm⟩
  | some y =>
    cases r with
    | none => simp only [optI] at e; split at e <;> simp at e
    | some n => obtain ⟨k, hk⟩ := optI_some h e; exact .inr ⟨y, n, k, rfl, rfl, hk⟩

theorem map_add_zero (ad : Option Addr) (sz : Nat) : ad.map (·.add (0 * sz)) = ad := by
  cases ad <;> simp [Addr.add]

theorem run_sliceAt_slice {T e sz : Nat} {i : TypeInfo} (hu : P.underlying T = some (.slice e)) (hi : P.info? e = some i) (hs : i.size = sz) {ad : Option Addr} {len cap : Nat} {lo hi' mx : Option Value} {l h m : Nat} {w : World}
    (hb : (Instr.sliceBounds true len cap lo hi' mx).run P w = .ok (l, h, m) w) :
    (Instr.sliceAt T (.slice ad len cap) lo hi' mx).run P w = .ok (.slice (cutA ad m l sz) (h - l) (m - l)) w := by
  subst hs
  simp [Instr.sliceAt, run_underlying' hu, Instr.slice, hb, run_sizeOf' hi, cutA]
theorem run_sliceAt_str {T : Nat} (hu : P.underlying T = some .string) {s : ByteArray} {lo hi' : Option Value} {l h m : Nat} {w : World}
    (hb : (Instr.sliceBounds false s.size s.size lo hi' none).run P w = .ok (l, h, m) w) :
    (Instr.sliceAt T (.string s) lo hi' none).run P w = .ok (.string (s.extract l h)) w := by
  simp [Instr.sliceAt, run_underlying' hu, Instr.slice, hb]

theorem bounds_none {b : Bool} {len cap : Nat} (w : World) : (Instr.sliceBounds b len cap none none none).run P w = .ok (0, len, cap) w := by
  simp [Instr.sliceBounds]
theorem bounds_hi {b : Bool} {len cap : Nat} {k : IntKind} {h : Int} (h0 : 0 ≤ h) (h1 : h ≤ (cap : Int)) (w : World) : (Instr.sliceBounds b len cap none (some (.int k h)) none).run P w = .ok (0, h.toNat, cap) w := by
  simp [Instr.sliceBounds, bound_ok h0 h1]
theorem bounds_lo {b : Bool} {len cap : Nat} {k : IntKind} {l : Int} (h0 : 0 ≤ l) (h1 : l ≤ (len : Int)) (w : World) : (Instr.sliceBounds b len cap (some (.int k l)) none none).run P w = .ok (l.toNat, len, cap) w := by
  simp [Instr.sliceBounds, bound_ok h0 h1]
theorem bounds_both {b : Bool} {len cap : Nat} {k k' : IntKind} {l h : Int} (h0 : 0 ≤ h) (h1 : h ≤ (cap : Int)) (l0 : 0 ≤ l) (l1 : l ≤ h) (w : World) :
    (Instr.sliceBounds b len cap (some (.int k l)) (some (.int k' h)) none).run P w = .ok (l.toNat, h.toNat, cap) w := by
  simp [Instr.sliceBounds, bound_ok h0 h1, bound_ok (y := h.toNat) l0 (by omega)]
theorem bounds_three {b : Bool} {len cap : Nat} {k k' k'' : IntKind} {l h m : Int} (m0 : 0 ≤ m) (m1 : m ≤ (cap : Int)) (h0 : 0 ≤ h) (h1 : h ≤ m) (l0 : 0 ≤ l) (l1 : l ≤ h) (w : World) :
    (Instr.sliceBounds b len cap (some (.int k l)) (some (.int k' h)) (some (.int k'' m))).run P w = .ok (l.toNat, h.toNat, m.toNat) w := by
  simp [Instr.sliceBounds, bound_ok m0 m1, bound_ok (y := m.toNat) h0 (by omega), bound_ok (y := h.toNat) l0 (by omega)]

theorem sizeT_spec {e sz : Nat} (h : sizeT X e = some sz) : ∃ i, P.info? e = some i ∧ i.size = sz := by
  unfold sizeT at h
  split at h
  · rename_i t ht
    simp at h
    obtain ⟨⟨i, z, hi, hs, _⟩, _⟩ := X.htab e t ht
    exact ⟨i, hi, hs.trans h⟩
  · cases h

theorem exec_slice {o : Oper} {T : Nat} {x : Operand} {lo hi mx : Option Operand} (ho : o.op = .slice T x lo hi mx) {v : Value} {w : World}
    (h : (Instr.sliceAt T (a.eval x) (lo.map a.eval) (hi.map a.eval) (mx.map a.eval)).run P w = .ok v w) : (execOp a.eval o).run P w = .ok (.value v) w := by
  simp [execOp, ho, h]

theorem sliceK_sound {o : Oper} {T : Nat} {x : Operand} {lo hi : Option Operand} {K : SV → Prop} (h : EnvOk X ρ st a) (ho : o.op = .slice T x lo hi none) (hK : sliceK X T x lo hi st K) : Res X ρ st a o K := by
  unfold sliceK at hK
  split at hK
  · rename_i ti ad len cap l hh hti hx hl hhi
    have ex := ev_v h hx
    split at hK
    · rename_i e hk
      have hu := (X.htab T ti hti).2
      rw [hk] at hu
      split at hK
      · rename_i sz hsz
        obtain ⟨i, hi', hs⟩ := sizeT_spec hsz
        have key : ∀ (v : Value) (l h m : Nat), (∀ w, (Instr.sliceBounds true len cap (lo.map a.eval) (hi.map a.eval) none).run P w = .ok (l, h, m) w) → v = .slice (cutA ad m l sz) (h - l) (m - l) → ∀ w, (execOp a.eval o).run P w = .ok (.value v) w := by
          intro v l h m hb hv w
          refine exec_slice ho ?_
          rw [ex, hv]
          exact run_sliceAt_slice hu hi' hs (hb w)
        rcases optI_cases h hl with ⟨rfl, rfl⟩ | ⟨yl, nl, kl, rfl, rfl, el⟩ <;> rcases optI_cases h hhi with ⟨rfl, rfl⟩ | ⟨yh, nh, kh, rfl, rfl, eh⟩ <;> simp only at hK
        · refine res_v hK (key _ 0 len cap (fun w => bounds_none w) ?_)
          simp only [cutA, Nat.sub_zero, map_add_zero, ite_self]
        · obtain ⟨⟨h0, h1⟩, hK⟩ := hK
          refine res_v hK (key _ 0 nh.toNat cap (fun w => by simp only [Option.map_some, eh]; exact bounds_hi h0 h1 w) ?_)
          simp only [cutA, Nat.sub_zero, map_add_zero, ite_self]
        · obtain ⟨⟨h0, h1⟩, hK⟩ := hK
          exact res_v hK (key _ nl.toNat len cap (fun w => by simp only [Option.map_some, el]; exact bounds_lo h0 h1 w) rfl)
        · obtain ⟨⟨h0, h1⟩, ⟨l0, l1⟩, hK⟩ := hK
          exact res_v hK (key _ nl.toNat nh.toNat cap (fun w => by simp only [Option.map_some, el, eh]; exact bounds_both h0 h1 l0 l1 w) rfl)
      · exact hK.elim
    · exact hK.elim
  · rename_i ti s l hh hti hx hl hhi
    have ex := ev_v h hx
    split at hK
    · rename_i hk
      have hu := (X.htab T ti hti).2
      rw [hk] at hu
      have key : ∀ (v : Value) (l h m : Nat), (∀ w, (Instr.sliceBounds false s.size s.size (lo.map a.eval) (hi.map a.eval) none).run P w = .ok (l, h, m) w) → v = .string (s.extract l h) → ∀ w, (execOp a.eval o).run P w = .ok (.value v) w := by
        intro v l h m hb hv w
        refine exec_slice ho ?_
        rw [ex, hv]
        exact run_sliceAt_str hu (hb w)
      rcases optI_cases h hl with ⟨rfl, rfl⟩ | ⟨yl, nl, kl, rfl, rfl, el⟩ <;> rcases optI_cases h hhi with ⟨rfl, rfl⟩ | ⟨yh, nh, kh, rfl, rfl, eh⟩ <;> simp only at hK
      · refine res_v hK (key _ 0 s.size s.size (fun w => bounds_none w) ?_)
        simp
      · obtain ⟨⟨h0, h1⟩, hK⟩ := hK
        exact res_v hK (key _ 0 nh.toNat s.size (fun w => by simp only [Option.map_some, eh]; exact bounds_hi h0 h1 w) rfl)
      · obtain ⟨⟨h0, h1⟩, hK⟩ := hK
        exact res_v hK (key _ nl.toNat s.size s.size (fun w => by simp only [Option.map_some, el]; exact bounds_lo h0 h1 w) rfl)
      · obtain ⟨⟨h0, h1⟩, ⟨l0, l1⟩, hK⟩ := hK
        exact res_v hK (key _ nl.toNat nh.toNat s.size (fun w => by simp only [Option.map_some, el, eh]; exact bounds_both h0 h1 l0 l1 w) rfl)
    · exact hK.elim
  · exact hK.elim
end
end Go.Sx

-- SxPure2
namespace Go.Sx
open Go.RowKit
section
variable {P : Program} {X : Ctx P} {ρ : Nat → Nat} {st : St} {a : Act}

theorem overN_eq {α : Type} (xs : List α) (n : Nat) (ys : List α) (h : n + ys.length ≤ xs.length) : overN xs n ys = xs.take n ++ ys ++ xs.drop (n + ys.length) := by
  induction n generalizing xs with
  | zero => simp [overN, dropN_eq]
  | succ n ih =>
    cases xs with
    | nil => simp at h
    | cons x xs =>
      simp only [overN, List.take_succ_cons, List.cons_append]
      rw [ih xs (by simp at h; omega)]
      congr 2
      rw [show n + 1 + ys.length = (n + ys.length) + 1 from by omega, List.drop_succ_cons]

theorem length_overN {α : Type} (xs : List α) (n : Nat) (ys : List α) (h : n + ys.length ≤ xs.length) : (overN xs n ys).length = xs.length := by
  rw [overN_eq _ _ _ h]; simp; omega

theorem overN_get {α : Type} (xs : List α) (n : Nat) (ys : List α) (h : n + ys.length ≤ xs.length) (j : Nat) :
    (overN xs n ys)[j]? = if j < n then xs[j]? else if j < n + ys.length then ys[j - n]? else xs[j]? := by
  rw [overN_eq _ _ _ h]
  by_cases h1 : j < n
  · rw [if_pos h1, List.append_assoc, List.getElem?_append_left (by simp; omega), List.getElem?_take_of_lt h1]
  · rw [if_neg h1]
    by_cases h2 : j < n + ys.length
    · rw [if_pos h2, List.append_assoc, List.getElem?_append_right (by simp; omega), List.getElem?_append_left (by simp; omega)]
      congr 1; simp; omega
    · rw [if_neg h2, List.getElem?_append_right (by simp; omega), List.getElem?_drop]
      congr 1; simp; omega

theorem foldl_set (ys : List Value) (off : Nat) : ∀ (cs : Array Value) (k : Nat), off + k + ys.length ≤ cs.size →
    (((ys.zipIdx k).foldl (fun cs (p : Value × Nat) => cs.setIfInBounds (off + p.2) p.1) cs)).toList = overN cs.toList (off + k) ys := by
  induction ys with
  | nil =>
    intro cs k h
    apply List.ext_getElem?
    intro j
    rw [overN_get _ _ _ (by simpa using h)]
    simp
    omega
  | cons y ys ih =>
    intro cs k h
    simp only [List.zipIdx_cons, List.foldl_cons]
    simp only [List.length_cons] at h
    rw [ih _ _ (by simp; omega)]
    apply List.ext_getElem?
    intro j
    rw [overN_get _ _ _ (by simp; omega), overN_get _ _ _ (by simp; omega)]
    simp only [Array.toList_setIfInBounds, List.getElem?_set, List.length_cons, Array.length_toList]
    by_cases h1 : j < off + k
    · rw [if_pos (by omega), if_pos h1, if_neg (by omega)]
    · rw [if_neg h1]
      by_cases h2 : j = off + k
      · subst h2
        rw [if_pos (by omega), if_pos rfl, if_pos (by omega), if_pos (by omega)]
        simp
      · by_cases h3 : j < off + k + (ys.length + 1)
        · rw [if_neg (by omega), if_pos (by omega), if_pos h3]
          rw [show j - (off + k) = (j - (off + (k + 1))) + 1 from by omega]
          simp
        · rw [if_neg (by omega), if_neg (by omega), if_neg h3, if_neg (by omega)]

theorem fill_step {place : Nat → Option (Nat × Nat)} {cells : Array Value} {i : Nat} {v : Value} {rest : List (Nat × Value)} {off n : Nat} (hp : place i = some (off, n)) (hn : v.cells.toList.length = n) (hb : off + n ≤ cells.size) :
    Instr.fill place cells ((i, v) :: rest) = Instr.fill place (overN cells.toList off v.cells.toList).toArray rest := by
  simp only [Instr.fill, hp]
  have h1 : v.cells.size = n := by simpa using hn
  rw [if_neg (by simp [h1]; omega)]
  congr 1
  have := foldl_set v.cells.toList off cells 0 (by simp [h1]; omega)
  rw [Nat.add_zero] at this
  rw [← this]
  simp only [← Array.foldl_toList, Array.toList_zipIdx]

theorem fillK_spec {T : Nat} (h : EnvOk X ρ st a) (ps : List (Nat × Operand)) : ∀ (cs : List Value) (K : List Value → Prop), fillK X T st ps cs K →
    ∃ cs', K cs' ∧ (∀ place : Nat → Option (Nat × Nat), (∀ i r, places X T i = some r → place i = some r) → Instr.fill place cs.toArray (ps.map fun p => (p.1, a.eval p.2)) = some cs'.toArray) := by
  induction ps with
  | nil => intro cs K hK; exact ⟨cs, hK, fun _ _ => rfl⟩
  | cons p ps ih =>
    intro cs K hK
    unfold fillK at hK
    split at hK
    · rename_i off n hp
      split at hK
      · rename_i x hx
        have ex := ev_v h hx
        split at hK
        · rename_i hb
          simp only [Bool.and_eq_true, Nat.ble_eq] at hb
          have hb1 := Nat.eq_of_beq_eq_true hb.1
          obtain ⟨cs', hK', hf⟩ := ih _ _ hK
          refine ⟨cs', hK', fun place hpl => ?_⟩
          rw [List.map_cons, ex, fill_step (hpl _ _ hp) hb1 (by simpa using hb.2)]
          exact hf place hpl
        · exact hK.elim
      · exact hK.elim
    · exact hK.elim

theorem mapM_places {fs : List Field} {es : List (Nat × Nat × Nat)} (h : fieldsOk P fs es) (w : World) :
    (fs.mapM (m := Sem) fun f => do pure (f.offset, ← sizeOf f.type)).run P w = .ok (es.map fun e => (e.1, e.2.2)) w := by
  induction es generalizing fs with
  | nil =>
    cases fs with
    | nil => simp
    | cons f fs => exact h.elim
  | cons e es ih =>
    cases fs with
    | nil => exact h.elim
    | cons f fs =>
      obtain ⟨h1, h2, ⟨i, hi, hs⟩, h4, h5⟩ := h
      have hi' : P.info? f.type = some i := h2 ▸ hi
      have ih' := ih h5
      simp only [List.mapM_cons, Sem.run_bind, run_sizeOf' hi', Result.andThen_ok, Sem.run_pure, ih', hs, h1, List.map_cons]

theorem build_sound {o : Oper} {T : Nat} {parts : Array (Nat × Operand)} {t : TI} {K : SV → Prop} (h : EnvOk X ρ st a) (ho : o.op = .build T parts) (ht : X.tab T = some t) (hagg : t.kind.agg = true)
    (hK : fillK X T st parts.toList t.zero fun cs => K (.s (.v (.agg cs.toArray)))) : Res X ρ st a o K := by
  obtain ⟨cs', hK', hf⟩ := fillK_spec h _ _ _ hK
  obtain ⟨⟨i, z, hi, hs, hz, hzc⟩, hk⟩ := X.htab T t ht
  refine res_v hK' fun w => ?_
  have hz' : t.zero.toArray = z.cells := by rw [← hzc]
  have hmap : (parts.map fun (x : Nat × Operand) => match x with | (i, x) => (i, a.eval x)).toList = parts.toList.map fun p => (p.1, a.eval p.2) := by
    rw [Array.toList_map]
  simp only [execOp, ho, Sem.run_bind, Instr.build, run_zero' hi hz, Result.andThen_ok]
  cases hkd : t.kind <;> rw [hkd] at hk
  case struct fs =>
    obtain ⟨fields, hu, hfo⟩ := hk
    rw [run_underlying' hu]
    simp only [Result.andThen_ok, Sem.run_bind]
    have hm : (fields.mapM (m := Sem) fun f => do pure (f.offset, ← sizeOf f.type)).run P w = .ok (fs.map fun e => (e.1, e.2.2)).toArray w := by
      rw [Array.mapM_eq_mapM_toList, Sem.run_map, mapM_places hfo]
      rfl
    rw [hm]
    simp only [Result.andThen_ok]
    rw [hmap, ← hz', hf (fun x => (fs.map fun e => (e.1, e.2.2)).toArray[x]?) (by
      intro i r hr
      unfold places at hr
      rw [ht] at hr
      simp only [hkd, getN_eq] at hr
      cases hfi : fs[i]? with
      | none => rw [hfi] at hr; simp at hr
      | some e => rw [hfi] at hr; simp at hr; simp [hfi, hr])]
    simp
  case arr n e es =>
    obtain ⟨hu, ie, hie, hes⟩ := hk
    rw [run_underlying' hu]
    simp only [Result.andThen_ok, Sem.run_bind, run_sizeOf' hie]
    rw [hmap, ← hz', hf (fun x => some (x * ie.size, ie.size)) (by
      intro i r hr
      unfold places at hr
      rw [ht] at hr
      simp only [hkd] at hr
      split at hr
      · simp at hr; rw [hes, hr]
      · cases hr)]
    simp
  all_goals simp [hkd, TK.agg] at hagg

theorem valsV_spec (h : EnvOk X ρ st a) (l : List Operand) : ∀ vs, valsV st l = some vs → l.map a.eval = vs := by
  induction l with
  | nil => intro vs hv; simp [valsV] at hv; simp [hv]
  | cons x xs ih =>
    intro vs hv
    unfold valsV at hv
    split at hv
    · rename_i s hx
      split at hv
      · rename_i l hl
        simp at hv; subst hv
        simp [ih _ hl, ev_v h hx]
      · cases hv
    · cases hv
theorem valsV_spec' (h : EnvOk X ρ st a) (l : Array Operand) (vs : List Value) (hv : valsV st l.toList = some vs) : l.map a.eval = vs.toArray := by
  have := valsV_spec h _ _ hv
  apply Array.ext'
  simp [this]

theorem indexAt_slice {T e sz : Nat} {i : TypeInfo} (hu : P.underlying T = some (.slice e)) (hi : P.info? e = some i) (hs : i.size = sz) {ad : Addr} {len cap : Nat} {k : IntKind} {n : Int} (h0 : 0 ≤ n) (h1 : n < (len : Int)) (w : World) :
    (Instr.indexAt T (.slice (some ad) len cap) (.int k n)).run P w = .ok (.pointer (some (ad.add (n.toNat * sz)))) w := by
  subst hs
  simp [Instr.indexAt, asIntOf, run_underlying' hu, h0, h1, run_sizeOf' hi]
theorem indexAt_arr {T e sz len : Nat} {i : TypeInfo} (hu : P.underlying T = some (.array len e)) (hi : P.info? e = some i) (hs : i.size = sz) {ad : Addr} {k : IntKind} {n : Int} (h0 : 0 ≤ n) (h1 : n < (len : Int)) (w : World) :
    (Instr.indexAt T (.pointer (some ad)) (.int k n)).run P w = .ok (.pointer (some (ad.add (n.toNat * sz)))) w := by
  subst hs
  simp [Instr.indexAt, asIntOf, run_underlying' hu, h0, h1, run_sizeOf' hi, Instr.sureAddr]

theorem index_str {T : Nat} (hu : P.underlying T = some .string) {s : ByteArray} {k : IntKind} {n : Int} (h0 : 0 ≤ n) (h1 : n < (s.size : Int)) (w : World) :
    (Instr.index T (.string s) (.int k n)).run P w = .ok (.int .u8 (bAt s n)) w := by
  have hlt : n.toNat < s.size := by omega
  have hl : s.data.toList[n.toNat]? = some (s[n.toNat]'hlt) := by
    rw [List.getElem?_eq_getElem (by rw [Array.length_toList]; exact hlt)]; rfl
  have hb : bAt s n = ((s[n.toNat]'hlt).toNat : Int) := by
    unfold bAt
    rw [List.getD_eq_getElem?_getD, hl]; rfl
  simp [Instr.index, asIntOf, run_underlying' hu, h0, hlt, hb]

theorem px_sound {o : Oper} {K : SV → Prop} (h : EnvOk X ρ st a) (hK : px X o st K) : Res X ρ st a o K := by
  unfold px at hK
  split at hK
  · rename_i x ho; exact px_move h (.inl ho) hK
  · rename_i x ho; exact px_move h (.inr ho) hK
  · rename_i c x y ho
    split at hK
    · rename_i t hc; exact px_pick h ho hc hK
    · exact hK.elim
  · -- fieldAddr
    rename_i T x f ho
    split at hK
    · rename_i off hf
      split at hK
      · rename_i k ofs hx
        have ex := ev_loc h hx
        refine ⟨_, .pointer (some ⟨ρ k, ofs + off, none⟩), hK, fun w => ?_, rfl, ?_⟩
        · simp [execOp, ho, ex, run_fieldAt hf, addr_add_loc]
        · intro k' o' e
          injection e with e; injection e with e1 e2; subst e1
          exact ev_st h x _ _ hx
      · rename_i p hx
        obtain ⟨ad, rfl, hK⟩ := nilk hK
        exact res_v hK fun w => by simp [execOp, ho, ev_v h hx, run_fieldAt hf]
      · exact hK.elim
    · exact hK.elim
  · -- nilCheck
    rename_i x ho
    split at hK
    · rename_i k ofs hx
      have ex := ev_loc h hx
      exact ⟨_, .pointer (some ⟨ρ k, ofs, none⟩), hK, fun w => by simp [execOp, ho, ex], rfl, fun k' o' e => by
        injection e with e; injection e with e1 e2; subst e1; exact ev_st h x _ _ hx⟩
    · rename_i p hx
      obtain ⟨ad, rfl, hK⟩ := nilk hK
      exact res_v hK fun w => by simp [execOp, ho, ev_v h hx]
    · exact hK.elim
  · -- indexAddr
    rename_i T x i ho
    split at hK
    · rename_i t ad len cap k n ht hx hi
      have hu := (X.htab T t ht).2
      split at hK
      · rename_i e hk
        rw [hk] at hu
        split at hK
        · rename_i sz hsz
          obtain ⟨inf, hinf, hs⟩ := sizeT_spec hsz
          obtain ⟨⟨h0, h1⟩, hK⟩ := hK
          obtain ⟨ad, rfl, hK⟩ := nilk hK
          exact res_v hK fun w => by simp [execOp, ho, ev_v h hx, ev_v h hi, indexAt_slice hu hinf hs h0 h1]
        · exact hK.elim
      · exact hK.elim
    · rename_i t p k n ht hx hi
      have hu := (X.htab T t ht).2
      split at hK
      · rename_i len e sz hk
        rw [hk] at hu
        obtain ⟨hu, inf, hinf, hs⟩ := hu
        split at hK
        · obtain ⟨⟨h0, h1⟩, hK⟩ := hK
          obtain ⟨ad, rfl, hK⟩ := nilk hK
          exact res_v hK fun w => by simp [execOp, ho, ev_v h hx, ev_v h hi, indexAt_arr hu hinf hs h0 h1]
        · exact hK.elim
      · exact hK.elim
    · rename_i t k ofs kd n ht hx hi
      have hu := (X.htab T t ht).2
      split at hK
      · rename_i len e sz hk
        rw [hk] at hu
        obtain ⟨hu, inf, hinf, hs⟩ := hu
        split at hK
        · rename_i hb
          simp only [Bool.and_eq_true, decide_eq_true_eq] at hb
          refine ⟨_, .pointer (some ⟨ρ k, ofs + n.toNat * sz, none⟩), hK, fun w => ?_, rfl, ?_⟩
          · simp [execOp, ho, ev_loc h hx, ev_v h hi, indexAt_arr hu hinf hs hb.1 hb.2, addr_add_loc]
          · intro k' o' e
            injection e with e; injection e with e1 e2; subst e1
            exact ev_st h x _ _ hx
        · exact hK.elim
      · exact hK.elim
    · exact hK.elim
  · -- extract
    rename_i x i ho
    split at hK
    · rename_i l hx
      obtain ⟨ex, hg⟩ := ev_tup h hx
      rw [getN_eq] at hK
      split at hK
      · rename_i y hy
        have hgy : good1 y = true := List.all_eq_true.1 hg y (List.mem_of_getElem? hy)
        refine ⟨_, gval1 X.errT y, hK, fun w => ?_, ?_, ?_⟩
        · simp [execOp, ho, ex, Instr.extract, hy]
        · cases y <;> simp_all [Mat, gval1, good1]
        · intro k' o' e; injection e with e; subst e; simp [good1] at hgy
      · exact hK.elim
    · exact hK.elim
  · -- build
    rename_i T parts ho
    split at hK
    · rename_i t ht
      split at hK
      · rename_i hagg; exact build_sound h ho ht hagg hK
      · exact hK.elim
    · exact hK.elim
  · -- makeInterface
    rename_i T x ho
    split at hK
    · rename_i n hb hx
      have hT := Nat.eq_of_beq_eq_true hb
      subst hT
      refine ⟨_, .iface X.errT (.int .i64 n), hK, fun w => ?_, rfl, noSt_err _⟩
      simp [execOp, ho, ev_v h hx, Instr.makeInterface, run_underlying' X.herr]
    · exact hK.elim
  · -- makeFunc
    rename_i fn first cap ho
    split at hK
    · rename_i f c hf hc
      exact res_v hK fun w => by simp [execOp, ho, Instr.makeFunc, valsV_spec' h _ _ hf, valsV_spec' h _ _ hc]
    · exact hK.elim
  · rename_i T x ho
    split at hK
    · rename_i b hx
      exact res_v hK fun w => by simp [execOp, ho, ev_v h hx, Op.unary]
    · exact hK.elim
  · rename_i T x ho
    split at hK
    · rename_i k n hx
      exact arK_sound hK fun w => by simp [execOp, ho, ev_v h hx, Op.unary, Op.intArith]
    · exact hK.elim
  · rename_i op T x y ty ho
    exact bin_sound h ho hK
  · rename_i T x lo hi ho
    exact sliceK_sound h ho hK
  · -- three indexes
    rename_i T x lo hi mx ho
    split at hK
    · rename_i t ad len cap kl l kh hh km m ht hx hl hhi hm
      have hu := (X.htab T t ht).2
      split at hK
      · rename_i e hk
        rw [hk] at hu
        split at hK
        · rename_i sz hsz
          obtain ⟨inf, hinf, hs⟩ := sizeT_spec hsz
          obtain ⟨⟨m0, m1⟩, ⟨h0, h1⟩, ⟨l0, l1⟩, hK⟩ := hK
          refine res_v hK fun w => exec_slice ho ?_
          simp only [Option.map_some, ev_v h hx, ev_v h hl, ev_v h hhi, ev_v h hm]
          exact run_sliceAt_slice hu hinf hs (bounds_three m0 m1 h0 h1 l0 l1 w)
        · exact hK.elim
      · exact hK.elim
    · exact hK.elim
  · -- index
    rename_i T x i ho
    split at hK
    · rename_i t s k n ht hx hi
      have hu := (X.htab T t ht).2
      split at hK
      · rename_i hk
        rw [hk] at hu
        obtain ⟨⟨h0, h1⟩, hK⟩ := hK
        exact res_v hK fun w => by simp [execOp, ho, ev_v h hx, ev_v h hi, index_str hu h0 h1]
      · exact hK.elim
    · exact hK.elim
  · -- convert
    rename_i src dst x ho
    split at hK
    · rename_i s d k n hs hd hx
      have hus := (X.htab src s hs).2
      have hud := (X.htab dst d hd).2
      split at hK
      · rename_i k1 k2 h1 h2
        rw [h1] at hus
        rw [h2] at hud
        refine res_v hK fun w => ?_
        have : (convert src dst (.int k n)).run P w = .ok (.int k2 (k2.wrap n)) w := by
          simp [convert, run_underlying' hus, run_underlying' hud, Conv.intToInt]
        simp [execOp, ho, ev_v h hx, this]
      · exact hK.elim
    · exact hK.elim
  · -- len
    rename_i x T ho
    split at hK
    · rename_i t ad n c ht hx
      have hu := (X.htab T t ht).2
      split at hK
      · rename_i e hk
        rw [hk] at hu
        exact res_v hK fun w => by simp [execOp, ho, resolve, invoke, builtin, ev_v h hx, Builtin.len_, run_underlying' hu, goInt]
      · exact hK.elim
    · rename_i t s ht hx
      have hu := (X.htab T t ht).2
      split at hK
      · rename_i hk
        rw [hk] at hu
        exact res_v hK fun w => by simp [execOp, ho, resolve, invoke, builtin, ev_v h hx, Builtin.len_, run_underlying' hu, goInt]
      · exact hK.elim
    · exact hK.elim
  · -- cap
    rename_i x T ho
    split at hK
    · rename_i t ad n c ht hx
      have hu := (X.htab T t ht).2
      split at hK
      · rename_i e hk
        rw [hk] at hu
        exact res_v hK fun w => by simp [execOp, ho, resolve, invoke, builtin, ev_v h hx, Builtin.cap_, run_underlying' hu, goInt]
      · exact hK.elim
    · exact hK.elim
  · rename_i x y _ ho
    split at hK
    · rename_i k m k' n hx hy
      exact res_v hK fun w => by simp [execOp, ho, resolve, invoke, builtin, ev_v h hx, ev_v h hy, Builtin.min_, Builtin.min2]
    · exact hK.elim
  · rename_i x y _ ho
    split at hK
    · rename_i k m k' n hx hy
      exact res_v hK fun w => by simp [execOp, ho, resolve, invoke, builtin, ev_v h hx, ev_v h hy, Builtin.max_, Builtin.max2]
    · exact hK.elim
  · exact hK.elim
end
end Go.Sx

-- SxMem
namespace Go.Sx
open Go.RowKit
/-- the world that a call began with, and what was seen of it -/
structure Gh where
  w0 : World
  V0 : VP
structure Kept (G : Gh) (V : VP) (ρ : Nat → Nat) (st : St) (w : World) : Prop where
  fr : FrameV G.V0 G.w0 w
  V : ∀ b, V b → G.V0 b ∨ G.w0.heap.size ≤ b
  loc : ∀ k, st.L k ≠ none → G.w0.heap.size ≤ ρ k

section
variable {P : Program} (G : Gh) (X : Ctx P) (F : Fn)

structure Den0 (u : World) (V : VP) (ρ : Nat → Nat) (st : St) (a : Act) (w : World) : Prop where
  size : a.tmps.size = F.n
  defers : a.defers = []
  ok : EnvOk X ρ st a
  loc : ∀ k T cs, st.L k = some (T, cs) → w.heap[ρ k]? = some (.cells cs.toArray T (0, 0)) ∧ ¬ V (ρ k)
  inj : ∀ k k', st.L k ≠ none → st.L k' ≠ none → ρ k = ρ k' → k = k'
  rel : Rel V u w
  kept : Kept G V ρ st w

/-- what a piece leaves alone -/
structure Ag (ds rk : List Nat) (st0 st : St) : Prop where
  env : ∀ t, t ∉ ds → st.env t = st0.env t
  L : ∀ k, k ∉ rk → st.L k = st0.L k
  be : st.be = st0.be
  me : st.me = st0.me
  bl : st.bl = st0.bl
  ml : st.ml = st0.ml

def Nxt (ds rk : List Nat) (st0 : St) (K : KT) (a : Act) (w : World) : Prop :=
  ∃ st u V ρ, Den0 G X F u V ρ st a w ∧ Ag ds rk st0 st ∧ K st u V

variable {G X F} {u : World} {V : VP} {ρ : Nat → Nat} {st st0 : St} {a : Act} {w : World} {ds rk : List Nat}

theorem memN_iff (l : List Nat) (k : Nat) : memN l k = true ↔ k ∈ l := by
  induction l with
  | nil => simp [memN]
  | cons x xs ih =>
    unfold memN
    cases h : Nat.beq x k with
    | true => simp [Nat.eq_of_beq_eq_true h]
    | false =>
      have : k ≠ x := fun e => by subst e; rw [Nat.beq_refl] at h; cases h
      simp [ih, this]

theorem upd_same {α : Type} (f : Nat → α) (k : Nat) (x : α) : upd f k x k = x := by simp [upd, Nat.beq_refl]
theorem upd_other {α : Type} (f : Nat → α) {k t : Nat} (x : α) (h : t ≠ k) : upd f k x t = f t := by
  unfold upd
  cases hb : Nat.beq t k with
  | true => exact absurd (Nat.eq_of_beq_eq_true hb) h
  | false => rfl

theorem Ag.refl (ds rk : List Nat) (st : St) : Ag ds rk st st := ⟨fun _ _ => rfl, fun _ _ => rfl, rfl, rfl, rfl, rfl⟩
theorem Ag.set (h : Ag ds rk st0 st) {d : Nat} (hd : d ∈ ds) (x : SV) : Ag ds rk st0 (st.set d x) :=
  ⟨fun t ht => by
    have : t ≠ d := fun e => ht (e ▸ hd)
    show upd st.env d x t = _
    rw [upd_other _ _ this, h.env t ht], h.L, h.be, h.me, h.bl, h.ml⟩
theorem Ag.put (h : Ag ds rk st0 st) {d : Option Nat} (hd : ∀ t, d = some t → t ∈ ds) (x : SV) : Ag ds rk st0 (st.put d x) := by
  cases d with
  | none => exact h
  | some t => exact h.set (hd t rfl) x
theorem Ag.setL (h : Ag ds rk st0 st) {k : Nat} (hk : k ∈ rk) (x : Option (Nat × List Value)) : Ag ds rk st0 (st.setL k x) :=
  ⟨h.env, fun t ht => by
    have : t ≠ k := fun e => ht (e ▸ hk)
    show upd st.L k x t = _
    rw [upd_other _ _ this, h.L t ht], h.be, h.me, h.bl, h.ml⟩

theorem put_getD (a : Act) {d t : Nat} (v : Value) (hd : d < a.tmps.size) : (a.put (some d) v).tmps.getD t undef = if t = d then v else a.tmps.getD t undef := by
  simp only [Act.put, Array.getD_eq_getD_getElem?]
  by_cases h : t = d
  · subst h; simp [hd]
  · rw [if_neg h, Array.getElem?_setIfInBounds_ne (Ne.symm h)]

theorem EnvOk.set (h : EnvOk X ρ st a) {d : Nat} {x : SV} {v : Value} (hd : d < a.tmps.size) (hm : Mat X.errT ρ x v) (hs : NoSt st x) : EnvOk X ρ (st.set d x) (a.put (some d) v) where
  env t := by
    rw [put_getD a v hd]
    by_cases ht : t = d
    · subst ht; rw [if_pos rfl]; show Mat _ _ (upd st.env t x t) _; rw [upd_same]; exact hm
    · rw [if_neg ht]; show Mat _ _ (upd st.env d x t) _; rw [upd_other _ _ ht]; exact h.env t
  stale t k off e := by
    have e' : upd st.env d x t = .s (.loc k off) := e
    by_cases ht : t = d
    · subst ht; rw [upd_same] at e'; exact hs k off e'
    · rw [upd_other _ _ ht] at e'; exact h.stale t k off e'

theorem Den0.put (h : Den0 G X F u V ρ st a w) {d : Option Nat} {x : SV} {v : Value} (hd : ∀ t, d = some t → t < F.n) (hm : Mat X.errT ρ x v) (hs : NoSt st x) : Den0 G X F u V ρ (st.put d x) (a.put d v) w := by
  cases d with
  | none => exact h
  | some d =>
    have hd' : d < a.tmps.size := by rw [h.size]; exact hd d rfl
    exact ⟨by simpa [Act.put] using h.size, h.defers, h.ok.set hd' hm hs, h.loc, h.inj, h.rel, h.kept.fr, h.kept.V, h.kept.loc⟩

theorem putK_spec {d : Option Nat} {x : SV} {K : St → Prop} (h : putK F d x fun δ => K (st.app δ)) : (∀ t, d = some t → t < F.n) ∧ K (st.put d x) := by
  cases d with
  | none => exact ⟨fun _ e => (by cases e), h⟩
  | some t =>
    have hb : Nat.blt t F.n = true := by
      cases hb : Nat.blt t F.n with
      | true => rfl
      | false => simp only [putK, hb] at h
    refine ⟨fun t' e => by injection e with e; subst e; simpa [Nat.blt_eq] using hb, ?_⟩
    cases x with
    | s y => simp only [putK, hb] at h; exact h
    | tup l => simp only [putK, hb] at h; exact h

/-- a value comes of an operation that leaves the world alone -/
theorem nxt_value {o : Oper} {K : KT} {Q : Exit → Act → World → Prop} {x : SV} {v : Value} (hD : Den0 G X F u V ρ st a w) (hA : Ag ds rk st0 st) (hds : ∀ t, o.dst = some t → t ∈ ds)
    (hr : (execOp a.eval o).run P w = .ok (.value v) w) (hm : Mat X.errT ρ x v) (hs : NoSt st x) (hK : putK F o.dst x fun δ => K (st.app δ) u V) : o.wp P a w (Nxt G X F ds rk st0 K) Q := by
  obtain ⟨hd, hK⟩ := putK_spec (st := st) (K := fun st => K st u V) hK
  unfold Oper.wp
  rw [hr]
  exact ⟨_, u, V, ρ, hD.put hd hm hs, hA.put hds x, hK⟩

theorem nxt_px {o : Oper} {K : KT} {Q : Exit → Act → World → Prop} (hD : Den0 G X F u V ρ st a w) (hA : Ag ds rk st0 st) (hds : ∀ t, o.dst = some t → t ∈ ds)
    (hK : px X o st fun x => putK F o.dst x fun δ => K (st.app δ) u V) : o.wp P a w (Nxt G X F ds rk st0 K) Q := by
  obtain ⟨x, v, hK, hr, hm, hs⟩ := px_sound hD.ok hK
  exact nxt_value hD hA hds (hr w) hm hs hK

/-! ### worlds -/
theorem Rel.lt (h : Rel V u w) {b : Nat} (hb : V b) : b < w.heap.size := Nat.lt_of_lt_of_le (h.blk b hb).1 h.size
theorem Rel.alloc (h : Rel V u w) (o : Obj) : Rel V u (w.alloc o) :=
  ⟨h.os, h.tape, h.output, Nat.le_trans h.size (by simp), fun b hb => ⟨(h.blk b hb).1, by rw [Below.heap_alloc _ _ _ (h.lt hb)]; exact (h.blk b hb).2⟩⟩
theorem Rel.refl (h : ∀ b, V b → b < w.heap.size) : Rel V w w := ⟨rfl, rfl, rfl, Nat.le_refl _, fun b hb => ⟨h b hb, rfl⟩⟩
theorem Vn_lt {w' : World} (h : Rel V u w) (hs : w.heap.size ≤ w'.heap.size) : ∀ b, Vn V w w' b → b < w'.heap.size := by
  intro b hb
  rcases hb with hb | hb
  · exact Nat.lt_of_lt_of_le (h.lt hb) hs
  · exact hb.2
theorem loc_lt (hD : Den0 G X F u V ρ st a w) {k T : Nat} {cs : List Value} (hk : st.L k = some (T, cs)) : ρ k < w.heap.size := by
  have := (hD.loc k T cs hk).1
  exact (Array.getElem?_eq_some_iff.1 this).1
theorem loc_lt' (hD : Den0 G X F u V ρ st a w) {k : Nat} (hk : st.L k ≠ none) : ρ k < w.heap.size := by
  cases h : st.L k with
  | none => exact absurd h hk
  | some x => exact loc_lt hD (T := x.1) (cs := x.2) h

theorem Kept.step (h : Kept G V ρ st w) {w' : World} (hf : FrameV V w w') : FrameV G.V0 G.w0 w' :=
  ⟨hf.os.trans h.fr.os, hf.tape.trans h.fr.tape, hf.output.trans h.fr.output, Nat.le_trans h.fr.size hf.size, fun b hb hn => by
    rw [hf.blk b (Nat.lt_of_lt_of_le hb h.fr.size) (fun hv => (h.V b hv).elim hn (fun hle => by omega))]
    exact h.fr.blk b hb hn⟩

/-- the world has moved on; hidden blocks are as they were -/
theorem Den0.moved (hD : Den0 G X F u V ρ st a w) {w' : World} (hf : FrameV V w w') : Den0 G X F w' (Vn V w w') ρ st a w' where
  size := hD.size
  defers := hD.defers
  ok := hD.ok
  inj := hD.inj
  rel := Rel.refl (Vn_lt hD.rel hf.size)
  kept := ⟨hD.kept.step hf, fun b hb => hb.elim (hD.kept.V b) (fun hh => .inr (Nat.le_trans hD.kept.fr.size hh.1)), hD.kept.loc⟩
  loc k T cs h := by
    obtain ⟨h1, h2⟩ := hD.loc k T cs h
    have hlt := loc_lt hD h
    refine ⟨by rw [hf.blk _ hlt h2]; exact h1, ?_⟩
    rintro (h3 | h3)
    · exact h2 h3
    · omega

theorem frame_alloc (V : VP) (w : World) (o : Obj) : FrameV V w (w.alloc o) := ⟨rfl, rfl, rfl, by simp, fun b hb _ => Below.heap_alloc _ _ _ hb⟩

theorem mat_upd {eT k b : Nat} {x : SV} {v : Value} (h : Mat eT ρ x v) (hk : ∀ off, x ≠ .s (.loc k off)) : Mat eT (upd ρ k b) x v := by
  cases x with
  | tup l => exact h
  | s y =>
    cases y with
    | loc k' off =>
      have : k' ≠ k := fun e => by subst e; exact hk off rfl
      show v = _
      rw [upd_other _ _ this]; exact h
    | v y => exact h
    | err e => exact h
    | any => trivial

theorem Den0.newLoc (hD : Den0 G X F u V ρ st a w) {k T : Nat} {cs : List Value} (hk : st.L k = none) (hn : k < F.n) :
    Den0 G X F u V (upd ρ k w.heap.size) ((st.setL k (some (T, cs))).set k (.s (.loc k 0))) (a.put (some k) (.pointer (some ⟨w.heap.size, 0, none⟩))) (w.alloc (.cells cs.toArray T)) := by
  have hk' : k < a.tmps.size := by rw [hD.size]; exact hn
  have hno : ∀ t off, st.env t ≠ .s (.loc k off) := fun t off e => hD.ok.stale t k off e hk
  have hLk : ∀ j, (st.setL k (some (T, cs))).L j = if j = k then some (T, cs) else st.L j := by
    intro j
    show upd st.L k _ j = _
    by_cases h : j = k
    · subst h; rw [upd_same, if_pos rfl]
    · rw [upd_other _ _ h, if_neg h]
  refine ⟨by simpa [Act.put] using hD.size, hD.defers, ⟨fun t => ?_, fun t j off e => ?_⟩, fun j T' cs' h => ?_, fun j j' h h' e => ?_, hD.rel.alloc _, hD.kept.step (frame_alloc V w _), hD.kept.V, fun j h => ?_⟩
  · rw [put_getD a _ hk']
    by_cases ht : t = k
    · subst ht
      rw [if_pos rfl]
      show Mat _ _ (upd _ t _ t) _
      rw [upd_same]
      show _ = _
      rw [upd_same]
    · rw [if_neg ht]
      show Mat _ _ (upd st.env k _ t) _
      rw [upd_other _ _ ht]
      exact mat_upd (hD.ok.env t) (hno t)
  · have e' : upd st.env k (.s (.loc k 0)) t = .s (.loc j off) := e
    show (st.setL k (some (T, cs))).L j ≠ none
    rw [hLk]
    by_cases hj : j = k
    · rw [if_pos hj]; simp
    · rw [if_neg hj]
      by_cases ht : t = k
      · subst ht; rw [upd_same] at e'; injection e' with e'; injection e' with e'; exact absurd e'.symm hj
      · rw [upd_other _ _ ht] at e'; exact hD.ok.stale t j off e'
  · have h' : (st.setL k (some (T, cs))).L j = some (T', cs') := h
    rw [hLk] at h'
    by_cases hj : j = k
    · subst hj
      rw [if_pos rfl] at h'
      simp at h'
      obtain ⟨rfl, rfl⟩ := h'
      rw [upd_same]
      exact ⟨heap_alloc_new w _, fun hv => Nat.lt_irrefl _ (hD.rel.lt hv)⟩
    · rw [if_neg hj] at h'
      rw [upd_other _ _ hj]
      obtain ⟨h1, h2⟩ := hD.loc j T' cs' h'
      exact ⟨by rw [Below.heap_alloc _ _ _ (loc_lt hD h')]; exact h1, h2⟩
  · have h1 : (st.setL k (some (T, cs))).L j ≠ none := h
    have h2 : (st.setL k (some (T, cs))).L j' ≠ none := h'
    rw [hLk] at h1 h2
    by_cases hj : j = k <;> by_cases hj' : j' = k
    · rw [hj, hj']
    · subst hj
      rw [if_neg hj'] at h2
      rw [upd_same, upd_other _ _ hj'] at e
      have := loc_lt' hD h2
      omega
    · subst hj'
      rw [if_neg hj] at h1
      rw [upd_same, upd_other _ _ hj] at e
      have := loc_lt' hD h1
      omega
    · rw [if_neg hj] at h1; rw [if_neg hj'] at h2
      rw [upd_other _ _ hj, upd_other _ _ hj'] at e
      exact hD.inj j j' h1 h2 e
  · have h1 : (st.setL k (some (T, cs))).L j ≠ none := h
    rw [hLk] at h1
    by_cases hj : j = k
    · rw [hj, upd_same]; exact hD.kept.fr.size
    · rw [upd_other _ _ hj]
      rw [if_neg hj] at h1
      exact hD.kept.loc j h1

theorem newK_sound {o : Oper} {K : KT} {Q : Exit → Act → World → Prop} {T : Nat} {cs : List Value} (hD : Den0 G X F u V ρ st a w) (hA : Ag ds rk st0 st) (hds : ∀ t, o.dst = some t → t ∈ ds)
    (hr : (execOp a.eval o).run P w = .ok (.value (.pointer (some ⟨w.heap.size, 0, none⟩))) (w.alloc (.cells cs.toArray T))) (hK : newK F rk o.dst T cs st u V fun δ u V => K (st.app δ) u V) : o.wp P a w (Nxt G X F ds rk st0 K) Q := by
  unfold newK at hK
  split at hK
  · exact hK.elim
  · rename_i k hdst
    split at hK
    · exact hK.elim
    · rename_i hb
      have hn : k < F.n := by simpa [Nat.blt_eq] using hb
      have hkd : k ∈ ds := hds k hdst
      unfold Oper.wp
      rw [hr]
      show Nxt G X F ds rk st0 K (a.put o.dst _) _
      rw [hdst]
      split at hK
      · split at hK
        · rename_i hb2
          simp only [Bool.and_eq_true] at hb2
          have hnone : st.L k = none := by
            cases hL : st.L k with
            | none => rfl
            | some x => rw [hL] at hb2; exact absurd hb2.2 (by simp [isNoneL])
          exact ⟨_, u, V, _, hD.newLoc hnone hn, (hA.setL ((memN_iff _ _).1 hb2.1) _).set hkd _, hK⟩
        · exact hK.elim
      · have hD' := hD.moved (frame_alloc V w (.cells cs.toArray T))
        refine ⟨_, _, _, ρ, ?_, hA.set hkd _, hK w hD.rel⟩
        exact hD'.put (d := some k) (fun t e => by injection e with e; subst e; exact hn) rfl (noSt_v _)
end
end Go.Sx

-- SxMem2
namespace Go.Sx
open Go.RowKit
section
variable {P : Program} {G : Gh} {X : Ctx P} {F : Fn} {u : World} {V : VP} {ρ : Nat → Nat} {st st0 : St} {a : Act} {w : World} {ds rk : List Nat}

theorem addr_add0 (b o j : Nat) : (⟨b, o, none⟩ : Addr).add j = ⟨b, o + j, none⟩ := by
  unfold Addr.add; split <;> simp_all

/-! ### a local block is written -/
theorem Den0.setLoc (hD : Den0 G X F u V ρ st a w) {k T : Nat} {cs cs' : List Value} (hk : st.L k = some (T, cs)) :
    Den0 G X F u V ρ (st.setL k (some (T, cs'))) a (w.setRow (ρ k) cs'.toArray) where
  size := hD.size
  defers := hD.defers
  ok := ⟨hD.ok.env, fun t j off e => by
    show upd st.L k _ j ≠ none
    by_cases h : j = k
    · subst h; rw [upd_same]; simp
    · rw [upd_other _ _ h]; exact hD.ok.stale t j off e⟩
  loc j T' cs2 h := by
    have h' : upd st.L k (some (T, cs')) j = some (T', cs2) := h
    by_cases hj : j = k
    · subst hj
      rw [upd_same] at h'
      simp at h'
      obtain ⟨rfl, rfl⟩ := h'
      exact ⟨setRow_heap w _ _ _ _ _ (hD.loc j T cs hk).1, (hD.loc j T cs hk).2⟩
    · rw [upd_other _ _ hj] at h'
      have hne : ρ j ≠ ρ k := fun e => hj (hD.inj j k (by rw [h']; simp) (by rw [hk]; simp) e)
      exact ⟨by rw [setRow_other _ _ _ _ hne]; exact (hD.loc j T' cs2 h').1, (hD.loc j T' cs2 h').2⟩
  inj j j' h h' e := by
    have h1 : upd st.L k (some (T, cs')) j ≠ none := h
    have h2 : upd st.L k (some (T, cs')) j' ≠ none := h'
    refine hD.inj j j' ?_ ?_ e
    · by_cases hj : j = k
      · subst hj; rw [hk]; simp
      · rw [upd_other _ _ hj] at h1; exact h1
    · by_cases hj : j' = k
      · subst hj; rw [hk]; simp
      · rw [upd_other _ _ hj] at h2; exact h2
  rel := ⟨hD.rel.os, hD.rel.tape, hD.rel.output, by simpa using hD.rel.size, fun b hb => by
    have hne : b ≠ ρ k := fun e => (hD.loc k T cs hk).2 (e ▸ hb)
    rw [setRow_other _ _ _ _ hne]
    exact hD.rel.blk b hb⟩
  kept := ⟨⟨hD.kept.fr.os, hD.kept.fr.tape, hD.kept.fr.output, by simpa using hD.kept.fr.size, fun b hb hn => by
      have hl := hD.kept.loc k (by rw [hk]; simp)
      rw [setRow_other _ _ _ _ (by omega)]
      exact hD.kept.fr.blk b hb hn⟩, hD.kept.V, fun j h => by
    have h1 : upd st.L k (some (T, cs')) j ≠ none := h
    by_cases hj : j = k
    · subst hj; exact hD.kept.loc j (by rw [hk]; simp)
    · rw [upd_other _ _ hj] at h1; exact hD.kept.loc j h1⟩

theorem allOne_spec (l : List Value) (h : allOne l = true) : ∀ v ∈ l, v.oneCell' = true := by
  induction l with
  | nil => intro v hv; cases hv
  | cons x xs ih =>
    unfold allOne at h
    intro v hv
    split at h
    · cases h
    · cases h
    · rename_i h1 h2
      cases hv with
      | head => cases x <;> first | rfl | (exact absurd rfl (h1 _)) | (exact absurd rfl (h2 _))
      | tail _ hv => exact ih h v hv

theorem exec_store {o : Oper} {T : Nat} {x y : Operand} (ho : o.op = .store T x y) {w' : World} (h : (Instr.storeAt T (a.eval x) (a.eval y)).run P w = .ok () w') :
    (execOp a.eval o).run P w = .ok .skip w' := by
  simp [execOp, ho, h]

theorem exec_load {o : Oper} {T : Nat} {x : Operand} (ho : o.op = .load T x) {v : Value} {w' : World} (h : (Instr.loadAt T (a.eval x)).run P w = .ok v w') :
    (execOp a.eval o).run P w = .ok (.value v) w' := by
  simp [execOp, ho, h]

theorem run_storeVar {T : Nat} {i : TypeInfo} (hi : P.info? T = some i) {ad : Addr} {v : Value} (hv : v.cells.toList.length = i.size) {w' : World} (h : (storeCells ad v.cells.toList).run P w = .ok () w') :
    (Instr.storeAt T (.pointer (some ad)) v).run P w = .ok () w' := by
  have hv' : v.cells.size = i.size := by simpa using hv
  simp [Instr.storeAt, Instr.sureAddr, storeVar, run_sizeOf' hi, hv', h]

theorem agg_spec {T : Nat} {t : TI} (ht : X.tab T = some t) (w : World) : (isAgg T).run P w = .ok t.kind.agg w := by
  have hk := (X.htab T t ht).2
  unfold isAgg
  rw [Sem.run_bind]
  cases hkk : t.kind with
  | struct fs => rw [hkk] at hk; obtain ⟨fields, hu, _⟩ := hk; rw [run_underlying' hu]; rfl
  | arr n e es => rw [hkk] at hk; obtain ⟨hu, _⟩ := hk; rw [run_underlying' hu]; rfl
  | int k => rw [hkk] at hk; rw [run_underlying' hk]; rfl
  | bool => rw [hkk] at hk; rw [run_underlying' hk]; rfl
  | str => rw [hkk] at hk; rw [run_underlying' hk]; rfl
  | ptr e => rw [hkk] at hk; rw [run_underlying' hk]; rfl
  | slice e => rw [hkk] at hk; rw [run_underlying' hk]; rfl
  | iface => rw [hkk] at hk; obtain ⟨ms, hu⟩ := hk; rw [run_underlying' hu]; rfl
  | other =>
    rw [hkk] at hk
    obtain ⟨d, hu, hd⟩ := hk
    rw [run_underlying' hu]
    cases d <;> first | rfl | exact hd.elim

theorem size_spec {T : Nat} {t : TI} (ht : X.tab T = some t) (w : World) : (sizeOf T).run P w = .ok t.size w := by
  obtain ⟨⟨i, z, hi, hs, _⟩, _⟩ := X.htab T t ht
  rw [run_sizeOf' hi, hs]

theorem cell_loc (hD : Den0 G X F u V ρ st a w) {k T : Nat} {cs : List Value} (hk : st.L k = some (T, cs)) (j : Nat) : w.cell? ⟨ρ k, j, none⟩ = cs[j]? := by
  rw [cell_of_row w _ _ _ _ _ (hD.loc k T cs hk).1]; simp

theorem run_load_agg {T : Nat} {t : TI} (ht : X.tab T = some t) (hagg : t.kind.agg = true) {ad : Addr} {cs : List Value} (hn : cs.length = t.size) (h : ∀ j x, cs[j]? = some x → w.cell? (ad.add j) = some x) :
    (Instr.loadAt T (.pointer (some ad))).run P w = .ok (.agg cs.toArray) w := by
  have := run_loadCells_list (P := P) w ad cs h
  rw [hn] at this
  simp [Instr.loadAt, Instr.sureAddr, loadVar, agg_spec ht, hagg, size_spec ht, this]
theorem run_load_one {T : Nat} {t : TI} (ht : X.tab T = some t) (hagg : t.kind.agg = false) {ad : Addr} {x : Value} (h : w.cell? ad = some x) :
    (Instr.loadAt T (.pointer (some ad))).run P w = .ok x w := by
  simp [Instr.loadAt, Instr.sureAddr, loadVar, agg_spec ht, hagg, h]

theorem rel_cell (h : Rel V u w) {ad : Addr} (hV : V ad.block) : w.cell? ad = u.cell? ad := World.cell?_of_block (w := u) (h.blk _ hV).2
theorem add_block (ad : Addr) (j : Nat) : (ad.add j).block = ad.block := by unfold Addr.add; split <;> rfl

theorem loadK_sound {T : Nat} {x : Operand} {K : SV → Prop} (hD : Den0 G X F u V ρ st a w) (hK : loadK X T (ev st x) st u V K) :
    ∃ y v, K y ∧ (Instr.loadAt T (a.eval x)).run P w = .ok v w ∧ Mat X.errT ρ y v ∧ NoSt st y := by
  unfold loadK at hK
  split at hK
  · exact hK.elim
  · rename_i t ht
    split at hK
    · rename_i k o hx
      have ex := ev_loc hD.ok hx
      split at hK
      · rename_i T' cs hk
        split at hK
        · rename_i _ _ _ hle hagg
          have hle' : o + t.size ≤ cs.length := by simpa using hle
          refine ⟨_, _, hK, ?_, rfl, noSt_v _⟩
          rw [ex]
          refine run_load_agg ht hagg (by rw [takeN_eq, dropN_eq]; simp; omega) fun j y hj => ?_
          rw [addr_add0, cell_loc hD hk]
          rw [takeN_eq, dropN_eq, List.getElem?_take] at hj
          split at hj
          · rw [List.getElem?_drop] at hj; exact hj
          · cases hj
        · rename_i _ _ _ hle hagg _
          split at hK
          · rename_i y ys hd
            refine ⟨_, _, hK, ?_, rfl, noSt_v _⟩
            rw [ex]
            refine run_load_one ht hagg ?_
            rw [cell_loc hD hk]
            rw [dropN_eq] at hd
            have := congrArg (fun l : List Value => l[0]?) hd
            simpa using this
          · exact hK.elim
        · exact hK.elim
      · exact hK.elim
    · rename_i p hx
      have ex := ev_v hD.ok hx
      cases p with
      | none => exact hK.elim
      | some ad =>
        obtain ⟨y, hK⟩ := hK
        split at hK
        · rename_i val hval
          split at hK
          · rename_i hsh
            obtain ⟨hat, hK⟩ := hK
            refine ⟨_, _, hK, ?_, rfl, noSt_v _⟩
            rw [ex]
            have hc : ∀ j x, val.cells.toList[j]? = some x → w.cell? (ad.add j) = some x := fun j x hj => by
              rw [rel_cell hD.rel (by rw [add_block]; exact hat.1)]; exact hat.2 j x hj
            cases hagg : t.kind.agg with
            | true =>
              unfold shapeOk at hsh
              simp only [hagg] at hsh
              split at hsh
              · rename_i c
                have hcs : (Value.agg c).cells = c := rfl
                rw [hcs] at hc
                have := run_load_agg (w := w) (ad := ad) (cs := c.toList) ht hagg (by simpa using hsh) hc
                simpa using this
              · cases hsh
            | false =>
              unfold shapeOk at hsh
              simp only [hagg] at hsh
              refine run_load_one ht hagg ?_
              split at hsh
              · cases hsh
              · cases hsh
              · rename_i h1 h2
                have hcs : val.cells = #[val] := by cases val <;> first | rfl | (exact absurd rfl (h1 _)) | (exact absurd rfl (h2 _))
                have := hc 0 val (by rw [hcs]; rfl)
                simpa [Addr.add] using this
          · exact hK.elim
        · exact hK.elim
    · exact hK.elim

/-! ### memory outside is written -/
theorem setCell_size (w : World) (ad : Addr) (v : Value) : (w.setCell ad v).heap.size = w.heap.size := by simp [World.setCell]
theorem setCell_block (w : World) (ad : Addr) (v : Value) (b : Nat) (h : b ≠ ad.block) : (w.setCell ad v).heap[b]? = w.heap[b]? := Below.heap_setCell w ad v b h
theorem setCell_cell (w : World) (ad p : Addr) (v : Value) : (∃ x, w.cell? p = some x) → ∃ x, (w.setCell ad v).cell? p = some x := by
  rintro ⟨x, h⟩
  unfold World.cell? at h ⊢
  by_cases hb : p.block = ad.block
  · simp only [World.setCell]
    rw [Array.getElem?_modify, if_pos hb.symm]
    cases hh : w.heap[p.block]? with
    | none => rw [hh] at h; cases h
    | some o =>
      rw [hh] at h
      cases o <;> simp only [Option.map_some] at h ⊢ <;> try (cases h; done)
      rename_i c e fr
      split at h
      · cases h
      · rename_i hsp
        rw [if_neg hsp]
        have hlt : p.off < c.size := (Array.getElem?_eq_some_iff.1 h).1
        split
        · exact ⟨x, h⟩
        · exact ⟨_, Array.getElem?_eq_getElem (by simpa using hlt)⟩
  · rw [setCell_block _ _ _ _ hb]; exact ⟨x, h⟩
theorem setCell_frozen (w : World) (ad p : Addr) (v : Value) : (w.setCell ad v).frozen? p = w.frozen? p := by
  unfold World.frozen?
  by_cases hb : p.block = ad.block
  · simp only [World.setCell]
    rw [Array.getElem?_modify, if_pos hb.symm]
    cases hh : w.heap[p.block]? with
    | none => rfl
    | some o => cases o <;> rfl
  · rw [setCell_block _ _ _ _ hb]

theorem stW_size (ad : Addr) (l : List Value) : ∀ (w : World) (i : Nat), (stW w ad l i).heap.size = w.heap.size := by
  induction l with
  | nil => intro w i; rfl
  | cons x xs ih => intro w i; show (stW (w.setCell (ad.add i) x) ad xs (i + 1)).heap.size = _; rw [ih, setCell_size]
theorem stW_block (ad : Addr) (l : List Value) (b : Nat) (h : b ≠ ad.block) : ∀ (w : World) (i : Nat), (stW w ad l i).heap[b]? = w.heap[b]? := by
  induction l with
  | nil => intro w i; rfl
  | cons x xs ih => intro w i; show (stW (w.setCell (ad.add i) x) ad xs (i + 1)).heap[b]? = _; rw [ih, setCell_block _ _ _ _ (by rw [add_block]; exact h)]
theorem stW_os (ad : Addr) (l : List Value) : ∀ (w : World) (i : Nat), (stW w ad l i).os = w.os ∧ (stW w ad l i).tape = w.tape ∧ (stW w ad l i).output = w.output := by
  induction l with
  | nil => intro w i; exact ⟨rfl, rfl, rfl⟩
  | cons x xs ih => intro w i; exact ih _ _
theorem stW_frame (V : VP) (w : World) (ad : Addr) (l : List Value) (hV : V ad.block) : FrameV V w (stW w ad l 0) :=
  ⟨(stW_os ad l w 0).1, (stW_os ad l w 0).2.1, (stW_os ad l w 0).2.2, Nat.le_of_eq (stW_size ad l w 0).symm, fun b _ hn => stW_block ad l b (fun e => hn (e ▸ hV)) w 0⟩

theorem run_storeCells_st (ad : Addr) (l : List Value) (h1 : ∀ v ∈ l, v.oneCell' = true) : ∀ (w : World) (i : Nat), (∀ j, i ≤ j → j < i + l.length → (∃ x, w.cell? (ad.add j) = some x) ∧ w.frozen? (ad.add j) = false) →
    (storeCells ad l i).run P w = .ok () (stW w ad l i) := by
  induction l with
  | nil => intro w i _; rfl
  | cons x xs ih =>
    intro w i h
    obtain ⟨⟨y, hy⟩, hf⟩ := h i (Nat.le_refl _) (by simp)
    have hst : (store (ad.add i) x).run P w = .ok () (w.setCell (ad.add i) x) := by
      rw [run_store P w _ x _ (h1 x (by simp)), hy]; simp [hf]
    have := ih (fun v hv => h1 v (by simp [hv])) (w.setCell (ad.add i) x) (i + 1) fun j h2 h3 => by
      obtain ⟨h4, h5⟩ := h j (by omega) (by simp; omega)
      exact ⟨setCell_cell _ _ _ _ h4, by rw [setCell_frozen]; exact h5⟩
    simp only [storeCells, Sem.run_bind, hst, Result.andThen_ok, this]
    rfl

theorem Den0.stored (hD : Den0 G X F u V ρ st a w) {ad : Addr} {l : List Value} (hV : V ad.block) : Den0 G X F (stW w ad l 0) V ρ st a (stW w ad l 0) where
  size := hD.size
  defers := hD.defers
  ok := hD.ok
  inj := hD.inj
  rel := Rel.refl fun b hb => by rw [stW_size]; exact hD.rel.lt hb
  kept := ⟨hD.kept.step (stW_frame V w ad l hV), hD.kept.V, hD.kept.loc⟩
  loc k T cs h := by
    obtain ⟨h1, h2⟩ := hD.loc k T cs h
    exact ⟨by rw [stW_block _ _ _ (fun e => h2 (by rw [e]; exact hV))]; exact h1, h2⟩

theorem storeK_sound {o : Oper} {K : KT} {Q : Exit → Act → World → Prop} {T : Nat} {x y : Operand} (ho : o.op = .store T x y) (hdst : o.dst = none) (hD : Den0 G X F u V ρ st a w) (hA : Ag ds rk st0 st)
    (hK : storeK X rk T (ev st x) (ev st y) st u V fun δ u V => K (st.app δ) u V) : o.wp P a w (Nxt G X F ds rk st0 K) Q := by
  have fin : ∀ w', (Instr.storeAt T (a.eval x) (a.eval y)).run P w = .ok () w' → Nxt G X F ds rk st0 K a w' → o.wp P a w (Nxt G X F ds rk st0 K) Q := by
    intro w' hr hn
    unfold Oper.wp
    rw [exec_store ho hr]
    show Nxt G X F ds rk st0 K (a.put o.dst undef) w'
    rw [hdst]; exact hn
  unfold storeK at hK
  split at hK
  · rename_i t val ht hy
    have ey := ev_v hD.ok hy
    obtain ⟨⟨i, z, hi, hs, _⟩, _⟩ := X.htab T t ht
    split at hK
    · exact hK.elim
    · rename_i hb
      simp only [Bool.and_eq_true] at hb
      obtain ⟨hlen, hone⟩ := hb
      have hlen : val.cells.toList.length = t.size := Nat.eq_of_beq_eq_true hlen
      have hone := allOne_spec _ hone
      split at hK
      · rename_i k off hx
        have ex := ev_loc hD.ok hx
        split at hK
        · rename_i T' cs hk
          split at hK
          · rename_i hb2
            simp only [Bool.and_eq_true] at hb2
            have hle : off + t.size ≤ cs.length := by simpa using hb2.2
            have hr := run_storeCells_at P (ρ k) off T' val.cells.toList 0 cs.toArray w (hD.loc k T' cs hk).1 (by rw [hlen]; simpa using hle) hone
            refine fin _ (by rw [ex, ey]; exact run_storeVar hi (hlen.trans hs.symm) hr) ?_
            have he : (cs.toArray.toList.take (off + 0) ++ val.cells.toList ++ cs.toArray.toList.drop (off + 0 + val.cells.toList.length)) = overN cs off val.cells.toList := by
              rw [overN_eq _ _ _ (by rw [hlen]; exact hle)]; simp
            rw [he]
            exact ⟨_, u, V, ρ, hD.setLoc hk, hA.setL ((memN_iff _ _).1 hb2.1) _, hK⟩
          · exact hK.elim
        · exact hK.elim
      · rename_i p hx
        have ex := ev_v hD.ok hx
        cases p with
        | none => exact hK.elim
        | some ad =>
          obtain ⟨hst, hK⟩ := hK w hD.rel
          refine fin _ (by rw [ex, ey]; exact run_storeVar hi (hlen.trans hs.symm) (run_storeCells_st ad _ hone w 0 fun j _ hj => hst.2 j (by rw [← hlen]; omega))) ?_
          exact ⟨st, _, V, ρ, hD.stored hst.1, hA, hK⟩
      · exact hK.elim
  · exact hK.elim
end
end Go.Sx

-- SxOps
namespace Go.Sx
open Go.RowKit
section
variable {P : Program} {G : Gh} {X : Ctx P} {F : Fn} {u : World} {V : VP} {ρ : Nat → Nat} {st st0 : St} {a : Act} {w : World} {ds rk : List Nat}

theorem mat_good {eT : Nat} {s : SV} (h : goodS s = true) : Mat eT ρ s (gval eT s) := by
  cases s with
  | tup l => exact ⟨rfl, h⟩
  | s x => cases x <;> first | rfl | (simp [goodS, good1] at h)
theorem noSt_good {s : SV} (h : goodS s = true) : NoSt st s := by
  intro k off e; subst e; simp [goodS, good1] at h

/-! ### slices made of parts -/
theorem replN_get (l : List Value) (n j : Nat) : (replN n l)[j]? = if j < n * l.length then l[j % l.length]? else none := by
  induction n generalizing j with
  | zero => simp [replN]
  | succ n ih =>
    show (l ++ replN n l)[j]? = _
    by_cases h : j < l.length
    · rw [List.getElem?_append_left h, if_pos (by rw [Nat.succ_mul]; omega), Nat.mod_eq_of_lt h]
    · rw [List.getElem?_append_right (by omega), ih]
      have : j % l.length = (j - l.length) % l.length := by rw [Nat.mod_eq_sub_mod (by omega)]
      rw [this]
      by_cases h2 : j - l.length < n * l.length
      · rw [if_pos h2, if_pos (by rw [Nat.succ_mul]; omega)]
      · rw [if_neg h2, if_neg (by rw [Nat.succ_mul]; omega)]

theorem range_zero (z : Array Value) (n : Nat) : (Array.range (n * z.size)).map (z[· % z.size]!) = (replN n z.toList).toArray := by
  apply Array.ext'
  apply List.ext_getElem?
  intro j
  rw [List.toList_toArray, replN_get]
  simp only [Array.toList_map, Array.toList_range, List.getElem?_map, Array.length_toList]
  by_cases h : j < n * z.size
  · have hp : 0 < z.size := by
      rcases Nat.eq_zero_or_pos z.size with h0 | h0
      · rw [h0] at h; simp at h
      · exact h0
    have hm : j % z.size < z.size := Nat.mod_lt _ hp
    rw [List.getElem?_range h, if_pos h]
    simp [getElem!_def, Array.getElem?_eq_getElem hm]
  · rw [List.getElem?_eq_none (by simpa using h), if_neg h]; rfl

theorem fillS_spec {sz : Nat} (h : EnvOk X ρ st a) (ps : List (Nat × Operand)) : ∀ (cs : List Value) (K : List Value → Prop), fillS sz st ps cs K →
    ∃ cs', K cs' ∧ Instr.fill (fun i => some (i * sz, sz)) cs.toArray (ps.map fun p => (p.1, a.eval p.2)) = some cs'.toArray := by
  induction ps with
  | nil => intro cs K hK; exact ⟨cs, hK, rfl⟩
  | cons p ps ih =>
    intro cs K hK
    unfold fillS at hK
    split at hK
    · rename_i x hx
      have ex := ev_v h hx
      split at hK
      · rename_i hb
        simp only [Bool.and_eq_true, Nat.ble_eq] at hb
        have hb1 := Nat.eq_of_beq_eq_true hb.1
        obtain ⟨cs', hK', hf⟩ := ih _ _ hK
        refine ⟨cs', hK', ?_⟩
        rw [List.map_cons, ex, fill_step (off := p.1 * sz) (n := sz) rfl hb1 (by simpa using hb.2)]
        exact hf
      · exact hK.elim
    · exact hK.elim

theorem fresh_frame (V : VP) (w : World) (o : Obj) : FrameV V w (w.alloc o) := frame_alloc V w o

theorem nxt_new {o : Oper} {K : KT} {Q : Exit → Act → World → Prop} {x : SV} {v : Value} {w' : World} (hD : Den0 G X F u V ρ st a w) (hA : Ag ds rk st0 st) (hds : ∀ t, o.dst = some t → t ∈ ds)
    (hf : FrameV V w w') (hr : (execOp a.eval o).run P w = .ok (.value v) w') (hm : Mat X.errT ρ x v) (hs : NoSt st x) (hK : putK F o.dst x fun δ => K (st.app δ) w' (Vn V w w')) : o.wp P a w (Nxt G X F ds rk st0 K) Q := by
  obtain ⟨hd, hK⟩ := putK_spec (st := st) (K := fun st => K st w' (Vn V w w')) hK
  unfold Oper.wp
  rw [hr]
  exact ⟨_, w', Vn V w w', ρ, (hD.moved hf).put hd hm hs, hA.put hds x, hK⟩

theorem exec_buildSlice {o : Oper} {T n : Nat} {parts : Array (Nat × Operand)} {e : Nat} {te : TI} (ho : o.op = .buildSlice T n parts) (hu : P.underlying T = some (.slice e)) (hte : X.tab e = some te)
    (hle : n * te.size ≤ 16777216) (hz : te.zero.length = te.size) {cs' : List Value} (hf : Instr.fill (fun i => some (i * te.size, te.size)) (replN n te.zero).toArray (parts.toList.map fun p => (p.1, a.eval p.2)) = some cs'.toArray) :
    (execOp a.eval o).run P w = .ok (.value (.slice (some ⟨w.heap.size, 0, none⟩) n n)) (w.alloc (.cells cs'.toArray e)) := by
  obtain ⟨⟨i, z, hi, hs, hzi, hzc⟩, _⟩ := X.htab e te hte
  have hzs : z.cells.size = te.size := by rw [← hz, ← hzc]; simp
  have hfl : (List.map (fun p => (p.1, a.eval p.2)) parts.toList) = (parts.map fun x => (x.1, a.eval x.2)).toList := by simp
  rw [hfl] at hf
  have hno : ¬ n * te.size > 2 ^ 24 := by
    have : (2 : Nat) ^ 24 = 16777216 := by decide
    omega
  by_cases h0 : n * te.size = 0
  · have hnil : replN n te.zero = [] := by
      rcases Nat.mul_eq_zero.1 h0 with h | h
      · rw [h]; rfl
      · have : te.zero = [] := List.eq_nil_of_length_eq_zero (hz.trans h)
        rw [this]
        clear hf h0 hle hno ho
        induction n with
        | zero => rfl
        | succ n ih => show [] ++ replN n [] = []; rw [ih]; rfl
    rw [hnil] at hf
    have hr0 : Array.range 0 = #[] := rfl
    simp [hr0, execOp, ho, Instr.buildSlice, run_underlying' hu, size_spec hte, h0, newRow] at hf ⊢
    rw [hf]
    simp
  · rw [← hzc, ← range_zero, hzs] at hf
    simp [execOp, ho, Instr.buildSlice, run_underlying' hu, size_spec hte, h0, newRow, hno, run_zero' hi hzi, hzs] at hf ⊢
    rw [hf]
    simp

/-! ### calls -/
theorem exec_call {o : Oper} {f : Operand} {args : Array Operand} {ats : Array Nat} (ho : o.op = .call { callee := .value f, args, argTypes := ats }) {fid : Nat} {first caps : Array Value} {as : List Value}
    (hf : a.eval f = .func (.func fid) first caps) (hargs : args.map a.eval = as.toArray) (hc : CanEnter P fid) :
    (execOp a.eval o).run P w = .ok (.enter fid (first.toList ++ as ++ caps.toList).toArray) w := by
  obtain ⟨fn, h1, h2, h3⟩ := hc
  have h3' : ¬ fn.name = "runtime.NumGoroutine" := by simpa using h3
  have h5 : ¬ fn.body = none := by intro h; rw [h] at h2; cases h2
  have h4 : first ++ as.toArray ++ caps = (first.toList ++ as ++ caps.toList).toArray := by
    apply Array.ext'; simp
  simp [execOp, ho, resolve, Deferred.ofValue, hf, hargs, invoke, callFunc, h1, h3', h4]
  exact fun h => absurd h h5

theorem vals_spec (h : EnvOk X ρ st a) (l : List Operand) : ∀ vs, vals X st l = some vs → l.map a.eval = vs := by
  induction l with
  | nil => intro vs hv; simp [vals] at hv; simp [hv]
  | cons x xs ih =>
    intro vs hv
    unfold vals at hv
    split at hv
    · rename_i s hx
      split at hv
      · rename_i l hg hl
        simp at hv; subst hv
        have : a.eval x = gval1 X.errT s := by
          cases s with
          | v y => exact ev_v h hx
          | err e => exact ev_err h hx
          | loc k o => cases hg
          | any => cases hg
        simp [ih _ hl, this]
      · cases hv
    · cases hv
theorem vals_spec' (h : EnvOk X ρ st a) (l : Array Operand) (vs : List Value) (hv : vals X st l.toList = some vs) : l.map a.eval = vs.toArray := by
  have := vals_spec h _ _ hv
  apply Array.ext'
  simp [this]

theorem Den0.below (hD : Den0 G X F u V ρ st a w) {w' : World} (hb : Below w.heap.size w w') : Den0 G X F u V ρ st a w' where
  size := hD.size
  defers := hD.defers
  ok := hD.ok
  inj := hD.inj
  loc k T cs h := by
    obtain ⟨h1, h2⟩ := hD.loc k T cs h
    exact ⟨by rw [hb.block _ (loc_lt hD h)]; exact h1, h2⟩
  rel := ⟨hb.os.trans hD.rel.os, hb.tape.trans hD.rel.tape, hb.output.trans hD.rel.output, Nat.le_trans hD.rel.size hb.size, fun b hV => ⟨(hD.rel.blk b hV).1, by rw [hb.block _ (hD.rel.lt hV)]; exact (hD.rel.blk b hV).2⟩⟩
  kept := ⟨hD.kept.step (V := V) ⟨hb.os, hb.tape, hb.output, hb.size, fun b h _ => hb.block b h⟩, hD.kept.V, hD.kept.loc⟩

theorem callK_sound {o : Oper} {K : KT} {Q : Exit → Act → World → Prop} {f : Operand} {args : Array Operand} {ats : Array Nat} {direct : Bool} (ho : o.op = .call { callee := .value f, args, argTypes := ats })
    (hD : Den0 G X F u V ρ st a w) (hA : Ag ds rk st0 st) (hds : ∀ t, o.dst = some t → t ∈ ds)
    (hK : callK X (ev st f) direct args.toList o.type st u V fun x w V => putK F o.dst x fun δ => K (st.app δ) w V) : o.wp P a w (Nxt G X F ds rk st0 K) Q := by
  unfold callK at hK
  split at hK
  · rename_i fid first caps as hf has
    have ef := ev_v hD.ok hf
    have eas := vals_spec' hD.ok args as has
    split at hK
    · obtain ⟨hc, hK⟩ := hK
      unfold Oper.wp
      rw [exec_call ho ef eas hc, Oper.upon_enter]
      refine Calls.mono (hK w hD.rel) ?_
      rintro e w' ⟨x, rfl, hfr, hK⟩
      obtain ⟨hd, hK⟩ := putK_spec (st := st) (K := fun st => K st w' (Vn V w w')) hK
      exact ⟨_, w', Vn V w w', ρ, (hD.moved hfr).put hd (mat_good ((X.tenv o.type).good x)) (noSt_good ((X.tenv o.type).good x)), hA.put hds _, hK⟩
    · obtain ⟨x, ⟨hc, hro⟩, hK⟩ := hK
      unfold Oper.wp
      rw [exec_call ho ef eas hc, Oper.upon_enter]
      refine Calls.mono (hro w hD.rel) ?_
      rintro e w' ⟨rfl, hb⟩
      obtain ⟨hd, hK⟩ := putK_spec (st := st) (K := fun st => K st u V) hK
      exact ⟨_, u, V, ρ, (hD.below hb).put hd (mat_good ((X.tenv o.type).good x)) (noSt_good ((X.tenv o.type).good x)), hA.put hds _, hK⟩
  · exact hK.elim

theorem opv_sound {o : Oper} {K : KT} {Q : Exit → Act → World → Prop} {vs : Option (List Value)} {sem : List Value → Sem Value} (hD : Den0 G X F u V ρ st a w) (hA : Ag ds rk st0 st) (hds : ∀ t, o.dst = some t → t ∈ ds)
    (hex : ∀ l, vs = some l → ∀ v w', (sem l).run P w = .ok v w' → (execOp a.eval o).run P w = .ok (.value v) w') (hK : ox.opv X F o u V (fun δ u V => K (st.app δ) u V) vs sem) : o.wp P a w (Nxt G X F ds rk st0 K) Q := by
  unfold ox.opv at hK
  split at hK
  · rename_i l
    obtain ⟨x, w', hr, hf, hK⟩ := hK w hD.rel
    exact nxt_new hD hA hds hf (hex l rfl _ _ hr) (mat_good ((X.tenv o.type).good x)) (noSt_good ((X.tenv o.type).good x)) hK
  · exact hK.elim

theorem valsV_cons (h : EnvOk X ρ st a) {x : Operand} {xs : List Operand} {l : List Value} (hv : valsV st (x :: xs) = some l) : ∃ l', l = a.eval x :: l' ∧ valsV st xs = some l' := by
  unfold valsV at hv
  split at hv
  · rename_i s hx
    split at hv
    · rename_i l' hl
      simp at hv; subst hv
      exact ⟨l', by rw [ev_v h hx], hl⟩
    · cases hv
  · cases hv
theorem valsV_nil {l : List Value} (hv : valsV st [] = some l) : l = [] := by simp [valsV] at hv; exact hv

theorem ox_sound {o : Oper} {K : KT} {Q : Exit → Act → World → Prop} (hD : Den0 G X F u V ρ st a w) (hA : Ag ds rk st0 st) (hds : ∀ t, o.dst = some t → t ∈ ds) (hK : ox X F rk o st u V fun δ u V => K (st.app δ) u V) : o.wp P a w (Nxt G X F ds rk st0 K) Q := by
  unfold ox at hK
  split at hK
  · -- alloc
    rename_i T ho
    split at hK
    · rename_i t ht
      obtain ⟨⟨i, z, hi, hs, hz, hzc⟩, _⟩ := X.htab T t ht
      refine newK_sound hD hA hds ?_ hK
      simp [execOp, ho, Instr.alloc, run_zero' hi hz, newVar, newRow, ← hzc]
    · exact hK.elim
  · -- box
    rename_i T x ho
    split at hK
    · rename_i val hx
      refine newK_sound hD hA hds ?_ hK
      simp [execOp, ho, Instr.box, newVar, newRow, ev_v hD.ok hx]
    · rename_i e hx
      refine newK_sound hD hA hds ?_ hK
      have : (gval1 X.errT (.err e)).cells = #[gval1 X.errT (.err e)] := by cases e <;> rfl
      simp [execOp, ho, Instr.box, newVar, newRow, ev_err hD.ok hx, this]
    · exact hK.elim
  · -- buildSlice
    rename_i T n parts ho
    split at hK
    · rename_i t ht
      split at hK
      · rename_i e hk
        have hu := (X.htab T t ht).2
        rw [hk] at hu
        split at hK
        · rename_i te hte
          split at hK
          · rename_i hb
            simp only [Bool.and_eq_true, Nat.ble_eq] at hb
            have hz := Nat.eq_of_beq_eq_true hb.2
            obtain ⟨cs', hK', hf⟩ := fillS_spec hD.ok _ _ _ hK
            exact nxt_new hD hA hds (frame_alloc V w _) (exec_buildSlice ho hu hte hb.1 hz hf) (x := .s (.v _)) rfl (noSt_v _) (hK' w hD.rel)
          · exact hK.elim
        · exact hK.elim
      · exact hK.elim
    · exact hK.elim
  · -- load
    rename_i T x ho
    obtain ⟨y, v, hK, hr, hm, hs⟩ := loadK_sound hD hK
    exact nxt_value hD hA hds (exec_load ho hr) hm hs hK
  · -- store
    rename_i T x y ho
    split at hK
    · rename_i hdst
      exact storeK_sound ho hdst hD hA hK
    · exact hK.elim
  · -- call
    rename_i f args ats ho
    exact callK_sound ho hD hA hds hK
  · -- append
    rename_i args ats ho
    refine opv_sound hD hA hds (fun l hl v w' hr => ?_) hK
    simp [execOp, ho, resolve, invoke, builtin, valsV_spec' hD.ok _ _ hl, hr]
  · -- copy
    rename_i args ats ho
    refine opv_sound hD hA hds (fun l hl v w' hr => ?_) hK
    simp [execOp, ho, resolve, invoke, builtin, valsV_spec' hD.ok _ _ hl, hr]
  · -- delete
    rename_i args ats ho
    refine opv_sound hD hA hds (fun l hl v w' hr => ?_) hK
    simp [execOp, ho, resolve, invoke, builtin, valsV_spec' hD.ok _ _ hl, hr]
  · -- clear
    rename_i args ats ho
    refine opv_sound hD hA hds (fun l hl v w' hr => ?_) hK
    simp [execOp, ho, resolve, invoke, builtin, valsV_spec' hD.ok _ _ hl, hr]
  · -- len
    rename_i x ats ho
    split at hK
    · rename_i m hx
      refine opv_sound hD hA hds (fun l hl v w' hr => ?_) hK
      cases hl
      simp [execOp, ho, resolve, invoke, builtin, ev_v hD.ok hx, hr]
    · exact nxt_px hD hA hds hK
  · -- lookup
    rename_i T m i ok ho
    refine opv_sound hD hA hds (fun l hl v w' hr => ?_) hK
    obtain ⟨l1, rfl, h1⟩ := valsV_cons hD.ok hl
    obtain ⟨l2, rfl, h2⟩ := valsV_cons hD.ok h1
    simp at hr
    simp [execOp, ho, hr]
  · -- makeMap
    rename_i T ho
    refine opv_sound hD hA hds (fun l hl v w' hr => ?_) hK
    simp [execOp, ho, hr]
  · -- makeSlice
    rename_i T l c ho
    refine opv_sound hD hA hds (fun l hl v w' hr => ?_) hK
    obtain ⟨l1, rfl, h1⟩ := valsV_cons hD.ok hl
    obtain ⟨l2, rfl, h2⟩ := valsV_cons hD.ok h1
    simp at hr
    simp [execOp, ho, hr]
  · -- range
    rename_i T x ho
    refine opv_sound hD hA hds (fun l hl v w' hr => ?_) hK
    obtain ⟨l1, rfl, h1⟩ := valsV_cons hD.ok hl
    simp at hr
    simp [execOp, ho, hr]
  · -- next
    rename_i it s ho
    refine opv_sound hD hA hds (fun l hl v w' hr => ?_) hK
    obtain ⟨l1, rfl, h1⟩ := valsV_cons hD.ok hl
    simp at hr
    simp [execOp, ho, hr]
  · -- mapUpdate
    rename_i T m k x ho
    split at hK
    · rename_i l hl
      obtain ⟨l1, rfl, h1⟩ := valsV_cons hD.ok hl
      obtain ⟨l2, rfl, h2⟩ := valsV_cons hD.ok h1
      obtain ⟨l3, rfl, h3⟩ := valsV_cons hD.ok h2
      obtain ⟨w', hr, hf, hK⟩ := hK w hD.rel
      obtain ⟨hd, hK⟩ := putK_spec (st := st) (K := fun st => K st w' (Vn V w w')) hK
      simp at hr
      have hex : (execOp a.eval o).run P w = .ok .skip w' := by simp [execOp, ho, hr]
      unfold Oper.wp
      rw [hex]
      refine ⟨_, w', Vn V w w', ρ, (hD.moved hf).put (x := .s .any) (v := undef) hd trivial ?_, hA.put hds _, hK⟩
      intro k off e; cases e
    · exact hK.elim
  · -- convert
    rename_i src dst x ho
    split at hK
    · rename_i s d b hs hd hx
      split at hK
      · refine opv_sound hD hA hds (fun l hl v w' hr => ?_) hK
        simp at hl; subst hl
        simp at hr
        simp [execOp, ho, ev_v hD.ok hx, hr]
      · exact hK.elim
    · rename_i s d ad n c hs hd hx
      split at hK
      · refine opv_sound hD hA hds (fun l hl v w' hr => ?_) hK
        simp at hl; subst hl
        simp at hr
        simp [execOp, ho, ev_v hD.ok hx, hr]
      · exact hK.elim
    · exact nxt_px hD hA hds hK
  · exact nxt_px hD hA hds hK
end
end Go.Sx
