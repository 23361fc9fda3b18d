/- Core2: the plain operations, a lemma each. -/
import Derived.Test.YtkhnohnkcdcajaaDoorCore1
set_option maxRecDepth 100000
namespace Go.Proofs.YtkhnohnkcdcajaaDoor.Sal
set_option linter.all false
open Go.RowKit

section ops
variable {r : Option Nat} {P : Program} {ops : Array Oper} {Q : Exit → Act → World → Prop} {N : Nat} {σ : Nat → Value} {ds : List Deferred} {w : World} {rest : List Oper}
variable {d : Nat} {ty : TypeId} {pos : String} {after : Array Edge}

theorem l_val {op : Op} {v : Value} {w' : World} (hnd : ∀ c, op ≠ .defer c) (hrun : (execOp (ev N σ) ⟨some d, op, ty, pos, after, none⟩).run P w = .ok (.value v) w')
    (h : WL r P ops Q rest (mk N (upd σ d v) ds) w') : WL r P ops Q (⟨some d, op, ty, pos, after, none⟩ :: rest) (mk N σ ds) w := by
  refine wpListIn_plain rfl fun K hK => ?_
  refine ⟨fun f _ => trivial, ?_⟩
  rw [Oper.semAt_plain (FW r) _ _ hnd, eval_mk', hrun]
  simp only [Oper.uponIn_value]
  rw [put_mk]
  exact hK _ _ h
theorem l_eff {op : Op} {w' : World} (hnd : ∀ c, op ≠ .defer c) (hrun : (execOp (ev N σ) ⟨none, op, ty, pos, after, none⟩).run P w = .ok .skip w')
    (h : WL r P ops Q rest (mk N σ ds) w') : WL r P ops Q (⟨none, op, ty, pos, after, none⟩ :: rest) (mk N σ ds) w := by
  refine wpListIn_plain rfl fun K hK => ?_
  refine ⟨fun f _ => trivial, ?_⟩
  rw [Oper.semAt_plain (FW r) _ _ hnd, eval_mk', hrun]
  simp only [Oper.uponIn_skip]
  exact hK _ _ h

/-- A guard: the bool that decides it stands in slot g of the frame. -/
theorem wanted_of {o : Oper} {j g : Nat} {b want : Bool} (hg : o.guard = some (j, want)) (hj : (ops[j]?).bind (·.dst) = some g) (hb : ev N σ (.tmp g) = .bool b) :
    Region.wanted o (yielded ops (mk N σ ds).tmps) = (b == want) := by
  have e : (mk N σ ds).tmps.getD g undef = .bool b := (getD_mk N σ g).trans hb
  have y : yielded ops (mk N σ ds).tmps j = some b := by
    unfold yielded
    rw [hj]
    have e2 : (mk N σ ds).tmps[g]? = some (.bool b) := by
      have h3 := e
      unfold Array.getD at h3
      split at h3
      · rename_i hl
        rw [Array.getElem?_eq_getElem hl]
        exact congrArg some h3
      · exact absurd h3 (by simp [undef])
    simp [e2]
  unfold Region.wanted
  rw [hg]
  simp only [y]
  cases b <;> cases want <;> rfl
theorem g_yes {dst : Option Tmp} {op : Op} {j g : Nat} {want : Bool} (hj : (ops[j]?).bind (·.dst) = some g) (hb : ev N σ (.tmp g) = .bool want)
    (h : WL r P ops Q (⟨dst, op, ty, pos, after, none⟩ :: rest) (mk N σ ds) w) : WL r P ops Q (⟨dst, op, ty, pos, after, some (j, want)⟩ :: rest) (mk N σ ds) w := by
  have hw := wanted_of (ds := ds) (o := ⟨dst, op, ty, pos, after, some (j, want)⟩) rfl hj hb
  show wpListIn _ _ _ _ _ _ _ _
  unfold wpListIn
  rw [hw]
  have h' : wpListIn (FW r) 0 P ops Q (⟨dst, op, ty, pos, after, none⟩ :: rest) (mk N σ ds) w := h
  unfold wpListIn at h'
  simp only [Region.wanted, if_true] at h'
  simp only [beq_self_eq_true, if_true]
  exact h'
theorem g_no {op : Op} {j g : Nat} {want b : Bool} (hj : (ops[j]?).bind (·.dst) = some g) (hb : ev N σ (.tmp g) = .bool b) (hne : (b == want) = false)
    (h : WL r P ops Q rest (mk N (upd σ d undef) ds) w) : WL r P ops Q (⟨some d, op, ty, pos, after, some (j, want)⟩ :: rest) (mk N σ ds) w := by
  have hw := wanted_of (ds := ds) (o := ⟨some d, op, ty, pos, after, some (j, want)⟩) rfl hj hb
  show wpListIn _ _ _ _ _ _ _ _
  unfold wpListIn
  rw [hw, hne]
  simp only [Bool.false_eq_true, if_false]
  refine ⟨fun f _ => trivial, ?_⟩
  rw [put_mk]
  exact h

/-- The guard itself was passed over. -/
theorem g_un {op : Op} {j g : Nat} {want : Bool} (hj : (ops[j]?).bind (·.dst) = some g) (hb : ev N σ (.tmp g) = undef)
    (h : WL r P ops Q rest (mk N (upd σ d undef) ds) w) : WL r P ops Q (⟨some d, op, ty, pos, after, some (j, want)⟩ :: rest) (mk N σ ds) w := by
  have hw : Region.wanted (⟨some d, op, ty, pos, after, some (j, want)⟩ : Oper) (yielded ops (mk N σ ds).tmps) = false := by
    have e : (mk N σ ds).tmps.getD g undef = undef := (getD_mk N σ g).trans hb
    have y : yielded ops (mk N σ ds).tmps j = none := by
      unfold yielded
      rw [hj]
      simp only [Option.bind_some]
      unfold Array.getD at e
      split at e
      · rename_i hl
        rw [Array.getElem?_eq_getElem hl]
        have e' : (mk N σ ds).tmps[g] = undef := e
        rw [e']; rfl
      · rename_i hl
        rw [Array.getElem?_eq_none (by simpa using hl)]
    unfold Region.wanted
    simp only [y]
    cases want <;> rfl
  show wpListIn _ _ _ _ _ _ _ _
  unfold wpListIn
  rw [hw]
  simp only [Bool.false_eq_true, if_false]
  refine ⟨fun f _ => trivial, ?_⟩
  rw [put_mk]
  exact h

theorem s_move {x : Operand} (h : WL r P ops Q rest (mk N (upd σ d (ev N σ x)) ds) w) : WL r P ops Q (⟨some d, .move x, ty, pos, after, none⟩ :: rest) (mk N σ ds) w :=
  l_val (by intro c e; cases e) rfl h
theorem s_assign {x : Operand} (h : WL r P ops Q rest (mk N (upd σ d (ev N σ x)) ds) w) : WL r P ops Q (⟨some d, .assign x, ty, pos, after, none⟩ :: rest) (mk N σ ds) w :=
  l_val (by intro c e; cases e) rfl h
theorem s_pick {c x y : Operand} {b : Bool} (hc : ev N σ c = .bool b) (h : WL r P ops Q rest (mk N (upd σ d (if b then ev N σ x else ev N σ y)) ds) w) : WL r P ops Q (⟨some d, .pick c x y, ty, pos, after, none⟩ :: rest) (mk N σ ds) w :=
  l_val (by intro c e; cases e) (by simp [execOp, hc, go_sem]) h
theorem s_pickt {c x y : Operand} {v : Value} (hc : ev N σ c = .bool true) (hx : ev N σ x = v) (h : WL r P ops Q rest (mk N (upd σ d v) ds) w) : WL r P ops Q (⟨some d, .pick c x y, ty, pos, after, none⟩ :: rest) (mk N σ ds) w :=
  s_pick hc (by simpa [hx] using h)
theorem s_pickf {c x y : Operand} {v : Value} (hc : ev N σ c = .bool false) (hx : ev N σ y = v) (h : WL r P ops Q rest (mk N (upd σ d v) ds) w) : WL r P ops Q (⟨some d, .pick c x y, ty, pos, after, none⟩ :: rest) (mk N σ ds) w :=
  s_pick hc (by simpa [hx] using h)
theorem s_not {x : Operand} {t : TypeId} {b : Bool} (hx : ev N σ x = .bool b) (h : WL r P ops Q rest (mk N (upd σ d (.bool !b)) ds) w) : WL r P ops Q (⟨some d, .unOp .not t x, ty, pos, after, none⟩ :: rest) (mk N σ ds) w :=
  l_val (by intro c e; cases e) (by simp [execOp, hx, go_sem, Op.unary]) h
theorem s_extract {x : Operand} {i : Nat} {vs : Array Value} {v : Value} (hx : ev N σ x = .tuple vs) (hi : vs[i]? = some v) (h : WL r P ops Q rest (mk N (upd σ d v) ds) w) : WL r P ops Q (⟨some d, .extract x i, ty, pos, after, none⟩ :: rest) (mk N σ ds) w :=
  l_val (by intro c e; cases e) (by simp [execOp, hx, Instr.extract, hi, go_sem]) h

section bin
variable {t t' : TypeId} {x y : Operand} {k k' : IntKind} {a b : Int}
theorem bin_run {op : BinOp} {u v res : Value} (hx : ev N σ x = u) (hy : ev N σ y = v) (hg : eqGuard op t x y u v = pure ()) (hr : (binOp op t u v).run P w = .ok res w) :
    (execOp (ev N σ) ⟨some d, .binOp op t x y t', ty, pos, after, none⟩).run P w = .ok (.value res) w := by
  simp [execOp, hx, hy, hg, hr, go_sem]
theorem s_addw (hx : ev N σ x = .int k a) (hy : ev N σ y = .int k b) (h : WL r P ops Q rest (mk N (upd σ d (.int k (k.wrap (a + b)))) ds) w) : WL r P ops Q (⟨some d, .binOp .add t x y t', ty, pos, after, none⟩ :: rest) (mk N σ ds) w :=
  l_val (by intro c e; cases e) (bin_run hx hy rfl (by simp [go_sem, Op.intArith])) h
theorem s_subw (hx : ev N σ x = .int k a) (hy : ev N σ y = .int k b) (h : WL r P ops Q rest (mk N (upd σ d (.int k (k.wrap (a - b)))) ds) w) : WL r P ops Q (⟨some d, .binOp .sub t x y t', ty, pos, after, none⟩ :: rest) (mk N σ ds) w :=
  l_val (by intro c e; cases e) (bin_run hx hy rfl (by simp [go_sem, Op.intArith])) h
def In64 (n : Int) : Prop := -9223372036854775808 ≤ n ∧ n ≤ 9223372036854775807
theorem wrap_in {n : Int} (h : In64 n) : IntKind.i64.wrap n = n := by
  obtain ⟨h1, h2⟩ := h
  exact IntWalk.i64_in n (by omega)
theorem s_add (hx : ev N σ x = .int .i64 a) (hy : ev N σ y = .int .i64 b) (hr : In64 (a + b)) (h : WL r P ops Q rest (mk N (upd σ d (.int .i64 (a + b))) ds) w) : WL r P ops Q (⟨some d, .binOp .add t x y t', ty, pos, after, none⟩ :: rest) (mk N σ ds) w :=
  s_addw hx hy (by rw [wrap_in hr]; exact h)
theorem s_sub (hx : ev N σ x = .int .i64 a) (hy : ev N σ y = .int .i64 b) (hr : In64 (a - b)) (h : WL r P ops Q rest (mk N (upd σ d (.int .i64 (a - b))) ds) w) : WL r P ops Q (⟨some d, .binOp .sub t x y t', ty, pos, after, none⟩ :: rest) (mk N σ ds) w :=
  s_subw hx hy (by rw [wrap_in hr]; exact h)
/-- A counter: one more. -/
theorem s_inc {n : Nat} (hx : ev N σ x = .int .i64 (n : Int)) (hr : n < 9223372036854775807) (h : WL r P ops Q rest (mk N (upd σ d (.int .i64 ((n + 1 : Nat) : Int))) ds) w) :
    WL r P ops Q (⟨some d, .binOp .add t x (.const (.int .i64 1)) t', ty, pos, after, none⟩ :: rest) (mk N σ ds) w :=
  s_add hx rfl ⟨by omega, by omega⟩ h
theorem s_lss (hx : ev N σ x = .int k a) (hy : ev N σ y = .int k b) (h : WL r P ops Q rest (mk N (upd σ d (.bool (decide (a < b)))) ds) w) : WL r P ops Q (⟨some d, .binOp .lss t x y t', ty, pos, after, none⟩ :: rest) (mk N σ ds) w :=
  l_val (by intro c e; cases e) (bin_run hx hy rfl (by simp [go_sem])) h
theorem s_leq (hx : ev N σ x = .int k a) (hy : ev N σ y = .int k b) (h : WL r P ops Q rest (mk N (upd σ d (.bool (decide (a ≤ b)))) ds) w) : WL r P ops Q (⟨some d, .binOp .leq t x y t', ty, pos, after, none⟩ :: rest) (mk N σ ds) w :=
  l_val (by intro c e; cases e) (bin_run hx hy rfl (by simp [go_sem])) h
theorem s_gtr (hx : ev N σ x = .int k a) (hy : ev N σ y = .int k b) (h : WL r P ops Q rest (mk N (upd σ d (.bool (decide (b < a)))) ds) w) : WL r P ops Q (⟨some d, .binOp .gtr t x y t', ty, pos, after, none⟩ :: rest) (mk N σ ds) w :=
  l_val (by intro c e; cases e) (bin_run hx hy rfl (by simp [go_sem])) h
theorem s_geq (hx : ev N σ x = .int k a) (hy : ev N σ y = .int k b) (h : WL r P ops Q rest (mk N (upd σ d (.bool (decide (b ≤ a)))) ds) w) : WL r P ops Q (⟨some d, .binOp .geq t x y t', ty, pos, after, none⟩ :: rest) (mk N σ ds) w :=
  l_val (by intro c e; cases e) (bin_run hx hy rfl (by simp [go_sem])) h
theorem beq_dec (a b : Int) : (a == b) = decide (a = b) := by by_cases h : a = b <;> simp [h]
theorem s_eql (hx : ev N σ x = .int k a) (hy : ev N σ y = .int k b) (h : WL r P ops Q rest (mk N (upd σ d (.bool (decide (a = b)))) ds) w) : WL r P ops Q (⟨some d, .binOp .eql t x y t', ty, pos, after, none⟩ :: rest) (mk N σ ds) w :=
  l_val (by intro c e; cases e) (bin_run hx hy (by simp [go_sem]) (by simp [go_sem, beq_dec])) h
theorem s_neq (hx : ev N σ x = .int k a) (hy : ev N σ y = .int k b) (h : WL r P ops Q rest (mk N (upd σ d (.bool (decide (a ≠ b)))) ds) w) : WL r P ops Q (⟨some d, .binOp .neq t x y t', ty, pos, after, none⟩ :: rest) (mk N σ ds) w :=
  l_val (by intro c e; cases e) (bin_run hx hy (by simp [go_sem]) (by
    have e : (a != b) = decide (a ≠ b) := by by_cases h : a = b <;> simp [h]
    simp [go_sem, e])) h
theorem run_equalIn_bool (P : Program) (w : World) (d : Nat) (t : TypeId) (p q : Bool) (h : P.underlying t = some .bool) : (Op.equalIn (d + 1) t (.bool p) (.bool q)).run P w = .ok (p == q) w := by
  simp [Op.equalIn, run_underlying h]
theorem run_equal_bool (P : Program) (w : World) (t : TypeId) (p q : Bool) (h : P.underlying t = some .bool) : (Op.equal t (.bool p) (.bool q)).run P w = .ok (p == q) w := run_equalIn_bool P w 9999 t p q h
theorem s_eqlb {p q : Bool} (hT : P.underlying t = some .bool) (hx : ev N σ x = .bool p) (hy : ev N σ y = .bool q) (h : WL r P ops Q rest (mk N (upd σ d (.bool (p == q))) ds) w) : WL r P ops Q (⟨some d, .binOp .eql t x y t', ty, pos, after, none⟩ :: rest) (mk N σ ds) w :=
  l_val (by intro c e; cases e) (bin_run hx hy (by simp [go_sem]) (by
    show ((Op.equal t (.bool p) (.bool q)).bind fun b => (Sem.pure (Value.bool b) : Sem Value)).run P w = _
    simp [Sem.run_bind', run_equal_bool P w t p q hT])) h
theorem s_neqb {p q : Bool} (hT : P.underlying t = some .bool) (hx : ev N σ x = .bool p) (hy : ev N σ y = .bool q) (h : WL r P ops Q rest (mk N (upd σ d (.bool (p != q))) ds) w) : WL r P ops Q (⟨some d, .binOp .neq t x y t', ty, pos, after, none⟩ :: rest) (mk N σ ds) w :=
  l_val (by intro c e; cases e) (bin_run hx hy (by simp [go_sem]) (by
    show ((Op.equal t (.bool p) (.bool q)).bind fun b => (Sem.pure (Value.bool (!b)) : Sem Value)).run P w = _
    simp [Sem.run_bind', run_equal_bool P w t p q hT]; cases p <;> cases q <;> rfl)) h
theorem s_lssT (hx : ev N σ x = .int k a) (hy : ev N σ y = .int k b) (hp : a < b) (h : WL r P ops Q rest (mk N (upd σ d (.bool true)) ds) w) : WL r P ops Q (⟨some d, .binOp .lss t x y t', ty, pos, after, none⟩ :: rest) (mk N σ ds) w :=
  s_lss hx hy (by rw [decide_eq_true hp]; exact h)
theorem s_lssF (hx : ev N σ x = .int k a) (hy : ev N σ y = .int k b) (hp : ¬ (a < b)) (h : WL r P ops Q rest (mk N (upd σ d (.bool false)) ds) w) : WL r P ops Q (⟨some d, .binOp .lss t x y t', ty, pos, after, none⟩ :: rest) (mk N σ ds) w :=
  s_lss hx hy (by rw [decide_eq_false hp]; exact h)
theorem s_leqT (hx : ev N σ x = .int k a) (hy : ev N σ y = .int k b) (hp : a ≤ b) (h : WL r P ops Q rest (mk N (upd σ d (.bool true)) ds) w) : WL r P ops Q (⟨some d, .binOp .leq t x y t', ty, pos, after, none⟩ :: rest) (mk N σ ds) w :=
  s_leq hx hy (by rw [decide_eq_true hp]; exact h)
theorem s_leqF (hx : ev N σ x = .int k a) (hy : ev N σ y = .int k b) (hp : ¬ (a ≤ b)) (h : WL r P ops Q rest (mk N (upd σ d (.bool false)) ds) w) : WL r P ops Q (⟨some d, .binOp .leq t x y t', ty, pos, after, none⟩ :: rest) (mk N σ ds) w :=
  s_leq hx hy (by rw [decide_eq_false hp]; exact h)
theorem s_gtrT (hx : ev N σ x = .int k a) (hy : ev N σ y = .int k b) (hp : b < a) (h : WL r P ops Q rest (mk N (upd σ d (.bool true)) ds) w) : WL r P ops Q (⟨some d, .binOp .gtr t x y t', ty, pos, after, none⟩ :: rest) (mk N σ ds) w :=
  s_gtr hx hy (by rw [decide_eq_true hp]; exact h)
theorem s_gtrF (hx : ev N σ x = .int k a) (hy : ev N σ y = .int k b) (hp : ¬ (b < a)) (h : WL r P ops Q rest (mk N (upd σ d (.bool false)) ds) w) : WL r P ops Q (⟨some d, .binOp .gtr t x y t', ty, pos, after, none⟩ :: rest) (mk N σ ds) w :=
  s_gtr hx hy (by rw [decide_eq_false hp]; exact h)
theorem s_geqT (hx : ev N σ x = .int k a) (hy : ev N σ y = .int k b) (hp : b ≤ a) (h : WL r P ops Q rest (mk N (upd σ d (.bool true)) ds) w) : WL r P ops Q (⟨some d, .binOp .geq t x y t', ty, pos, after, none⟩ :: rest) (mk N σ ds) w :=
  s_geq hx hy (by rw [decide_eq_true hp]; exact h)
theorem s_geqF (hx : ev N σ x = .int k a) (hy : ev N σ y = .int k b) (hp : ¬ (b ≤ a)) (h : WL r P ops Q rest (mk N (upd σ d (.bool false)) ds) w) : WL r P ops Q (⟨some d, .binOp .geq t x y t', ty, pos, after, none⟩ :: rest) (mk N σ ds) w :=
  s_geq hx hy (by rw [decide_eq_false hp]; exact h)
theorem s_eqlT (hx : ev N σ x = .int k a) (hy : ev N σ y = .int k b) (hp : a = b) (h : WL r P ops Q rest (mk N (upd σ d (.bool true)) ds) w) : WL r P ops Q (⟨some d, .binOp .eql t x y t', ty, pos, after, none⟩ :: rest) (mk N σ ds) w :=
  s_eql hx hy (by rw [decide_eq_true hp]; exact h)
theorem s_eqlF (hx : ev N σ x = .int k a) (hy : ev N σ y = .int k b) (hp : ¬ (a = b)) (h : WL r P ops Q rest (mk N (upd σ d (.bool false)) ds) w) : WL r P ops Q (⟨some d, .binOp .eql t x y t', ty, pos, after, none⟩ :: rest) (mk N σ ds) w :=
  s_eql hx hy (by rw [decide_eq_false hp]; exact h)
theorem s_neqT (hx : ev N σ x = .int k a) (hy : ev N σ y = .int k b) (hp : a ≠ b) (h : WL r P ops Q rest (mk N (upd σ d (.bool true)) ds) w) : WL r P ops Q (⟨some d, .binOp .neq t x y t', ty, pos, after, none⟩ :: rest) (mk N σ ds) w :=
  s_neq hx hy (by rw [decide_eq_true hp]; exact h)
theorem s_neqF (hx : ev N σ x = .int k a) (hy : ev N σ y = .int k b) (hp : ¬ (a ≠ b)) (h : WL r P ops Q rest (mk N (upd σ d (.bool false)) ds) w) : WL r P ops Q (⟨some d, .binOp .neq t x y t', ty, pos, after, none⟩ :: rest) (mk N σ ds) w :=
  s_neq hx hy (by rw [decide_eq_false hp]; exact h)
end bin
end ops
end Go.Proofs.YtkhnohnkcdcajaaDoor.Sal
