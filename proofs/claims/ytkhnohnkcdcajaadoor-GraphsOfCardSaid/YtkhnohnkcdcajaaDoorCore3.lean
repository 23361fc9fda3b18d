/- Core3: functions: their contracts, calls, returns. -/
import Derived.Test.YtkhnohnkcdcajaaDoorCore2
set_option maxRecDepth 100000
namespace Go.Proofs.YtkhnohnkcdcajaaDoor.Sal
set_option linter.all false
open Go.RowKit

def RE (R : Value → World → Prop) : Ending → World → Prop := fun e w => ∃ v, e = .returned v ∧ R v w
/-- A CONTRACT: called with these values in this world, the function returns, and R holds of what it returns and of the world behind. -/
def Ct (P : Program) (f : FuncId) (args : Array Value) (w : World) (R : Value → World → Prop) : Prop := CallsIn Fence.wide 0 P f args w (RE R)
theorem Ct.mono {P : Program} {f : FuncId} {args : Array Value} {w : World} {R R' : Value → World → Prop} (h : Ct P f args w R) (hr : ∀ v w', R v w' → R' v w') : Ct P f args w R' :=
  CallsIn.mono h fun _ w' he => let ⟨v, hv, hR⟩ := he; ⟨v, hv, hr v w' hR⟩
theorem Ct.calls {P : Program} {f : FuncId} {args : Array Value} {w : World} {R : Value → World → Prop} (h : Ct P f args w R) : Calls P f args w (RE R) := callsIn_wide.1 h

def CallOK (P : Program) (f : FuncId) : Prop := ∀ args w, (callFunc f args).run P w = .ok (.enter f args) w
theorem callOK {P : Program} {f : FuncId} {fn : Func} {c : Code} (hf : P.funcs[f]? = some fn) (hn : (fn.name == "runtime.NumGoroutine") = false) (hb : fn.body = some c) : CallOK P f := by
  intro args w
  unfold callFunc
  simp [program, Sem.run, hf, hb]
  intro h
  rw [h] at hn
  simp at hn

def args0 (vs : List Value) : Nat → Value := fun t => vs.getD t undef

theorem enter_tmps (N : Nat) (vs : List Value) (h : vs.length ≤ N) : ({ tmps := vs.toArray ++ Array.replicate (N - vs.toArray.size) undef, defers := [] } : Act) = mk N (args0 vs) [] := by
  unfold mk
  simp only [Act.mk.injEq, and_true]
  apply Array.ext
  · simp; omega
  · intro i h1 h2
    simp at h1 h2
    by_cases hi : i < vs.length
    · simp [args0, hi]
    · rw [Array.getElem_append_right (by simpa using Nat.le_of_not_lt hi)]
      simp [args0, hi]

theorem vint {k : IntKind} {a b : Int} (h : a = b) : Value.int k a = Value.int k b := by rw [h]
theorem vbool {a b : Bool} (h : a = b) : Value.bool a = Value.bool b := by rw [h]
section ends
variable {K : Act → World → Prop} {Q : Exit → Act → World → Prop} {a : Act} {w : World}
theorem th_norm (h : K a w) : Exit.then K Q .normal a w := h
theorem th_exit {id : Nat} (h : Q (.exit id) a w) : Exit.then K Q (.exit id) a w := h
theorem th_ret (h : Q .ret a w) : Exit.then K Q .ret a w := h
theorem ib_norm {id : Nat} (h : Q .normal a w) : Exit.inBlock id Q .normal a w := h
theorem ib_ret {id : Nat} (h : Q .ret a w) : Exit.inBlock id Q .ret a w := h
theorem ib_exit {id : Nat} (h : Q .normal a w) : Exit.inBlock id Q (.exit id) a w := by simp only [Exit.inBlock, if_true]; exact h
theorem ib_pass {id id' : Nat} (hne : Nat.beq id' id = false) (h : Q (.exit id') a w) : Exit.inBlock id Q (.exit id') a w := by
  have hn : ¬ id' = id := fun e => by rw [e] at hne; simp at hne
  simp only [Exit.inBlock, hn, if_false]; exact h
end ends
section fns
variable {P : Program} {f : FuncId} {fn : Func} {w : World} {R : Value → World → Prop} {N : Nat} {σ : Nat → Value}
abbrev Post (P : Program) (fn : Func) (R : Value → World → Prop) : Exit → Act → World → Prop := bodyPostM (FW none) 0 P fn (RE R)
theorem enter {c : Code} {vs : List Value} (hf : P.funcs[f]? = some fn) (hb : fn.body = some c) (hN : fn.ntmps = N) (hlen : Nat.ble vs.length N = true)
    (h : CW none P c (Post P fn R) (mk N (args0 vs) []) w) : Ct P f vs.toArray w R := by
  refine callsIn_of_wp_marks (F := Fence.wide) hf hb trivial ?_
  rw [hN, enter_tmps N vs (Nat.le_of_ble_eq_true hlen)]
  exact h
theorem leave_nil {tmps : Array Value} {v : Value} (hr : (results fn tmps).run P w = .ok v w) (hR : R v w) : LeavesInM (FW none) 0 P fn tmps (RE R) [] .returning w := ⟨v, hr, v, rfl, hR⟩
theorem getD_mk' {N : Nat} {σ : Nat → Value} {t : Nat} {v : Value} {ds : List Deferred} (h : ev N σ (.tmp t) = v) : (mk N σ ds).tmps.getD t undef = v := (getD_mk N σ t).trans h
theorem ret0 (hres : fn.results = #[]) (hR : R (.tuple #[]) w) : Post P fn R .ret (mk N σ []) w := leave_nil (results_none hres _ P w) hR
theorem ret1 {t : Nat} {v : Value} (hres : fn.results = #[.tmp t]) (hv : ev N σ (.tmp t) = v) (hR : R v w) : Post P fn R .ret (mk N σ []) w :=
  leave_nil (by rw [results_tmp hres, getD_mk' hv]) hR
theorem ret2 {t u : Nat} {v x : Value} (hres : fn.results = #[.tmp t, .tmp u]) (hv : ev N σ (.tmp t) = v) (hx : ev N σ (.tmp u) = x) (hR : R (.tuple #[v, x]) w) : Post P fn R .ret (mk N σ []) w :=
  leave_nil (by rw [results_tmp2 hres, getD_mk' hv, getD_mk' hx]) hR
end fns

section calls
variable {r : Option Nat} {P : Program} {ops : Array Oper} {Q : Exit → Act → World → Prop} {N : Nat} {σ : Nat → Value} {ds : List Deferred} {w : World} {rest : List Oper}
variable {ty : TypeId} {pos : String} {after : Array Edge}
theorem ct_in {f : FuncId} {args : Array Value} {R : Ending → World → Prop} (h : CallsIn Fence.wide 0 P f args w R) : CallsIn (FW r) (0 - 1) P f args w R := h
theorem call_step {dst : Option Tmp} {op : Op} {f : FuncId} {vs : List Value} {R : Value → World → Prop} (hnd : ∀ c, op ≠ .defer c) (hrun : (execOp (ev N σ) ⟨dst, op, ty, pos, after, none⟩).run P w = .ok (.enter f vs.toArray) w)
    (hC : Ct P f vs.toArray w R) (h : ∀ v w', R v w' → WL r P ops Q rest ((mk N σ ds).put dst v) w') : WL r P ops Q (⟨dst, op, ty, pos, after, none⟩ :: rest) (mk N σ ds) w := by
  refine wpListIn_plain rfl fun K hK => ?_
  refine ⟨fun f _ => trivial, ?_⟩
  rw [Oper.semAt_plain (FW r) _ _ hnd, eval_mk', hrun]
  simp only [Oper.uponIn_enter]
  refine ⟨fun hd => by simp [Fence.wide] at hd, ?_⟩
  refine ct_in (CallsIn.mono hC ?_)
  rintro e w' ⟨v, rfl, hR⟩
  exact hK _ _ (h v w' hR)
theorem s_call {d : Nat} {f : FuncId} {xs : List Operand} {ats : Array TypeId} {vs : List Value} {R : Value → World → Prop} (hok : CallOK P f) (hargs : xs.map (ev N σ) = vs) (hC : Ct P f vs.toArray w R)
    (h : ∀ v w', R v w' → WL r P ops Q rest (mk N (upd σ d v) ds) w') : WL r P ops Q (⟨some d, .call { callee := .value (.func f), args := xs.toArray, argTypes := ats }, ty, pos, after, none⟩ :: rest) (mk N σ ds) w :=
  call_step (by intro c e; cases e) (by
    subst hargs
    show (callFunc f (#[] ++ xs.toArray.map (ev N σ) ++ #[])).run P w = _
    rw [hok]; simp) hC (fun v w' hR => by rw [put_mk]; exact h v w' hR)
/-- A call of a function value: a closure with what it captured. -/
theorem s_callv {d : Nat} {x : Operand} (hx : ∀ f, x ≠ .func f) {f : FuncId} {caps : List Value} {xs : List Operand} {ats : Array TypeId} {vs : List Value} {R : Value → World → Prop} (hv : ev N σ x = .func (.func f) #[] caps.toArray) (hok : CallOK P f)
    (hargs : xs.map (ev N σ) = vs) (hC : Ct P f (vs ++ caps).toArray w R)
    (h : ∀ v w', R v w' → WL r P ops Q rest (mk N (upd σ d v) ds) w') : WL r P ops Q (⟨some d, .call { callee := .value x, args := xs.toArray, argTypes := ats }, ty, pos, after, none⟩ :: rest) (mk N σ ds) w :=
  call_step (by intro c e; cases e) (by
    subst hargs
    simp [execOp, resolve, hv, Deferred.ofValue, invoke, go_sem]
    exact hok _ _) hC (fun v w' hR => by rw [put_mk]; exact h v w' hR)
end calls
end Go.Proofs.YtkhnohnkcdcajaaDoor.Sal
