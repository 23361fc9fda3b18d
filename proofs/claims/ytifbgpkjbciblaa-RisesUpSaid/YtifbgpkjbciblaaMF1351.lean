/- Texts that YtifbgpkjbciblaaF135 leans on, laid together: Core1 Core2 Core3 Core4 Core5 Core6. -/
import Derived.OwnWalkIn
import Derived.OrdersIn
import Derived.RangeFuncLeaves
import Derived.WalkKit
import Derived.KernelRfl
import Derived.Deep.Upon
section
/- A thin layer over the kit's fenced rules: the frame of a call as a function from slots to values, one explicit lemma an operation. Core1: frames, codes, plain operations. -/
set_option maxRecDepth 100000
namespace Go.Proofs.Ytifbgpkjbciblaa.Sal
set_option linter.all false
open Go.RowKit

/-! ### Frames -/
def upd (σ : Nat → Value) (d : Nat) (v : Value) : Nat → Value := fun t => bif Nat.beq t d then v else σ t
def mk (N : Nat) (σ : Nat → Value) (ds : List Deferred) : Act := { tmps := Array.ofFn (fun i : Fin N => σ i.val), defers := ds }
def ev (N : Nat) (σ : Nat → Value) : Operand → Value
  | .tmp t => bif Nat.blt t N then σ t else undef
  | .const v => v
  | .global g => .pointer (some ⟨g, 0, none⟩)
  | .func f => .func (.func f) #[] #[]

theorem upd_same (σ : Nat → Value) (d : Nat) (v : Value) : upd σ d v d = v := by simp [upd]
theorem upd_other {σ : Nat → Value} {d t : Nat} {v : Value} (h : t ≠ d) : upd σ d v t = σ t := by
  have : Nat.beq t d = false := by cases hb : Nat.beq t d with | false => rfl | true => exact absurd (Nat.eq_of_beq_eq_true hb) h
  simp [upd, this]

theorem getD_mk (N : Nat) (σ : Nat → Value) (t : Nat) : (Array.ofFn (fun i : Fin N => σ i.val)).getD t undef = bif Nat.blt t N then σ t else undef := by
  cases h : Nat.blt t N with
  | true =>
    have hlt : t < N := by rw [Nat.blt_eq] at h; exact h
    simp [Array.getD, hlt]
  | false =>
    have hlt : ¬ t < N := fun hh => by rw [← Nat.blt_eq, h] at hh; cases hh
    simp [Array.getD, hlt]

theorem eval_mk (N : Nat) (σ : Nat → Value) (ds : List Deferred) (x : Operand) : (mk N σ ds).eval x = ev N σ x := by
  cases x with
  | tmp t => exact getD_mk N σ t
  | const v => rfl
  | global g => rfl
  | func f => rfl
theorem eval_mk' (N : Nat) (σ : Nat → Value) (ds : List Deferred) : (mk N σ ds).eval = ev N σ := funext (eval_mk N σ ds)

theorem put_mk (N : Nat) (σ : Nat → Value) (ds : List Deferred) (d : Nat) (v : Value) : (mk N σ ds).put (some d) v = mk N (upd σ d v) ds := by
  unfold mk Act.put
  simp only [Act.mk.injEq, and_true]
  apply Array.ext
  · simp
  · intro i h1 h2
    simp at h1
    by_cases hid : i = d
    · subst hid
      simp [upd]
    · have hdi : d ≠ i := fun e => hid e.symm
      rw [Array.getElem_setIfInBounds_ne (by simpa using h1) hdi]
      simp [upd_other hid]
/-- The slots that a piece of code may write, as bits of a number. -/
def tb (M t : Nat) : Bool := Nat.beq (Nat.land (Nat.shiftRight M t) 1) 1
def mask (M : Nat) (ρ σ : Nat → Value) : Nat → Value := fun t => bif tb M t then ρ t else σ t
def ext : List (Nat × Value) → (Nat → Value) → Nat → Value
  | [], σ => σ
  | (d, v) :: l, σ => upd (ext l σ) d v
def Has (σ : Nat → Value) : List (Nat × Value) → Prop
  | [] => True
  | (d, v) :: l => σ d = v ∧ Has σ l
def Agree (M : Nat) (σ' σ : Nat → Value) : Prop := ∀ t, tb M t = false → σ' t = σ t
theorem agree_refl (M : Nat) (σ : Nat → Value) : Agree M σ σ := fun _ _ => rfl
theorem agree_upd {M : Nat} {σ' σ : Nat → Value} {d : Nat} {v : Value} (hd : tb M d = true) (h : Agree M σ' σ) : Agree M (upd σ' d v) σ := fun t ht => by
  rw [upd_other (fun e => by rw [e, hd] at ht; cases ht)]; exact h t ht
theorem agree_mask {M M' : Nat} {ρ σ' σ : Nat → Value} (hs : Nat.land M' M = M') (h : Agree M σ' σ) : Agree M (mask M' ρ σ') σ := fun t ht => by
  have : tb M' t = false := by
    simp only [tb] at ht ⊢
    have ht' : ¬ (Nat.land (Nat.shiftRight M t) 1 = 1) := fun e => by rw [e] at ht; cases ht
    cases hb : Nat.beq (Nat.land (Nat.shiftRight M' t) 1) 1 with
    | false => rfl
    | true =>
      exfalso
      have hb' := Nat.eq_of_beq_eq_true hb
      apply ht'
      have h1 : M'.testBit t = true := by
        unfold Nat.testBit
        have : 1 &&& (M' >>> t) = 1 := by rw [Nat.and_comm]; exact hb'
        rw [this]; rfl
      have h2 : (M' &&& M).testBit t = true := by
        have e : M' &&& M = M' := hs
        rw [e]; exact h1
      rw [Nat.testBit_and] at h2
      have h3 : M.testBit t = true := by simp at h2; exact h2.2
      unfold Nat.testBit at h3
      have h4 : 1 &&& (M >>> t) = (M >>> t) % 2 := by rw [Nat.and_comm, Nat.and_one_is_mod]
      have h5 : Nat.land (Nat.shiftRight M t) 1 = (M >>> t) % 2 := Nat.and_one_is_mod (M >>> t)
      rw [h5]
      rw [h4] at h3
      have h6 : (M >>> t) % 2 ≠ 0 := by simpa using h3
      omega
  simp [mask, this]
  exact h t ht
theorem agree_ext {M : Nat} {σ' σ : Nat → Value} : ∀ {l : List (Nat × Value)}, (l.all fun p => tb M p.1) = true → Agree M σ' σ → Agree M (ext l σ') σ
  | [], _, h => h
  | (d, v) :: l, hl, h => by
    simp only [List.all_cons, Bool.and_eq_true] at hl
    exact agree_upd hl.1 (agree_ext hl.2 h)
theorem upd_self (σ : Nat → Value) (d : Nat) (v : Value) (h : σ d = v) : upd σ d v = σ := by
  funext t
  by_cases e : t = d
  · subst e; rw [upd_same, h]
  · exact upd_other e
theorem ext_has {σ : Nat → Value} : ∀ {l : List (Nat × Value)}, Has σ l → ext l σ = σ
  | [], _ => rfl
  | (d, v) :: l, h => by
    show upd (ext l σ) d v = σ
    rw [ext_has h.2]; exact upd_self σ d v h.1
theorem mask_self {M : Nat} {σ' σ : Nat → Value} (h : Agree M σ' σ) : mask M σ' σ = σ' := by
  funext t
  simp only [mask]
  cases ht : tb M t with
  | true => rfl
  | false => exact (h t ht).symm

/-! ### Codes -/
abbrev FW (r : Option Nat) : Fence := { Fence.wide with round := r }
abbrev CW (r : Option Nat) (P : Program) (c : Code) (Q : Exit → Act → World → Prop) (a : Act) (w : World) : Prop := c.wpIn (FW r) 0 P Q a w
abbrev WL (r : Option Nat) (P : Program) (ops : Array Oper) (Q : Exit → Act → World → Prop) (l : List Oper) (a : Act) (w : World) : Prop := wpListIn (FW r) 0 P ops Q l a w

section codes
variable {r : Option Nat} {P : Program} {Q : Exit → Act → World → Prop} {a : Act} {w : World}
theorem c_seq {x y : Code} (h : CW r P x (Exit.then (CW r P y Q) Q) a w) : CW r P (.seq x y) Q a w := wpIn_seq h
theorem c_skip (h : Q .normal a w) : CW r P .skip Q a w := wpIn_skip h
theorem c_exit {id : Nat} (h : Q (.exit id) a w) : CW r P (.exit id) Q a w := wpIn_exit h
theorem c_goto {l : Nat} (h : Q (.goto l) a w) : CW r P (.goto l) Q a w := wpIn_goto h
theorem c_label {l : Nat} (h : Q .normal a w) : CW r P (.label l) Q a w := wpIn_label h
theorem c_ret (h : Q .ret a w) : CW r P .ret Q a w := wpIn_ret h
theorem c_block {id : Nat} {c : Code} (h : CW r P c (Exit.inBlock id Q) a w) : CW r P (.block id c) Q a w := wpIn_block h
theorem c_region {id : Nat} {l : List Oper} (h : WL r P l.toArray Q l a w) : CW r P (.region id l.toArray false) Q a w := wpIn_region_lit h
theorem l_nil {ops : Array Oper} (h : Q .normal a w) : WL r P ops Q [] a w := h
theorem c_if {c : Operand} {x y : Code} {t : Bool} {N : Nat} {σ : Nat → Value} {ds : List Deferred} (hc : ev N σ c = .bool t) (ht : t = true → CW r P x Q (mk N σ ds) w)
    (hf : t = false → CW r P y Q (mk N σ ds) w) : CW r P (.cond c x y) Q (mk N σ ds) w := wpIn_cond_split (by rw [eval_mk]; exact hc) ht hf
theorem c_ifd {c : Operand} {x y : Code} {p : Prop} [Decidable p] {N : Nat} {σ : Nat → Value} {ds : List Deferred} (hc : ev N σ c = .bool (decide p)) (ht : p → CW r P x Q (mk N σ ds) w)
    (hf : ¬ p → CW r P y Q (mk N σ ds) w) : CW r P (.cond c x y) Q (mk N σ ds) w := c_if hc (fun h => ht (of_decide_eq_true h)) (fun h => hf (of_decide_eq_false h))
theorem c_ift {c : Operand} {x y : Code} {N : Nat} {σ : Nat → Value} {ds : List Deferred} (hc : ev N σ c = .bool true) (ht : CW r P x Q (mk N σ ds) w) : CW r P (.cond c x y) Q (mk N σ ds) w :=
  c_if hc (fun _ => ht) (fun h => by cases h)
theorem c_iff {c : Operand} {x y : Code} {N : Nat} {σ : Nat → Value} {ds : List Deferred} (hc : ev N σ c = .bool false) (ht : CW r P y Q (mk N σ ds) w) : CW r P (.cond c x y) Q (mk N σ ds) w :=
  c_if hc (fun h => by cases h) (fun _ => ht)
/-- Weaken what is asked behind: the ways meet again at an assertion. -/
theorem c_mono {c : Code} {Q' : Exit → Act → World → Prop} (h : CW r P c Q' a w) (hq : ∀ e a w, Q' e a w → Q e a w) : CW r P c Q a w := wpIn_mono h hq

/-- A LOOP. γ: what a round's head knows; M: the slots that its body may write; vals: those of them whose values are told; Inv: what holds of the world; μ falls. -/
def LoopEnd {γ : Type} (N : Nat) (ds : List Deferred) (M : Nat) (σ : Nat → Value) (vals : γ → List (Nat × Value)) (Inv : γ → World → Prop) (μ : γ → Nat) (x : γ) (a' : Act) (w' : World) : Prop :=
  ∃ x' σ', a' = mk N σ' ds ∧ Agree M σ' σ ∧ Has σ' (vals x') ∧ Inv x' w' ∧ μ x' < μ x
theorem loop_end {γ : Type} {N : Nat} {ds : List Deferred} {M : Nat} {σ σ' : Nat → Value} {vals : γ → List (Nat × Value)} {Inv : γ → World → Prop} {μ : γ → Nat} {x : γ} {w' : World} (x' : γ)
    (ha : Agree M σ' σ) (hv : Has σ' (vals x')) (hi : Inv x' w') (hm : μ x' < μ x) : LoopEnd N ds M σ vals Inv μ x (mk N σ' ds) w' := ⟨x', σ', rfl, ha, hv, hi, hm⟩
theorem c_loop {γ : Type} (M : Nat) (vals : γ → List (Nat × Value)) (Inv : γ → World → Prop) (μ : γ → Nat) {N : Nat} {σ : Nat → Value} {ds : List Deferred} {c : Code} (x₀ : γ)
    (h₀ : Has σ (vals x₀)) (hI : Inv x₀ w)
    (round : ∀ (x : γ) (ρ : Nat → Value) (w : World), Inv x w → CW r P c (Exit.then (LoopEnd N ds M σ vals Inv μ x) Q) (mk N (ext (vals x) (mask M ρ σ)) ds) w) : CW r P (.loop c) Q (mk N σ ds) w := by
  intro b k cs hro hb hr
  have key : ∀ j (x : γ) (σ' : Nat → Value) (w : World), μ x = j → Agree M σ' σ → Has σ' (vals x) → Inv x w →
      ∃ e a' w', Q e a' w' ∧ ArrivesIn (Machine.fenced P (FW r)) P (lone (b.atR (mk N σ' ds) (.code c :: .inLoop c :: k)) cs w) b k cs e a' w' := by
    intro j
    induction j using Nat.strongRecOn with
    | _ j ih =>
      intro x σ' w hn hag hhas hI
      have hrd := round x σ' w hI
      rw [mask_self hag, ext_has hhas] at hrd
      obtain ⟨e, a₁, w₁, hq, harr⟩ := hrd b (.inLoop c :: k) cs hro hb hr
      cases e with
      | normal =>
        obtain ⟨x', σ'', ha, hag', hhas', hI', hlt⟩ := hq
        subst ha
        obtain ⟨e₂, a₂, w₂, hq₂, harr₂⟩ := ih (μ x') (hn ▸ hlt) x' σ'' w₁ rfl hag' hhas' hI'
        exact ⟨e₂, a₂, w₂, hq₂, .of_steps (StepsIn.trans harr (.one (fenced_calm hb hr rfl) stepR_inLoop)) harr₂⟩
      | exit id => exact ⟨_, a₁, w₁, hq, .pass (x := .inLoop c) rfl (fun _ _ => .inl (by simp)) harr⟩
      | goto l => exact ⟨_, a₁, w₁, hq, .pass (x := .inLoop c) rfl (fun _ _ => .inl (by simp)) harr⟩
      | ret => exact ⟨_, a₁, w₁, hq, .pass (x := .inLoop c) rfl (fun _ _ => .inl (by simp)) harr⟩
      | panic ch => exact ⟨_, a₁, w₁, hq, .pass (x := .inLoop c) rfl (fun _ _ => .inl (by simp)) harr⟩
      | outgrown => exact ⟨_, a₁, w₁, hq, .pass (x := .inLoop c) rfl (fun _ _ => .inl (by simp)) harr⟩
  obtain ⟨e, a', w', hq, harr⟩ := key _ x₀ σ w rfl (agree_refl M σ) h₀ hI
  exact ⟨e, a', w', hq, .of_steps (.one (fenced_calm hb hr rfl) stepR_loop) harr⟩
end codes
end Go.Proofs.Ytifbgpkjbciblaa.Sal
end
section
/- Core2: the plain operations, a lemma each. -/
set_option maxRecDepth 100000
namespace Go.Proofs.Ytifbgpkjbciblaa.Sal
set_option linter.all false
open Go.RowKit

section ops
variable {r : Option Nat} {P : Program} {ops : Array Oper} {Q : Exit → Act → World → Prop} {N : Nat} {σ : Nat → Value} {ds : List Deferred} {w : World} {rest : List Oper}
variable {d : Nat} {ty : TypeId} {pos : String} {after : Array Edge}

theorem l_val {op : Op} {v : Value} {w' : World} (hnd : ∀ c, op ≠ .defer c) (hrun : (execOp (ev N σ) ⟨some d, op, ty, pos, after, none⟩).run P w = .ok (.value v) w')
    (h : WL r P ops Q rest (mk N (upd σ d v) ds) w') : WL r P ops Q (⟨some d, op, ty, pos, after, none⟩ :: rest) (mk N σ ds) w := by
  refine wpListIn_plain rfl fun K hK => ?_
  refine ⟨fun f _ => trivial, ?_⟩
  rw [Oper.semAt_plain (FW r) _ _ hnd, eval_mk', hrun]
  simp only [Oper.uponIn_value]
  rw [put_mk]
  exact hK _ _ h
theorem l_eff {op : Op} {w' : World} (hnd : ∀ c, op ≠ .defer c) (hrun : (execOp (ev N σ) ⟨none, op, ty, pos, after, none⟩).run P w = .ok .skip w')
    (h : WL r P ops Q rest (mk N σ ds) w') : WL r P ops Q (⟨none, op, ty, pos, after, none⟩ :: rest) (mk N σ ds) w := by
  refine wpListIn_plain rfl fun K hK => ?_
  refine ⟨fun f _ => trivial, ?_⟩
  rw [Oper.semAt_plain (FW r) _ _ hnd, eval_mk', hrun]
  simp only [Oper.uponIn_skip]
  exact hK _ _ h

/-- A guard: the bool that decides it stands in slot g of the frame. -/
theorem wanted_of {o : Oper} {j g : Nat} {b want : Bool} (hg : o.guard = some (j, want)) (hj : (ops[j]?).bind (·.dst) = some g) (hb : ev N σ (.tmp g) = .bool b) :
    Region.wanted o (yielded ops (mk N σ ds).tmps) = (b == want) := by
  have e : (mk N σ ds).tmps.getD g undef = .bool b := (getD_mk N σ g).trans hb
  have y : yielded ops (mk N σ ds).tmps j = some b := by
    unfold yielded
    rw [hj]
    have e2 : (mk N σ ds).tmps[g]? = some (.bool b) := by
      have h3 := e
      unfold Array.getD at h3
      split at h3
      · rename_i hl
        rw [Array.getElem?_eq_getElem hl]
        exact congrArg some h3
      · exact absurd h3 (by simp [undef])
    simp [e2]
  unfold Region.wanted
  rw [hg]
  simp only [y]
  cases b <;> cases want <;> rfl
theorem g_yes {dst : Option Tmp} {op : Op} {j g : Nat} {want : Bool} (hj : (ops[j]?).bind (·.dst) = some g) (hb : ev N σ (.tmp g) = .bool want)
    (h : WL r P ops Q (⟨dst, op, ty, pos, after, none⟩ :: rest) (mk N σ ds) w) : WL r P ops Q (⟨dst, op, ty, pos, after, some (j, want)⟩ :: rest) (mk N σ ds) w := by
  have hw := wanted_of (ds := ds) (o := ⟨dst, op, ty, pos, after, some (j, want)⟩) rfl hj hb
  show wpListIn _ _ _ _ _ _ _ _
  unfold wpListIn
  rw [hw]
  have h' : wpListIn (FW r) 0 P ops Q (⟨dst, op, ty, pos, after, none⟩ :: rest) (mk N σ ds) w := h
  unfold wpListIn at h'
  simp only [Region.wanted, if_true] at h'
  simp only [beq_self_eq_true, if_true]
  exact h'
theorem g_no {op : Op} {j g : Nat} {want b : Bool} (hj : (ops[j]?).bind (·.dst) = some g) (hb : ev N σ (.tmp g) = .bool b) (hne : (b == want) = false)
    (h : WL r P ops Q rest (mk N (upd σ d undef) ds) w) : WL r P ops Q (⟨some d, op, ty, pos, after, some (j, want)⟩ :: rest) (mk N σ ds) w := by
  have hw := wanted_of (ds := ds) (o := ⟨some d, op, ty, pos, after, some (j, want)⟩) rfl hj hb
  show wpListIn _ _ _ _ _ _ _ _
  unfold wpListIn
  rw [hw, hne]
  simp only [Bool.false_eq_true, if_false]
  refine ⟨fun f _ => trivial, ?_⟩
  rw [put_mk]
  exact h

theorem s_move {x : Operand} (h : WL r P ops Q rest (mk N (upd σ d (ev N σ x)) ds) w) : WL r P ops Q (⟨some d, .move x, ty, pos, after, none⟩ :: rest) (mk N σ ds) w :=
  l_val (by intro c e; cases e) rfl h
theorem s_assign {x : Operand} (h : WL r P ops Q rest (mk N (upd σ d (ev N σ x)) ds) w) : WL r P ops Q (⟨some d, .assign x, ty, pos, after, none⟩ :: rest) (mk N σ ds) w :=
  l_val (by intro c e; cases e) rfl h
theorem s_pick {c x y : Operand} {b : Bool} (hc : ev N σ c = .bool b) (h : WL r P ops Q rest (mk N (upd σ d (if b then ev N σ x else ev N σ y)) ds) w) : WL r P ops Q (⟨some d, .pick c x y, ty, pos, after, none⟩ :: rest) (mk N σ ds) w :=
  l_val (by intro c e; cases e) (by simp [execOp, hc, go_sem]) h
theorem s_pickt {c x y : Operand} {v : Value} (hc : ev N σ c = .bool true) (hx : ev N σ x = v) (h : WL r P ops Q rest (mk N (upd σ d v) ds) w) : WL r P ops Q (⟨some d, .pick c x y, ty, pos, after, none⟩ :: rest) (mk N σ ds) w :=
  s_pick hc (by simpa [hx] using h)
theorem s_pickf {c x y : Operand} {v : Value} (hc : ev N σ c = .bool false) (hx : ev N σ y = v) (h : WL r P ops Q rest (mk N (upd σ d v) ds) w) : WL r P ops Q (⟨some d, .pick c x y, ty, pos, after, none⟩ :: rest) (mk N σ ds) w :=
  s_pick hc (by simpa [hx] using h)
theorem s_not {x : Operand} {t : TypeId} {b : Bool} (hx : ev N σ x = .bool b) (h : WL r P ops Q rest (mk N (upd σ d (.bool !b)) ds) w) : WL r P ops Q (⟨some d, .unOp .not t x, ty, pos, after, none⟩ :: rest) (mk N σ ds) w :=
  l_val (by intro c e; cases e) (by simp [execOp, hx, go_sem, Op.unary]) h
theorem s_extract {x : Operand} {i : Nat} {vs : Array Value} {v : Value} (hx : ev N σ x = .tuple vs) (hi : vs[i]? = some v) (h : WL r P ops Q rest (mk N (upd σ d v) ds) w) : WL r P ops Q (⟨some d, .extract x i, ty, pos, after, none⟩ :: rest) (mk N σ ds) w :=
  l_val (by intro c e; cases e) (by simp [execOp, hx, Instr.extract, hi, go_sem]) h

section bin
variable {t t' : TypeId} {x y : Operand} {k k' : IntKind} {a b : Int}
theorem bin_run {op : BinOp} {u v res : Value} (hx : ev N σ x = u) (hy : ev N σ y = v) (hg : eqGuard op t x y u v = pure ()) (hr : (binOp op t u v).run P w = .ok res w) :
    (execOp (ev N σ) ⟨some d, .binOp op t x y t', ty, pos, after, none⟩).run P w = .ok (.value res) w := by
  simp [execOp, hx, hy, hg, hr, go_sem]
theorem s_addw (hx : ev N σ x = .int k a) (hy : ev N σ y = .int k b) (h : WL r P ops Q rest (mk N (upd σ d (.int k (k.wrap (a + b)))) ds) w) : WL r P ops Q (⟨some d, .binOp .add t x y t', ty, pos, after, none⟩ :: rest) (mk N σ ds) w :=
  l_val (by intro c e; cases e) (bin_run hx hy rfl (by simp [go_sem, Op.intArith])) h
theorem s_subw (hx : ev N σ x = .int k a) (hy : ev N σ y = .int k b) (h : WL r P ops Q rest (mk N (upd σ d (.int k (k.wrap (a - b)))) ds) w) : WL r P ops Q (⟨some d, .binOp .sub t x y t', ty, pos, after, none⟩ :: rest) (mk N σ ds) w :=
  l_val (by intro c e; cases e) (bin_run hx hy rfl (by simp [go_sem, Op.intArith])) h
theorem s_mulw (hx : ev N σ x = .int k a) (hy : ev N σ y = .int k b) (h : WL r P ops Q rest (mk N (upd σ d (.int k (k.wrap (a * b)))) ds) w) : WL r P ops Q (⟨some d, .binOp .mul t x y t', ty, pos, after, none⟩ :: rest) (mk N σ ds) w :=
  l_val (by intro c e; cases e) (bin_run hx hy rfl (by simp [go_sem, Op.intArith])) h
def In64 (n : Int) : Prop := -9223372036854775808 ≤ n ∧ n ≤ 9223372036854775807
theorem wrap_in {n : Int} (h : In64 n) : IntKind.i64.wrap n = n := by
  obtain ⟨h1, h2⟩ := h
  exact IntWalk.i64_in n (by omega)
theorem s_add (hx : ev N σ x = .int .i64 a) (hy : ev N σ y = .int .i64 b) (hr : In64 (a + b)) (h : WL r P ops Q rest (mk N (upd σ d (.int .i64 (a + b))) ds) w) : WL r P ops Q (⟨some d, .binOp .add t x y t', ty, pos, after, none⟩ :: rest) (mk N σ ds) w :=
  s_addw hx hy (by rw [wrap_in hr]; exact h)
theorem s_sub (hx : ev N σ x = .int .i64 a) (hy : ev N σ y = .int .i64 b) (hr : In64 (a - b)) (h : WL r P ops Q rest (mk N (upd σ d (.int .i64 (a - b))) ds) w) : WL r P ops Q (⟨some d, .binOp .sub t x y t', ty, pos, after, none⟩ :: rest) (mk N σ ds) w :=
  s_subw hx hy (by rw [wrap_in hr]; exact h)
/-- A counter: one more. -/
theorem s_inc {n : Nat} (hx : ev N σ x = .int .i64 (n : Int)) (hr : n < 9223372036854775807) (h : WL r P ops Q rest (mk N (upd σ d (.int .i64 ((n + 1 : Nat) : Int))) ds) w) :
    WL r P ops Q (⟨some d, .binOp .add t x (.const (.int .i64 1)) t', ty, pos, after, none⟩ :: rest) (mk N σ ds) w :=
  s_add hx rfl ⟨by omega, by omega⟩ h
theorem s_lss (hx : ev N σ x = .int k a) (hy : ev N σ y = .int k b) (h : WL r P ops Q rest (mk N (upd σ d (.bool (decide (a < b)))) ds) w) : WL r P ops Q (⟨some d, .binOp .lss t x y t', ty, pos, after, none⟩ :: rest) (mk N σ ds) w :=
  l_val (by intro c e; cases e) (bin_run hx hy rfl (by simp [go_sem])) h
theorem s_leq (hx : ev N σ x = .int k a) (hy : ev N σ y = .int k b) (h : WL r P ops Q rest (mk N (upd σ d (.bool (decide (a ≤ b)))) ds) w) : WL r P ops Q (⟨some d, .binOp .leq t x y t', ty, pos, after, none⟩ :: rest) (mk N σ ds) w :=
  l_val (by intro c e; cases e) (bin_run hx hy rfl (by simp [go_sem])) h
theorem s_gtr (hx : ev N σ x = .int k a) (hy : ev N σ y = .int k b) (h : WL r P ops Q rest (mk N (upd σ d (.bool (decide (b < a)))) ds) w) : WL r P ops Q (⟨some d, .binOp .gtr t x y t', ty, pos, after, none⟩ :: rest) (mk N σ ds) w :=
  l_val (by intro c e; cases e) (bin_run hx hy rfl (by simp [go_sem])) h
theorem s_geq (hx : ev N σ x = .int k a) (hy : ev N σ y = .int k b) (h : WL r P ops Q rest (mk N (upd σ d (.bool (decide (b ≤ a)))) ds) w) : WL r P ops Q (⟨some d, .binOp .geq t x y t', ty, pos, after, none⟩ :: rest) (mk N σ ds) w :=
  l_val (by intro c e; cases e) (bin_run hx hy rfl (by simp [go_sem])) h
theorem beq_dec (a b : Int) : (a == b) = decide (a = b) := by by_cases h : a = b <;> simp [h]
theorem s_eql (hx : ev N σ x = .int k a) (hy : ev N σ y = .int k b) (h : WL r P ops Q rest (mk N (upd σ d (.bool (decide (a = b)))) ds) w) : WL r P ops Q (⟨some d, .binOp .eql t x y t', ty, pos, after, none⟩ :: rest) (mk N σ ds) w :=
  l_val (by intro c e; cases e) (bin_run hx hy (by simp [go_sem]) (by simp [go_sem, beq_dec])) h
theorem s_neq (hx : ev N σ x = .int k a) (hy : ev N σ y = .int k b) (h : WL r P ops Q rest (mk N (upd σ d (.bool (decide (a ≠ b)))) ds) w) : WL r P ops Q (⟨some d, .binOp .neq t x y t', ty, pos, after, none⟩ :: rest) (mk N σ ds) w :=
  l_val (by intro c e; cases e) (bin_run hx hy (by simp [go_sem]) (by
    have e : (a != b) = decide (a ≠ b) := by by_cases h : a = b <;> simp [h]
    simp [go_sem, e])) h
theorem s_lssT (hx : ev N σ x = .int k a) (hy : ev N σ y = .int k b) (hp : a < b) (h : WL r P ops Q rest (mk N (upd σ d (.bool true)) ds) w) : WL r P ops Q (⟨some d, .binOp .lss t x y t', ty, pos, after, none⟩ :: rest) (mk N σ ds) w :=
  s_lss hx hy (by rw [decide_eq_true hp]; exact h)
theorem s_lssF (hx : ev N σ x = .int k a) (hy : ev N σ y = .int k b) (hp : ¬ (a < b)) (h : WL r P ops Q rest (mk N (upd σ d (.bool false)) ds) w) : WL r P ops Q (⟨some d, .binOp .lss t x y t', ty, pos, after, none⟩ :: rest) (mk N σ ds) w :=
  s_lss hx hy (by rw [decide_eq_false hp]; exact h)
theorem s_leqT (hx : ev N σ x = .int k a) (hy : ev N σ y = .int k b) (hp : a ≤ b) (h : WL r P ops Q rest (mk N (upd σ d (.bool true)) ds) w) : WL r P ops Q (⟨some d, .binOp .leq t x y t', ty, pos, after, none⟩ :: rest) (mk N σ ds) w :=
  s_leq hx hy (by rw [decide_eq_true hp]; exact h)
theorem s_leqF (hx : ev N σ x = .int k a) (hy : ev N σ y = .int k b) (hp : ¬ (a ≤ b)) (h : WL r P ops Q rest (mk N (upd σ d (.bool false)) ds) w) : WL r P ops Q (⟨some d, .binOp .leq t x y t', ty, pos, after, none⟩ :: rest) (mk N σ ds) w :=
  s_leq hx hy (by rw [decide_eq_false hp]; exact h)
theorem s_gtrT (hx : ev N σ x = .int k a) (hy : ev N σ y = .int k b) (hp : b < a) (h : WL r P ops Q rest (mk N (upd σ d (.bool true)) ds) w) : WL r P ops Q (⟨some d, .binOp .gtr t x y t', ty, pos, after, none⟩ :: rest) (mk N σ ds) w :=
  s_gtr hx hy (by rw [decide_eq_true hp]; exact h)
theorem s_gtrF (hx : ev N σ x = .int k a) (hy : ev N σ y = .int k b) (hp : ¬ (b < a)) (h : WL r P ops Q rest (mk N (upd σ d (.bool false)) ds) w) : WL r P ops Q (⟨some d, .binOp .gtr t x y t', ty, pos, after, none⟩ :: rest) (mk N σ ds) w :=
  s_gtr hx hy (by rw [decide_eq_false hp]; exact h)
theorem s_geqT (hx : ev N σ x = .int k a) (hy : ev N σ y = .int k b) (hp : b ≤ a) (h : WL r P ops Q rest (mk N (upd σ d (.bool true)) ds) w) : WL r P ops Q (⟨some d, .binOp .geq t x y t', ty, pos, after, none⟩ :: rest) (mk N σ ds) w :=
  s_geq hx hy (by rw [decide_eq_true hp]; exact h)
theorem s_geqF (hx : ev N σ x = .int k a) (hy : ev N σ y = .int k b) (hp : ¬ (b ≤ a)) (h : WL r P ops Q rest (mk N (upd σ d (.bool false)) ds) w) : WL r P ops Q (⟨some d, .binOp .geq t x y t', ty, pos, after, none⟩ :: rest) (mk N σ ds) w :=
  s_geq hx hy (by rw [decide_eq_false hp]; exact h)
theorem s_eqlT (hx : ev N σ x = .int k a) (hy : ev N σ y = .int k b) (hp : a = b) (h : WL r P ops Q rest (mk N (upd σ d (.bool true)) ds) w) : WL r P ops Q (⟨some d, .binOp .eql t x y t', ty, pos, after, none⟩ :: rest) (mk N σ ds) w :=
  s_eql hx hy (by rw [decide_eq_true hp]; exact h)
theorem s_eqlF (hx : ev N σ x = .int k a) (hy : ev N σ y = .int k b) (hp : ¬ (a = b)) (h : WL r P ops Q rest (mk N (upd σ d (.bool false)) ds) w) : WL r P ops Q (⟨some d, .binOp .eql t x y t', ty, pos, after, none⟩ :: rest) (mk N σ ds) w :=
  s_eql hx hy (by rw [decide_eq_false hp]; exact h)
theorem s_neqT (hx : ev N σ x = .int k a) (hy : ev N σ y = .int k b) (hp : a ≠ b) (h : WL r P ops Q rest (mk N (upd σ d (.bool true)) ds) w) : WL r P ops Q (⟨some d, .binOp .neq t x y t', ty, pos, after, none⟩ :: rest) (mk N σ ds) w :=
  s_neq hx hy (by rw [decide_eq_true hp]; exact h)
theorem s_neqF (hx : ev N σ x = .int k a) (hy : ev N σ y = .int k b) (hp : ¬ (a ≠ b)) (h : WL r P ops Q rest (mk N (upd σ d (.bool false)) ds) w) : WL r P ops Q (⟨some d, .binOp .neq t x y t', ty, pos, after, none⟩ :: rest) (mk N σ ds) w :=
  s_neq hx hy (by rw [decide_eq_false hp]; exact h)
end bin
end ops
end Go.Proofs.Ytifbgpkjbciblaa.Sal
end
section
/- Core3: functions: their contracts, calls, returns. -/
set_option maxRecDepth 100000
namespace Go.Proofs.Ytifbgpkjbciblaa.Sal
set_option linter.all false
open Go.RowKit

def RE (R : Value → World → Prop) : Ending → World → Prop := fun e w => ∃ v, e = .returned v ∧ R v w
/-- A CONTRACT: called with these values in this world, the function returns, and R holds of what it returns and of the world behind. -/
def Ct (P : Program) (f : FuncId) (args : Array Value) (w : World) (R : Value → World → Prop) : Prop := CallsIn Fence.wide 0 P f args w (RE R)
theorem Ct.mono {P : Program} {f : FuncId} {args : Array Value} {w : World} {R R' : Value → World → Prop} (h : Ct P f args w R) (hr : ∀ v w', R v w' → R' v w') : Ct P f args w R' :=
  CallsIn.mono h fun _ w' he => let ⟨v, hv, hR⟩ := he; ⟨v, hv, hr v w' hR⟩
theorem Ct.calls {P : Program} {f : FuncId} {args : Array Value} {w : World} {R : Value → World → Prop} (h : Ct P f args w R) : Calls P f args w (RE R) := callsIn_wide.1 h

def CallOK (P : Program) (f : FuncId) : Prop := ∀ args w, (callFunc f args).run P w = .ok (.enter f args) w
theorem callOK {P : Program} {f : FuncId} {fn : Func} {c : Code} (hf : P.funcs[f]? = some fn) (hn : (fn.name == "runtime.NumGoroutine") = false) (hb : fn.body = some c) : CallOK P f := by
  intro args w
  unfold callFunc
  simp [program, Sem.run, hf, hb]
  intro h
  rw [h] at hn
  simp at hn

def args0 (vs : List Value) : Nat → Value := fun t => vs.getD t undef

theorem enter_tmps (N : Nat) (vs : List Value) (h : vs.length ≤ N) : ({ tmps := vs.toArray ++ Array.replicate (N - vs.toArray.size) undef, defers := [] } : Act) = mk N (args0 vs) [] := by
  unfold mk
  simp only [Act.mk.injEq, and_true]
  apply Array.ext
  · simp; omega
  · intro i h1 h2
    simp at h1 h2
    by_cases hi : i < vs.length
    · simp [args0, hi]
    · rw [Array.getElem_append_right (by simpa using Nat.le_of_not_lt hi)]
      simp [args0, hi]

theorem vint {k : IntKind} {a b : Int} (h : a = b) : Value.int k a = Value.int k b := by rw [h]
theorem vbool {a b : Bool} (h : a = b) : Value.bool a = Value.bool b := by rw [h]
section ends
variable {K : Act → World → Prop} {Q : Exit → Act → World → Prop} {a : Act} {w : World}
theorem th_norm (h : K a w) : Exit.then K Q .normal a w := h
theorem th_exit {id : Nat} (h : Q (.exit id) a w) : Exit.then K Q (.exit id) a w := h
theorem th_goto {id : Nat} (h : Q (.goto id) a w) : Exit.then K Q (.goto id) a w := h
theorem th_ret (h : Q .ret a w) : Exit.then K Q .ret a w := h
theorem ib_norm {id : Nat} (h : Q .normal a w) : Exit.inBlock id Q .normal a w := h
theorem ib_ret {id : Nat} (h : Q .ret a w) : Exit.inBlock id Q .ret a w := h
theorem ib_goto {id l : Nat} (h : Q (.goto l) a w) : Exit.inBlock id Q (.goto l) a w := h
theorem ib_exit {id : Nat} (h : Q .normal a w) : Exit.inBlock id Q (.exit id) a w := by simp only [Exit.inBlock, if_true]; exact h
end ends
section fns
variable {P : Program} {f : FuncId} {fn : Func} {w : World} {R : Value → World → Prop} {N : Nat} {σ : Nat → Value}
abbrev Post (P : Program) (fn : Func) (R : Value → World → Prop) : Exit → Act → World → Prop := bodyPostM (FW none) 0 P fn (RE R)
theorem enter {c : Code} {vs : List Value} (hf : P.funcs[f]? = some fn) (hb : fn.body = some c) (hN : fn.ntmps = N) (hlen : Nat.ble vs.length N = true)
    (h : CW none P c (Post P fn R) (mk N (args0 vs) []) w) : Ct P f vs.toArray w R := by
  refine callsIn_of_wp_marks (F := Fence.wide) hf hb trivial ?_
  rw [hN, enter_tmps N vs (Nat.le_of_ble_eq_true hlen)]
  exact h
theorem leave_nil {tmps : Array Value} {v : Value} (hr : (results fn tmps).run P w = .ok v w) (hR : R v w) : LeavesInM (FW none) 0 P fn tmps (RE R) [] .returning w := ⟨v, hr, v, rfl, hR⟩
theorem getD_mk' {N : Nat} {σ : Nat → Value} {t : Nat} {v : Value} {ds : List Deferred} (h : ev N σ (.tmp t) = v) : (mk N σ ds).tmps.getD t undef = v := (getD_mk N σ t).trans h
theorem ret0 (hres : fn.results = #[]) (hR : R (.tuple #[]) w) : Post P fn R .ret (mk N σ []) w := leave_nil (results_none hres _ P w) hR
theorem ret1 {t : Nat} {v : Value} (hres : fn.results = #[.tmp t]) (hv : ev N σ (.tmp t) = v) (hR : R v w) : Post P fn R .ret (mk N σ []) w :=
  leave_nil (by rw [results_tmp hres, getD_mk' hv]) hR
theorem ret2 {t u : Nat} {v x : Value} (hres : fn.results = #[.tmp t, .tmp u]) (hv : ev N σ (.tmp t) = v) (hx : ev N σ (.tmp u) = x) (hR : R (.tuple #[v, x]) w) : Post P fn R .ret (mk N σ []) w :=
  leave_nil (by rw [results_tmp2 hres, getD_mk' hv, getD_mk' hx]) hR
theorem results_tmp3' {t u s : Tmp} (h : fn.results = #[.tmp t, .tmp u, .tmp s]) (tmps : Array Value) :
    (results fn tmps).run P w = .ok (.tuple #[tmps.getD t undef, tmps.getD u undef, tmps.getD s undef]) w := by
  simp [results, h]
theorem ret3 {t u s : Nat} {v x y : Value} (hres : fn.results = #[.tmp t, .tmp u, .tmp s]) (hv : ev N σ (.tmp t) = v) (hx : ev N σ (.tmp u) = x) (hy : ev N σ (.tmp s) = y) (hR : R (.tuple #[v, x, y]) w) : Post P fn R .ret (mk N σ []) w :=
  leave_nil (by rw [results_tmp3' hres, getD_mk' hv, getD_mk' hx, getD_mk' hy]) hR
end fns

section calls
variable {r : Option Nat} {P : Program} {ops : Array Oper} {Q : Exit → Act → World → Prop} {N : Nat} {σ : Nat → Value} {ds : List Deferred} {w : World} {rest : List Oper}
variable {ty : TypeId} {pos : String} {after : Array Edge}
theorem ct_in {f : FuncId} {args : Array Value} {R : Ending → World → Prop} (h : CallsIn Fence.wide 0 P f args w R) : CallsIn (FW r) (0 - 1) P f args w R := h
theorem call_step {dst : Option Tmp} {op : Op} {f : FuncId} {vs : List Value} {R : Value → World → Prop} (hnd : ∀ c, op ≠ .defer c) (hrun : (execOp (ev N σ) ⟨dst, op, ty, pos, after, none⟩).run P w = .ok (.enter f vs.toArray) w)
    (hC : Ct P f vs.toArray w R) (h : ∀ v w', R v w' → WL r P ops Q rest ((mk N σ ds).put dst v) w') : WL r P ops Q (⟨dst, op, ty, pos, after, none⟩ :: rest) (mk N σ ds) w := by
  refine wpListIn_plain rfl fun K hK => ?_
  refine ⟨fun f _ => trivial, ?_⟩
  rw [Oper.semAt_plain (FW r) _ _ hnd, eval_mk', hrun]
  simp only [Oper.uponIn_enter]
  refine ⟨fun hd => by simp [Fence.wide] at hd, ?_⟩
  refine ct_in (CallsIn.mono hC ?_)
  rintro e w' ⟨v, rfl, hR⟩
  exact hK _ _ (h v w' hR)
theorem s_call {d : Nat} {f : FuncId} {xs : List Operand} {ats : Array TypeId} {vs : List Value} {R : Value → World → Prop} (hok : CallOK P f) (hargs : xs.map (ev N σ) = vs) (hC : Ct P f vs.toArray w R)
    (h : ∀ v w', R v w' → WL r P ops Q rest (mk N (upd σ d v) ds) w') : WL r P ops Q (⟨some d, .call { callee := .value (.func f), args := xs.toArray, argTypes := ats }, ty, pos, after, none⟩ :: rest) (mk N σ ds) w :=
  call_step (by intro c e; cases e) (by
    subst hargs
    show (callFunc f (#[] ++ xs.toArray.map (ev N σ) ++ #[])).run P w = _
    rw [hok]; simp) hC (fun v w' hR => by rw [put_mk]; exact h v w' hR)
/-- A call of a function value: a closure with what it captured. -/
theorem s_callv {d : Nat} {x : Operand} (hx : ∀ f, x ≠ .func f) {f : FuncId} {caps : List Value} {xs : List Operand} {ats : Array TypeId} {vs : List Value} {R : Value → World → Prop} (hv : ev N σ x = .func (.func f) #[] caps.toArray) (hok : CallOK P f)
    (hargs : xs.map (ev N σ) = vs) (hC : Ct P f (vs ++ caps).toArray w R)
    (h : ∀ v w', R v w' → WL r P ops Q rest (mk N (upd σ d v) ds) w') : WL r P ops Q (⟨some d, .call { callee := .value x, args := xs.toArray, argTypes := ats }, ty, pos, after, none⟩ :: rest) (mk N σ ds) w :=
  call_step (by intro c e; cases e) (by
    subst hargs
    simp [execOp, resolve, hv, Deferred.ofValue, invoke, go_sem]
    exact hok _ _) hC (fun v w' hR => by rw [put_mk]; exact h v w' hR)
end calls
end Go.Proofs.Ytifbgpkjbciblaa.Sal
end
section
/- Core4: memory: slices that read as lists, blocks of the call's own; loads, stores, new blocks. -/
set_option maxRecDepth 100000
namespace Go.Proofs.Ytifbgpkjbciblaa.Sal
set_option linter.all false
open Go.RowKit

/-- Nothing that was there has turned. -/
abbrev Ex (w w' : World) : Prop := Below w.heap.size w w'
theorem Ex.refl (w : World) : Ex w w := Below.refl _ _
theorem Ex.trans {a b c : World} (h : Ex a b) (k : Ex b c) : Ex a c := Below.trans h (Below.mono k h.size)
theorem Ex.cell {w w' : World} {p : Addr} {v : Value} (h : Ex w w') (hc : w.cell? p = some v) : w'.cell? p = some v := (Below.cell h (block_lt_of_cell hc)).trans hc
theorem Ex.of_grown {w w' : World} (h : w.grownBy w' none) : Ex w w' := ⟨h.os, h.tape, h.output, h.size, fun k hk => h.block k hk (by simp)⟩
theorem Ex.grown {w w' : World} (h : Ex w w') : w.grownBy w' none := ⟨h.os, h.tape, h.output, h.size, fun k hk _ => h.block k hk⟩
theorem Ex.alloc (w : World) (o : Obj) : Ex w (w.alloc o) := Ex.of_grown (World.grownBy_alloc w o none)
theorem Ex.drew (w : World) : Ex w w.drew := Below.drew (Ex.refl w)
/-- A store into a block that was not there at the beginning. -/
theorem Ex.store {a w w' : World} {b : Nat} (h : Ex a w) (hg : w.grownBy w' (some b)) (hb : a.heap.size ≤ b) : Ex a w' :=
  Below.grown h hg h.size (fun k e => by cases e; exact hb)
theorem Ex.storeo {a w w' : World} {o : Option Nat} (h : Ex a w) (hg : w.grownBy w' o) (hb : ∀ b, o = some b → a.heap.size ≤ b) : Ex a w' :=
  Below.grown h hg h.size (fun k e => hb k e)

/-- A slice value that reads as a list of one-cell values. -/
def Sl (w : World) (v : Value) (vs : List Value) : Prop := vs.length ≤ 140737488355328 ∧ ∃ a n c, v = .slice a n c ∧ vs.length = n ∧ n ≤ c ∧ ∀ (i : Nat) (u : Value), vs[i]? = some u → ∃ ad, a = some ad ∧ w.cell? (ad.add i) = some u
def Ints (w : World) (v : Value) (l : List Int) : Prop := Sl w v (l.map (Value.int .i64))
def Rows (w : World) (v : Value) (g : List (List Int)) : Prop := ∃ vs, Sl w v vs ∧ vs.length = g.length ∧ ∀ (i : Nat) (u : Value) (l : List Int), vs[i]? = some u → g[i]? = some l → Ints w u l
theorem Sl.ex {w w' : World} {v : Value} {vs : List Value} (h : Sl w v vs) (hx : Ex w w') : Sl w' v vs := by
  obtain ⟨hm, a, n, c, hv, hn, hnc, hc⟩ := h
  exact ⟨hm, a, n, c, hv, hn, hnc, fun i u hi => let ⟨ad, ha, hcell⟩ := hc i u hi; ⟨ad, ha, hx.cell hcell⟩⟩
theorem Ints.ex {w w' : World} {v : Value} {l : List Int} (h : Ints w v l) (hx : Ex w w') : Ints w' v l := Sl.ex h hx
theorem Rows.ex {w w' : World} {v : Value} {g : List (List Int)} (h : Rows w v g) (hx : Ex w w') : Rows w' v g := by
  obtain ⟨vs, hs, hl, hr⟩ := h
  exact ⟨vs, hs.ex hx, hl, fun i u l hi hg => (hr i u l hi hg).ex hx⟩
theorem Ints.sl {w : World} {v : Value} {l : List Int} (h : Ints w v l) : Sl w v (l.map (Value.int .i64)) := h
theorem Sl.ints {w : World} {v : Value} {l : List Int} (h : Sl w v (l.map (Value.int .i64))) : Ints w v l := h
theorem Sl.len {w : World} {v : Value} {vs : List Value} (h : Sl w v vs) : vs.length ≤ 140737488355328 := h.1
theorem Ints.len {w : World} {v : Value} {l : List Int} (h : Ints w v l) : l.length ≤ 140737488355328 := by simpa using Sl.len h
theorem Rows.len {w : World} {v : Value} {g : List (List Int)} (h : Rows w v g) : g.length ≤ 140737488355328 := by obtain ⟨vs, hs, hl, _⟩ := h; rw [← hl]; exact hs.1
theorem Sl.form {w : World} {v : Value} {vs : List Value} (h : Sl w v vs) : ∃ a c, v = .slice a vs.length c := by
  obtain ⟨_, a, n, c, hv, hn, _, _⟩ := h; subst hn; exact ⟨a, c, hv⟩
theorem Ints.form {w : World} {v : Value} {l : List Int} (h : Ints w v l) : ∃ a c, v = .slice a l.length c := by
  obtain ⟨a, c, hv⟩ := Sl.form h; exact ⟨a, c, by simpa using hv⟩
theorem Rows.form {w : World} {v : Value} {g : List (List Int)} (h : Rows w v g) : ∃ a c, v = .slice a g.length c := by
  obtain ⟨vs, hs, hl, _⟩ := h; obtain ⟨a, c, hv⟩ := hs.form; exact ⟨a, c, by rw [← hl]; exact hv⟩
theorem Sl.nil (w : World) : Sl w (.slice none 0 0) [] := ⟨by simp, none, 0, 0, rfl, rfl, Nat.le_refl _, fun i u h => by simp at h⟩
theorem Ints.nil (w : World) : Ints w (.slice none 0 0) [] := Sl.nil w
theorem Rows.nil (w : World) : Rows w (.slice none 0 0) [] := ⟨[], Sl.nil w, rfl, fun i u l h => by simp at h⟩

/-- Block b holds just these cells, and may be written. -/
def At (w : World) (b : Nat) (E : TypeId) (cs : List Value) : Prop := w.heap[b]? = some (.cells cs.toArray E (0, 0))
theorem At.lt {w : World} {b : Nat} {E : TypeId} {cs : List Value} (h : At w b E cs) : b < w.heap.size := (Array.getElem?_eq_some_iff.1 h).1
theorem At.ex {w w' : World} {b : Nat} {E : TypeId} {cs : List Value} (h : At w b E cs) (hx : Ex w w') : At w' b E cs := (hx.block b h.lt).trans h
theorem At.grown {w w' : World} {b : Nat} {E : TypeId} {cs : List Value} {o : Option Nat} (h : At w b E cs) (hg : w.grownBy w' o) (hne : o ≠ some b) : At w' b E cs := (hg.block b h.lt (fun e => hne e.symm)).trans h
theorem At.cell {w : World} {b : Nat} {E : TypeId} {cs : List Value} (h : At w b E cs) (i : Nat) : w.cell? ⟨b, i, none⟩ = cs[i]? := by
  rw [cell_of_row w b i cs.toArray E (0, 0) h]; simp
theorem add_at (b o i : Nat) : (⟨b, o, none⟩ : Addr).add i = ⟨b, o + i, none⟩ := Addr.add_lit b o i
/-- A slice over a block of the call's own reads as its head. -/
theorem At.sl {w : World} {b : Nat} {E : TypeId} {cs : List Value} {n c : Nat} (h : At w b E cs) (hn : n ≤ cs.length) (hm : n ≤ 140737488355328) (hnc : n ≤ c) : Sl w (.slice (some ⟨b, 0, none⟩) n c) (cs.take n) :=
  ⟨by simp; omega, some ⟨b, 0, none⟩, n, c, rfl, by simp [hn], hnc, fun i u hi => ⟨_, rfl, by
    rw [add_at, Nat.zero_add, h.cell]
    rw [List.getElem?_take] at hi
    split at hi
    · exact hi
    · cases hi⟩⟩
theorem At.ints {w : World} {b : Nat} {E : TypeId} {l : List Int} {c : Nat} (h : At w b E (l.map (Value.int .i64))) (hm : l.length ≤ 140737488355328) (hc : l.length ≤ c) : Ints w (.slice (some ⟨b, 0, none⟩) l.length c) l := by
  have := h.sl (n := l.length) (c := c) (by simp) hm hc
  rw [List.take_of_length_le (by simp)] at this
  exact this
theorem At.rows {w : World} {b : Nat} {E : TypeId} {vs : List Value} {g : List (List Int)} {c : Nat} (h : At w b E vs) (hl : vs.length = g.length) (hm : g.length ≤ 140737488355328) (hc : g.length ≤ c) (hr : ∀ (i : Nat) (u : Value) (l : List Int), vs[i]? = some u → g[i]? = some l → Ints w u l) :
    Rows w (.slice (some ⟨b, 0, none⟩) g.length c) g :=
  ⟨vs, by have := h.sl (n := g.length) (c := c) (by omega) hm hc; rwa [List.take_of_length_le (by omega)] at this, hl, hr⟩

/-! ### Types -/
def Ty1 (P : Program) (E : TypeId) : Prop := (∃ i, P.info? E = some i ∧ i.size = 1) ∧ ∃ d, P.underlying E = some d ∧ (match d with | .struct _ | .array _ _ => true | _ => false) = false
def SlT (P : Program) (T E : TypeId) : Prop := P.underlying T = some (.slice E)

section runs
variable {P : Program} {w : World}
theorem run_sizeOf1 {E : TypeId} (h : Ty1 P E) (w : World) : (sizeOf E).run P w = .ok 1 w := by
  obtain ⟨⟨i, hi, hs⟩, _⟩ := h
  simp [sizeOf, typeInfo, hi, hs]
theorem run_isAgg1 {E : TypeId} (h : Ty1 P E) (w : World) : (isAgg E).run P w = .ok false w := by
  obtain ⟨_, d, hd, hn⟩ := h
  unfold isAgg
  simp only [Sem.run_bind, run_underlying hd, Result.andThen_ok]
  cases d <;> simp at hn <;> rfl
theorem run_loadVar1 {E : TypeId} {a : Addr} {u : Value} (h : Ty1 P E) (hc : w.cell? a = some u) : (loadVar E a).run P w = .ok u w := by
  unfold loadVar
  simp only [Sem.run_bind, run_isAgg1 h w, Result.andThen_ok]
  simp [load, Sem.run, hc]
theorem run_storeVar1 {E : TypeId} {a : Addr} {u v : Value} (h : Ty1 P E) (h1 : v.oneCell' = true) (hc : w.cell? a = some u) (hf : w.frozen? a = false) : (storeVar E a v).run P w = .ok () (w.setCell a v) := by
  obtain ⟨⟨i, hi, hs⟩, _⟩ := h
  have hcs : v.cells = #[v] := by cases v <;> first | rfl | (simp [Value.oneCell'] at h1)
  unfold storeVar
  simp only [hcs, Sem.run_bind, sizeOf, typeInfo]
  simp [hi, hs, storeCells]
  cases v <;> first | (simp [Value.oneCell'] at h1; done) | (simp [store, Sem.run, hc, hf, Addr.add_zero'])
end runs

section ops
variable {r : Option Nat} {P : Program} {ops : Array Oper} {Q : Exit → Act → World → Prop} {N : Nat} {σ : Nat → Value} {ds : List Deferred} {w : World} {rest : List Oper}
variable {d d1 d2 : Nat} {ty ty2 : TypeId} {pos pos2 : String} {after after2 : Array Edge} {T E T' : TypeId} {x i y : Operand}

/-- Another spelling of the value that was laid last. -/
theorem s_re {v v' : Value} (he : v = v') (h : WL r P ops Q rest (mk N (upd σ d v') ds) w) : WL r P ops Q rest (mk N (upd σ d v) ds) w := he ▸ h
theorem s_len {a : Option Addr} {n c : Nat} (hT : SlT P T E) (hx : ev N σ x = .slice a n c) (h : WL r P ops Q rest (mk N (upd σ d (.int .i64 (n : Int))) ds) w) :
    WL r P ops Q (⟨some d, .call { callee := .builtin .len, args := #[x], argTypes := #[T] }, ty, pos, after, none⟩ :: rest) (mk N σ ds) w :=
  l_val (by intro c e; cases e) (by
    simp [execOp, resolve, invoke, builtin, Builtin.len_, hx, run_underlying hT, goInt]) h
theorem s_lenS {v : Value} {vs : List Value} (hT : SlT P T E) (hx : ev N σ x = v) (hs : Sl w v vs) (h : WL r P ops Q rest (mk N (upd σ d (.int .i64 (vs.length : Int))) ds) w) :
    WL r P ops Q (⟨some d, .call { callee := .builtin .len, args := #[x], argTypes := #[T] }, ty, pos, after, none⟩ :: rest) (mk N σ ds) w := by
  obtain ⟨a, c, rfl⟩ := hs.form; exact s_len hT hx h
theorem s_lenI {v : Value} {l : List Int} (hT : SlT P T E) (hx : ev N σ x = v) (hs : Ints w v l) (h : WL r P ops Q rest (mk N (upd σ d (.int .i64 (l.length : Int))) ds) w) :
    WL r P ops Q (⟨some d, .call { callee := .builtin .len, args := #[x], argTypes := #[T] }, ty, pos, after, none⟩ :: rest) (mk N σ ds) w := by
  obtain ⟨a, c, rfl⟩ := hs.form; exact s_len hT hx h
theorem s_lenR {v : Value} {g : List (List Int)} (hT : SlT P T E) (hx : ev N σ x = v) (hs : Rows w v g) (h : WL r P ops Q rest (mk N (upd σ d (.int .i64 (g.length : Int))) ds) w) :
    WL r P ops Q (⟨some d, .call { callee := .builtin .len, args := #[x], argTypes := #[T] }, ty, pos, after, none⟩ :: rest) (mk N σ ds) w := by
  obtain ⟨a, c, rfl⟩ := hs.form; exact s_len hT hx h

/-- The address of a slice's element, where the slice reads as a list. -/
theorem s_ia {v u : Value} {vs : List Value} {k : IntKind} {n : Nat} (hT : SlT P T E) (hE : Ty1 P E) (hx : ev N σ x = v) (hi : ev N σ i = .int k (n : Int)) (hs : Sl w v vs) (hn : vs[n]? = some u)
    (h : ∀ ad, w.cell? ad = some u → WL r P ops Q rest (mk N (upd σ d (.pointer (some ad))) ds) w) : WL r P ops Q (⟨some d, .indexAddr T x i, ty, pos, after, none⟩ :: rest) (mk N σ ds) w := by
  obtain ⟨_, a, len, c, rfl, hlen, _, hc⟩ := hs
  obtain ⟨ad, rfl, hcell⟩ := hc n u hn
  have hlt : n < len := by rw [← hlen]; exact (List.getElem?_eq_some_iff.1 hn).1
  refine l_val (v := .pointer (some (ad.add n))) (by intro c e; cases e) ?_ (h _ hcell)
  have hT' : P.underlying T = some (.slice E) := hT
  simp [execOp, hx, hi, Instr.indexAt, asIntOf, run_underlying hT', hlt, run_sizeOf1 hE, go_sem]
theorem s_ld {ad : Addr} {u : Value} (hE : Ty1 P E) (hx : ev N σ x = .pointer (some ad)) (hc : w.cell? ad = some u) (h : WL r P ops Q rest (mk N (upd σ d u) ds) w) :
    WL r P ops Q (⟨some d, .load E x, ty, pos, after, none⟩ :: rest) (mk N σ ds) w :=
  l_val (by intro c e; cases e) (by simp [execOp, hx, Instr.loadAt, Instr.sureAddr, run_loadVar1 hE hc]) h
theorem tmp_upd {v : Value} (hd : Nat.blt d N = true) : ev N (upd σ d v) (.tmp d) = v := by simp [ev, hd, upd_same]
/-- Both: an element read. -/
theorem s_ix {v u : Value} {vs : List Value} {k : IntKind} {n : Nat} (hT : SlT P T E) (hE : Ty1 P E) (hd : Nat.blt d1 N = true) (hx : ev N σ x = v) (hi : ev N σ i = .int k (n : Int)) (hs : Sl w v vs) (hn : vs[n]? = some u)
    (h : ∀ pv, WL r P ops Q rest (mk N (upd (upd σ d1 pv) d2 u) ds) w) :
    WL r P ops Q (⟨some d1, .indexAddr T x i, ty, pos, after, none⟩ :: ⟨some d2, .load E (.tmp d1), ty2, pos2, after2, none⟩ :: rest) (mk N σ ds) w :=
  s_ia hT hE hx hi hs hn fun _ hc => s_ld hE (tmp_upd hd) hc (h _)
theorem s_ixI {v : Value} {l : List Int} {k : IntKind} {n : Nat} (hT : SlT P T E) (hE : Ty1 P E) (hd : Nat.blt d1 N = true) (hx : ev N σ x = v) (hi : ev N σ i = .int k (n : Int)) (hs : Ints w v l) (hn : n < l.length)
    (h : ∀ pv, WL r P ops Q rest (mk N (upd (upd σ d1 pv) d2 (.int .i64 (l.getD n 0))) ds) w) :
    WL r P ops Q (⟨some d1, .indexAddr T x i, ty, pos, after, none⟩ :: ⟨some d2, .load E (.tmp d1), ty2, pos2, after2, none⟩ :: rest) (mk N σ ds) w :=
  s_ix hT hE hd hx hi hs (by simp [hn]) h
theorem Rows.row {w : World} {v : Value} {g : List (List Int)} (h : Rows w v g) {n : Nat} (hn : n < g.length) : ∃ vs u, Sl w v vs ∧ vs[n]? = some u ∧ Ints w u (g.getD n []) := by
  obtain ⟨vs, hs, hl, hr⟩ := h
  have hn' : n < vs.length := by omega
  exact ⟨vs, vs[n], hs, by simp [hn'], hr n _ _ (by simp [hn']) (by simp [hn])⟩
theorem s_ixR {v : Value} {g : List (List Int)} {k : IntKind} {n : Nat} (hT : SlT P T E) (hE : Ty1 P E) (hd : Nat.blt d1 N = true) (hx : ev N σ x = v) (hi : ev N σ i = .int k (n : Int)) (hs : Rows w v g) (hn : n < g.length)
    (h : ∀ pv u, Ints w u (g.getD n []) → WL r P ops Q rest (mk N (upd (upd σ d1 pv) d2 u) ds) w) :
    WL r P ops Q (⟨some d1, .indexAddr T x i, ty, pos, after, none⟩ :: ⟨some d2, .load E (.tmp d1), ty2, pos2, after2, none⟩ :: rest) (mk N σ ds) w := by
  obtain ⟨vs, u, hs', hu, hI⟩ := hs.row hn
  exact s_ix hT hE hd hx hi hs' hu fun pv => h pv u hI

/-! ### Blocks of the call's own -/
theorem s_iaA {b len c : Nat} {k : IntKind} {n : Nat} (hT : SlT P T E) (hE : Ty1 P E) (hx : ev N σ x = .slice (some ⟨b, 0, none⟩) len c) (hi : ev N σ i = .int k (n : Int)) (hn : n < len)
    (h : WL r P ops Q rest (mk N (upd σ d (.pointer (some ⟨b, n, none⟩))) ds) w) : WL r P ops Q (⟨some d, .indexAddr T x i, ty, pos, after, none⟩ :: rest) (mk N σ ds) w := by
  refine l_val (v := .pointer (some ⟨b, n, none⟩)) (by intro c e; cases e) ?_ h
  have hT' : P.underlying T = some (.slice E) := hT
  simp [execOp, hx, hi, Instr.indexAt, asIntOf, run_underlying hT', hn, run_sizeOf1 hE, go_sem]
/-- The address of an array's element. -/
theorem s_iaV {b L : Nat} {k : IntKind} {n : Nat} (hT : P.underlying T = some (.array L E)) (hE : Ty1 P E) (hx : ev N σ x = .pointer (some ⟨b, 0, none⟩)) (hi : ev N σ i = .int k (n : Int)) (hn : n < L)
    (h : WL r P ops Q rest (mk N (upd σ d (.pointer (some ⟨b, n, none⟩))) ds) w) : WL r P ops Q (⟨some d, .indexAddr T x i, ty, pos, after, none⟩ :: rest) (mk N σ ds) w := by
  refine l_val (v := .pointer (some ⟨b, n, none⟩)) (by intro c e; cases e) ?_ h
  simp [execOp, hx, hi, Instr.indexAt, Instr.sureAddr, asIntOf, run_underlying hT, hn, run_sizeOf1 hE, go_sem]
theorem s_ldA {b n : Nat} {B : TypeId} {cs : List Value} {u : Value} (hE : Ty1 P E) (hx : ev N σ x = .pointer (some ⟨b, n, none⟩)) (hA : At w b B cs) (hc : cs[n]? = some u) (h : WL r P ops Q rest (mk N (upd σ d u) ds) w) :
    WL r P ops Q (⟨some d, .load E x, ty, pos, after, none⟩ :: rest) (mk N σ ds) w := s_ld hE hx (by rw [hA.cell]; exact hc) h
theorem set_heap {w : World} {b n : Nat} {B : TypeId} {cs : List Value} (u : Value) (hA : At w b B cs) : At (w.setCell ⟨b, n, none⟩ u) b B (cs.set n u) := by
  unfold At
  rw [heap_setCell_same w b n cs.toArray B u hA]
  simp
theorem grown_setCell (w : World) (a : Addr) (u : Value) : w.grownBy (w.setCell a u) (some a.block) :=
  ⟨rfl, rfl, rfl, by simp [World.setCell], fun k _ hne => heap_setCell_other w a k u (fun e => hne (by rw [e]))⟩
theorem s_stA {b n : Nat} {B : TypeId} {cs : List Value} {u : Value} (hE : Ty1 P E) (hx : ev N σ x = .pointer (some ⟨b, n, none⟩)) (hy : ev N σ y = u) (hu : u.oneCell' = true) (hA : At w b B cs) (hn : n < cs.length)
    (h : ∀ w', At w' b B (cs.set n u) → w.grownBy w' (some b) → WL r P ops Q rest (mk N σ ds) w') :
    WL r P ops Q (⟨none, .store E x y, ty, pos, after, none⟩ :: rest) (mk N σ ds) w := by
  have hc : w.cell? ⟨b, n, none⟩ = some cs[n] := by rw [hA.cell]; simp [hn]
  refine l_eff (w' := w.setCell ⟨b, n, none⟩ u) (by intro c e; cases e) ?_ (h _ (set_heap u hA) (grown_setCell w ⟨b, n, none⟩ u))
  simp [execOp, hx, hy, Instr.storeAt, Instr.sureAddr, run_storeVar1 hE hu hc (frozen_of_row w b n cs.toArray B hA)]

theorem at_new (w : World) (cs : List Value) (E : TypeId) : At (w.alloc (.cells cs.toArray E)) w.heap.size E cs := heap_alloc_new w _
theorem size_new (w : World) (o : Obj) : (w.alloc o).heap.size = w.heap.size + 1 := by simp
/-- A new variable with its zero value. -/
theorem s_alloc {ti : TypeInfo} {z : Value} {cs : List Value} (hi : P.info? E = some ti) (hz : ti.zero = some z) (hcs : z.cells = cs.toArray)
    (h : ∀ b w', b = w.heap.size → At w' b E cs → Ex w w' → w'.heap.size = b + 1 → WL r P ops Q rest (mk N (upd σ d (.pointer (some ⟨b, 0, none⟩))) ds) w') :
    WL r P ops Q (⟨some d, .alloc E, ty, pos, after, none⟩ :: rest) (mk N σ ds) w := by
  refine l_val (v := .pointer (some ⟨w.heap.size, 0, none⟩)) (w' := w.alloc (.cells cs.toArray E)) (by intro c e; cases e) ?_ (h _ _ rfl (at_new w cs E) (Ex.alloc w _) (size_new w _))
  simp [execOp, Instr.alloc, zeroValue, typeInfo, hi, hz, newVar, newRow, hcs]
theorem s_box {v : Value} {cs : List Value} (hx : ev N σ x = v) (hcs : v.cells = cs.toArray)
    (h : ∀ b w', b = w.heap.size → At w' b E cs → Ex w w' → w'.heap.size = b + 1 → WL r P ops Q rest (mk N (upd σ d (.pointer (some ⟨b, 0, none⟩))) ds) w') :
    WL r P ops Q (⟨some d, .box E x, ty, pos, after, none⟩ :: rest) (mk N σ ds) w := by
  refine l_val (v := .pointer (some ⟨w.heap.size, 0, none⟩)) (w' := w.alloc (.cells cs.toArray E)) (by intro c e; cases e) ?_ (h _ _ rfl (at_new w cs E) (Ex.alloc w _) (size_new w _))
  simp [execOp, hx, Instr.box, newVar, newRow, hcs]
theorem s_mkfn {f : FuncId} {caps : List Operand} {vs : List Value} (hc : caps.map (ev N σ) = vs) (h : WL r P ops Q rest (mk N (upd σ d (.func (.func f) #[] vs.toArray)) ds) w) :
    WL r P ops Q (⟨some d, .makeFunc (.func f) #[] caps.toArray, ty, pos, after, none⟩ :: rest) (mk N σ ds) w :=
  l_val (by intro c e; cases e) (by subst hc; simp [execOp, Instr.makeFunc]) h
/-- make([]T, n). -/
theorem s_make {ti : TypeInfo} {z : Value} {n : Nat} (hT : SlT P T E) (hi : P.info? E = some ti) (hz : ti.zero = some z) (hs : ti.size = 1) (hzc : z.cells = #[z]) (hb : ti.bytes ≤ 64) (hx : ev N σ x = .int .i64 (n : Int)) (hn : n ≤ 1000000)
    (h : ∀ b w', b = w.heap.size → At w' b E (List.replicate n z) → Ex w w' → w'.heap.size = b + 1 → WL r P ops Q rest (mk N (upd σ d (.slice (some ⟨b, 0, none⟩) n n)) ds) w') :
    WL r P ops Q (⟨some d, .makeSlice T x x, ty, pos, after, none⟩ :: rest) (mk N σ ds) w := by
  have hbytes : (ti.bytes : Int) * (n : Int) ≤ 281474976710656 := by
    have h1 : ti.bytes * n ≤ 64 * 1000000 := Nat.mul_le_mul hb hn
    have h2 : ((ti.bytes * n : Nat) : Int) ≤ 64000000 := by omega
    rw [Int.natCast_mul] at h2; omega
  have hr := run_make (P := P) w T E ti z hT hi hz .i64 .i64 n n (by omega) (by omega) hbytes (by omega)
  have hm : madeCells z.cells ((n : Int).toNat * ti.size) = (List.replicate n z).toArray := by
    rw [hs, hzc]; simp [madeCells]
    apply Array.ext
    · simp
    · intro j h1 h2; simp [Nat.mod_one]
  rw [hm] at hr
  simp only [Int.toNat_natCast] at hr
  refine l_val (w' := w.alloc (.cells (List.replicate n z).toArray E)) (by intro c e; cases e) ?_ (h _ _ rfl (at_new w _ E) (Ex.alloc w _) (size_new w _))
  simp [execOp, hx, hr]
end ops
end Go.Proofs.Ytifbgpkjbciblaa.Sal
end
section
/- Core5: append, slices of slices, arrays, literals of slices. -/
set_option maxRecDepth 100000
namespace Go.Proofs.Ytifbgpkjbciblaa.Sal
set_option linter.all false
open Go.RowKit

/-- A slice of the call's own, to which more may be put. -/
def Rw (w : World) (E : TypeId) (v : Value) (vs : List Value) : Prop := w.ownsRow 0 E 1 v vs.length vs
theorem Rw.nil (w : World) (E : TypeId) : Rw w E (.slice none 0 0) [] := World.ownsRow_nil w 0 E 1
theorem Rw.form {w : World} {E : TypeId} {v : Value} {vs : List Value} (h : Rw w E v vs) : (v = .slice none 0 0 ∧ vs = []) ∨ ∃ b cap sp, v = .slice (some ⟨b, 0, none⟩) vs.length cap ∧ At w b E (vs ++ sp) ∧ vs.length ≤ cap := by
  obtain ⟨h1, h2⟩ := h
  rcases h2 with ⟨hv, hn⟩ | ⟨g, cap, cur, hv, _, hh, hc, _, hcs, ht⟩
  · exact .inl ⟨hv, List.eq_nil_of_length_eq_zero hn⟩
  · refine .inr ⟨g, cap, cur.toList.drop vs.length, hv, ?_, hc⟩
    unfold At
    rw [hh]
    rw [Nat.mul_one] at ht
    have : vs ++ cur.toList.drop vs.length = cur.toList := by
      conv => lhs; lhs; rw [← ht]
      exact List.take_append_drop _ _
    rw [this]
theorem Rw.slen {w : World} {E : TypeId} {v : Value} {vs : List Value} (h : Rw w E v vs) : ∃ a c, v = .slice a vs.length c := by
  rcases h.form with ⟨hv, rfl⟩ | ⟨b, cap, sp, hv, _⟩
  · exact ⟨none, 0, hv⟩
  · exact ⟨_, _, hv⟩
theorem Rw.sl {w : World} {E : TypeId} {v : Value} {vs : List Value} (h : Rw w E v vs) (hm : vs.length ≤ 140737488355328) : Sl w v vs := by
  rcases h.form with ⟨rfl, rfl⟩ | ⟨b, cap, sp, rfl, hA, hc⟩
  · exact Sl.nil w
  · have := hA.sl (n := vs.length) (c := cap) (by simp) hm hc
    rwa [List.take_left] at this
theorem Rw.ints {w : World} {E : TypeId} {v : Value} {l : List Int} (h : Rw w E v (l.map (Value.int .i64))) (hm : l.length ≤ 140737488355328) : Ints w v l := Rw.sl h (by simpa using hm)
theorem Rw.kept {w w' : World} {E : TypeId} {v : Value} {vs : List Value} {o : Option Nat} (h : Rw w E v vs) (hg : w.grownBy w' o) (hne : v.ownBlock = none ∨ v.ownBlock ≠ o) : Rw w' E v vs := World.ownsRow.kept h hg hne
theorem Rw.ex {w w' : World} {E : TypeId} {v : Value} {vs : List Value} (h : Rw w E v vs) (hx : Ex w w') : Rw w' E v vs := h.kept hx.grown (by cases hv : v.ownBlock <;> simp)
theorem Rw.lt {w : World} {E : TypeId} {v : Value} {vs : List Value} (h : Rw w E v vs) : ∀ k, v.ownBlock = some k → k < w.heap.size := fun k hk => (World.ownsRow.lt h k hk).2
theorem At.rw {w : World} {b : Nat} {E : TypeId} {cs : List Value} {n c : Nat} (h : At w b E cs) (hl : cs.length = c) (hn : n ≤ c) (hc : c ≤ 9223372036854775807) : Rw w E (.slice (some ⟨b, 0, none⟩) n c) (cs.take n) := by
  have hl' : (cs.take n).length = n := by simp; omega
  unfold Rw
  rw [hl']
  exact ⟨by simp; omega, .inr ⟨b, c, cs.toArray, rfl, Nat.zero_le _, h, hn, by simp [maxLen]; omega, by simp [hl], by simp⟩⟩
theorem ownBlock_slice (b o n c : Nat) : (Value.slice (some ⟨b, o, none⟩) n c).ownBlock = some b := rfl

section shapes
variable {r : Option Nat} {P : Program} {ops : Array Oper} {Q : Exit → Act → World → Prop} {a : Act} {w : World} {rest : List Oper} {o : Oper} {c : Code}
theorem isC (h : CW r P c Q a w) : CW r P c Q a w := h
theorem isO (h : WL r P ops Q (o :: rest) a w) : WL r P ops Q (o :: rest) a w := h
theorem isG {d : Option Tmp} {op : Op} {ty : TypeId} {pos : String} {after : Array Edge} {j : Nat} {b : Bool} (h : WL r P ops Q (⟨d, op, ty, pos, after, some (j, b)⟩ :: rest) a w) : WL r P ops Q (⟨d, op, ty, pos, after, some (j, b)⟩ :: rest) a w := h
theorem isBin {d : Option Tmp} {op : BinOp} {x y : Operand} {t t' ty : TypeId} {pos : String} {after : Array Edge} (h : WL r P ops Q (⟨d, .binOp op t x y t', ty, pos, after, none⟩ :: rest) a w) : WL r P ops Q (⟨d, .binOp op t x y t', ty, pos, after, none⟩ :: rest) a w := h
theorem isCall {d : Option Tmp} {cl : Call} {ty : TypeId} {pos : String} {after : Array Edge} (h : WL r P ops Q (⟨d, .call cl, ty, pos, after, none⟩ :: rest) a w) : WL r P ops Q (⟨d, .call cl, ty, pos, after, none⟩ :: rest) a w := h
theorem isIA {d : Option Tmp} {x y : Operand} {t ty : TypeId} {pos : String} {after : Array Edge} (h : WL r P ops Q (⟨d, .indexAddr t x y, ty, pos, after, none⟩ :: rest) a w) : WL r P ops Q (⟨d, .indexAddr t x y, ty, pos, after, none⟩ :: rest) a w := h
theorem isPick {d : Option Tmp} {x y z : Operand} {ty : TypeId} {pos : String} {after : Array Edge} (h : WL r P ops Q (⟨d, .pick x y z, ty, pos, after, none⟩ :: rest) a w) : WL r P ops Q (⟨d, .pick x y z, ty, pos, after, none⟩ :: rest) a w := h
theorem isLD {d : Option Tmp} {x : Operand} {t ty : TypeId} {pos : String} {after : Array Edge} (h : WL r P ops Q (⟨d, .load t x, ty, pos, after, none⟩ :: rest) a w) : WL r P ops Q (⟨d, .load t x, ty, pos, after, none⟩ :: rest) a w := h
/-- A region and what follows it, in one step. -/
theorem c_sr {id : Nat} {l : List Oper} {y : Code} (h : WL r P l.toArray (Exit.then (CW r P y Q) Q) l a w) : CW r P (.seq (.region id l.toArray false) y) Q a w := c_seq (c_region h)
theorem l_th {K : Act → World → Prop} (h : K a w) : WL r P ops (Exit.then K Q) [] a w := h
theorem c_th {K : Act → World → Prop} (h : K a w) : CW r P .skip (Exit.then K Q) a w := c_skip h
end shapes
section runs
variable {P : Program} {w : World}
theorem Sl.src {tx e' : TypeId} {xv : Value} {news : List Value} (hk : P.underlying tx = some (.slice e')) (h : Sl w xv news) (h1 : ∀ u ∈ news, u.oneCell' = true) : Src P 1 tx xv news.length news w := by
  obtain ⟨_, a, n, c, rfl, hn, hnc, hc⟩ := h
  subst hn
  cases a with
  | none =>
    have : news = [] := by
      cases news with
      | nil => rfl
      | cons u l => obtain ⟨ad, h, _⟩ := hc 0 u rfl; cases h
    subst this
    exact Src.ofNil w hk c
  | some ad =>
    refine Src.ofSlice w hk ad news.length c news (by simp) (fun j u hj => ?_) h1
    obtain ⟨ad', h, hcell⟩ := hc j u hj
    cases h; exact hcell
/-- append(s, x...): s a row of the call's own, x whatever reads as a list. -/
theorem run_app {T E : TypeId} {ti : TypeInfo} {z v xv : Value} {vs news : List Value} {ty : TypeId} (hT : SlT P T E) (hi : P.info? E = some ti) (hz : ti.zero = some z) (hs : ti.size = 1) (hzc : z.cells = #[z]) (hb : ti.bytes ≤ 64)
    (hv : Rw w E v vs) (hx : Sl w xv news) (h1 : ∀ u ∈ news, u.oneCell' = true) (hbytes : (vs.length + news.length) * 64 ≤ 140737488355328) :
    ∃ v' w', (Builtin.append_ #[T, T] ty #[v, xv]).run P w = .ok v' w' ∧ Rw w' E v' (vs ++ news) ∧ w.grownBy w' v.ownBlock ∧ (v'.ownBlock = v.ownBlock ∨ ∀ b, v'.ownBlock = some b → w.heap.size ≤ b) := by
  have hT' : P.underlying T = some (.slice E) := hT
  have hsrc := hx.src (P := P) (tx := T) hT' h1
  have hsrc' : Src P ti.size T xv news.length news w := by rw [hs]; exact hsrc
  have hm : vs.length + news.length ≤ 140737488355328 := by omega
  have hbytes' : (vs.length + news.length) * ti.bytes ≤ 140737488355328 := Nat.le_trans (Nat.mul_le_mul_left _ hb) hbytes
  by_cases hn0 : news = []
  · subst hn0
    obtain ⟨a, c, hvf⟩ := hv.slen
    have hle : vs.length ≤ c := by
      rcases hv.form with ⟨h, rfl⟩ | ⟨b, cap, sp, h, _, hc⟩
      · rw [hvf] at h; cases h; simp
      · rw [hvf] at h; cases h; exact hc
    refine ⟨v, w, ?_, by simpa using hv, ⟨rfl, rfl, rfl, Nat.le_refl _, fun _ _ _ => rfl⟩, .inl rfl⟩
    rw [hvf]
    exact run_append_nothing w T T ty E ti hT' hi a vs.length c hle xv hsrc'
  · have hnp : 0 < news.length := List.length_pos_iff.2 hn0
    have grow : ∀ (base : Option Addr) (cap : Nat), v = .slice base vs.length cap → (Builtin.firstCells ti.size vs.length (.slice base vs.length cap)).run P w.drew = .ok vs.toArray w.drew → cap < vs.length + news.length →
        ∃ v' w', (Builtin.append_ #[T, T] ty #[v, xv]).run P w = .ok v' w' ∧ Rw w' E v' (vs ++ news) ∧ w.grownBy w' v.ownBlock ∧ (v'.ownBlock = v.ownBlock ∨ ∀ b, v'.ownBlock = some b → w.heap.size ≤ b) := by
      intro base cap hvf hold hcap
      have hr := run_append_grow_src (P := P) w T T ty E ti z hT' hi hz base vs.length cap vs hold xv news.length news hsrc' hcap (by omega) (growslice_fits hcap hbytes')
      have hge := grownCap_ge w (vs.length + news.length) cap E
      have hcm := grownCap_le_maxLen w (vs.length + news.length) cap E (by simp only [maxLen]; omega)
      rw [← hvf] at hr
      have hgr : ∀ o, w.grownBy (w.drew.alloc o) v.ownBlock := fun o => ⟨rfl, rfl, rfl, by simp, fun k hk _ => heap_alloc_old w.drew o hk⟩
      have hown : ∀ (cs : Array Value), cs.size = grownCap w (vs.length + news.length) cap E → cs.toList.take (vs ++ news).length = vs ++ news →
          Rw (w.drew.alloc (.cells cs E)) E (.slice (some ⟨w.heap.size, 0, none⟩) (vs.length + news.length) (grownCap w (vs.length + news.length) cap E)) (vs ++ news) := fun cs hcs ht => by
        unfold Rw
        rw [List.length_append]
        exact ⟨by simp, .inr ⟨w.heap.size, _, cs, rfl, Nat.zero_le _, heap_alloc_new w.drew _, hge, hcm, by rw [hcs, Nat.mul_one], by rw [Nat.mul_one, ← List.length_append]; exact ht⟩⟩
      refine ⟨_, _, hr, hown _ ?_ ?_, hgr _, .inr fun b hb => ?_⟩
      · simp [size_zeroCells, hzc]; omega
      · simp
        rw [← List.length_append, ← List.append_assoc, List.take_left]
      · rw [ownBlock_slice] at hb; cases hb; exact Nat.le_refl _
    rcases hv.form with ⟨hvf, hvs⟩ | ⟨b, cap, sp, hvf, hA, hc⟩
    · subst hvs
      exact grow none 0 hvf (by simp [Builtin.firstCells]) (by simp; omega)
    · by_cases hroom : vs.length + news.length ≤ cap
      · have hown := hv
        unfold Rw at hown
        rw [hvf] at hown
        obtain ⟨_, a, n, c, rfl, hn, hnc, hcell⟩ := hx
        cases a with
        | none =>
          exfalso
          cases news with
          | nil => exact hn0 rfl
          | cons u l => obtain ⟨ad, h, _⟩ := hcell 0 u rfl; cases h
        | some ad =>
          subst hn
          have hnews : ∀ (j : Nat) (u : Value), news[j]? = some u → w.cell? (ad.add j) = some u := fun j u hj => by
            obtain ⟨ad', h, hc'⟩ := hcell j u hj; cases h; exact hc'
          obtain ⟨w', hrun, hown', hg⟩ := run_append_fits (P := P) w 0 T ty E ti 1 hT' hi hs b vs.length cap vs hown ad news.length c news (by simp) hnews h1 hroom
          subst hvf
          exact ⟨_, _, hrun, by unfold Rw; rw [List.length_append]; exact hown', hg, .inl rfl⟩
      · refine grow (some ⟨b, 0, none⟩) cap hvf ?_ (by omega)
        refine run_firstCells_some w.drew ti.size vs.length ⟨b, 0, none⟩ vs.length cap vs (by rw [hs]; simp) (fun j u hj => ?_)
        have : w.cell? ⟨b, j, none⟩ = some u := by
          rw [hA.cell, List.getElem?_append_left (List.getElem?_eq_some_iff.1 hj).1]; exact hj
        rw [add_at, Nat.zero_add]
        exact this
/-- What slicing a slice gives. -/
theorem run_slice {T E : TypeId} {a : Option Addr} {n c lo hi : Nat} (hT : SlT P T E) (hE : Ty1 P E) (h1 : lo ≤ hi) (h2 : hi ≤ c) (l h : Option Value)
    (hl : (∃ k, l = some (.int k (lo : Int))) ∨ (l = none ∧ lo = 0)) (hh : (∃ k, h = some (.int k (hi : Int))) ∨ (h = none ∧ hi = n)) :
    (Instr.sliceAt T (.slice a n c) l h none).run P w = .ok (.slice (if c = lo then a else a.map (·.add lo)) (hi - lo) (c - lo)) w := by
  have hT' : P.underlying T = some (.slice E) := hT
  have b1 : ∀ (k : IntKind) (x y : Nat) (code : BoundsCode), x ≤ y → (Instr.sliceBound (.int k (x : Int)) y code).run P w = .ok x w := fun k x y code hxy => by
    simp [Instr.sliceBound, asIntOf, go_sem]; omega
  have bds : (Instr.sliceBounds true n c l h none).run P w = .ok (lo, hi, c) w := by
    rcases hl with ⟨k, rfl⟩ | ⟨rfl, rfl⟩ <;> rcases hh with ⟨k', rfl⟩ | ⟨rfl, rfl⟩ <;>
      simp [Instr.sliceBounds, Sem.run_bind, b1 _ _ _ _ h1, b1 _ _ _ _ h2, Result.andThen]
  simp [Instr.sliceAt, Instr.slice, run_underlying hT', bds, run_sizeOf1 hE, Sem.run_bind]
theorem Sl.slice {a : Option Addr} {n c lo hi : Nat} {vs : List Value} (h : Sl w (.slice a n c) vs) (h1 : lo ≤ hi) (h2 : hi ≤ n) : Sl w (.slice (if c = lo then a else a.map (·.add lo)) (hi - lo) (c - lo)) ((vs.drop lo).take (hi - lo)) := by
  obtain ⟨hm, a', n', c', hv, hn, hnc, hc⟩ := h
  cases hv
  refine ⟨by simp; omega, _, _, _, rfl, by simp; omega, by omega, fun i u hi' => ?_⟩
  rw [List.getElem?_take] at hi'
  split at hi'
  · rename_i hlt
    rw [List.getElem?_drop] at hi'
    obtain ⟨ad, rfl, hcell⟩ := hc (lo + i) u hi'
    have hne : ¬ c = lo := by omega
    refine ⟨ad.add lo, by simp [hne], ?_⟩
    have e : (ad.add lo).add i = ad.add (lo + i) := by
      unfold Addr.add
      by_cases h0 : lo = 0
      · simp [h0]
      · by_cases h3 : i = 0
        · simp [h0, h3]
        · simp [h0, h3, Nat.add_assoc]
    rw [e]; exact hcell
  · cases hi'
end runs

section ops
variable {r : Option Nat} {P : Program} {ops : Array Oper} {Q : Exit → Act → World → Prop} {N : Nat} {σ : Nat → Value} {ds : List Deferred} {w : World} {rest : List Oper}
variable {d d1 d2 : Nat} {ty ty2 : TypeId} {pos pos2 : String} {after after2 : Array Edge} {T E T' : TypeId} {x i y : Operand}
structure InfoOf (P : Program) (E : TypeId) (z : Value) : Prop where
  ex : ∃ ti, P.info? E = some ti ∧ ti.zero = some z ∧ ti.size = 1 ∧ ti.bytes ≤ 64
  one : z.cells = #[z]
theorem s_app {z v xv : Value} {vs news : List Value} (hT : SlT P T E) (hi : InfoOf P E z) (hR : Rw w E v vs) (hS : Sl w xv news) (hv : ev N σ x = v) (hxv : ev N σ y = xv) (h1 : ∀ u ∈ news, u.oneCell' = true) (hbytes : (vs.length + news.length) * 64 ≤ 140737488355328)
    (h : ∀ v' w', Rw w' E v' (vs ++ news) → w.grownBy w' v.ownBlock → (v'.ownBlock = v.ownBlock ∨ ∀ b, v'.ownBlock = some b → w.heap.size ≤ b) → WL r P ops Q rest (mk N (upd σ d v') ds) w') :
    WL r P ops Q (⟨some d, .call { callee := .builtin .append, args := #[x, y], argTypes := #[T, T] }, ty, pos, after, none⟩ :: rest) (mk N σ ds) w := by
  obtain ⟨ti, h1i, h2i, h3i, h4i⟩ := hi.ex
  obtain ⟨v', w', hr, a1, a2, a3⟩ := run_app (ty := ty) hT h1i h2i h3i hi.one h4i hR hS h1 hbytes
  refine l_val (by intro c e; cases e) ?_ (h v' w' a1 a2 a3)
  simp [execOp, resolve, invoke, builtin, hv, hxv, hr, Result.andThen]
/-- The head of a row of the call's own. -/
theorem s_head {b n c hi : Nat} {h : Operand} {k : IntKind} (hT : SlT P T E) (hE : Ty1 P E) (hx : ev N σ x = .slice (some ⟨b, 0, none⟩) n c) (hh : ev N σ h = .int k (hi : Int)) (hc : hi ≤ c)
    (hK : WL r P ops Q rest (mk N (upd σ d (.slice (some ⟨b, 0, none⟩) hi c)) ds) w) : WL r P ops Q (⟨some d, .slice T x none (some h) none, ty, pos, after, none⟩ :: rest) (mk N σ ds) w := by
  refine l_val (v := .slice (some ⟨b, 0, none⟩) hi c) (by intro c e; cases e) ?_ hK
  have := run_slice (P := P) (w := w) (a := some ⟨b, 0, none⟩) (n := n) hT hE (Nat.zero_le hi) hc none (some (.int k (hi : Int))) (.inr ⟨rfl, rfl⟩) (.inl ⟨k, rfl⟩)
  simp [execOp, hx, hh, this, Addr.add_zero']
theorem s_bs1 {u : Value} {z : Value} {op1 : Operand} (hT : SlT P T E) (hi : InfoOf P E z) (h1 : ev N σ op1 = u) (hu : u.oneCell' = true)
    (h : ∀ b w', b = w.heap.size → At w' b E [u] → Ex w w' → w'.heap.size = b + 1 → WL r P ops Q rest (mk N (upd σ d (.slice (some ⟨b, 0, none⟩) 1 1)) ds) w') :
    WL r P ops Q (⟨some d, .buildSlice T 1 #[(0, op1)], ty, pos, after, none⟩ :: rest) (mk N σ ds) w := by
  obtain ⟨ti, h1i, h2i, h3i, h4i⟩ := hi.ex
  have hT' : P.underlying T = some (.slice E) := hT
  have hcu : u.cells = #[u] := by cases u <;> first | rfl | (simp [Value.oneCell'] at hu)
  refine l_val (v := .slice (some ⟨w.heap.size, 0, none⟩) 1 1) (w' := w.alloc (.cells [u].toArray E)) (by intro c e; cases e) ?_ (h _ _ rfl (at_new w _ E) (Ex.alloc w _) (size_new w _))
  simp [execOp, Instr.buildSlice, run_underlying hT', sizeOf, typeInfo, h1i, h2i, h3i, zeroValue, Instr.fill, h1, hcu, newRow, hi.one, Array.range_succ, Array.range_zero']
theorem s_bs2 {u1 u2 : Value} {z : Value} {op1 op2 : Operand} (hT : SlT P T E) (hi : InfoOf P E z) (h1 : ev N σ op1 = u1) (h2 : ev N σ op2 = u2) (hu1 : u1.oneCell' = true) (hu2 : u2.oneCell' = true)
    (h : ∀ b w', b = w.heap.size → At w' b E [u1, u2] → Ex w w' → w'.heap.size = b + 1 → WL r P ops Q rest (mk N (upd σ d (.slice (some ⟨b, 0, none⟩) 2 2)) ds) w') :
    WL r P ops Q (⟨some d, .buildSlice T 2 #[(0, op1), (1, op2)], ty, pos, after, none⟩ :: rest) (mk N σ ds) w := by
  obtain ⟨ti, h1i, h2i, h3i, h4i⟩ := hi.ex
  have hT' : P.underlying T = some (.slice E) := hT
  have hc1 : u1.cells = #[u1] := by cases u1 <;> first | rfl | (simp [Value.oneCell'] at hu1)
  have hc2 : u2.cells = #[u2] := by cases u2 <;> first | rfl | (simp [Value.oneCell'] at hu2)
  refine l_val (v := .slice (some ⟨w.heap.size, 0, none⟩) 2 2) (w' := w.alloc (.cells [u1, u2].toArray E)) (by intro c e; cases e) ?_ (h _ _ rfl (at_new w _ E) (Ex.alloc w _) (size_new w _))
  simp [execOp, Instr.buildSlice, run_underlying hT', sizeOf, typeInfo, h1i, h2i, h3i, zeroValue, Instr.fill, h1, h2, hc1, hc2, newRow, hi.one, Array.range_succ, Array.range_zero']
theorem s_bs3 {u1 u2 u3 : Value} {z : Value} {op1 op2 op3 : Operand} (hT : SlT P T E) (hi : InfoOf P E z) (h1 : ev N σ op1 = u1) (h2 : ev N σ op2 = u2) (h3 : ev N σ op3 = u3) (hu1 : u1.oneCell' = true) (hu2 : u2.oneCell' = true) (hu3 : u3.oneCell' = true)
    (h : ∀ b w', b = w.heap.size → At w' b E [u1, u2, u3] → Ex w w' → w'.heap.size = b + 1 → WL r P ops Q rest (mk N (upd σ d (.slice (some ⟨b, 0, none⟩) 3 3)) ds) w') :
    WL r P ops Q (⟨some d, .buildSlice T 3 #[(0, op1), (1, op2), (2, op3)], ty, pos, after, none⟩ :: rest) (mk N σ ds) w := by
  obtain ⟨ti, h1i, h2i, h3i, h4i⟩ := hi.ex
  have hT' : P.underlying T = some (.slice E) := hT
  have hc1 : u1.cells = #[u1] := by cases u1 <;> first | rfl | (simp [Value.oneCell'] at hu1)
  have hc2 : u2.cells = #[u2] := by cases u2 <;> first | rfl | (simp [Value.oneCell'] at hu2)
  have hc3 : u3.cells = #[u3] := by cases u3 <;> first | rfl | (simp [Value.oneCell'] at hu3)
  refine l_val (v := .slice (some ⟨w.heap.size, 0, none⟩) 3 3) (w' := w.alloc (.cells [u1, u2, u3].toArray E)) (by intro c e; cases e) ?_ (h _ _ rfl (at_new w _ E) (Ex.alloc w _) (size_new w _))
  simp [execOp, Instr.buildSlice, run_underlying hT', sizeOf, typeInfo, h1i, h2i, h3i, zeroValue, Instr.fill, h1, h2, h3, hc1, hc2, hc3, newRow, hi.one, Array.range_succ, Array.range_zero']
/-! ### Whole arrays and structs -/
theorem s_ldV {b : Nat} {B : TypeId} {cs : List Value} {dd : TypeDesc} (hu : P.underlying E = some dd) (hd : (match dd with | .struct _ | .array _ _ => true | _ => false) = true) (hi : (P.info? E).map (·.size) = some cs.length)
    (hx : ev N σ x = .pointer (some ⟨b, 0, none⟩)) (hA : At w b B cs) (h : WL r P ops Q rest (mk N (upd σ d (.agg cs.toArray)) ds) w) :
    WL r P ops Q (⟨some d, .load E x, ty, pos, after, none⟩ :: rest) (mk N σ ds) w :=
  l_val (by intro c e; cases e) (by
    simp [execOp, hx, Instr.loadAt, Instr.sureAddr, run_loadVar_row (P := P) w b B E cs.toArray (0, 0) dd hA hu hd (by simpa using hi)]) h
theorem s_stV {b : Nat} {B : TypeId} {cs old : List Value} (hi : (P.info? E).map (·.size) = some cs.length) (hx : ev N σ x = .pointer (some ⟨b, 0, none⟩)) (hy : ev N σ y = .agg cs.toArray) (hA : At w b B old) (hl : old.length = cs.length) (h1 : cs.all (·.oneCell') = true)
    (h : ∀ w', At w' b B cs → w.grownBy w' (some b) → w'.heap.size = w.heap.size → WL r P ops Q rest (mk N σ ds) w') :
    WL r P ops Q (⟨none, .store E x y, ty, pos, after, none⟩ :: rest) (mk N σ ds) w := by
  have hr := run_storeVar_row (P := P) w b B E old.toArray cs.toArray hA (by simpa using hi) (by simpa using hl) (by simpa using h1)
  refine l_eff (w' := w.setRow b cs.toArray) (by intro c e; cases e) ?_ (h _ ?_ ⟨rfl, rfl, rfl, by simp, fun k hk hne => setRow_other w b k cs.toArray (fun e => hne (by rw [e]))⟩ (by simp))
  · simp [execOp, hx, hy, Instr.storeAt, Instr.sureAddr, hr]
  · exact setRow_heap w b old.toArray cs.toArray B (0, 0) hA
theorem s_fa {b o : Nat} {fs : Array Field} {f : Nat} {fl : Field} (hT : P.underlying T = some (.struct fs)) (hf : fs[f]? = some fl) (hE : Ty1 P fl.type) (hx : ev N σ x = .pointer (some ⟨b, o, none⟩))
    (h : WL r P ops Q rest (mk N (upd σ d (.pointer (some ⟨b, o + fl.offset, none⟩))) ds) w) : WL r P ops Q (⟨some d, .fieldAddr T x f, ty, pos, after, none⟩ :: rest) (mk N σ ds) w := by
  refine l_val (v := .pointer (some ⟨b, o + fl.offset, none⟩)) (by intro c e; cases e) ?_ h
  simp [execOp, hx, Instr.fieldAt, run_underlying hT, hf, Instr.sureAddr, fieldPlace, run_sizeOf1 hE, add_at]
end ops
end Go.Proofs.Ytifbgpkjbciblaa.Sal
end
section
/- Core6: a region whose order Go leaves open: what only reads may be taken as soon as it can be; the rest in its one order. -/
set_option maxRecDepth 100000
namespace Go.Proofs.Ytifbgpkjbciblaa.Sal
set_option linter.all false
open Go.RowKit

section draw
variable {r : Option Nat} {P : Program} {ops : Array Oper} {J : World → Prop} {Q : Exit → Act → World → Prop} {z : Nat}

def plainOp (o : Oper) : Bool := match o.op with | .defer _ | .select _ _ => false | _ => true
/-- What a reading operation may lean on: a load on J, the others on nothing. -/
def JP (op : Op) (J : World → Prop) : World → Prop := match op with | .load _ _ => J | _ => fun _ => True
/-- J holds until the first of the last stores has been. -/
def JL (z : Nat) (J : World → Prop) (listed : Array Bool) (w : World) : Prop := (∃ t, z.testBit t = true ∧ listed.getD t false = true) ∨ J w
def YS (P : Program) (ops : Array Oper) (J : World → Prop) (o : Oper) (v : Value) (a : Act) : Prop :=
  (Region.wanted o (yielded ops a.tmps) = true ∧ ∀ w', J w' → (execOp a.eval o).run P w' = .ok (.value v) w') ∨ (Region.wanted o (yielded ops a.tmps) = false ∧ v = undef)
/-- Only normal ends. -/
def OnlyN (Q : Exit → Act → World → Prop) : Exit → Act → World → Prop
  | .normal, a, w => Q .normal a w
  | _, _, _ => False
def RAJ (r : Option Nat) (P : Program) (ops : Array Oper) (J : World → Prop) (z : Nat) (Q : Exit → Act → World → Prop) : Nat → Array Bool → Act → World → Prop
  | 0, listed, a, w => Region.ready .any ops listed = [] ∧ Q .normal a w
  | fuel + 1, listed, a, w => (Region.ready .any ops listed = [] → Q .normal a w) ∧
      ∀ i ∈ Region.ready .any ops listed, wpOpIn (FW r) 0 P ops (OnlyN Q) i (fun a' w' => JL z J (listed.setIfInBounds i true) w' ∧ RAJ r P ops J z Q fuel (listed.setIfInBounds i true) a' w') a w
def WJ (r : Option Nat) (P : Program) (ops : Array Oper) (J : World → Prop) (z : Nat) (Q : Exit → Act → World → Prop) : List (Nat × Bool) → Act → World → Prop
  | [], a, w => Q .normal a w
  | (i, true) :: π, a, w => ∃ o v, ops[i]? = some o ∧ YS P ops (JP o.op J) o v a ∧ WJ r P ops J z Q π (a.put o.dst v) w
  | (i, false) :: π, a, w => wpOpIn (FW r) 0 P ops (OnlyN Q) i (fun a' w' => (z.testBit i = true ∨ J w') ∧ WJ r P ops J z Q π a' w') a w

theorem onlyN_mono {Q : Exit → Act → World → Prop} : ∀ e a w, OnlyN Q e a w → Q e a w
  | .normal, _, _, h => h
theorem wpOpIn_monoQ {Q' : Exit → Act → World → Prop} {i : Nat} {K : Act → World → Prop} {a : Act} {w : World} (hq : ∀ e a w, Q e a w → Q' e a w) (h : wpOpIn (FW r) 0 P ops Q i K a w) : wpOpIn (FW r) 0 P ops Q' i K a w := by
  unfold wpOpIn at *
  split
  · rename_i hn; rw [hn] at h; exact h
  · rename_i o ho
    rw [ho] at h
    simp only at h
    split
    · rename_i hw
      simp only [hw, if_true] at h
      unfold Oper.wpIn at *
      refine ⟨h.1, ?_⟩
      have h2 := h.2
      generalize (o.semAt (FW r).round a.eval).run P w = res at *
      cases res with
      | ok x w' =>
        cases x <;> simp only [Oper.uponIn] at h2 ⊢ <;> first
          | exact h2
          | exact ⟨h2.1, CallsIn.mono h2.2 (fun e w'' he => by cases e <;> first | exact he | exact hq _ _ _ he | exact (let ⟨a, w, hh⟩ := he; ⟨a, w, hq _ _ _ hh⟩))⟩
          | exact ⟨h2.1, RoundIn.mono h2.2 (fun e w'' he => by cases e <;> first | exact he | exact hq _ _ _ he | exact (let ⟨a, w, hh⟩ := he; ⟨a, w, hq _ _ _ hh⟩))⟩
      | halt x w' => cases x <;> simp only [Oper.uponIn] at h2 ⊢ <;> first | exact h2 | exact hq _ _ _ h2
    · rename_i hw; simp only [hw] at h; exact h

theorem wpAny_of_RAJ : ∀ (fuel : Nat) (listed : Array Bool) (a : Act) (w : World), RAJ r P ops J z Q fuel listed a w → wpAnyIn (FW r) 0 P .any ops Q fuel listed a w
  | 0, _, _, _, h => h
  | fuel + 1, listed, a, w, h => ⟨h.1, fun i hi => wpOpIn_mono (fun a' w' hh => wpAny_of_RAJ fuel _ a' w' hh.2) (wpOpIn_monoQ onlyN_mono (h.2 i hi))⟩

theorem ys_put {oi oj : Oper} {v u : Value} {a : Act} (hsel : ∀ cs b, oi.op ≠ .select cs b) (h3 : ∀ d, oj.dst = some d → d ∉ oi.looksAt ops) (h : YS P ops J oi v a) : YS P ops J oi v (a.put oj.dst u) := by
  unfold YS at *
  rw [wanted_put oi a oj.dst u h3, execOp_put oi hsel a oj.dst u h3]
  exact h
theorem put_swap {j : Nat} {oi oj : Oper} {v : Value} (hj : ops[j]? = some oj) (hap : oi.apart ops oj = true) (hpi : plainOp oi = true) (hpj : plainOp oj = true) {K : Act → World → Prop} {a : Act} {w : World}
    (hy : YS P ops J oi v a) (h : wpOpIn (FW r) 0 P ops (OnlyN Q) j K (a.put oi.dst v) w) :
    wpOpIn (FW r) 0 P ops (OnlyN Q) j (fun a' w' => YS P ops J oi v a' ∧ K (a'.put oi.dst v) w') a w := by
  obtain ⟨h1, h2, h3⟩ := Oper.apart_spec hap
  have hsi : ∀ cs b, oi.op ≠ .select cs b := fun cs b e => by simp [plainOp, e] at hpi
  have hsj : ∀ cs b, oj.op ≠ .select cs b := fun cs b e => by simp [plainOp, e] at hpj
  have hdj : ∀ c, oj.op ≠ .defer c := fun c e => by simp [plainOp, e] at hpj
  unfold wpOpIn at *
  simp only [hj] at *
  rw [wanted_put oj a oi.dst v h1, about_put oj w a oi.dst v h1] at h
  split
  · rename_i hw
    simp only [hw, if_true] at h
    unfold Oper.wpIn at *
    refine ⟨fun _ _ => trivial, ?_⟩
    have h := h.2
    rw [Oper.semAt_plain (FW r) _ _ hdj, execOp_put oj hsj a oi.dst v h1] at h
    rw [Oper.semAt_plain (FW r) _ _ hdj]
    generalize hr : (execOp a.eval oj).run P w = res at *
    cases res with
    | ok x w' =>
      cases x <;> simp only [Oper.uponIn] at h ⊢
      case value u => exact ⟨ys_put hsi h3 hy, by rw [← Act.put_comm a v u h2]; exact h⟩
      case skip => exact ⟨ys_put hsi h3 hy, by rw [← Act.put_comm a v undef h2]; exact h⟩
      case defer d =>
        have hy' : YS P ops J oi v ({ a with defers := d :: a.defers } : Act) := hy
        refine ⟨ys_put hsi h3 hy', ?_⟩
        rw [← Act.put_comm _ v undef h2, ← Act.put_defers]
        exact h
      case enter f args =>
        refine ⟨h.1, CallsIn.mono h.2 fun e w'' he => ?_⟩
        cases e with
        | returned u => exact ⟨ys_put hsi h3 hy, by rw [← Act.put_comm a v u h2]; exact he⟩
        | panicked c => exact he.elim
        | outgrown => exact he
      case row row args => exact ⟨h.1, RowsIn.mono h.2 fun u w'' he => ⟨ys_put hsi h3 hy, by rw [← Act.put_comm a v u h2]; exact he⟩⟩
      case round l f tmps assign body =>
        refine ⟨h.1, RoundIn.mono h.2 fun e w'' he => ?_⟩
        cases e with
        | returned u => exact ⟨ys_put hsi h3 hy, by rw [← Act.put_comm a v u h2]; exact he⟩
        | panicked c => exact he.elim
        | outgrown => exact he
    | halt x w' =>
      cases x <;> simp only [Oper.uponIn] at h ⊢
      case panic u => exact h.elim
  · rename_i hw
    simp only [hw] at h
    exact ⟨fun _ _ => trivial, ys_put hsi h3 hy, by rw [← Act.put_comm a v undef h2]; exact h.2⟩

/-! What must wait for what, told by a bool over the region's text. -/
def deps (ops : Array Oper) (i : Nat) : List Nat := match ops[i]? with | some o => (o.after.toList.filter (Region.binds .any ·)).map (·.on) | none => []
def reach (ops : Array Oper) (z : Nat) : Nat → List Nat
  | 0 => deps ops z
  | k + 1 => reach ops z k ++ (reach ops z k).flatMap (deps ops)
def Closed (ops : Array Oper) (listed : Array Bool) : Prop := ∀ k, listed.getD k false = true → ∀ e ∈ deps ops k, listed.getD e false = true
theorem reach_listed {listed : Array Bool} (hc : Closed ops listed) (hz : ∀ e ∈ deps ops z, listed.getD e false = true) : ∀ k, ∀ x ∈ reach ops z k, listed.getD x false = true
  | 0, x, hx => hz x hx
  | k + 1, x, hx => by
    rcases List.mem_append.1 hx with h | h
    · exact reach_listed hc hz k x h
    · obtain ⟨y, hy, hxy⟩ := List.mem_flatMap.1 h
      exact hc y (reach_listed hc hz k y hy) x hxy
def loadOp (ops : Array Oper) (i : Nat) : Bool := match ops[i]? with | some o => (match o.op with | .load _ _ => true | _ => false) | none => false
/-- z: a mask of the stores that come last, behind all that loads. -/
def sinkOK (ops : Array Oper) (z k : Nat) : Bool := (List.range ops.size).all fun t => !(z.testBit t) || (List.range ops.size).all fun j => !(loadOp ops j) || (reach ops t k).contains j
def apartOK (ops : Array Oper) (i : Nat) : Bool := match ops[i]? with
  | some oi => (List.range ops.size).all fun j => j == i || (deps ops j).contains i || (deps ops i).contains j || match ops[j]? with | some oj => oi.apart ops oj | none => true
  | none => false
def chk (ops : Array Oper) (z : Nat) : List (Nat × Bool) → Array Bool → Bool
  | [], listed => (Region.ready .any ops listed).isEmpty
  | (i, true) :: π, listed => (Region.ready .any ops listed).contains i && apartOK ops i && !(z.testBit i) && chk ops z π (listed.setIfInBounds i true)
  | (i, false) :: π, listed => (Region.ready .any ops listed == [i]) && chk ops z π (listed.setIfInBounds i true)
def regionOK (ops : Array Oper) (z k : Nat) (π : List (Nat × Bool)) : Bool :=
  ops.all plainOp && sinkOK ops z k && chk ops z π (Array.replicate ops.size false) && Nat.ble π.length ops.size

theorem deps_mem {i : Nat} {o : Oper} (ho : ops[i]? = some o) {e : Edge} (he : e ∈ o.after) (hb : Region.binds .any e = true) : e.on ∈ deps ops i := by
  unfold deps; rw [ho]
  exact List.mem_map.2 ⟨e, List.mem_filter.2 ⟨by simpa using he, hb⟩, rfl⟩
theorem deps_inv {i x : Nat} {o : Oper} (ho : ops[i]? = some o) (hx : x ∈ deps ops i) : ∃ e ∈ o.after, Region.binds .any e = true ∧ e.on = x := by
  unfold deps at hx; rw [ho] at hx
  obtain ⟨e, he, rfl⟩ := List.mem_map.1 hx
  obtain ⟨h1, h2⟩ := List.mem_filter.1 he
  exact ⟨e, by simpa using h1, h2, rfl⟩
theorem ready_deps {i : Nat} {listed : Array Bool} (h : i ∈ Region.ready .any ops listed) : ∀ e ∈ deps ops i, listed.getD e false = true := by
  obtain ⟨_, o, ho, hall⟩ := mem_ready.1 h
  intro x hx
  obtain ⟨e, he, hb, rfl⟩ := deps_inv ho hx
  exact hall e he hb
theorem closed_set {i : Nat} {listed : Array Bool} (hc : Closed ops listed) (h : i ∈ Region.ready .any ops listed) : Closed ops (listed.setIfInBounds i true) := by
  intro k hk e he
  by_cases hki : k = i
  · subst hki; exact getD_set_true (ready_deps h e he)
  · rw [getD_set_ne false (Ne.symm hki)] at hk
    exact getD_set_true (hc k hk e he)
theorem unlisted {i : Nat} {listed : Array Bool} (h : i ∈ Region.ready .any ops listed) : listed.getD i false = false := by
  obtain ⟨h0, _⟩ := mem_ready.1 h
  cases hb : listed.getD i false with
  | false => rfl
  | true =>
    have hlt : i < listed.size := by
      rcases Nat.lt_or_ge i listed.size with h' | h'
      · exact h'
      · simp [Array.getElem?_eq_none h'] at hb
    simp [hlt] at h0 hb
    rw [h0] at hb; cases hb
theorem sink_all {k i t : Nat} {listed : Array Bool} (hs : sinkOK ops z k = true) (hc : Closed ops listed) (htlt : t < ops.size) (ht : listed.getD t false = true) (htz : z.testBit t = true) (hi : i < ops.size) (hl : loadOp ops i = true) : listed.getD i false = true := by
  unfold sinkOK at hs
  have h := List.all_eq_true.1 hs t (List.mem_range.2 htlt)
  rw [htz] at h
  simp only [Bool.not_true, Bool.false_or] at h
  have := List.all_eq_true.1 h i (List.mem_range.2 hi)
  rcases Bool.or_eq_true_iff.1 this with h1 | h1
  · rw [hl] at h1; cases h1
  · exact reach_listed hc (hc t ht) k i (by simpa using h1)
theorem jl_set {i : Nat} {listed : Array Bool} {w : World} (h : JL z J listed w) : JL z J (listed.setIfInBounds i true) w :=
  h.imp (fun ⟨t, h1, h2⟩ => ⟨t, h1, getD_set_true h2⟩) id
theorem jl_of {i : Nat} {listed : Array Bool} {w : World} (hr : i ∈ Region.ready .any ops listed) (hsz : listed.size = ops.size) (h : z.testBit i = true ∨ J w) : JL z J (listed.setIfInBounds i true) w :=
  h.imp (fun h => ⟨i, h, by
    obtain ⟨_, o, ho, _⟩ := mem_ready.1 hr
    have := (Array.getElem?_eq_some_iff.1 ho).1
    simp [hsz, this]⟩) id
theorem ys_exec {i : Nat} {o : Oper} {v : Value} {a : Act} {w : World} {K : Act → World → Prop} (hi : ops[i]? = some o) (hp : plainOp o = true) (hy : YS P ops J o v a) (hJ : J w) (hK : K (a.put o.dst v) w) : wpOpIn (FW r) 0 P ops (OnlyN Q) i K a w := by
  have hd : ∀ c, o.op ≠ .defer c := fun c e => by simp [plainOp, e] at hp
  unfold wpOpIn
  simp only [hi]
  rcases hy with ⟨hw, hv⟩ | ⟨hw, rfl⟩
  · simp only [hw, if_true, Oper.wpIn]
    refine ⟨fun _ _ => trivial, ?_⟩
    rw [Oper.semAt_plain (FW r) _ _ hd, hv w hJ]
    exact hK
  · simp only [hw, Bool.false_eq_true, if_false]
    exact ⟨fun _ _ => trivial, hK⟩
theorem jp_of {i k : Nat} {oi : Oper} {listed : Array Bool} {w : World} (hs : sinkOK ops z k = true) (hsz : listed.size = ops.size) (hc : Closed ops listed) (hi : ops[i]? = some oi) (hr : i ∈ Region.ready .any ops listed) (hJ : JL z J listed w) : JP oi.op J w := by
  cases hop : oi.op with
  | load E x =>
    show J w
    refine hJ.resolve_left ?_
    rintro ⟨t, h1, h2⟩
    have htl : t < ops.size := by
      rcases Nat.lt_or_ge t listed.size with h' | h'
      · omega
      · simp [Array.getElem?_eq_none h'] at h2
    have hl : loadOp ops i = true := by simp [loadOp, hi, hop]
    have := sink_all hs hc htl h2 h1 (Array.getElem?_eq_some_iff.1 hi).1 hl
    rw [unlisted hr] at this; cases this
  | _ => exact trivial
theorem first_mover {k i : Nat} {oi : Oper} {v : Value} (hpl : ∀ (j : Nat) (o : Oper), ops[j]? = some o → plainOp o = true) (hs : sinkOK ops z k = true) (hi : ops[i]? = some oi) (hap : apartOK ops i = true) (hz : z.testBit i = false) :
    ∀ (fuel : Nat) (listed : Array Bool) (a : Act) (w : World), listed.size = ops.size → Closed ops listed → i ∈ Region.ready .any ops listed → YS P ops (JP oi.op J) oi v a → JL z J listed w →
      RAJ r P ops J z Q fuel (listed.setIfInBounds i true) (a.put oi.dst v) w → RAJ r P ops J z Q (fuel + 1) listed a w := by
  intro fuel
  induction fuel with
  | zero =>
    intro listed a w hsz hc hr hy hJ H
    refine ⟨fun h => (by rw [h] at hr; cases hr), fun j hj => ?_⟩
    by_cases hji : j = i
    · subst hji
      exact ys_exec hi (hpl _ _ hi) hy (jp_of hs hsz hc hi hr hJ) ⟨jl_set hJ, H⟩
    · have := ready_mono hj hji
      rw [H.1] at this; cases this
  | succ f ih =>
    intro listed a w hsz hc hr hy hJ H
    refine ⟨fun h => (by rw [h] at hr; cases hr), fun j hj => ?_⟩
    by_cases hji : j = i
    · subst hji
      exact ys_exec hi (hpl _ _ hi) hy (jp_of hs hsz hc hi hr hJ) ⟨jl_set hJ, H⟩
    · have h1 := H.2 j (ready_mono hj hji)
      obtain ⟨_, oj, hoj, _⟩ := mem_ready.1 hj
      have hjlt : j < ops.size := (Array.getElem?_eq_some_iff.1 hoj).1
      have hapj : oi.apart ops oj = true := by
        unfold apartOK at hap
        rw [hi] at hap
        have h2 := List.all_eq_true.1 hap j (List.mem_range.2 hjlt)
        simp only [hoj, Bool.or_eq_true] at h2
        rcases h2 with ((h2 | h2) | h2) | h2
        · exact absurd (by simpa using h2) hji
        · exfalso
          have h3 := ready_deps hj i (by simpa using h2)
          rw [unlisted hr] at h3; cases h3
        · exfalso
          have h3 := ready_deps hr j (by simpa using h2)
          rw [unlisted hj] at h3; cases h3
        · exact h2
      refine wpOpIn_mono ?_ (put_swap hoj hapj (hpl _ _ hi) (hpl _ _ hoj) hy h1)
      rintro a' w' ⟨hy', hJ', hR⟩
      have hJ2 : JL z J (listed.setIfInBounds j true) w' := by
        rcases hJ' with ⟨t, ht1, ht2⟩ | h
        · refine .inl ⟨t, ht1, ?_⟩
          rw [Array.setIfInBounds_comm _ _ (Ne.symm hji)] at ht2
          have hti : i ≠ t := fun e => by subst e; rw [hz] at ht1; cases ht1
          rwa [getD_set_ne false hti] at ht2
        · exact .inr h
      refine ⟨hJ2, ih (listed.setIfInBounds j true) a' w' (by simpa using hsz) (closed_set hc hj) (ready_mono hr (Ne.symm hji)) hy' hJ2 ?_⟩
      rw [Array.setIfInBounds_comm _ _ hji]; exact hR
theorem raj_of_wj {k : Nat} (hpl : ∀ (j : Nat) (o : Oper), ops[j]? = some o → plainOp o = true) (hs : sinkOK ops z k = true) :
    ∀ (π : List (Nat × Bool)) (fuel : Nat) (listed : Array Bool) (a : Act) (w : World), listed.size = ops.size → chk ops z π listed = true → Closed ops listed → JL z J listed w → π.length ≤ fuel → WJ r P ops J z Q π a w → RAJ r P ops J z Q fuel listed a w := by
  intro π
  induction π with
  | nil =>
    intro fuel listed a w _ hk hc _ _ h
    have he : Region.ready .any ops listed = [] := by simpa [chk] using hk
    cases fuel with
    | zero => exact ⟨he, h⟩
    | succ f => exact ⟨fun _ => h, fun i hi => by rw [he] at hi; cases hi⟩
  | cons p π ih =>
    obtain ⟨i, b⟩ := p
    intro fuel listed a w hsz hk hc hJ hf h
    cases fuel with
    | zero => simp at hf
    | succ f =>
      have hf' : π.length ≤ f := by simpa using hf
      cases b with
      | true =>
        simp only [chk, Bool.and_eq_true] at hk
        obtain ⟨⟨⟨h1, h2⟩, h3⟩, h4⟩ := hk
        have hr : i ∈ Region.ready .any ops listed := by simpa using h1
        obtain ⟨o, v, ho, hy, hW⟩ := h
        exact first_mover hpl hs ho h2 (by simpa using h3) f listed a w hsz hc hr hy hJ (ih f _ _ w (by simpa using hsz) h4 (closed_set hc hr) (jl_set hJ) hf' hW)
      | false =>
        simp only [chk, Bool.and_eq_true] at hk
        obtain ⟨h1, h4⟩ := hk
        have he : Region.ready .any ops listed = [i] := by simpa using h1
        refine ⟨fun h => by rw [he] at h; simp at h, fun j hj => ?_⟩
        rw [he] at hj
        obtain rfl : j = i := by simpa using hj
        have hr : j ∈ Region.ready .any ops listed := by rw [he]; simp
        refine wpOpIn_mono ?_ h
        rintro a' w' ⟨hJ', hW⟩
        have hJ2 : JL z J (listed.setIfInBounds j true) w' := jl_of hr hsz hJ'
        exact ⟨hJ2, ih f _ a' w' (by simpa using hsz) h4 (closed_set hc hr) hJ2 hf' hW⟩
end draw

section draw2
variable {r : Option Nat} {P : Program} {J : World → Prop} {Q : Exit → Act → World → Prop} {z : Nat} {N : Nat} {σ : Nat → Value} {ds : List Deferred} {w : World}
theorem c_draw {id : Nat} {l : List Oper} (z k : Nat) (π : List (Nat × Bool)) (hm : P.follows .mixedOrders = true) (hok : regionOK l.toArray z k π = true)
    (h : WJ r P l.toArray (Ex w.drew) z Q π (mk N σ ds) w.drew) : CW r P (.region id l.toArray true) Q (mk N σ ds) w := by
  simp only [regionOK, Bool.and_eq_true] at hok
  obtain ⟨⟨⟨h1, h2⟩, h3⟩, h4⟩ := hok
  refine wpIn_region_any hm (wpAny_of_RAJ _ _ _ _ (raj_of_wj (J := Ex w.drew) (fun j o ho => ?_) h2 π _ _ _ _ (by simp) h3 ?_ (.inr (Ex.refl _)) (Nat.le_of_ble_eq_true h4) h))
  · exact (Array.all_eq_true_iff_forall_mem.1 h1) o (Array.mem_of_getElem? ho)
  · intro k hk
    exfalso
    by_cases hlt : k < l.toArray.size
    · simp at hlt; simp [hlt] at hk
    · simp at hlt; simp [Nat.not_lt.2 hlt] at hk
variable {gd : Option (Nat × Bool)} {ops : Array Oper} {i d : Nat} {π : List (Nat × Bool)} {ty : TypeId} {pos : String} {after : Array Edge}
theorem d_re {v v' : Value} (he : v = v') (h : WJ r P ops J z Q π (mk N (upd σ d v') ds) w) : WJ r P ops J z Q π (mk N (upd σ d v) ds) w := he ▸ h
theorem d_nil (h : Q .normal (mk N σ ds) w) : WJ r P ops J z Q [] (mk N σ ds) w := h
def GOK (ops : Array Oper) (e : Operand → Value) : Option (Nat × Bool) → Prop
  | none => True
  | some (j, want) => ∃ g, (ops[j]?).bind (·.dst) = some g ∧ e (.tmp g) = .bool want
theorem d_val {op : Op} {v : Value} {gd : Option (Nat × Bool)} (hi : ops[i]? = some ⟨some d, op, ty, pos, after, gd⟩) (hrun : ∀ w', JP op J w' → (execOp (ev N σ) ⟨some d, op, ty, pos, after, none⟩).run P w' = .ok (.value v) w')
    (h : WJ r P ops J z Q π (mk N (upd σ d v) ds) w) (hgd : GOK ops (ev N σ) gd := by first | exact trivial | exact ⟨_, rfl, rfl⟩) : WJ r P ops J z Q ((i, true) :: π) (mk N σ ds) w := by
  cases gd with
  | none => exact ⟨_, v, hi, .inl ⟨rfl, fun w' hw => by rw [eval_mk']; exact hrun w' hw⟩, by rw [put_mk]; exact h⟩
  | some q =>
    obtain ⟨j, want⟩ := q
    obtain ⟨g, hj, hb⟩ := hgd
    exact ⟨_, v, hi, .inl ⟨by rw [wanted_of (g := g) rfl hj hb]; simp, fun w' hw => by rw [eval_mk']; exact hrun w' hw⟩, by rw [put_mk]; exact h⟩
theorem d_gno {op : Op} {j g : Nat} {want b : Bool} (hi : ops[i]? = some ⟨some d, op, ty, pos, after, some (j, want)⟩) (hj : (ops[j]?).bind (·.dst) = some g) (hb : ev N σ (.tmp g) = .bool b) (hne : (b == want) = false)
    (h : WJ r P ops J z Q π (mk N (upd σ d undef) ds) w) : WJ r P ops J z Q ((i, true) :: π) (mk N σ ds) w :=
  ⟨_, undef, hi, .inr ⟨by rw [wanted_of (g := g) rfl hj hb]; exact hne, rfl⟩, by rw [put_mk]; exact h⟩
theorem d_move {x : Operand} (hi : ops[i]? = some ⟨some d, .move x, ty, pos, after, gd⟩) (h : WJ r P ops J z Q π (mk N (upd σ d (ev N σ x)) ds) w) (hgd : GOK ops (ev N σ) gd := by first | exact trivial | exact ⟨_, rfl, rfl⟩) : WJ r P ops J z Q ((i, true) :: π) (mk N σ ds) w := d_val hi (fun _ _ => rfl) h hgd
theorem d_assign {x : Operand} (hi : ops[i]? = some ⟨some d, .assign x, ty, pos, after, gd⟩) (h : WJ r P ops J z Q π (mk N (upd σ d (ev N σ x)) ds) w) (hgd : GOK ops (ev N σ) gd := by first | exact trivial | exact ⟨_, rfl, rfl⟩) : WJ r P ops J z Q ((i, true) :: π) (mk N σ ds) w := d_val hi (fun _ _ => rfl) h hgd
theorem d_bin {op : BinOp} {t t' : TypeId} {x y : Operand} {u v res : Value} (hi : ops[i]? = some ⟨some d, .binOp op t x y t', ty, pos, after, gd⟩) (hx : ev N σ x = u) (hy : ev N σ y = v) (hg : eqGuard op t x y u v = pure ()) (hr : ∀ w', (binOp op t u v).run P w' = .ok res w')
    (h : WJ r P ops J z Q π (mk N (upd σ d res) ds) w) (hgd : GOK ops (ev N σ) gd := by first | exact trivial | exact ⟨_, rfl, rfl⟩) : WJ r P ops J z Q ((i, true) :: π) (mk N σ ds) w := d_val hi (fun w' _ => bin_run hx hy hg (hr w')) h hgd
section
variable {t t' : TypeId} {x y : Operand} {k : IntKind} {a b : Int}
theorem d_add (hi : ops[i]? = some ⟨some d, .binOp .add t x y t', ty, pos, after, gd⟩) (hx : ev N σ x = .int .i64 a) (hy : ev N σ y = .int .i64 b) (hr : In64 (a + b)) (h : WJ r P ops J z Q π (mk N (upd σ d (.int .i64 (a + b))) ds) w) (hgd : GOK ops (ev N σ) gd := by first | exact trivial | exact ⟨_, rfl, rfl⟩) : WJ r P ops J z Q ((i, true) :: π) (mk N σ ds) w :=
  d_bin hi hx hy rfl (fun w' => by simp [go_sem, Op.intArith, wrap_in hr]) h hgd
theorem d_sub (hi : ops[i]? = some ⟨some d, .binOp .sub t x y t', ty, pos, after, gd⟩) (hx : ev N σ x = .int .i64 a) (hy : ev N σ y = .int .i64 b) (hr : In64 (a - b)) (h : WJ r P ops J z Q π (mk N (upd σ d (.int .i64 (a - b))) ds) w) (hgd : GOK ops (ev N σ) gd := by first | exact trivial | exact ⟨_, rfl, rfl⟩) : WJ r P ops J z Q ((i, true) :: π) (mk N σ ds) w :=
  d_bin hi hx hy rfl (fun w' => by simp [go_sem, Op.intArith, wrap_in hr]) h hgd
theorem d_lss (hi : ops[i]? = some ⟨some d, .binOp .lss t x y t', ty, pos, after, gd⟩) (hx : ev N σ x = .int k a) (hy : ev N σ y = .int k b) (h : WJ r P ops J z Q π (mk N (upd σ d (.bool (decide (a < b)))) ds) w) (hgd : GOK ops (ev N σ) gd := by first | exact trivial | exact ⟨_, rfl, rfl⟩) : WJ r P ops J z Q ((i, true) :: π) (mk N σ ds) w :=
  d_bin hi hx hy rfl (fun w' => by simp [go_sem]) h hgd
theorem d_gtr (hi : ops[i]? = some ⟨some d, .binOp .gtr t x y t', ty, pos, after, gd⟩) (hx : ev N σ x = .int k a) (hy : ev N σ y = .int k b) (h : WJ r P ops J z Q π (mk N (upd σ d (.bool (decide (b < a)))) ds) w) (hgd : GOK ops (ev N σ) gd := by first | exact trivial | exact ⟨_, rfl, rfl⟩) : WJ r P ops J z Q ((i, true) :: π) (mk N σ ds) w :=
  d_bin hi hx hy rfl (fun w' => by simp [go_sem]) h hgd
theorem d_eql (hi : ops[i]? = some ⟨some d, .binOp .eql t x y t', ty, pos, after, gd⟩) (hx : ev N σ x = .int k a) (hy : ev N σ y = .int k b) (h : WJ r P ops J z Q π (mk N (upd σ d (.bool (decide (a = b)))) ds) w) (hgd : GOK ops (ev N σ) gd := by first | exact trivial | exact ⟨_, rfl, rfl⟩) : WJ r P ops J z Q ((i, true) :: π) (mk N σ ds) w :=
  d_bin hi hx hy (by simp [go_sem]) (fun w' => by simp [go_sem, beq_dec]) h hgd
theorem d_neq (hi : ops[i]? = some ⟨some d, .binOp .neq t x y t', ty, pos, after, gd⟩) (hx : ev N σ x = .int k a) (hy : ev N σ y = .int k b) (h : WJ r P ops J z Q π (mk N (upd σ d (.bool (decide (a ≠ b)))) ds) w) (hgd : GOK ops (ev N σ) gd := by first | exact trivial | exact ⟨_, rfl, rfl⟩) : WJ r P ops J z Q ((i, true) :: π) (mk N σ ds) w :=
  d_bin hi hx hy (by simp [go_sem]) (fun w' => by
    have e : (a != b) = decide (a ≠ b) := by by_cases h : a = b <;> simp [h]
    simp [go_sem, e]) h hgd
end
theorem d_pickt {c x y : Operand} {v : Value} (hi : ops[i]? = some ⟨some d, .pick c x y, ty, pos, after, gd⟩) (hc : ev N σ c = .bool true) (hx : ev N σ x = v) (h : WJ r P ops J z Q π (mk N (upd σ d v) ds) w) (hgd : GOK ops (ev N σ) gd := by first | exact trivial | exact ⟨_, rfl, rfl⟩) : WJ r P ops J z Q ((i, true) :: π) (mk N σ ds) w :=
  d_val hi (fun w' _ => by simp [execOp, hc, hx, go_sem]) h hgd
theorem d_pickf {c x y : Operand} {v : Value} (hi : ops[i]? = some ⟨some d, .pick c x y, ty, pos, after, gd⟩) (hc : ev N σ c = .bool false) (hx : ev N σ y = v) (h : WJ r P ops J z Q π (mk N (upd σ d v) ds) w) (hgd : GOK ops (ev N σ) gd := by first | exact trivial | exact ⟨_, rfl, rfl⟩) : WJ r P ops J z Q ((i, true) :: π) (mk N σ ds) w :=
  d_val hi (fun w' _ => by simp [execOp, hc, hx, go_sem]) h hgd
theorem d_len {T E : TypeId} {x : Operand} {a : Option Addr} {n c : Nat} (hi : ops[i]? = some ⟨some d, .call { callee := .builtin .len, args := #[x], argTypes := #[T] }, ty, pos, after, gd⟩) (hT : SlT P T E) (hx : ev N σ x = .slice a n c)
    (h : WJ r P ops J z Q π (mk N (upd σ d (.int .i64 (n : Int))) ds) w) (hgd : GOK ops (ev N σ) gd := by first | exact trivial | exact ⟨_, rfl, rfl⟩) : WJ r P ops J z Q ((i, true) :: π) (mk N σ ds) w :=
  d_val hi (fun w' _ => by simp [execOp, resolve, invoke, builtin, Builtin.len_, hx, run_underlying hT, goInt]) h hgd
/-- An element's address: the slice reads as a list in the world w0 in which the region began. -/
theorem d_ia {w0 : World} {T E : TypeId} {x y : Operand} {v u : Value} {vs : List Value} {k : IntKind} {n : Nat} (hi : ops[i]? = some ⟨some d, .indexAddr T x y, ty, pos, after, gd⟩) (hT : SlT P T E) (hE : Ty1 P E) (hx : ev N σ x = v) (hy : ev N σ y = .int k (n : Int)) (hs : Sl w0 v vs) (hn : vs[n]? = some u)
    (h : ∀ ad, w0.cell? ad = some u → WJ r P ops J z Q π (mk N (upd σ d (.pointer (some ad))) ds) w) (hgd : GOK ops (ev N σ) gd := by first | exact trivial | exact ⟨_, rfl, rfl⟩) : WJ r P ops J z Q ((i, true) :: π) (mk N σ ds) w := by
  obtain ⟨_, a, len, c, rfl, hlen, _, hc⟩ := hs
  obtain ⟨ad, rfl, hcell⟩ := hc n u hn
  have hlt : n < len := by rw [← hlen]; exact (List.getElem?_eq_some_iff.1 hn).1
  have hT' : P.underlying T = some (.slice E) := hT
  exact d_val (v := .pointer (some (ad.add n))) hi (fun w' _ => by simp [execOp, hx, hy, Instr.indexAt, asIntOf, run_underlying hT', hlt, run_sizeOf1 hE, go_sem]) (h _ hcell) hgd
theorem d_iaI {w0 : World} {T E : TypeId} {x y : Operand} {v : Value} {l : List Int} {k : IntKind} {n : Nat} (hi : ops[i]? = some ⟨some d, .indexAddr T x y, ty, pos, after, gd⟩) (hT : SlT P T E) (hE : Ty1 P E) (hx : ev N σ x = v) (hy : ev N σ y = .int k (n : Int)) (hs : Ints w0 v l) (hn : n < l.length)
    (h : ∀ ad, w0.cell? ad = some (.int .i64 (l.getD n 0)) → WJ r P ops J z Q π (mk N (upd σ d (.pointer (some ad))) ds) w) (hgd : GOK ops (ev N σ) gd := by first | exact trivial | exact ⟨_, rfl, rfl⟩) : WJ r P ops J z Q ((i, true) :: π) (mk N σ ds) w :=
  d_ia hi hT hE hx hy hs (by simp [hn]) h hgd
theorem d_iaR {w0 : World} {T E : TypeId} {x y : Operand} {v : Value} {g : List (List Int)} {k : IntKind} {n : Nat} (hi : ops[i]? = some ⟨some d, .indexAddr T x y, ty, pos, after, gd⟩) (hT : SlT P T E) (hE : Ty1 P E) (hx : ev N σ x = v) (hy : ev N σ y = .int k (n : Int)) (hs : Rows w0 v g) (hn : n < g.length)
    (h : ∀ ad u, w0.cell? ad = some u → Ints w0 u (g.getD n []) → WJ r P ops J z Q π (mk N (upd σ d (.pointer (some ad))) ds) w) (hgd : GOK ops (ev N σ) gd := by first | exact trivial | exact ⟨_, rfl, rfl⟩) : WJ r P ops J z Q ((i, true) :: π) (mk N σ ds) w := by
  obtain ⟨vs, u, hs', hu, hI⟩ := hs.row hn
  exact d_ia hi hT hE hx hy hs' hu (fun ad hc => h ad u hc hI) hgd
theorem d_iaA {T E : TypeId} {x y : Operand} {b len c : Nat} {k : IntKind} {n : Nat} (hi : ops[i]? = some ⟨some d, .indexAddr T x y, ty, pos, after, gd⟩) (hT : SlT P T E) (hE : Ty1 P E) (hx : ev N σ x = .slice (some ⟨b, 0, none⟩) len c) (hy : ev N σ y = .int k (n : Int)) (hn : n < len)
    (h : WJ r P ops J z Q π (mk N (upd σ d (.pointer (some ⟨b, n, none⟩))) ds) w) (hgd : GOK ops (ev N σ) gd := by first | exact trivial | exact ⟨_, rfl, rfl⟩) : WJ r P ops J z Q ((i, true) :: π) (mk N σ ds) w := by
  have hT' : P.underlying T = some (.slice E) := hT
  exact d_val (v := .pointer (some ⟨b, n, none⟩)) hi (fun w' _ => by simp [execOp, hx, hy, Instr.indexAt, asIntOf, run_underlying hT', hn, run_sizeOf1 hE, go_sem]) h hgd
/-- A load of a cell that lay when the region began. -/
theorem d_ld {w0 : World} {E : TypeId} {x : Operand} {ad : Addr} {u : Value} (hi : ops[i]? = some ⟨some d, .load E x, ty, pos, after, gd⟩) (hE : Ty1 P E) (hx : ev N σ x = .pointer (some ad)) (hc : w0.cell? ad = some u)
    (h : WJ r P ops (Ex w0) z Q π (mk N (upd σ d u) ds) w) (hgd : GOK ops (ev N σ) gd := by first | exact trivial | exact ⟨_, rfl, rfl⟩) : WJ r P ops (Ex w0) z Q ((i, true) :: π) (mk N σ ds) w :=
  d_val hi (fun w' hw => by simp [execOp, hx, Instr.loadAt, Instr.sureAddr, run_loadVar1 hE (Ex.cell hw hc)]) h hgd
theorem d_ldA {w0 : World} {E B : TypeId} {x : Operand} {b n : Nat} {cs : List Value} {u : Value} (hi : ops[i]? = some ⟨some d, .load E x, ty, pos, after, gd⟩) (hE : Ty1 P E) (hx : ev N σ x = .pointer (some ⟨b, n, none⟩)) (hA : At w0 b B cs) (hc : cs[n]? = some u)
    (h : WJ r P ops (Ex w0) z Q π (mk N (upd σ d u) ds) w) (hgd : GOK ops (ev N σ) gd := by first | exact trivial | exact ⟨_, rfl, rfl⟩) : WJ r P ops (Ex w0) z Q ((i, true) :: π) (mk N σ ds) w := d_ld hi hE hx (by rw [hA.cell]; exact hc) h hgd
theorem d_ldV {w0 : World} {E B : TypeId} {x : Operand} {b : Nat} {cs : List Value} {dd : TypeDesc} (hi : ops[i]? = some ⟨some d, .load E x, ty, pos, after, gd⟩) (hu : P.underlying E = some dd) (hd : (match dd with | .struct _ | .array _ _ => true | _ => false) = true) (hsz : (P.info? E).map (·.size) = some cs.length)
    (hx : ev N σ x = .pointer (some ⟨b, 0, none⟩)) (hA : At w0 b B cs)
    (h : WJ r P ops (Ex w0) z Q π (mk N (upd σ d (.agg cs.toArray)) ds) w) (hgd : GOK ops (ev N σ) gd := by first | exact trivial | exact ⟨_, rfl, rfl⟩) : WJ r P ops (Ex w0) z Q ((i, true) :: π) (mk N σ ds) w :=
  d_val hi (fun w' hw => by
    simp [execOp, hx, Instr.loadAt, Instr.sureAddr, run_loadVar_row (P := P) w' b B E cs.toArray (0, 0) dd (At.ex hA hw) hu hd (by simpa using hsz)]) h hgd
theorem d_fa {T : TypeId} {x : Operand} {b o : Nat} {fs : Array Field} {f : Nat} {fl : Field} (hi : ops[i]? = some ⟨some d, .fieldAddr T x f, ty, pos, after, gd⟩) (hT : P.underlying T = some (.struct fs)) (hf : fs[f]? = some fl) (hE : Ty1 P fl.type) (hx : ev N σ x = .pointer (some ⟨b, o, none⟩))
    (h : WJ r P ops J z Q π (mk N (upd σ d (.pointer (some ⟨b, o + fl.offset, none⟩))) ds) w) (hgd : GOK ops (ev N σ) gd := by first | exact trivial | exact ⟨_, rfl, rfl⟩) : WJ r P ops J z Q ((i, true) :: π) (mk N σ ds) w :=
  d_val (v := .pointer (some ⟨b, o + fl.offset, none⟩)) hi (fun w' _ => by simp [execOp, hx, Instr.fieldAt, run_underlying hT, hf, Instr.sureAddr, fieldPlace, run_sizeOf1 hE, add_at]) h hgd
theorem d_extract {x : Operand} {n : Nat} {vs : Array Value} {v : Value} (hi : ops[i]? = some ⟨some d, .extract x n, ty, pos, after, gd⟩) (hx : ev N σ x = .tuple vs) (hv : vs[n]? = some v) (h : WJ r P ops J z Q π (mk N (upd σ d v) ds) w) (hgd : GOK ops (ev N σ) gd := by first | exact trivial | exact ⟨_, rfl, rfl⟩) : WJ r P ops J z Q ((i, true) :: π) (mk N σ ds) w :=
  d_val hi (fun w' _ => by simp [execOp, hx, Instr.extract, hv, go_sem]) h hgd
/-- What makes memory, calls or stores: in its one order. -/
theorem d_chain {o : Oper} {a : Act} (hi : ops[i]? = some o) (h : WL r P ops (fun e a' w' => e = .normal ∧ (z.testBit i = true ∨ J w') ∧ WJ r P ops J z Q π a' w') [o] a w) : WJ r P ops J z Q ((i, false) :: π) a w := by
  show wpOpIn _ _ _ _ _ _ _ _ _
  unfold wpOpIn
  simp only [hi]
  have h' : wpListIn (FW r) 0 P ops (fun e a' w' => e = .normal ∧ (z.testBit i = true ∨ J w') ∧ WJ r P ops J z Q π a' w') [o] a w := h
  unfold wpListIn at h'
  have hk : ∀ (a' : Act) (w' : World), wpListIn (FW r) 0 P ops (fun e a' w' => e = Exit.normal ∧ (z.testBit i = true ∨ J w') ∧ WJ r P ops J z Q π a' w') [] a' w' → (z.testBit i = true ∨ J w') ∧ WJ r P ops J z Q π a' w' := fun a' w' hh => hh.2
  split at h'
  · rename_i hw
    simp only [hw, if_true]
    have h2 := Oper.wpIn_mono (Q := fun e a' w' => e = Exit.normal ∧ (z.testBit i = true ∨ J w') ∧ WJ r P ops J z Q π a' w') hk h'
    unfold Oper.wpIn at *
    refine ⟨h2.1, ?_⟩
    have h3 := h2.2
    generalize (o.semAt (FW r).round a.eval).run P w = res at *
    cases res with
    | ok x w' =>
      cases x <;> simp only [Oper.uponIn] at h3 ⊢ <;> first
        | exact h3
        | exact ⟨h3.1, CallsIn.mono h3.2 (fun e w'' he => by cases e <;> first | exact he | exact absurd he.1 (by simp) | exact (let ⟨a, w, hh⟩ := he; absurd hh.1 (by simp)))⟩
        | exact ⟨h3.1, RoundIn.mono h3.2 (fun e w'' he => by cases e <;> first | exact he | exact absurd he.1 (by simp) | exact (let ⟨a, w, hh⟩ := he; absurd hh.1 (by simp)))⟩
    | halt x w' => cases x <;> simp only [Oper.uponIn] at h3 ⊢ <;> first | exact h3 | exact absurd h3.1 (by simp)
  · rename_i hw
    simp only [hw]
    exact ⟨h'.1, hk _ _ h'.2⟩
end draw2
end Go.Proofs.Ytifbgpkjbciblaa.Sal
end
