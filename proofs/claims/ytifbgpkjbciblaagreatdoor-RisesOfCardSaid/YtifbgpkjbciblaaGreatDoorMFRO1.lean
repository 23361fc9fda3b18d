/- Texts that YtifbgpkjbciblaaGreatDoorFRO leans on, laid together: Core1 Core2 Core3 Core4 Core5. -/
import Derived.OwnWalkIn
import Derived.OrdersIn
import Derived.RangeFuncLeaves
import Derived.WalkKit
import Derived.KernelRfl
import Derived.Deep.Upon
section
/- A thin layer over the kit's fenced rules: the frame of a call as a function from slots to values, one explicit lemma an operation. Core1: frames, codes, plain operations. -/
set_option maxRecDepth 100000
namespace Go.Proofs.YtifbgpkjbciblaaGreatDoor.Sal
set_option linter.all false
open Go.RowKit

/-! ### Frames -/
def upd (σ : Nat → Value) (d : Nat) (v : Value) : Nat → Value := fun t => bif Nat.beq t d then v else σ t
def mk (N : Nat) (σ : Nat → Value) (ds : List Deferred) : Act := { tmps := Array.ofFn (fun i : Fin N => σ i.val), defers := ds }
def ev (N : Nat) (σ : Nat → Value) : Operand → Value
  | .tmp t => bif Nat.blt t N then σ t else undef
  | .const v => v
  | .global g => .pointer (some ⟨g, 0, none⟩)
  | .func f => .func (.func f) #[] #[]

theorem upd_same (σ : Nat → Value) (d : Nat) (v : Value) : upd σ d v d = v := by simp [upd]
theorem upd_other {σ : Nat → Value} {d t : Nat} {v : Value} (h : t ≠ d) : upd σ d v t = σ t := by
  have : Nat.beq t d = false := by cases hb : Nat.beq t d with | false => rfl | true => exact absurd (Nat.eq_of_beq_eq_true hb) h
  simp [upd, this]

theorem getD_mk (N : Nat) (σ : Nat → Value) (t : Nat) : (Array.ofFn (fun i : Fin N => σ i.val)).getD t undef = bif Nat.blt t N then σ t else undef := by
  cases h : Nat.blt t N with
  | true =>
    have hlt : t < N := by rw [Nat.blt_eq] at h; exact h
    simp [Array.getD, hlt]
  | false =>
    have hlt : ¬ t < N := fun hh => by rw [← Nat.blt_eq, h] at hh; cases hh
    simp [Array.getD, hlt]

theorem eval_mk (N : Nat) (σ : Nat → Value) (ds : List Deferred) (x : Operand) : (mk N σ ds).eval x = ev N σ x := by
  cases x with
  | tmp t => exact getD_mk N σ t
  | const v => rfl
  | global g => rfl
  | func f => rfl
theorem eval_mk' (N : Nat) (σ : Nat → Value) (ds : List Deferred) : (mk N σ ds).eval = ev N σ := funext (eval_mk N σ ds)

theorem put_mk (N : Nat) (σ : Nat → Value) (ds : List Deferred) (d : Nat) (v : Value) : (mk N σ ds).put (some d) v = mk N (upd σ d v) ds := by
  unfold mk Act.put
  simp only [Act.mk.injEq, and_true]
  apply Array.ext
  · simp
  · intro i h1 h2
    simp at h1
    by_cases hid : i = d
    · subst hid
      simp [upd]
    · have hdi : d ≠ i := fun e => hid e.symm
      rw [Array.getElem_setIfInBounds_ne (by simpa using h1) hdi]
      simp [upd_other hid]
/-- The slots that a piece of code may write, as bits of a number. -/
def tb (M t : Nat) : Bool := Nat.beq (Nat.land (Nat.shiftRight M t) 1) 1
def mask (M : Nat) (ρ σ : Nat → Value) : Nat → Value := fun t => bif tb M t then ρ t else σ t
def ext : List (Nat × Value) → (Nat → Value) → Nat → Value
  | [], σ => σ
  | (d, v) :: l, σ => upd (ext l σ) d v
def Has (σ : Nat → Value) : List (Nat × Value) → Prop
  | [] => True
  | (d, v) :: l => σ d = v ∧ Has σ l
def Agree (M : Nat) (σ' σ : Nat → Value) : Prop := ∀ t, tb M t = false → σ' t = σ t
theorem agree_refl (M : Nat) (σ : Nat → Value) : Agree M σ σ := fun _ _ => rfl
theorem agree_upd {M : Nat} {σ' σ : Nat → Value} {d : Nat} {v : Value} (hd : tb M d = true) (h : Agree M σ' σ) : Agree M (upd σ' d v) σ := fun t ht => by
  rw [upd_other (fun e => by rw [e, hd] at ht; cases ht)]; exact h t ht
theorem agree_mask {M M' : Nat} {ρ σ' σ : Nat → Value} (hs : Nat.land M' M = M') (h : Agree M σ' σ) : Agree M (mask M' ρ σ') σ := fun t ht => by
  have : tb M' t = false := by
    simp only [tb] at ht ⊢
    have ht' : ¬ (Nat.land (Nat.shiftRight M t) 1 = 1) := fun e => by rw [e] at ht; cases ht
    cases hb : Nat.beq (Nat.land (Nat.shiftRight M' t) 1) 1 with
    | false => rfl
    | true =>
      exfalso
      have hb' := Nat.eq_of_beq_eq_true hb
      apply ht'
      have h1 : M'.testBit t = true := by
        unfold Nat.testBit
        have : 1 &&& (M' >>> t) = 1 := by rw [Nat.and_comm]; exact hb'
        rw [this]; rfl
      have h2 : (M' &&& M).testBit t = true := by
        have e : M' &&& M = M' := hs
        rw [e]; exact h1
      rw [Nat.testBit_and] at h2
      have h3 : M.testBit t = true := by simp at h2; exact h2.2
      unfold Nat.testBit at h3
      have h4 : 1 &&& (M >>> t) = (M >>> t) % 2 := by rw [Nat.and_comm, Nat.and_one_is_mod]
      have h5 : Nat.land (Nat.shiftRight M t) 1 = (M >>> t) % 2 := Nat.and_one_is_mod (M >>> t)
      rw [h5]
      rw [h4] at h3
      have h6 : (M >>> t) % 2 ≠ 0 := by simpa using h3
      omega
  simp [mask, this]
  exact h t ht
theorem agree_ext {M : Nat} {σ' σ : Nat → Value} : ∀ {l : List (Nat × Value)}, (l.all fun p => tb M p.1) = true → Agree M σ' σ → Agree M (ext l σ') σ
  | [], _, h => h
  | (d, v) :: l, hl, h => by
    simp only [List.all_cons, Bool.and_eq_true] at hl
    exact agree_upd hl.1 (agree_ext hl.2 h)
theorem upd_self (σ : Nat → Value) (d : Nat) (v : Value) (h : σ d = v) : upd σ d v = σ := by
  funext t
  by_cases e : t = d
  · subst e; rw [upd_same, h]
  · exact upd_other e
theorem ext_has {σ : Nat → Value} : ∀ {l : List (Nat × Value)}, Has σ l → ext l σ = σ
  | [], _ => rfl
  | (d, v) :: l, h => by
    show upd (ext l σ) d v = σ
    rw [ext_has h.2]; exact upd_self σ d v h.1
theorem mask_self {M : Nat} {σ' σ : Nat → Value} (h : Agree M σ' σ) : mask M σ' σ = σ' := by
  funext t
  simp only [mask]
  cases ht : tb M t with
  | true => rfl
  | false => exact (h t ht).symm

/-! ### Codes -/
abbrev FW (r : Option Nat) : Fence := { Fence.wide with round := r }
abbrev CW (r : Option Nat) (P : Program) (c : Code) (Q : Exit → Act → World → Prop) (a : Act) (w : World) : Prop := c.wpIn (FW r) 0 P Q a w
abbrev WL (r : Option Nat) (P : Program) (ops : Array Oper) (Q : Exit → Act → World → Prop) (l : List Oper) (a : Act) (w : World) : Prop := wpListIn (FW r) 0 P ops Q l a w

section codes
variable {r : Option Nat} {P : Program} {Q : Exit → Act → World → Prop} {a : Act} {w : World}
theorem c_seq {x y : Code} (h : CW r P x (Exit.then (CW r P y Q) Q) a w) : CW r P (.seq x y) Q a w := wpIn_seq h
theorem c_skip (h : Q .normal a w) : CW r P .skip Q a w := wpIn_skip h
theorem c_exit {id : Nat} (h : Q (.exit id) a w) : CW r P (.exit id) Q a w := wpIn_exit h
theorem c_goto {l : Nat} (h : Q (.goto l) a w) : CW r P (.goto l) Q a w := wpIn_goto h
theorem c_label {l : Nat} (h : Q .normal a w) : CW r P (.label l) Q a w := wpIn_label h
theorem c_ret (h : Q .ret a w) : CW r P .ret Q a w := wpIn_ret h
theorem c_block {id : Nat} {c : Code} (h : CW r P c (Exit.inBlock id Q) a w) : CW r P (.block id c) Q a w := wpIn_block h
theorem c_region {id : Nat} {l : List Oper} (h : WL r P l.toArray Q l a w) : CW r P (.region id l.toArray false) Q a w := wpIn_region_lit h
theorem l_nil {ops : Array Oper} (h : Q .normal a w) : WL r P ops Q [] a w := h
theorem c_if {c : Operand} {x y : Code} {t : Bool} {N : Nat} {σ : Nat → Value} {ds : List Deferred} (hc : ev N σ c = .bool t) (ht : t = true → CW r P x Q (mk N σ ds) w)
    (hf : t = false → CW r P y Q (mk N σ ds) w) : CW r P (.cond c x y) Q (mk N σ ds) w := wpIn_cond_split (by rw [eval_mk]; exact hc) ht hf
theorem c_ifd {c : Operand} {x y : Code} {p : Prop} [Decidable p] {N : Nat} {σ : Nat → Value} {ds : List Deferred} (hc : ev N σ c = .bool (decide p)) (ht : p → CW r P x Q (mk N σ ds) w)
    (hf : ¬ p → CW r P y Q (mk N σ ds) w) : CW r P (.cond c x y) Q (mk N σ ds) w := c_if hc (fun h => ht (of_decide_eq_true h)) (fun h => hf (of_decide_eq_false h))
theorem c_ift {c : Operand} {x y : Code} {N : Nat} {σ : Nat → Value} {ds : List Deferred} (hc : ev N σ c = .bool true) (ht : CW r P x Q (mk N σ ds) w) : CW r P (.cond c x y) Q (mk N σ ds) w :=
  c_if hc (fun _ => ht) (fun h => by cases h)
theorem c_iff {c : Operand} {x y : Code} {N : Nat} {σ : Nat → Value} {ds : List Deferred} (hc : ev N σ c = .bool false) (ht : CW r P y Q (mk N σ ds) w) : CW r P (.cond c x y) Q (mk N σ ds) w :=
  c_if hc (fun h => by cases h) (fun _ => ht)
/-- Weaken what is asked behind: the ways meet again at an assertion. -/
theorem c_mono {c : Code} {Q' : Exit → Act → World → Prop} (h : CW r P c Q' a w) (hq : ∀ e a w, Q' e a w → Q e a w) : CW r P c Q a w := wpIn_mono h hq

/-- A LOOP. γ: what a round's head knows; M: the slots that its body may write; vals: those of them whose values are told; Inv: what holds of the world; μ falls. -/
def LoopEnd {γ : Type} (N : Nat) (ds : List Deferred) (M : Nat) (σ : Nat → Value) (vals : γ → List (Nat × Value)) (Inv : γ → World → Prop) (μ : γ → Nat) (x : γ) (a' : Act) (w' : World) : Prop :=
  ∃ x' σ', a' = mk N σ' ds ∧ Agree M σ' σ ∧ Has σ' (vals x') ∧ Inv x' w' ∧ μ x' < μ x
theorem loop_end {γ : Type} {N : Nat} {ds : List Deferred} {M : Nat} {σ σ' : Nat → Value} {vals : γ → List (Nat × Value)} {Inv : γ → World → Prop} {μ : γ → Nat} {x : γ} {w' : World} (x' : γ)
    (ha : Agree M σ' σ) (hv : Has σ' (vals x')) (hi : Inv x' w') (hm : μ x' < μ x) : LoopEnd N ds M σ vals Inv μ x (mk N σ' ds) w' := ⟨x', σ', rfl, ha, hv, hi, hm⟩
theorem c_loop {γ : Type} (M : Nat) (vals : γ → List (Nat × Value)) (Inv : γ → World → Prop) (μ : γ → Nat) {N : Nat} {σ : Nat → Value} {ds : List Deferred} {c : Code} (x₀ : γ)
    (h₀ : Has σ (vals x₀)) (hI : Inv x₀ w)
    (round : ∀ (x : γ) (ρ : Nat → Value) (w : World), Inv x w → CW r P c (Exit.then (LoopEnd N ds M σ vals Inv μ x) Q) (mk N (ext (vals x) (mask M ρ σ)) ds) w) : CW r P (.loop c) Q (mk N σ ds) w := by
  intro b k cs hro hb hr
  have key : ∀ j (x : γ) (σ' : Nat → Value) (w : World), μ x = j → Agree M σ' σ → Has σ' (vals x) → Inv x w →
      ∃ e a' w', Q e a' w' ∧ ArrivesIn (Machine.fenced P (FW r)) P (lone (b.atR (mk N σ' ds) (.code c :: .inLoop c :: k)) cs w) b k cs e a' w' := by
    intro j
    induction j using Nat.strongRecOn with
    | _ j ih =>
      intro x σ' w hn hag hhas hI
      have hrd := round x σ' w hI
      rw [mask_self hag, ext_has hhas] at hrd
      obtain ⟨e, a₁, w₁, hq, harr⟩ := hrd b (.inLoop c :: k) cs hro hb hr
      cases e with
      | normal =>
        obtain ⟨x', σ'', ha, hag', hhas', hI', hlt⟩ := hq
        subst ha
        obtain ⟨e₂, a₂, w₂, hq₂, harr₂⟩ := ih (μ x') (hn ▸ hlt) x' σ'' w₁ rfl hag' hhas' hI'
        exact ⟨e₂, a₂, w₂, hq₂, .of_steps (StepsIn.trans harr (.one (fenced_calm hb hr rfl) stepR_inLoop)) harr₂⟩
      | exit id => exact ⟨_, a₁, w₁, hq, .pass (x := .inLoop c) rfl (fun _ _ => .inl (by simp)) harr⟩
      | goto l => exact ⟨_, a₁, w₁, hq, .pass (x := .inLoop c) rfl (fun _ _ => .inl (by simp)) harr⟩
      | ret => exact ⟨_, a₁, w₁, hq, .pass (x := .inLoop c) rfl (fun _ _ => .inl (by simp)) harr⟩
      | panic ch => exact ⟨_, a₁, w₁, hq, .pass (x := .inLoop c) rfl (fun _ _ => .inl (by simp)) harr⟩
      | outgrown => exact ⟨_, a₁, w₁, hq, .pass (x := .inLoop c) rfl (fun _ _ => .inl (by simp)) harr⟩
  obtain ⟨e, a', w', hq, harr⟩ := key _ x₀ σ w rfl (agree_refl M σ) h₀ hI
  exact ⟨e, a', w', hq, .of_steps (.one (fenced_calm hb hr rfl) stepR_loop) harr⟩
end codes
end Go.Proofs.YtifbgpkjbciblaaGreatDoor.Sal
end
section
/- Core2: the plain operations, a lemma each. -/
set_option maxRecDepth 100000
namespace Go.Proofs.YtifbgpkjbciblaaGreatDoor.Sal
set_option linter.all false
open Go.RowKit

section ops
variable {r : Option Nat} {P : Program} {ops : Array Oper} {Q : Exit → Act → World → Prop} {N : Nat} {σ : Nat → Value} {ds : List Deferred} {w : World} {rest : List Oper}
variable {d : Nat} {ty : TypeId} {pos : String} {after : Array Edge}

theorem l_val {op : Op} {v : Value} {w' : World} (hnd : ∀ c, op ≠ .defer c) (hrun : (execOp (ev N σ) ⟨some d, op, ty, pos, after, none⟩).run P w = .ok (.value v) w')
    (h : WL r P ops Q rest (mk N (upd σ d v) ds) w') : WL r P ops Q (⟨some d, op, ty, pos, after, none⟩ :: rest) (mk N σ ds) w := by
  refine wpListIn_plain rfl fun K hK => ?_
  refine ⟨fun f _ => trivial, ?_⟩
  rw [Oper.semAt_plain (FW r) _ _ hnd, eval_mk', hrun]
  simp only [Oper.uponIn_value]
  rw [put_mk]
  exact hK _ _ h
theorem l_eff {op : Op} {w' : World} (hnd : ∀ c, op ≠ .defer c) (hrun : (execOp (ev N σ) ⟨none, op, ty, pos, after, none⟩).run P w = .ok .skip w')
    (h : WL r P ops Q rest (mk N σ ds) w') : WL r P ops Q (⟨none, op, ty, pos, after, none⟩ :: rest) (mk N σ ds) w := by
  refine wpListIn_plain rfl fun K hK => ?_
  refine ⟨fun f _ => trivial, ?_⟩
  rw [Oper.semAt_plain (FW r) _ _ hnd, eval_mk', hrun]
  simp only [Oper.uponIn_skip]
  exact hK _ _ h

/-- A guard: the bool that decides it stands in slot g of the frame. -/
theorem wanted_of {o : Oper} {j g : Nat} {b want : Bool} (hg : o.guard = some (j, want)) (hj : (ops[j]?).bind (·.dst) = some g) (hb : ev N σ (.tmp g) = .bool b) :
    Region.wanted o (yielded ops (mk N σ ds).tmps) = (b == want) := by
  have e : (mk N σ ds).tmps.getD g undef = .bool b := (getD_mk N σ g).trans hb
  have y : yielded ops (mk N σ ds).tmps j = some b := by
    unfold yielded
    rw [hj]
    have e2 : (mk N σ ds).tmps[g]? = some (.bool b) := by
      have h3 := e
      unfold Array.getD at h3
      split at h3
      · rename_i hl
        rw [Array.getElem?_eq_getElem hl]
        exact congrArg some h3
      · exact absurd h3 (by simp [undef])
    simp [e2]
  unfold Region.wanted
  rw [hg]
  simp only [y]
  cases b <;> cases want <;> rfl
theorem g_yes {dst : Option Tmp} {op : Op} {j g : Nat} {want : Bool} (hj : (ops[j]?).bind (·.dst) = some g) (hb : ev N σ (.tmp g) = .bool want)
    (h : WL r P ops Q (⟨dst, op, ty, pos, after, none⟩ :: rest) (mk N σ ds) w) : WL r P ops Q (⟨dst, op, ty, pos, after, some (j, want)⟩ :: rest) (mk N σ ds) w := by
  have hw := wanted_of (ds := ds) (o := ⟨dst, op, ty, pos, after, some (j, want)⟩) rfl hj hb
  show wpListIn _ _ _ _ _ _ _ _
  unfold wpListIn
  rw [hw]
  have h' : wpListIn (FW r) 0 P ops Q (⟨dst, op, ty, pos, after, none⟩ :: rest) (mk N σ ds) w := h
  unfold wpListIn at h'
  simp only [Region.wanted, if_true] at h'
  simp only [beq_self_eq_true, if_true]
  exact h'
theorem g_no {op : Op} {j g : Nat} {want b : Bool} (hj : (ops[j]?).bind (·.dst) = some g) (hb : ev N σ (.tmp g) = .bool b) (hne : (b == want) = false)
    (h : WL r P ops Q rest (mk N (upd σ d undef) ds) w) : WL r P ops Q (⟨some d, op, ty, pos, after, some (j, want)⟩ :: rest) (mk N σ ds) w := by
  have hw := wanted_of (ds := ds) (o := ⟨some d, op, ty, pos, after, some (j, want)⟩) rfl hj hb
  show wpListIn _ _ _ _ _ _ _ _
  unfold wpListIn
  rw [hw, hne]
  simp only [Bool.false_eq_true, if_false]
  refine ⟨fun f _ => trivial, ?_⟩
  rw [put_mk]
  exact h

/-- The guard itself was passed over. -/
theorem g_un {op : Op} {j g : Nat} {want : Bool} (hj : (ops[j]?).bind (·.dst) = some g) (hb : ev N σ (.tmp g) = undef)
    (h : WL r P ops Q rest (mk N (upd σ d undef) ds) w) : WL r P ops Q (⟨some d, op, ty, pos, after, some (j, want)⟩ :: rest) (mk N σ ds) w := by
  have hw : Region.wanted (⟨some d, op, ty, pos, after, some (j, want)⟩ : Oper) (yielded ops (mk N σ ds).tmps) = false := by
    have e : (mk N σ ds).tmps.getD g undef = undef := (getD_mk N σ g).trans hb
    have y : yielded ops (mk N σ ds).tmps j = none := by
      unfold yielded
      rw [hj]
      simp only [Option.bind_some]
      unfold Array.getD at e
      split at e
      · rename_i hl
        rw [Array.getElem?_eq_getElem hl]
        have e' : (mk N σ ds).tmps[g] = undef := e
        rw [e']; rfl
      · rename_i hl
        rw [Array.getElem?_eq_none (by simpa using hl)]
    unfold Region.wanted
    simp only [y]
    cases want <;> rfl
  show wpListIn _ _ _ _ _ _ _ _
  unfold wpListIn
  rw [hw]
  simp only [Bool.false_eq_true, if_false]
  refine ⟨fun f _ => trivial, ?_⟩
  rw [put_mk]
  exact h

theorem s_move {x : Operand} (h : WL r P ops Q rest (mk N (upd σ d (ev N σ x)) ds) w) : WL r P ops Q (⟨some d, .move x, ty, pos, after, none⟩ :: rest) (mk N σ ds) w :=
  l_val (by intro c e; cases e) rfl h
theorem s_assign {x : Operand} (h : WL r P ops Q rest (mk N (upd σ d (ev N σ x)) ds) w) : WL r P ops Q (⟨some d, .assign x, ty, pos, after, none⟩ :: rest) (mk N σ ds) w :=
  l_val (by intro c e; cases e) rfl h
theorem s_pick {c x y : Operand} {b : Bool} (hc : ev N σ c = .bool b) (h : WL r P ops Q rest (mk N (upd σ d (if b then ev N σ x else ev N σ y)) ds) w) : WL r P ops Q (⟨some d, .pick c x y, ty, pos, after, none⟩ :: rest) (mk N σ ds) w :=
  l_val (by intro c e; cases e) (by simp [execOp, hc, go_sem]) h
theorem s_pickt {c x y : Operand} {v : Value} (hc : ev N σ c = .bool true) (hx : ev N σ x = v) (h : WL r P ops Q rest (mk N (upd σ d v) ds) w) : WL r P ops Q (⟨some d, .pick c x y, ty, pos, after, none⟩ :: rest) (mk N σ ds) w :=
  s_pick hc (by simpa [hx] using h)
theorem s_pickf {c x y : Operand} {v : Value} (hc : ev N σ c = .bool false) (hx : ev N σ y = v) (h : WL r P ops Q rest (mk N (upd σ d v) ds) w) : WL r P ops Q (⟨some d, .pick c x y, ty, pos, after, none⟩ :: rest) (mk N σ ds) w :=
  s_pick hc (by simpa [hx] using h)
theorem s_not {x : Operand} {t : TypeId} {b : Bool} (hx : ev N σ x = .bool b) (h : WL r P ops Q rest (mk N (upd σ d (.bool !b)) ds) w) : WL r P ops Q (⟨some d, .unOp .not t x, ty, pos, after, none⟩ :: rest) (mk N σ ds) w :=
  l_val (by intro c e; cases e) (by simp [execOp, hx, go_sem, Op.unary]) h
theorem s_extract {x : Operand} {i : Nat} {vs : Array Value} {v : Value} (hx : ev N σ x = .tuple vs) (hi : vs[i]? = some v) (h : WL r P ops Q rest (mk N (upd σ d v) ds) w) : WL r P ops Q (⟨some d, .extract x i, ty, pos, after, none⟩ :: rest) (mk N σ ds) w :=
  l_val (by intro c e; cases e) (by simp [execOp, hx, Instr.extract, hi, go_sem]) h

section bin
variable {t t' : TypeId} {x y : Operand} {k k' : IntKind} {a b : Int}
theorem bin_run {op : BinOp} {u v res : Value} (hx : ev N σ x = u) (hy : ev N σ y = v) (hg : eqGuard op t x y u v = pure ()) (hr : (binOp op t u v).run P w = .ok res w) :
    (execOp (ev N σ) ⟨some d, .binOp op t x y t', ty, pos, after, none⟩).run P w = .ok (.value res) w := by
  simp [execOp, hx, hy, hg, hr, go_sem]
theorem s_addw (hx : ev N σ x = .int k a) (hy : ev N σ y = .int k b) (h : WL r P ops Q rest (mk N (upd σ d (.int k (k.wrap (a + b)))) ds) w) : WL r P ops Q (⟨some d, .binOp .add t x y t', ty, pos, after, none⟩ :: rest) (mk N σ ds) w :=
  l_val (by intro c e; cases e) (bin_run hx hy rfl (by simp [go_sem, Op.intArith])) h
theorem s_subw (hx : ev N σ x = .int k a) (hy : ev N σ y = .int k b) (h : WL r P ops Q rest (mk N (upd σ d (.int k (k.wrap (a - b)))) ds) w) : WL r P ops Q (⟨some d, .binOp .sub t x y t', ty, pos, after, none⟩ :: rest) (mk N σ ds) w :=
  l_val (by intro c e; cases e) (bin_run hx hy rfl (by simp [go_sem, Op.intArith])) h
theorem s_mulw (hx : ev N σ x = .int k a) (hy : ev N σ y = .int k b) (h : WL r P ops Q rest (mk N (upd σ d (.int k (k.wrap (a * b)))) ds) w) : WL r P ops Q (⟨some d, .binOp .mul t x y t', ty, pos, after, none⟩ :: rest) (mk N σ ds) w :=
  l_val (by intro c e; cases e) (bin_run hx hy rfl (by simp [go_sem, Op.intArith])) h
def In64 (n : Int) : Prop := -9223372036854775808 ≤ n ∧ n ≤ 9223372036854775807
theorem wrap_in {n : Int} (h : In64 n) : IntKind.i64.wrap n = n := by
  obtain ⟨h1, h2⟩ := h
  exact IntWalk.i64_in n (by omega)
theorem s_add (hx : ev N σ x = .int .i64 a) (hy : ev N σ y = .int .i64 b) (hr : In64 (a + b)) (h : WL r P ops Q rest (mk N (upd σ d (.int .i64 (a + b))) ds) w) : WL r P ops Q (⟨some d, .binOp .add t x y t', ty, pos, after, none⟩ :: rest) (mk N σ ds) w :=
  s_addw hx hy (by rw [wrap_in hr]; exact h)
theorem s_sub (hx : ev N σ x = .int .i64 a) (hy : ev N σ y = .int .i64 b) (hr : In64 (a - b)) (h : WL r P ops Q rest (mk N (upd σ d (.int .i64 (a - b))) ds) w) : WL r P ops Q (⟨some d, .binOp .sub t x y t', ty, pos, after, none⟩ :: rest) (mk N σ ds) w :=
  s_subw hx hy (by rw [wrap_in hr]; exact h)
/-- A counter: one more. -/
theorem s_inc {n : Nat} (hx : ev N σ x = .int .i64 (n : Int)) (hr : n < 9223372036854775807) (h : WL r P ops Q rest (mk N (upd σ d (.int .i64 ((n + 1 : Nat) : Int))) ds) w) :
    WL r P ops Q (⟨some d, .binOp .add t x (.const (.int .i64 1)) t', ty, pos, after, none⟩ :: rest) (mk N σ ds) w :=
  s_add hx rfl ⟨by omega, by omega⟩ h
theorem s_lss (hx : ev N σ x = .int k a) (hy : ev N σ y = .int k b) (h : WL r P ops Q rest (mk N (upd σ d (.bool (decide (a < b)))) ds) w) : WL r P ops Q (⟨some d, .binOp .lss t x y t', ty, pos, after, none⟩ :: rest) (mk N σ ds) w :=
  l_val (by intro c e; cases e) (bin_run hx hy rfl (by simp [go_sem])) h
theorem s_leq (hx : ev N σ x = .int k a) (hy : ev N σ y = .int k b) (h : WL r P ops Q rest (mk N (upd σ d (.bool (decide (a ≤ b)))) ds) w) : WL r P ops Q (⟨some d, .binOp .leq t x y t', ty, pos, after, none⟩ :: rest) (mk N σ ds) w :=
  l_val (by intro c e; cases e) (bin_run hx hy rfl (by simp [go_sem])) h
theorem s_gtr (hx : ev N σ x = .int k a) (hy : ev N σ y = .int k b) (h : WL r P ops Q rest (mk N (upd σ d (.bool (decide (b < a)))) ds) w) : WL r P ops Q (⟨some d, .binOp .gtr t x y t', ty, pos, after, none⟩ :: rest) (mk N σ ds) w :=
  l_val (by intro c e; cases e) (bin_run hx hy rfl (by simp [go_sem])) h
theorem s_geq (hx : ev N σ x = .int k a) (hy : ev N σ y = .int k b) (h : WL r P ops Q rest (mk N (upd σ d (.bool (decide (b ≤ a)))) ds) w) : WL r P ops Q (⟨some d, .binOp .geq t x y t', ty, pos, after, none⟩ :: rest) (mk N σ ds) w :=
  l_val (by intro c e; cases e) (bin_run hx hy rfl (by simp [go_sem])) h
theorem beq_dec (a b : Int) : (a == b) = decide (a = b) := by by_cases h : a = b <;> simp [h]
theorem s_eql (hx : ev N σ x = .int k a) (hy : ev N σ y = .int k b) (h : WL r P ops Q rest (mk N (upd σ d (.bool (decide (a = b)))) ds) w) : WL r P ops Q (⟨some d, .binOp .eql t x y t', ty, pos, after, none⟩ :: rest) (mk N σ ds) w :=
  l_val (by intro c e; cases e) (bin_run hx hy (by simp [go_sem]) (by simp [go_sem, beq_dec])) h
theorem s_neq (hx : ev N σ x = .int k a) (hy : ev N σ y = .int k b) (h : WL r P ops Q rest (mk N (upd σ d (.bool (decide (a ≠ b)))) ds) w) : WL r P ops Q (⟨some d, .binOp .neq t x y t', ty, pos, after, none⟩ :: rest) (mk N σ ds) w :=
  l_val (by intro c e; cases e) (bin_run hx hy (by simp [go_sem]) (by
    have e : (a != b) = decide (a ≠ b) := by by_cases h : a = b <;> simp [h]
    simp [go_sem, e])) h
theorem run_equalIn_bool (P : Program) (w : World) (d : Nat) (t : TypeId) (p q : Bool) (h : P.underlying t = some .bool) : (Op.equalIn (d + 1) t (.bool p) (.bool q)).run P w = .ok (p == q) w := by
  simp [Op.equalIn, run_underlying h]
theorem run_equal_bool (P : Program) (w : World) (t : TypeId) (p q : Bool) (h : P.underlying t = some .bool) : (Op.equal t (.bool p) (.bool q)).run P w = .ok (p == q) w := run_equalIn_bool P w 9999 t p q h
theorem s_eqlb {p q : Bool} (hT : P.underlying t = some .bool) (hx : ev N σ x = .bool p) (hy : ev N σ y = .bool q) (h : WL r P ops Q rest (mk N (upd σ d (.bool (p == q))) ds) w) : WL r P ops Q (⟨some d, .binOp .eql t x y t', ty, pos, after, none⟩ :: rest) (mk N σ ds) w :=
  l_val (by intro c e; cases e) (bin_run hx hy (by simp [go_sem]) (by
    show ((Op.equal t (.bool p) (.bool q)).bind fun b => (Sem.pure (Value.bool b) : Sem Value)).run P w = _
    simp [Sem.run_bind', run_equal_bool P w t p q hT])) h
theorem s_lssT (hx : ev N σ x = .int k a) (hy : ev N σ y = .int k b) (hp : a < b) (h : WL r P ops Q rest (mk N (upd σ d (.bool true)) ds) w) : WL r P ops Q (⟨some d, .binOp .lss t x y t', ty, pos, after, none⟩ :: rest) (mk N σ ds) w :=
  s_lss hx hy (by rw [decide_eq_true hp]; exact h)
theorem s_lssF (hx : ev N σ x = .int k a) (hy : ev N σ y = .int k b) (hp : ¬ (a < b)) (h : WL r P ops Q rest (mk N (upd σ d (.bool false)) ds) w) : WL r P ops Q (⟨some d, .binOp .lss t x y t', ty, pos, after, none⟩ :: rest) (mk N σ ds) w :=
  s_lss hx hy (by rw [decide_eq_false hp]; exact h)
theorem s_leqT (hx : ev N σ x = .int k a) (hy : ev N σ y = .int k b) (hp : a ≤ b) (h : WL r P ops Q rest (mk N (upd σ d (.bool true)) ds) w) : WL r P ops Q (⟨some d, .binOp .leq t x y t', ty, pos, after, none⟩ :: rest) (mk N σ ds) w :=
  s_leq hx hy (by rw [decide_eq_true hp]; exact h)
theorem s_leqF (hx : ev N σ x = .int k a) (hy : ev N σ y = .int k b) (hp : ¬ (a ≤ b)) (h : WL r P ops Q rest (mk N (upd σ d (.bool false)) ds) w) : WL r P ops Q (⟨some d, .binOp .leq t x y t', ty, pos, after, none⟩ :: rest) (mk N σ ds) w :=
  s_leq hx hy (by rw [decide_eq_false hp]; exact h)
theorem s_gtrT (hx : ev N σ x = .int k a) (hy : ev N σ y = .int k b) (hp : b < a) (h : WL r P ops Q rest (mk N (upd σ d (.bool true)) ds) w) : WL r P ops Q (⟨some d, .binOp .gtr t x y t', ty, pos, after, none⟩ :: rest) (mk N σ ds) w :=
  s_gtr hx hy (by rw [decide_eq_true hp]; exact h)
theorem s_gtrF (hx : ev N σ x = .int k a) (hy : ev N σ y = .int k b) (hp : ¬ (b < a)) (h : WL r P ops Q rest (mk N (upd σ d (.bool false)) ds) w) : WL r P ops Q (⟨some d, .binOp .gtr t x y t', ty, pos, after, none⟩ :: rest) (mk N σ ds) w :=
  s_gtr hx hy (by rw [decide_eq_false hp]; exact h)
theorem s_geqT (hx : ev N σ x = .int k a) (hy : ev N σ y = .int k b) (hp : b ≤ a) (h : WL r P ops Q rest (mk N (upd σ d (.bool true)) ds) w) : WL r P ops Q (⟨some d, .binOp .geq t x y t', ty, pos, after, none⟩ :: rest) (mk N σ ds) w :=
  s_geq hx hy (by rw [decide_eq_true hp]; exact h)
theorem s_geqF (hx : ev N σ x = .int k a) (hy : ev N σ y = .int k b) (hp : ¬ (b ≤ a)) (h : WL r P ops Q rest (mk N (upd σ d (.bool false)) ds) w) : WL r P ops Q (⟨some d, .binOp .geq t x y t', ty, pos, after, none⟩ :: rest) (mk N σ ds) w :=
  s_geq hx hy (by rw [decide_eq_false hp]; exact h)
theorem s_eqlT (hx : ev N σ x = .int k a) (hy : ev N σ y = .int k b) (hp : a = b) (h : WL r P ops Q rest (mk N (upd σ d (.bool true)) ds) w) : WL r P ops Q (⟨some d, .binOp .eql t x y t', ty, pos, after, none⟩ :: rest) (mk N σ ds) w :=
  s_eql hx hy (by rw [decide_eq_true hp]; exact h)
theorem s_eqlF (hx : ev N σ x = .int k a) (hy : ev N σ y = .int k b) (hp : ¬ (a = b)) (h : WL r P ops Q rest (mk N (upd σ d (.bool false)) ds) w) : WL r P ops Q (⟨some d, .binOp .eql t x y t', ty, pos, after, none⟩ :: rest) (mk N σ ds) w :=
  s_eql hx hy (by rw [decide_eq_false hp]; exact h)
theorem s_neqT (hx : ev N σ x = .int k a) (hy : ev N σ y = .int k b) (hp : a ≠ b) (h : WL r P ops Q rest (mk N (upd σ d (.bool true)) ds) w) : WL r P ops Q (⟨some d, .binOp .neq t x y t', ty, pos, after, none⟩ :: rest) (mk N σ ds) w :=
  s_neq hx hy (by rw [decide_eq_true hp]; exact h)
theorem s_neqF (hx : ev N σ x = .int k a) (hy : ev N σ y = .int k b) (hp : ¬ (a ≠ b)) (h : WL r P ops Q rest (mk N (upd σ d (.bool false)) ds) w) : WL r P ops Q (⟨some d, .binOp .neq t x y t', ty, pos, after, none⟩ :: rest) (mk N σ ds) w :=
  s_neq hx hy (by rw [decide_eq_false hp]; exact h)
end bin
end ops
end Go.Proofs.YtifbgpkjbciblaaGreatDoor.Sal
end
section
/- Core3: functions: their contracts, calls, returns. -/
set_option maxRecDepth 100000
namespace Go.Proofs.YtifbgpkjbciblaaGreatDoor.Sal
set_option linter.all false
open Go.RowKit

def RE (R : Value → World → Prop) : Ending → World → Prop := fun e w => ∃ v, e = .returned v ∧ R v w
/-- A CONTRACT: called with these values in this world, the function returns, and R holds of what it returns and of the world behind. -/
def Ct (P : Program) (f : FuncId) (args : Array Value) (w : World) (R : Value → World → Prop) : Prop := CallsIn Fence.wide 0 P f args w (RE R)
theorem Ct.mono {P : Program} {f : FuncId} {args : Array Value} {w : World} {R R' : Value → World → Prop} (h : Ct P f args w R) (hr : ∀ v w', R v w' → R' v w') : Ct P f args w R' :=
  CallsIn.mono h fun _ w' he => let ⟨v, hv, hR⟩ := he; ⟨v, hv, hr v w' hR⟩
theorem Ct.calls {P : Program} {f : FuncId} {args : Array Value} {w : World} {R : Value → World → Prop} (h : Ct P f args w R) : Calls P f args w (RE R) := callsIn_wide.1 h

def CallOK (P : Program) (f : FuncId) : Prop := ∀ args w, (callFunc f args).run P w = .ok (.enter f args) w
theorem callOK {P : Program} {f : FuncId} {fn : Func} {c : Code} (hf : P.funcs[f]? = some fn) (hn : (fn.name == "runtime.NumGoroutine") = false) (hb : fn.body = some c) : CallOK P f := by
  intro args w
  unfold callFunc
  simp [program, Sem.run, hf, hb]
  intro h
  rw [h] at hn
  simp at hn

def args0 (vs : List Value) : Nat → Value := fun t => vs.getD t undef

theorem enter_tmps (N : Nat) (vs : List Value) (h : vs.length ≤ N) : ({ tmps := vs.toArray ++ Array.replicate (N - vs.toArray.size) undef, defers := [] } : Act) = mk N (args0 vs) [] := by
  unfold mk
  simp only [Act.mk.injEq, and_true]
  apply Array.ext
  · simp; omega
  · intro i h1 h2
    simp at h1 h2
    by_cases hi : i < vs.length
    · simp [args0, hi]
    · rw [Array.getElem_append_right (by simpa using Nat.le_of_not_lt hi)]
      simp [args0, hi]

theorem vint {k : IntKind} {a b : Int} (h : a = b) : Value.int k a = Value.int k b := by rw [h]
theorem vbool {a b : Bool} (h : a = b) : Value.bool a = Value.bool b := by rw [h]
section ends
variable {K : Act → World → Prop} {Q : Exit → Act → World → Prop} {a : Act} {w : World}
theorem th_norm (h : K a w) : Exit.then K Q .normal a w := h
theorem th_exit {id : Nat} (h : Q (.exit id) a w) : Exit.then K Q (.exit id) a w := h
theorem th_goto {id : Nat} (h : Q (.goto id) a w) : Exit.then K Q (.goto id) a w := h
theorem th_ret (h : Q .ret a w) : Exit.then K Q .ret a w := h
theorem ib_norm {id : Nat} (h : Q .normal a w) : Exit.inBlock id Q .normal a w := h
theorem ib_ret {id : Nat} (h : Q .ret a w) : Exit.inBlock id Q .ret a w := h
theorem ib_goto {id l : Nat} (h : Q (.goto l) a w) : Exit.inBlock id Q (.goto l) a w := h
theorem ib_exit {id : Nat} (h : Q .normal a w) : Exit.inBlock id Q (.exit id) a w := by simp only [Exit.inBlock, if_true]; exact h
end ends
section fns
variable {P : Program} {f : FuncId} {fn : Func} {w : World} {R : Value → World → Prop} {N : Nat} {σ : Nat → Value}
abbrev Post (P : Program) (fn : Func) (R : Value → World → Prop) : Exit → Act → World → Prop := bodyPostM (FW none) 0 P fn (RE R)
theorem enter {c : Code} {vs : List Value} (hf : P.funcs[f]? = some fn) (hb : fn.body = some c) (hN : fn.ntmps = N) (hlen : Nat.ble vs.length N = true)
    (h : CW none P c (Post P fn R) (mk N (args0 vs) []) w) : Ct P f vs.toArray w R := by
  refine callsIn_of_wp_marks (F := Fence.wide) hf hb trivial ?_
  rw [hN, enter_tmps N vs (Nat.le_of_ble_eq_true hlen)]
  exact h
theorem leave_nil {tmps : Array Value} {v : Value} (hr : (results fn tmps).run P w = .ok v w) (hR : R v w) : LeavesInM (FW none) 0 P fn tmps (RE R) [] .returning w := ⟨v, hr, v, rfl, hR⟩
theorem getD_mk' {N : Nat} {σ : Nat → Value} {t : Nat} {v : Value} {ds : List Deferred} (h : ev N σ (.tmp t) = v) : (mk N σ ds).tmps.getD t undef = v := (getD_mk N σ t).trans h
theorem ret0 (hres : fn.results = #[]) (hR : R (.tuple #[]) w) : Post P fn R .ret (mk N σ []) w := leave_nil (results_none hres _ P w) hR
theorem ret1 {t : Nat} {v : Value} (hres : fn.results = #[.tmp t]) (hv : ev N σ (.tmp t) = v) (hR : R v w) : Post P fn R .ret (mk N σ []) w :=
  leave_nil (by rw [results_tmp hres, getD_mk' hv]) hR
theorem ret2 {t u : Nat} {v x : Value} (hres : fn.results = #[.tmp t, .tmp u]) (hv : ev N σ (.tmp t) = v) (hx : ev N σ (.tmp u) = x) (hR : R (.tuple #[v, x]) w) : Post P fn R .ret (mk N σ []) w :=
  leave_nil (by rw [results_tmp2 hres, getD_mk' hv, getD_mk' hx]) hR
theorem results_tmp3' {t u s : Tmp} (h : fn.results = #[.tmp t, .tmp u, .tmp s]) (tmps : Array Value) :
    (results fn tmps).run P w = .ok (.tuple #[tmps.getD t undef, tmps.getD u undef, tmps.getD s undef]) w := by
  simp [results, h]
theorem results_tmp4' {t u s q : Tmp} (h : fn.results = #[.tmp t, .tmp u, .tmp s, .tmp q]) (tmps : Array Value) :
    (results fn tmps).run P w = .ok (.tuple #[tmps.getD t undef, tmps.getD u undef, tmps.getD s undef, tmps.getD q undef]) w := by
  simp [results, h]
theorem ret3 {t u s : Nat} {v x y : Value} (hres : fn.results = #[.tmp t, .tmp u, .tmp s]) (hv : ev N σ (.tmp t) = v) (hx : ev N σ (.tmp u) = x) (hy : ev N σ (.tmp s) = y) (hR : R (.tuple #[v, x, y]) w) : Post P fn R .ret (mk N σ []) w :=
  leave_nil (by rw [results_tmp3' hres, getD_mk' hv, getD_mk' hx, getD_mk' hy]) hR
theorem ret4 {t u s q : Nat} {v x y z : Value} (hres : fn.results = #[.tmp t, .tmp u, .tmp s, .tmp q]) (hv : ev N σ (.tmp t) = v) (hx : ev N σ (.tmp u) = x) (hy : ev N σ (.tmp s) = y) (hz : ev N σ (.tmp q) = z) (hR : R (.tuple #[v, x, y, z]) w) : Post P fn R .ret (mk N σ []) w :=
  leave_nil (by rw [results_tmp4' hres, getD_mk' hv, getD_mk' hx, getD_mk' hy, getD_mk' hz]) hR
end fns

section calls
variable {r : Option Nat} {P : Program} {ops : Array Oper} {Q : Exit → Act → World → Prop} {N : Nat} {σ : Nat → Value} {ds : List Deferred} {w : World} {rest : List Oper}
variable {ty : TypeId} {pos : String} {after : Array Edge}
theorem ct_in {f : FuncId} {args : Array Value} {R : Ending → World → Prop} (h : CallsIn Fence.wide 0 P f args w R) : CallsIn (FW r) (0 - 1) P f args w R := h
theorem call_step {dst : Option Tmp} {op : Op} {f : FuncId} {vs : List Value} {R : Value → World → Prop} (hnd : ∀ c, op ≠ .defer c) (hrun : (execOp (ev N σ) ⟨dst, op, ty, pos, after, none⟩).run P w = .ok (.enter f vs.toArray) w)
    (hC : Ct P f vs.toArray w R) (h : ∀ v w', R v w' → WL r P ops Q rest ((mk N σ ds).put dst v) w') : WL r P ops Q (⟨dst, op, ty, pos, after, none⟩ :: rest) (mk N σ ds) w := by
  refine wpListIn_plain rfl fun K hK => ?_
  refine ⟨fun f _ => trivial, ?_⟩
  rw [Oper.semAt_plain (FW r) _ _ hnd, eval_mk', hrun]
  simp only [Oper.uponIn_enter]
  refine ⟨fun hd => by simp [Fence.wide] at hd, ?_⟩
  refine ct_in (CallsIn.mono hC ?_)
  rintro e w' ⟨v, rfl, hR⟩
  exact hK _ _ (h v w' hR)
theorem s_call {d : Nat} {f : FuncId} {xs : List Operand} {ats : Array TypeId} {vs : List Value} {R : Value → World → Prop} (hok : CallOK P f) (hargs : xs.map (ev N σ) = vs) (hC : Ct P f vs.toArray w R)
    (h : ∀ v w', R v w' → WL r P ops Q rest (mk N (upd σ d v) ds) w') : WL r P ops Q (⟨some d, .call { callee := .value (.func f), args := xs.toArray, argTypes := ats }, ty, pos, after, none⟩ :: rest) (mk N σ ds) w :=
  call_step (by intro c e; cases e) (by
    subst hargs
    show (callFunc f (#[] ++ xs.toArray.map (ev N σ) ++ #[])).run P w = _
    rw [hok]; simp) hC (fun v w' hR => by rw [put_mk]; exact h v w' hR)
/-- A call of a function value: a closure with what it captured. -/
theorem s_callv {d : Nat} {x : Operand} (hx : ∀ f, x ≠ .func f) {f : FuncId} {caps : List Value} {xs : List Operand} {ats : Array TypeId} {vs : List Value} {R : Value → World → Prop} (hv : ev N σ x = .func (.func f) #[] caps.toArray) (hok : CallOK P f)
    (hargs : xs.map (ev N σ) = vs) (hC : Ct P f (vs ++ caps).toArray w R)
    (h : ∀ v w', R v w' → WL r P ops Q rest (mk N (upd σ d v) ds) w') : WL r P ops Q (⟨some d, .call { callee := .value x, args := xs.toArray, argTypes := ats }, ty, pos, after, none⟩ :: rest) (mk N σ ds) w :=
  call_step (by intro c e; cases e) (by
    subst hargs
    simp [execOp, resolve, hv, Deferred.ofValue, invoke, go_sem]
    exact hok _ _) hC (fun v w' hR => by rw [put_mk]; exact h v w' hR)
end calls
end Go.Proofs.YtifbgpkjbciblaaGreatDoor.Sal
end
section
/- Core4: memory: slices that read as lists, blocks of the call's own; loads, stores, new blocks. -/
set_option maxRecDepth 100000
namespace Go.Proofs.YtifbgpkjbciblaaGreatDoor.Sal
set_option linter.all false
open Go.RowKit

/-- Nothing that was there has turned. -/
abbrev Ex (w w' : World) : Prop := Below w.heap.size w w'
theorem Ex.refl (w : World) : Ex w w := Below.refl _ _
theorem Ex.trans {a b c : World} (h : Ex a b) (k : Ex b c) : Ex a c := Below.trans h (Below.mono k h.size)
theorem Ex.cell {w w' : World} {p : Addr} {v : Value} (h : Ex w w') (hc : w.cell? p = some v) : w'.cell? p = some v := (Below.cell h (block_lt_of_cell hc)).trans hc
theorem Ex.of_grown {w w' : World} (h : w.grownBy w' none) : Ex w w' := ⟨h.os, h.tape, h.output, h.size, fun k hk => h.block k hk (by simp)⟩
theorem Ex.grown {w w' : World} (h : Ex w w') : w.grownBy w' none := ⟨h.os, h.tape, h.output, h.size, fun k hk _ => h.block k hk⟩
theorem Ex.alloc (w : World) (o : Obj) : Ex w (w.alloc o) := Ex.of_grown (World.grownBy_alloc w o none)
theorem Ex.drew (w : World) : Ex w w.drew := Below.drew (Ex.refl w)
/-- A store into a block that was not there at the beginning. -/
theorem Ex.store {a w w' : World} {b : Nat} (h : Ex a w) (hg : w.grownBy w' (some b)) (hb : a.heap.size ≤ b) : Ex a w' :=
  Below.grown h hg h.size (fun k e => by cases e; exact hb)
theorem Ex.storeo {a w w' : World} {o : Option Nat} (h : Ex a w) (hg : w.grownBy w' o) (hb : ∀ b, o = some b → a.heap.size ≤ b) : Ex a w' :=
  Below.grown h hg h.size (fun k e => hb k e)

/-- A slice value that reads as a list of one-cell values. -/
def Sl (w : World) (v : Value) (vs : List Value) : Prop := vs.length ≤ 140737488355328 ∧ ∃ a n c, v = .slice a n c ∧ vs.length = n ∧ n ≤ c ∧ ∀ (i : Nat) (u : Value), vs[i]? = some u → ∃ ad, a = some ad ∧ w.cell? (ad.add i) = some u
def Ints (w : World) (v : Value) (l : List Int) : Prop := Sl w v (l.map (Value.int .i64))
def Rows (w : World) (v : Value) (g : List (List Int)) : Prop := ∃ vs, Sl w v vs ∧ vs.length = g.length ∧ ∀ (i : Nat) (u : Value) (l : List Int), vs[i]? = some u → g[i]? = some l → Ints w u l
theorem Sl.ex {w w' : World} {v : Value} {vs : List Value} (h : Sl w v vs) (hx : Ex w w') : Sl w' v vs := by
  obtain ⟨hm, a, n, c, hv, hn, hnc, hc⟩ := h
  exact ⟨hm, a, n, c, hv, hn, hnc, fun i u hi => let ⟨ad, ha, hcell⟩ := hc i u hi; ⟨ad, ha, hx.cell hcell⟩⟩
theorem Ints.ex {w w' : World} {v : Value} {l : List Int} (h : Ints w v l) (hx : Ex w w') : Ints w' v l := Sl.ex h hx
theorem Rows.ex {w w' : World} {v : Value} {g : List (List Int)} (h : Rows w v g) (hx : Ex w w') : Rows w' v g := by
  obtain ⟨vs, hs, hl, hr⟩ := h
  exact ⟨vs, hs.ex hx, hl, fun i u l hi hg => (hr i u l hi hg).ex hx⟩
theorem Ints.sl {w : World} {v : Value} {l : List Int} (h : Ints w v l) : Sl w v (l.map (Value.int .i64)) := h
theorem Sl.ints {w : World} {v : Value} {l : List Int} (h : Sl w v (l.map (Value.int .i64))) : Ints w v l := h
theorem Sl.len {w : World} {v : Value} {vs : List Value} (h : Sl w v vs) : vs.length ≤ 140737488355328 := h.1
theorem Ints.len {w : World} {v : Value} {l : List Int} (h : Ints w v l) : l.length ≤ 140737488355328 := by simpa using Sl.len h
theorem Rows.len {w : World} {v : Value} {g : List (List Int)} (h : Rows w v g) : g.length ≤ 140737488355328 := by obtain ⟨vs, hs, hl, _⟩ := h; rw [← hl]; exact hs.1
theorem Sl.form {w : World} {v : Value} {vs : List Value} (h : Sl w v vs) : ∃ a c, v = .slice a vs.length c := by
  obtain ⟨_, a, n, c, hv, hn, _, _⟩ := h; subst hn; exact ⟨a, c, hv⟩
theorem Ints.form {w : World} {v : Value} {l : List Int} (h : Ints w v l) : ∃ a c, v = .slice a l.length c := by
  obtain ⟨a, c, hv⟩ := Sl.form h; exact ⟨a, c, by simpa using hv⟩
theorem Rows.form {w : World} {v : Value} {g : List (List Int)} (h : Rows w v g) : ∃ a c, v = .slice a g.length c := by
  obtain ⟨vs, hs, hl, _⟩ := h; obtain ⟨a, c, hv⟩ := hs.form; exact ⟨a, c, by rw [← hl]; exact hv⟩
theorem Sl.nil (w : World) : Sl w (.slice none 0 0) [] := ⟨by simp, none, 0, 0, rfl, rfl, Nat.le_refl _, fun i u h => by simp at h⟩
theorem Ints.nil (w : World) : Ints w (.slice none 0 0) [] := Sl.nil w
theorem Rows.nil (w : World) : Rows w (.slice none 0 0) [] := ⟨[], Sl.nil w, rfl, fun i u l h => by simp at h⟩

/-- Block b holds just these cells, and may be written. -/
def At (w : World) (b : Nat) (E : TypeId) (cs : List Value) : Prop := w.heap[b]? = some (.cells cs.toArray E (0, 0))
theorem At.lt {w : World} {b : Nat} {E : TypeId} {cs : List Value} (h : At w b E cs) : b < w.heap.size := (Array.getElem?_eq_some_iff.1 h).1
theorem At.ex {w w' : World} {b : Nat} {E : TypeId} {cs : List Value} (h : At w b E cs) (hx : Ex w w') : At w' b E cs := (hx.block b h.lt).trans h
theorem At.grown {w w' : World} {b : Nat} {E : TypeId} {cs : List Value} {o : Option Nat} (h : At w b E cs) (hg : w.grownBy w' o) (hne : o ≠ some b) : At w' b E cs := (hg.block b h.lt (fun e => hne e.symm)).trans h
theorem At.cell {w : World} {b : Nat} {E : TypeId} {cs : List Value} (h : At w b E cs) (i : Nat) : w.cell? ⟨b, i, none⟩ = cs[i]? := by
  rw [cell_of_row w b i cs.toArray E (0, 0) h]; simp
theorem add_at (b o i : Nat) : (⟨b, o, none⟩ : Addr).add i = ⟨b, o + i, none⟩ := Addr.add_lit b o i
/-- A slice over a block of the call's own reads as its head. -/
theorem At.sl {w : World} {b : Nat} {E : TypeId} {cs : List Value} {n c : Nat} (h : At w b E cs) (hn : n ≤ cs.length) (hm : n ≤ 140737488355328) (hnc : n ≤ c) : Sl w (.slice (some ⟨b, 0, none⟩) n c) (cs.take n) :=
  ⟨by simp; omega, some ⟨b, 0, none⟩, n, c, rfl, by simp [hn], hnc, fun i u hi => ⟨_, rfl, by
    rw [add_at, Nat.zero_add, h.cell]
    rw [List.getElem?_take] at hi
    split at hi
    · exact hi
    · cases hi⟩⟩
theorem At.ints {w : World} {b : Nat} {E : TypeId} {l : List Int} {c : Nat} (h : At w b E (l.map (Value.int .i64))) (hm : l.length ≤ 140737488355328) (hc : l.length ≤ c) : Ints w (.slice (some ⟨b, 0, none⟩) l.length c) l := by
  have := h.sl (n := l.length) (c := c) (by simp) hm hc
  rw [List.take_of_length_le (by simp)] at this
  exact this
theorem At.rows {w : World} {b : Nat} {E : TypeId} {vs : List Value} {g : List (List Int)} {c : Nat} (h : At w b E vs) (hl : vs.length = g.length) (hm : g.length ≤ 140737488355328) (hc : g.length ≤ c) (hr : ∀ (i : Nat) (u : Value) (l : List Int), vs[i]? = some u → g[i]? = some l → Ints w u l) :
    Rows w (.slice (some ⟨b, 0, none⟩) g.length c) g :=
  ⟨vs, by have := h.sl (n := g.length) (c := c) (by omega) hm hc; rwa [List.take_of_length_le (by omega)] at this, hl, hr⟩

/-! ### Types -/
def Ty1 (P : Program) (E : TypeId) : Prop := (∃ i, P.info? E = some i ∧ i.size = 1) ∧ ∃ d, P.underlying E = some d ∧ (match d with | .struct _ | .array _ _ => true | _ => false) = false
def SlT (P : Program) (T E : TypeId) : Prop := P.underlying T = some (.slice E)

section runs
variable {P : Program} {w : World}
theorem run_sizeOf1 {E : TypeId} (h : Ty1 P E) (w : World) : (sizeOf E).run P w = .ok 1 w := by
  obtain ⟨⟨i, hi, hs⟩, _⟩ := h
  simp [sizeOf, typeInfo, hi, hs]
theorem run_isAgg1 {E : TypeId} (h : Ty1 P E) (w : World) : (isAgg E).run P w = .ok false w := by
  obtain ⟨_, d, hd, hn⟩ := h
  unfold isAgg
  simp only [Sem.run_bind, run_underlying hd, Result.andThen_ok]
  cases d <;> simp at hn <;> rfl
theorem run_loadVar1 {E : TypeId} {a : Addr} {u : Value} (h : Ty1 P E) (hc : w.cell? a = some u) : (loadVar E a).run P w = .ok u w := by
  unfold loadVar
  simp only [Sem.run_bind, run_isAgg1 h w, Result.andThen_ok]
  simp [load, Sem.run, hc]
theorem run_storeVar1 {E : TypeId} {a : Addr} {u v : Value} (h : Ty1 P E) (h1 : v.oneCell' = true) (hc : w.cell? a = some u) (hf : w.frozen? a = false) : (storeVar E a v).run P w = .ok () (w.setCell a v) := by
  obtain ⟨⟨i, hi, hs⟩, _⟩ := h
  have hcs : v.cells = #[v] := by cases v <;> first | rfl | (simp [Value.oneCell'] at h1)
  unfold storeVar
  simp only [hcs, Sem.run_bind, sizeOf, typeInfo]
  simp [hi, hs, storeCells]
  cases v <;> first | (simp [Value.oneCell'] at h1; done) | (simp [store, Sem.run, hc, hf, Addr.add_zero'])
end runs

section ops
variable {r : Option Nat} {P : Program} {ops : Array Oper} {Q : Exit → Act → World → Prop} {N : Nat} {σ : Nat → Value} {ds : List Deferred} {w : World} {rest : List Oper}
variable {d d1 d2 : Nat} {ty ty2 : TypeId} {pos pos2 : String} {after after2 : Array Edge} {T E T' : TypeId} {x i y : Operand}

/-- Another spelling of the value that was laid last. -/
theorem s_re {v v' : Value} (he : v = v') (h : WL r P ops Q rest (mk N (upd σ d v') ds) w) : WL r P ops Q rest (mk N (upd σ d v) ds) w := he ▸ h
theorem s_len {a : Option Addr} {n c : Nat} (hT : SlT P T E) (hx : ev N σ x = .slice a n c) (h : WL r P ops Q rest (mk N (upd σ d (.int .i64 (n : Int))) ds) w) :
    WL r P ops Q (⟨some d, .call { callee := .builtin .len, args := #[x], argTypes := #[T] }, ty, pos, after, none⟩ :: rest) (mk N σ ds) w :=
  l_val (by intro c e; cases e) (by
    simp [execOp, resolve, invoke, builtin, Builtin.len_, hx, run_underlying hT, goInt]) h
theorem s_lenS {v : Value} {vs : List Value} (hT : SlT P T E) (hx : ev N σ x = v) (hs : Sl w v vs) (h : WL r P ops Q rest (mk N (upd σ d (.int .i64 (vs.length : Int))) ds) w) :
    WL r P ops Q (⟨some d, .call { callee := .builtin .len, args := #[x], argTypes := #[T] }, ty, pos, after, none⟩ :: rest) (mk N σ ds) w := by
  obtain ⟨a, c, rfl⟩ := hs.form; exact s_len hT hx h
theorem s_lenI {v : Value} {l : List Int} (hT : SlT P T E) (hx : ev N σ x = v) (hs : Ints w v l) (h : WL r P ops Q rest (mk N (upd σ d (.int .i64 (l.length : Int))) ds) w) :
    WL r P ops Q (⟨some d, .call { callee := .builtin .len, args := #[x], argTypes := #[T] }, ty, pos, after, none⟩ :: rest) (mk N σ ds) w := by
  obtain ⟨a, c, rfl⟩ := hs.form; exact s_len hT hx h
theorem s_lenR {v : Value} {g : List (List Int)} (hT : SlT P T E) (hx : ev N σ x = v) (hs : Rows w v g) (h : WL r P ops Q rest (mk N (upd σ d (.int .i64 (g.length : Int))) ds) w) :
    WL r P ops Q (⟨some d, .call { callee := .builtin .len, args := #[x], argTypes := #[T] }, ty, pos, after, none⟩ :: rest) (mk N σ ds) w := by
  obtain ⟨a, c, rfl⟩ := hs.form; exact s_len hT hx h

/-- The address of a slice's element, where the slice reads as a list. -/
theorem s_ia {v u : Value} {vs : List Value} {k : IntKind} {n : Nat} (hT : SlT P T E) (hE : Ty1 P E) (hx : ev N σ x = v) (hi : ev N σ i = .int k (n : Int)) (hs : Sl w v vs) (hn : vs[n]? = some u)
    (h : ∀ ad, w.cell? ad = some u → WL r P ops Q rest (mk N (upd σ d (.pointer (some ad))) ds) w) : WL r P ops Q (⟨some d, .indexAddr T x i, ty, pos, after, none⟩ :: rest) (mk N σ ds) w := by
  obtain ⟨_, a, len, c, rfl, hlen, _, hc⟩ := hs
  obtain ⟨ad, rfl, hcell⟩ := hc n u hn
  have hlt : n < len := by rw [← hlen]; exact (List.getElem?_eq_some_iff.1 hn).1
  refine l_val (v := .pointer (some (ad.add n))) (by intro c e; cases e) ?_ (h _ hcell)
  have hT' : P.underlying T = some (.slice E) := hT
  simp [execOp, hx, hi, Instr.indexAt, asIntOf, run_underlying hT', hlt, run_sizeOf1 hE, go_sem]
theorem s_ld {ad : Addr} {u : Value} (hE : Ty1 P E) (hx : ev N σ x = .pointer (some ad)) (hc : w.cell? ad = some u) (h : WL r P ops Q rest (mk N (upd σ d u) ds) w) :
    WL r P ops Q (⟨some d, .load E x, ty, pos, after, none⟩ :: rest) (mk N σ ds) w :=
  l_val (by intro c e; cases e) (by simp [execOp, hx, Instr.loadAt, Instr.sureAddr, run_loadVar1 hE hc]) h
theorem tmp_upd {v : Value} (hd : Nat.blt d N = true) : ev N (upd σ d v) (.tmp d) = v := by simp [ev, hd, upd_same]
/-- Both: an element read. -/
theorem s_ix {v u : Value} {vs : List Value} {k : IntKind} {n : Nat} (hT : SlT P T E) (hE : Ty1 P E) (hd : Nat.blt d1 N = true) (hx : ev N σ x = v) (hi : ev N σ i = .int k (n : Int)) (hs : Sl w v vs) (hn : vs[n]? = some u)
    (h : ∀ pv, WL r P ops Q rest (mk N (upd (upd σ d1 pv) d2 u) ds) w) :
    WL r P ops Q (⟨some d1, .indexAddr T x i, ty, pos, after, none⟩ :: ⟨some d2, .load E (.tmp d1), ty2, pos2, after2, none⟩ :: rest) (mk N σ ds) w :=
  s_ia hT hE hx hi hs hn fun _ hc => s_ld hE (tmp_upd hd) hc (h _)
theorem s_ixI {v : Value} {l : List Int} {k : IntKind} {n : Nat} (hT : SlT P T E) (hE : Ty1 P E) (hd : Nat.blt d1 N = true) (hx : ev N σ x = v) (hi : ev N σ i = .int k (n : Int)) (hs : Ints w v l) (hn : n < l.length)
    (h : ∀ pv, WL r P ops Q rest (mk N (upd (upd σ d1 pv) d2 (.int .i64 (l.getD n 0))) ds) w) :
    WL r P ops Q (⟨some d1, .indexAddr T x i, ty, pos, after, none⟩ :: ⟨some d2, .load E (.tmp d1), ty2, pos2, after2, none⟩ :: rest) (mk N σ ds) w :=
  s_ix hT hE hd hx hi hs (by simp [hn]) h
theorem Rows.row {w : World} {v : Value} {g : List (List Int)} (h : Rows w v g) {n : Nat} (hn : n < g.length) : ∃ vs u, Sl w v vs ∧ vs[n]? = some u ∧ Ints w u (g.getD n []) := by
  obtain ⟨vs, hs, hl, hr⟩ := h
  have hn' : n < vs.length := by omega
  exact ⟨vs, vs[n], hs, by simp [hn'], hr n _ _ (by simp [hn']) (by simp [hn])⟩
theorem s_ixR {v : Value} {g : List (List Int)} {k : IntKind} {n : Nat} (hT : SlT P T E) (hE : Ty1 P E) (hd : Nat.blt d1 N = true) (hx : ev N σ x = v) (hi : ev N σ i = .int k (n : Int)) (hs : Rows w v g) (hn : n < g.length)
    (h : ∀ pv u, Ints w u (g.getD n []) → WL r P ops Q rest (mk N (upd (upd σ d1 pv) d2 u) ds) w) :
    WL r P ops Q (⟨some d1, .indexAddr T x i, ty, pos, after, none⟩ :: ⟨some d2, .load E (.tmp d1), ty2, pos2, after2, none⟩ :: rest) (mk N σ ds) w := by
  obtain ⟨vs, u, hs', hu, hI⟩ := hs.row hn
  exact s_ix hT hE hd hx hi hs' hu fun pv => h pv u hI

/-- A row read, told of in the world w0 that was. -/
theorem s_ixR0 {w0 : World} {v : Value} {g : List (List Int)} {k : IntKind} {n : Nat} (hT : SlT P T E) (hE : Ty1 P E) (hs : Rows w0 v g) (hw : Ex w0 w) (hd : Nat.blt d1 N = true) (hx : ev N σ x = v) (hi : ev N σ i = .int k (n : Int)) (hn : n < g.length)
    (h : ∀ pv u, Ints w0 u (g.getD n []) → WL r P ops Q rest (mk N (upd (upd σ d1 pv) d2 u) ds) w) :
    WL r P ops Q (⟨some d1, .indexAddr T x i, ty, pos, after, none⟩ :: ⟨some d2, .load E (.tmp d1), ty2, pos2, after2, none⟩ :: rest) (mk N σ ds) w := by
  obtain ⟨vs, u, hs', hu, hI⟩ := hs.row hn
  exact s_ix hT hE hd hx hi (hs'.ex hw) hu fun pv => h pv u hI
/-- The same under a guard: the second of both still bears it. -/
theorem s_ixIg {v : Value} {l : List Int} {k : IntKind} {n j g : Nat} {want : Bool} (hT : SlT P T E) (hE : Ty1 P E) (hd : Nat.blt d1 N = true) (hg : Nat.beq g d1 = false) (hj : (ops[j]?).bind (·.dst) = some g) (hb : ev N σ (.tmp g) = .bool want)
    (hx : ev N σ x = v) (hi : ev N σ i = .int k (n : Int)) (hs : Ints w v l) (hn : n < l.length)
    (h : ∀ pv, WL r P ops Q rest (mk N (upd (upd σ d1 pv) d2 (.int .i64 (l.getD n 0))) ds) w) :
    WL r P ops Q (⟨some d1, .indexAddr T x i, ty, pos, after, none⟩ :: ⟨some d2, .load E (.tmp d1), ty2, pos2, after2, some (j, want)⟩ :: rest) (mk N σ ds) w :=
  s_ia hT hE hx hi hs (u := .int .i64 (l.getD n 0)) (by simp [hn]) fun _ hc => g_yes hj (by
    simp only [ev] at hb ⊢
    cases hgN : Nat.blt g N with
    | true => rw [hgN] at hb; simp only [cond_true] at hb ⊢; rw [upd_other (fun e => by rw [e] at hg; simp at hg)]; exact hb
    | false => rw [hgN] at hb; simp [undef] at hb) (s_ld hE (tmp_upd hd) hc (h _))
/-! ### Blocks of the call's own -/
theorem s_iaA {b len c : Nat} {k : IntKind} {n : Nat} (hT : SlT P T E) (hE : Ty1 P E) (hx : ev N σ x = .slice (some ⟨b, 0, none⟩) len c) (hi : ev N σ i = .int k (n : Int)) (hn : n < len)
    (h : WL r P ops Q rest (mk N (upd σ d (.pointer (some ⟨b, n, none⟩))) ds) w) : WL r P ops Q (⟨some d, .indexAddr T x i, ty, pos, after, none⟩ :: rest) (mk N σ ds) w := by
  refine l_val (v := .pointer (some ⟨b, n, none⟩)) (by intro c e; cases e) ?_ h
  have hT' : P.underlying T = some (.slice E) := hT
  simp [execOp, hx, hi, Instr.indexAt, asIntOf, run_underlying hT', hn, run_sizeOf1 hE, go_sem]
/-- The address of an array's element. -/
theorem s_iaV {b L : Nat} {k : IntKind} {n : Nat} (hT : P.underlying T = some (.array L E)) (hE : Ty1 P E) (hx : ev N σ x = .pointer (some ⟨b, 0, none⟩)) (hi : ev N σ i = .int k (n : Int)) (hn : n < L)
    (h : WL r P ops Q rest (mk N (upd σ d (.pointer (some ⟨b, n, none⟩))) ds) w) : WL r P ops Q (⟨some d, .indexAddr T x i, ty, pos, after, none⟩ :: rest) (mk N σ ds) w := by
  refine l_val (v := .pointer (some ⟨b, n, none⟩)) (by intro c e; cases e) ?_ h
  simp [execOp, hx, hi, Instr.indexAt, Instr.sureAddr, asIntOf, run_underlying hT, hn, run_sizeOf1 hE, go_sem]
theorem s_ldA {b n : Nat} {B : TypeId} {cs : List Value} {u : Value} (hE : Ty1 P E) (hx : ev N σ x = .pointer (some ⟨b, n, none⟩)) (hA : At w b B cs) (hc : cs[n]? = some u) (h : WL r P ops Q rest (mk N (upd σ d u) ds) w) :
    WL r P ops Q (⟨some d, .load E x, ty, pos, after, none⟩ :: rest) (mk N σ ds) w := s_ld hE hx (by rw [hA.cell]; exact hc) h
theorem set_heap {w : World} {b n : Nat} {B : TypeId} {cs : List Value} (u : Value) (hA : At w b B cs) : At (w.setCell ⟨b, n, none⟩ u) b B (cs.set n u) := by
  unfold At
  rw [heap_setCell_same w b n cs.toArray B u hA]
  simp
theorem grown_setCell (w : World) (a : Addr) (u : Value) : w.grownBy (w.setCell a u) (some a.block) :=
  ⟨rfl, rfl, rfl, by simp [World.setCell], fun k _ hne => heap_setCell_other w a k u (fun e => hne (by rw [e]))⟩
theorem s_stA {b n : Nat} {B : TypeId} {cs : List Value} {u : Value} (hE : Ty1 P E) (hx : ev N σ x = .pointer (some ⟨b, n, none⟩)) (hy : ev N σ y = u) (hu : u.oneCell' = true) (hA : At w b B cs) (hn : n < cs.length)
    (h : ∀ w', At w' b B (cs.set n u) → w.grownBy w' (some b) → WL r P ops Q rest (mk N σ ds) w') :
    WL r P ops Q (⟨none, .store E x y, ty, pos, after, none⟩ :: rest) (mk N σ ds) w := by
  have hc : w.cell? ⟨b, n, none⟩ = some cs[n] := by rw [hA.cell]; simp [hn]
  refine l_eff (w' := w.setCell ⟨b, n, none⟩ u) (by intro c e; cases e) ?_ (h _ (set_heap u hA) (grown_setCell w ⟨b, n, none⟩ u))
  simp [execOp, hx, hy, Instr.storeAt, Instr.sureAddr, run_storeVar1 hE hu hc (frozen_of_row w b n cs.toArray B hA)]

theorem at_new (w : World) (cs : List Value) (E : TypeId) : At (w.alloc (.cells cs.toArray E)) w.heap.size E cs := heap_alloc_new w _
theorem size_new (w : World) (o : Obj) : (w.alloc o).heap.size = w.heap.size + 1 := by simp
/-- A new variable with its zero value. -/
theorem s_alloc {ti : TypeInfo} {z : Value} {cs : List Value} (hi : P.info? E = some ti) (hz : ti.zero = some z) (hcs : z.cells = cs.toArray)
    (h : ∀ b w', b = w.heap.size → At w' b E cs → Ex w w' → w'.heap.size = b + 1 → WL r P ops Q rest (mk N (upd σ d (.pointer (some ⟨b, 0, none⟩))) ds) w') :
    WL r P ops Q (⟨some d, .alloc E, ty, pos, after, none⟩ :: rest) (mk N σ ds) w := by
  refine l_val (v := .pointer (some ⟨w.heap.size, 0, none⟩)) (w' := w.alloc (.cells cs.toArray E)) (by intro c e; cases e) ?_ (h _ _ rfl (at_new w cs E) (Ex.alloc w _) (size_new w _))
  simp [execOp, Instr.alloc, zeroValue, typeInfo, hi, hz, newVar, newRow, hcs]
theorem s_box {v : Value} {cs : List Value} (hx : ev N σ x = v) (hcs : v.cells = cs.toArray)
    (h : ∀ b w', b = w.heap.size → At w' b E cs → Ex w w' → w'.heap.size = b + 1 → WL r P ops Q rest (mk N (upd σ d (.pointer (some ⟨b, 0, none⟩))) ds) w') :
    WL r P ops Q (⟨some d, .box E x, ty, pos, after, none⟩ :: rest) (mk N σ ds) w := by
  refine l_val (v := .pointer (some ⟨w.heap.size, 0, none⟩)) (w' := w.alloc (.cells cs.toArray E)) (by intro c e; cases e) ?_ (h _ _ rfl (at_new w cs E) (Ex.alloc w _) (size_new w _))
  simp [execOp, hx, Instr.box, newVar, newRow, hcs]
theorem s_mkfn {f : FuncId} {caps : List Operand} {vs : List Value} (hc : caps.map (ev N σ) = vs) (h : WL r P ops Q rest (mk N (upd σ d (.func (.func f) #[] vs.toArray)) ds) w) :
    WL r P ops Q (⟨some d, .makeFunc (.func f) #[] caps.toArray, ty, pos, after, none⟩ :: rest) (mk N σ ds) w :=
  l_val (by intro c e; cases e) (by subst hc; simp [execOp, Instr.makeFunc]) h
/-- make([]T, n). -/
theorem s_make {ti : TypeInfo} {z : Value} {n : Nat} (hT : SlT P T E) (hi : P.info? E = some ti) (hz : ti.zero = some z) (hs : ti.size = 1) (hzc : z.cells = #[z]) (hb : ti.bytes ≤ 64) (hx : ev N σ x = .int .i64 (n : Int)) (hn : n ≤ 1000000)
    (h : ∀ b w', b = w.heap.size → At w' b E (List.replicate n z) → Ex w w' → w'.heap.size = b + 1 → WL r P ops Q rest (mk N (upd σ d (.slice (some ⟨b, 0, none⟩) n n)) ds) w') :
    WL r P ops Q (⟨some d, .makeSlice T x x, ty, pos, after, none⟩ :: rest) (mk N σ ds) w := by
  have hbytes : (ti.bytes : Int) * (n : Int) ≤ 281474976710656 := by
    have h1 : ti.bytes * n ≤ 64 * 1000000 := Nat.mul_le_mul hb hn
    have h2 : ((ti.bytes * n : Nat) : Int) ≤ 64000000 := by omega
    rw [Int.natCast_mul] at h2; omega
  have hr := run_make (P := P) w T E ti z hT hi hz .i64 .i64 n n (by omega) (by omega) hbytes (by omega)
  have hm : madeCells z.cells ((n : Int).toNat * ti.size) = (List.replicate n z).toArray := by
    rw [hs, hzc]; simp [madeCells]
    apply Array.ext
    · simp
    · intro j h1 h2; simp [Nat.mod_one]
  rw [hm] at hr
  simp only [Int.toNat_natCast] at hr
  refine l_val (w' := w.alloc (.cells (List.replicate n z).toArray E)) (by intro c e; cases e) ?_ (h _ _ rfl (at_new w _ E) (Ex.alloc w _) (size_new w _))
  simp [execOp, hx, hr]
end ops
end Go.Proofs.YtifbgpkjbciblaaGreatDoor.Sal
end
section
/- Core5: append, slices of slices, arrays, literals of slices. -/
set_option maxRecDepth 100000
namespace Go.Proofs.YtifbgpkjbciblaaGreatDoor.Sal
set_option linter.all false
open Go.RowKit

/-- A slice of the call's own, to which more may be put. -/
def Rw (w : World) (E : TypeId) (v : Value) (vs : List Value) : Prop := w.ownsRow 0 E 1 v vs.length vs
theorem Rw.nil (w : World) (E : TypeId) : Rw w E (.slice none 0 0) [] := World.ownsRow_nil w 0 E 1
theorem Rw.form {w : World} {E : TypeId} {v : Value} {vs : List Value} (h : Rw w E v vs) : (v = .slice none 0 0 ∧ vs = []) ∨ ∃ b cap sp, v = .slice (some ⟨b, 0, none⟩) vs.length cap ∧ At w b E (vs ++ sp) ∧ vs.length ≤ cap := by
  obtain ⟨h1, h2⟩ := h
  rcases h2 with ⟨hv, hn⟩ | ⟨g, cap, cur, hv, _, hh, hc, _, hcs, ht⟩
  · exact .inl ⟨hv, List.eq_nil_of_length_eq_zero hn⟩
  · refine .inr ⟨g, cap, cur.toList.drop vs.length, hv, ?_, hc⟩
    unfold At
    rw [hh]
    rw [Nat.mul_one] at ht
    have : vs ++ cur.toList.drop vs.length = cur.toList := by
      conv => lhs; lhs; rw [← ht]
      exact List.take_append_drop _ _
    rw [this]
theorem Rw.slen {w : World} {E : TypeId} {v : Value} {vs : List Value} (h : Rw w E v vs) : ∃ a c, v = .slice a vs.length c := by
  rcases h.form with ⟨hv, rfl⟩ | ⟨b, cap, sp, hv, _⟩
  · exact ⟨none, 0, hv⟩
  · exact ⟨_, _, hv⟩
theorem Rw.sl {w : World} {E : TypeId} {v : Value} {vs : List Value} (h : Rw w E v vs) (hm : vs.length ≤ 140737488355328) : Sl w v vs := by
  rcases h.form with ⟨rfl, rfl⟩ | ⟨b, cap, sp, rfl, hA, hc⟩
  · exact Sl.nil w
  · have := hA.sl (n := vs.length) (c := cap) (by simp) hm hc
    rwa [List.take_left] at this
theorem Rw.ints {w : World} {E : TypeId} {v : Value} {l : List Int} (h : Rw w E v (l.map (Value.int .i64))) (hm : l.length ≤ 140737488355328) : Ints w v l := Rw.sl h (by simpa using hm)
theorem Rw.kept {w w' : World} {E : TypeId} {v : Value} {vs : List Value} {o : Option Nat} (h : Rw w E v vs) (hg : w.grownBy w' o) (hne : v.ownBlock = none ∨ v.ownBlock ≠ o) : Rw w' E v vs := World.ownsRow.kept h hg hne
theorem Rw.ex {w w' : World} {E : TypeId} {v : Value} {vs : List Value} (h : Rw w E v vs) (hx : Ex w w') : Rw w' E v vs := h.kept hx.grown (by cases hv : v.ownBlock <;> simp)
theorem Rw.lt {w : World} {E : TypeId} {v : Value} {vs : List Value} (h : Rw w E v vs) : ∀ k, v.ownBlock = some k → k < w.heap.size := fun k hk => (World.ownsRow.lt h k hk).2
theorem At.rw {w : World} {b : Nat} {E : TypeId} {cs : List Value} {n c : Nat} (h : At w b E cs) (hl : cs.length = c) (hn : n ≤ c) (hc : c ≤ 9223372036854775807) : Rw w E (.slice (some ⟨b, 0, none⟩) n c) (cs.take n) := by
  have hl' : (cs.take n).length = n := by simp; omega
  unfold Rw
  rw [hl']
  exact ⟨by simp; omega, .inr ⟨b, c, cs.toArray, rfl, Nat.zero_le _, h, hn, by simp [maxLen]; omega, by simp [hl], by simp⟩⟩
theorem ownBlock_slice (b o n c : Nat) : (Value.slice (some ⟨b, o, none⟩) n c).ownBlock = some b := rfl

section shapes
variable {r : Option Nat} {P : Program} {ops : Array Oper} {Q : Exit → Act → World → Prop} {a : Act} {w : World} {rest : List Oper} {o : Oper} {c : Code}
theorem isC (h : CW r P c Q a w) : CW r P c Q a w := h
theorem isO (h : WL r P ops Q (o :: rest) a w) : WL r P ops Q (o :: rest) a w := h
theorem isG {d : Option Tmp} {op : Op} {ty : TypeId} {pos : String} {after : Array Edge} {j : Nat} {b : Bool} (h : WL r P ops Q (⟨d, op, ty, pos, after, some (j, b)⟩ :: rest) a w) : WL r P ops Q (⟨d, op, ty, pos, after, some (j, b)⟩ :: rest) a w := h
theorem isBin {d : Option Tmp} {op : BinOp} {x y : Operand} {t t' ty : TypeId} {pos : String} {after : Array Edge} (h : WL r P ops Q (⟨d, .binOp op t x y t', ty, pos, after, none⟩ :: rest) a w) : WL r P ops Q (⟨d, .binOp op t x y t', ty, pos, after, none⟩ :: rest) a w := h
theorem isCall {d : Option Tmp} {cl : Call} {ty : TypeId} {pos : String} {after : Array Edge} (h : WL r P ops Q (⟨d, .call cl, ty, pos, after, none⟩ :: rest) a w) : WL r P ops Q (⟨d, .call cl, ty, pos, after, none⟩ :: rest) a w := h
theorem isIA {d : Option Tmp} {x y : Operand} {t ty : TypeId} {pos : String} {after : Array Edge} (h : WL r P ops Q (⟨d, .indexAddr t x y, ty, pos, after, none⟩ :: rest) a w) : WL r P ops Q (⟨d, .indexAddr t x y, ty, pos, after, none⟩ :: rest) a w := h
theorem isPick {d : Option Tmp} {x y z : Operand} {ty : TypeId} {pos : String} {after : Array Edge} (h : WL r P ops Q (⟨d, .pick x y z, ty, pos, after, none⟩ :: rest) a w) : WL r P ops Q (⟨d, .pick x y z, ty, pos, after, none⟩ :: rest) a w := h
theorem isLD {d : Option Tmp} {x : Operand} {t ty : TypeId} {pos : String} {after : Array Edge} (h : WL r P ops Q (⟨d, .load t x, ty, pos, after, none⟩ :: rest) a w) : WL r P ops Q (⟨d, .load t x, ty, pos, after, none⟩ :: rest) a w := h
/-- A region and what follows it, in one step. -/
theorem c_sr {id : Nat} {l : List Oper} {y : Code} (h : WL r P l.toArray (Exit.then (CW r P y Q) Q) l a w) : CW r P (.seq (.region id l.toArray false) y) Q a w := c_seq (c_region h)
theorem l_th {K : Act → World → Prop} (h : K a w) : WL r P ops (Exit.then K Q) [] a w := h
theorem c_th {K : Act → World → Prop} (h : K a w) : CW r P .skip (Exit.then K Q) a w := c_skip h
end shapes
section runs
variable {P : Program} {w : World}
theorem Sl.src {tx e' : TypeId} {xv : Value} {news : List Value} (hk : P.underlying tx = some (.slice e')) (h : Sl w xv news) (h1 : ∀ u ∈ news, u.oneCell' = true) : Src P 1 tx xv news.length news w := by
  obtain ⟨_, a, n, c, rfl, hn, hnc, hc⟩ := h
  subst hn
  cases a with
  | none =>
    have : news = [] := by
      cases news with
      | nil => rfl
      | cons u l => obtain ⟨ad, h, _⟩ := hc 0 u rfl; cases h
    subst this
    exact Src.ofNil w hk c
  | some ad =>
    refine Src.ofSlice w hk ad news.length c news (by simp) (fun j u hj => ?_) h1
    obtain ⟨ad', h, hcell⟩ := hc j u hj
    cases h; exact hcell
/-- append(s, x...): s a row of the call's own, x whatever reads as a list. -/
theorem run_app {T E : TypeId} {ti : TypeInfo} {z v xv : Value} {vs news : List Value} {ty : TypeId} (hT : SlT P T E) (hi : P.info? E = some ti) (hz : ti.zero = some z) (hs : ti.size = 1) (hzc : z.cells = #[z]) (hb : ti.bytes ≤ 64)
    (hv : Rw w E v vs) (hx : Sl w xv news) (h1 : ∀ u ∈ news, u.oneCell' = true) (hbytes : (vs.length + news.length) * 64 ≤ 140737488355328) :
    ∃ v' w', (Builtin.append_ #[T, T] ty #[v, xv]).run P w = .ok v' w' ∧ Rw w' E v' (vs ++ news) ∧ w.grownBy w' v.ownBlock ∧ (v'.ownBlock = v.ownBlock ∨ ∀ b, v'.ownBlock = some b → w.heap.size ≤ b) := by
  have hT' : P.underlying T = some (.slice E) := hT
  have hsrc := hx.src (P := P) (tx := T) hT' h1
  have hsrc' : Src P ti.size T xv news.length news w := by rw [hs]; exact hsrc
  have hm : vs.length + news.length ≤ 140737488355328 := by omega
  have hbytes' : (vs.length + news.length) * ti.bytes ≤ 140737488355328 := Nat.le_trans (Nat.mul_le_mul_left _ hb) hbytes
  by_cases hn0 : news = []
  · subst hn0
    obtain ⟨a, c, hvf⟩ := hv.slen
    have hle : vs.length ≤ c := by
      rcases hv.form with ⟨h, rfl⟩ | ⟨b, cap, sp, h, _, hc⟩
      · rw [hvf] at h; cases h; simp
      · rw [hvf] at h; cases h; exact hc
    refine ⟨v, w, ?_, by simpa using hv, ⟨rfl, rfl, rfl, Nat.le_refl _, fun _ _ _ => rfl⟩, .inl rfl⟩
    rw [hvf]
    exact run_append_nothing w T T ty E ti hT' hi a vs.length c hle xv hsrc'
  · have hnp : 0 < news.length := List.length_pos_iff.2 hn0
    have grow : ∀ (base : Option Addr) (cap : Nat), v = .slice base vs.length cap → (Builtin.firstCells ti.size vs.length (.slice base vs.length cap)).run P w.drew = .ok vs.toArray w.drew → cap < vs.length + news.length →
        ∃ v' w', (Builtin.append_ #[T, T] ty #[v, xv]).run P w = .ok v' w' ∧ Rw w' E v' (vs ++ news) ∧ w.grownBy w' v.ownBlock ∧ (v'.ownBlock = v.ownBlock ∨ ∀ b, v'.ownBlock = some b → w.heap.size ≤ b) := by
      intro base cap hvf hold hcap
      have hr := run_append_grow_src (P := P) w T T ty E ti z hT' hi hz base vs.length cap vs hold xv news.length news hsrc' hcap (by omega) (growslice_fits hcap hbytes')
      have hge := grownCap_ge w (vs.length + news.length) cap E
      have hcm := grownCap_le_maxLen w (vs.length + news.length) cap E (by simp only [maxLen]; omega)
      rw [← hvf] at hr
      have hgr : ∀ o, w.grownBy (w.drew.alloc o) v.ownBlock := fun o => ⟨rfl, rfl, rfl, by simp, fun k hk _ => heap_alloc_old w.drew o hk⟩
      have hown : ∀ (cs : Array Value), cs.size = grownCap w (vs.length + news.length) cap E → cs.toList.take (vs ++ news).length = vs ++ news →
          Rw (w.drew.alloc (.cells cs E)) E (.slice (some ⟨w.heap.size, 0, none⟩) (vs.length + news.length) (grownCap w (vs.length + news.length) cap E)) (vs ++ news) := fun cs hcs ht => by
        unfold Rw
        rw [List.length_append]
        exact ⟨by simp, .inr ⟨w.heap.size, _, cs, rfl, Nat.zero_le _, heap_alloc_new w.drew _, hge, hcm, by rw [hcs, Nat.mul_one], by rw [Nat.mul_one, ← List.length_append]; exact ht⟩⟩
      refine ⟨_, _, hr, hown _ ?_ ?_, hgr _, .inr fun b hb => ?_⟩
      · simp [size_zeroCells, hzc]; omega
      · simp
        rw [← List.length_append, ← List.append_assoc, List.take_left]
      · rw [ownBlock_slice] at hb; cases hb; exact Nat.le_refl _
    rcases hv.form with ⟨hvf, hvs⟩ | ⟨b, cap, sp, hvf, hA, hc⟩
    · subst hvs
      exact grow none 0 hvf (by simp [Builtin.firstCells]) (by simp; omega)
    · by_cases hroom : vs.length + news.length ≤ cap
      · have hown := hv
        unfold Rw at hown
        rw [hvf] at hown
        obtain ⟨_, a, n, c, rfl, hn, hnc, hcell⟩ := hx
        cases a with
        | none =>
          exfalso
          cases news with
          | nil => exact hn0 rfl
          | cons u l => obtain ⟨ad, h, _⟩ := hcell 0 u rfl; cases h
        | some ad =>
          subst hn
          have hnews : ∀ (j : Nat) (u : Value), news[j]? = some u → w.cell? (ad.add j) = some u := fun j u hj => by
            obtain ⟨ad', h, hc'⟩ := hcell j u hj; cases h; exact hc'
          obtain ⟨w', hrun, hown', hg⟩ := run_append_fits (P := P) w 0 T ty E ti 1 hT' hi hs b vs.length cap vs hown ad news.length c news (by simp) hnews h1 hroom
          subst hvf
          exact ⟨_, _, hrun, by unfold Rw; rw [List.length_append]; exact hown', hg, .inl rfl⟩
      · refine grow (some ⟨b, 0, none⟩) cap hvf ?_ (by omega)
        refine run_firstCells_some w.drew ti.size vs.length ⟨b, 0, none⟩ vs.length cap vs (by rw [hs]; simp) (fun j u hj => ?_)
        have : w.cell? ⟨b, j, none⟩ = some u := by
          rw [hA.cell, List.getElem?_append_left (List.getElem?_eq_some_iff.1 hj).1]; exact hj
        rw [add_at, Nat.zero_add]
        exact this
/-- What slicing a slice gives. -/
theorem run_slice {T E : TypeId} {a : Option Addr} {n c lo hi : Nat} (hT : SlT P T E) (hE : Ty1 P E) (h1 : lo ≤ hi) (h2 : hi ≤ c) (l h : Option Value)
    (hl : (∃ k, l = some (.int k (lo : Int))) ∨ (l = none ∧ lo = 0)) (hh : (∃ k, h = some (.int k (hi : Int))) ∨ (h = none ∧ hi = n)) :
    (Instr.sliceAt T (.slice a n c) l h none).run P w = .ok (.slice (if c = lo then a else a.map (·.add lo)) (hi - lo) (c - lo)) w := by
  have hT' : P.underlying T = some (.slice E) := hT
  have b1 : ∀ (k : IntKind) (x y : Nat) (code : BoundsCode), x ≤ y → (Instr.sliceBound (.int k (x : Int)) y code).run P w = .ok x w := fun k x y code hxy => by
    simp [Instr.sliceBound, asIntOf, go_sem]; omega
  have bds : (Instr.sliceBounds true n c l h none).run P w = .ok (lo, hi, c) w := by
    rcases hl with ⟨k, rfl⟩ | ⟨rfl, rfl⟩ <;> rcases hh with ⟨k', rfl⟩ | ⟨rfl, rfl⟩ <;>
      simp [Instr.sliceBounds, Sem.run_bind, b1 _ _ _ _ h1, b1 _ _ _ _ h2, Result.andThen]
  simp [Instr.sliceAt, Instr.slice, run_underlying hT', bds, run_sizeOf1 hE, Sem.run_bind]
theorem Sl.slice {a : Option Addr} {n c lo hi : Nat} {vs : List Value} (h : Sl w (.slice a n c) vs) (h1 : lo ≤ hi) (h2 : hi ≤ n) : Sl w (.slice (if c = lo then a else a.map (·.add lo)) (hi - lo) (c - lo)) ((vs.drop lo).take (hi - lo)) := by
  obtain ⟨hm, a', n', c', hv, hn, hnc, hc⟩ := h
  cases hv
  refine ⟨by simp; omega, _, _, _, rfl, by simp; omega, by omega, fun i u hi' => ?_⟩
  rw [List.getElem?_take] at hi'
  split at hi'
  · rename_i hlt
    rw [List.getElem?_drop] at hi'
    obtain ⟨ad, rfl, hcell⟩ := hc (lo + i) u hi'
    have hne : ¬ c = lo := by omega
    refine ⟨ad.add lo, by simp [hne], ?_⟩
    have e : (ad.add lo).add i = ad.add (lo + i) := by
      unfold Addr.add
      by_cases h0 : lo = 0
      · simp [h0]
      · by_cases h3 : i = 0
        · simp [h0, h3]
        · simp [h0, h3, Nat.add_assoc]
    rw [e]; exact hcell
  · cases hi'
end runs

section ops
variable {r : Option Nat} {P : Program} {ops : Array Oper} {Q : Exit → Act → World → Prop} {N : Nat} {σ : Nat → Value} {ds : List Deferred} {w : World} {rest : List Oper}
variable {d d1 d2 : Nat} {ty ty2 : TypeId} {pos pos2 : String} {after after2 : Array Edge} {T E T' : TypeId} {x i y : Operand}
structure InfoOf (P : Program) (E : TypeId) (z : Value) : Prop where
  ex : ∃ ti, P.info? E = some ti ∧ ti.zero = some z ∧ ti.size = 1 ∧ ti.bytes ≤ 64
  one : z.cells = #[z]
theorem s_app {z v xv : Value} {vs news : List Value} (hT : SlT P T E) (hi : InfoOf P E z) (hR : Rw w E v vs) (hS : Sl w xv news) (hv : ev N σ x = v) (hxv : ev N σ y = xv) (h1 : ∀ u ∈ news, u.oneCell' = true) (hbytes : (vs.length + news.length) * 64 ≤ 140737488355328)
    (h : ∀ v' w', Rw w' E v' (vs ++ news) → w.grownBy w' v.ownBlock → (v'.ownBlock = v.ownBlock ∨ ∀ b, v'.ownBlock = some b → w.heap.size ≤ b) → WL r P ops Q rest (mk N (upd σ d v') ds) w') :
    WL r P ops Q (⟨some d, .call { callee := .builtin .append, args := #[x, y], argTypes := #[T, T] }, ty, pos, after, none⟩ :: rest) (mk N σ ds) w := by
  obtain ⟨ti, h1i, h2i, h3i, h4i⟩ := hi.ex
  obtain ⟨v', w', hr, a1, a2, a3⟩ := run_app (ty := ty) hT h1i h2i h3i hi.one h4i hR hS h1 hbytes
  refine l_val (by intro c e; cases e) ?_ (h v' w' a1 a2 a3)
  simp [execOp, resolve, invoke, builtin, hv, hxv, hr, Result.andThen]
/-- The head of a row of the call's own. -/
theorem s_head {b n c hi : Nat} {h : Operand} {k : IntKind} (hT : SlT P T E) (hE : Ty1 P E) (hx : ev N σ x = .slice (some ⟨b, 0, none⟩) n c) (hh : ev N σ h = .int k (hi : Int)) (hc : hi ≤ c)
    (hK : WL r P ops Q rest (mk N (upd σ d (.slice (some ⟨b, 0, none⟩) hi c)) ds) w) : WL r P ops Q (⟨some d, .slice T x none (some h) none, ty, pos, after, none⟩ :: rest) (mk N σ ds) w := by
  refine l_val (v := .slice (some ⟨b, 0, none⟩) hi c) (by intro c e; cases e) ?_ hK
  have := run_slice (P := P) (w := w) (a := some ⟨b, 0, none⟩) (n := n) hT hE (Nat.zero_le hi) hc none (some (.int k (hi : Int))) (.inr ⟨rfl, rfl⟩) (.inl ⟨k, rfl⟩)
  simp [execOp, hx, hh, this, Addr.add_zero']
theorem s_bs1 {u : Value} {z : Value} {op1 : Operand} (hT : SlT P T E) (hi : InfoOf P E z) (h1 : ev N σ op1 = u) (hu : u.oneCell' = true)
    (h : ∀ b w', b = w.heap.size → At w' b E [u] → Ex w w' → w'.heap.size = b + 1 → WL r P ops Q rest (mk N (upd σ d (.slice (some ⟨b, 0, none⟩) 1 1)) ds) w') :
    WL r P ops Q (⟨some d, .buildSlice T 1 #[(0, op1)], ty, pos, after, none⟩ :: rest) (mk N σ ds) w := by
  obtain ⟨ti, h1i, h2i, h3i, h4i⟩ := hi.ex
  have hT' : P.underlying T = some (.slice E) := hT
  have hcu : u.cells = #[u] := by cases u <;> first | rfl | (simp [Value.oneCell'] at hu)
  refine l_val (v := .slice (some ⟨w.heap.size, 0, none⟩) 1 1) (w' := w.alloc (.cells [u].toArray E)) (by intro c e; cases e) ?_ (h _ _ rfl (at_new w _ E) (Ex.alloc w _) (size_new w _))
  simp [execOp, Instr.buildSlice, run_underlying hT', sizeOf, typeInfo, h1i, h2i, h3i, zeroValue, Instr.fill, h1, hcu, newRow, hi.one, Array.range_succ, Array.range_zero']
theorem s_bs2 {u1 u2 : Value} {z : Value} {op1 op2 : Operand} (hT : SlT P T E) (hi : InfoOf P E z) (h1 : ev N σ op1 = u1) (h2 : ev N σ op2 = u2) (hu1 : u1.oneCell' = true) (hu2 : u2.oneCell' = true)
    (h : ∀ b w', b = w.heap.size → At w' b E [u1, u2] → Ex w w' → w'.heap.size = b + 1 → WL r P ops Q rest (mk N (upd σ d (.slice (some ⟨b, 0, none⟩) 2 2)) ds) w') :
    WL r P ops Q (⟨some d, .buildSlice T 2 #[(0, op1), (1, op2)], ty, pos, after, none⟩ :: rest) (mk N σ ds) w := by
  obtain ⟨ti, h1i, h2i, h3i, h4i⟩ := hi.ex
  have hT' : P.underlying T = some (.slice E) := hT
  have hc1 : u1.cells = #[u1] := by cases u1 <;> first | rfl | (simp [Value.oneCell'] at hu1)
  have hc2 : u2.cells = #[u2] := by cases u2 <;> first | rfl | (simp [Value.oneCell'] at hu2)
  refine l_val (v := .slice (some ⟨w.heap.size, 0, none⟩) 2 2) (w' := w.alloc (.cells [u1, u2].toArray E)) (by intro c e; cases e) ?_ (h _ _ rfl (at_new w _ E) (Ex.alloc w _) (size_new w _))
  simp [execOp, Instr.buildSlice, run_underlying hT', sizeOf, typeInfo, h1i, h2i, h3i, zeroValue, Instr.fill, h1, h2, hc1, hc2, newRow, hi.one, Array.range_succ, Array.range_zero']
theorem s_bs3 {u1 u2 u3 : Value} {z : Value} {op1 op2 op3 : Operand} (hT : SlT P T E) (hi : InfoOf P E z) (h1 : ev N σ op1 = u1) (h2 : ev N σ op2 = u2) (h3 : ev N σ op3 = u3) (hu1 : u1.oneCell' = true) (hu2 : u2.oneCell' = true) (hu3 : u3.oneCell' = true)
    (h : ∀ b w', b = w.heap.size → At w' b E [u1, u2, u3] → Ex w w' → w'.heap.size = b + 1 → WL r P ops Q rest (mk N (upd σ d (.slice (some ⟨b, 0, none⟩) 3 3)) ds) w') :
    WL r P ops Q (⟨some d, .buildSlice T 3 #[(0, op1), (1, op2), (2, op3)], ty, pos, after, none⟩ :: rest) (mk N σ ds) w := by
  obtain ⟨ti, h1i, h2i, h3i, h4i⟩ := hi.ex
  have hT' : P.underlying T = some (.slice E) := hT
  have hc1 : u1.cells = #[u1] := by cases u1 <;> first | rfl | (simp [Value.oneCell'] at hu1)
  have hc2 : u2.cells = #[u2] := by cases u2 <;> first | rfl | (simp [Value.oneCell'] at hu2)
  have hc3 : u3.cells = #[u3] := by cases u3 <;> first | rfl | (simp [Value.oneCell'] at hu3)
  refine l_val (v := .slice (some ⟨w.heap.size, 0, none⟩) 3 3) (w' := w.alloc (.cells [u1, u2, u3].toArray E)) (by intro c e; cases e) ?_ (h _ _ rfl (at_new w _ E) (Ex.alloc w _) (size_new w _))
  simp [execOp, Instr.buildSlice, run_underlying hT', sizeOf, typeInfo, h1i, h2i, h3i, zeroValue, Instr.fill, h1, h2, h3, hc1, hc2, hc3, newRow, hi.one, Array.range_succ, Array.range_zero']
/-! ### Whole arrays and structs -/
theorem s_ldV {b : Nat} {B : TypeId} {cs : List Value} {dd : TypeDesc} (hu : P.underlying E = some dd) (hd : (match dd with | .struct _ | .array _ _ => true | _ => false) = true) (hi : (P.info? E).map (·.size) = some cs.length)
    (hx : ev N σ x = .pointer (some ⟨b, 0, none⟩)) (hA : At w b B cs) (h : WL r P ops Q rest (mk N (upd σ d (.agg cs.toArray)) ds) w) :
    WL r P ops Q (⟨some d, .load E x, ty, pos, after, none⟩ :: rest) (mk N σ ds) w :=
  l_val (by intro c e; cases e) (by
    simp [execOp, hx, Instr.loadAt, Instr.sureAddr, run_loadVar_row (P := P) w b B E cs.toArray (0, 0) dd hA hu hd (by simpa using hi)]) h
theorem s_stV {b : Nat} {B : TypeId} {cs old : List Value} (hi : (P.info? E).map (·.size) = some cs.length) (hx : ev N σ x = .pointer (some ⟨b, 0, none⟩)) (hy : ev N σ y = .agg cs.toArray) (hA : At w b B old) (hl : old.length = cs.length) (h1 : cs.all (·.oneCell') = true)
    (h : ∀ w', At w' b B cs → w.grownBy w' (some b) → w'.heap.size = w.heap.size → WL r P ops Q rest (mk N σ ds) w') :
    WL r P ops Q (⟨none, .store E x y, ty, pos, after, none⟩ :: rest) (mk N σ ds) w := by
  have hr := run_storeVar_row (P := P) w b B E old.toArray cs.toArray hA (by simpa using hi) (by simpa using hl) (by simpa using h1)
  refine l_eff (w' := w.setRow b cs.toArray) (by intro c e; cases e) ?_ (h _ ?_ ⟨rfl, rfl, rfl, by simp, fun k hk hne => setRow_other w b k cs.toArray (fun e => hne (by rw [e]))⟩ (by simp))
  · simp [execOp, hx, hy, Instr.storeAt, Instr.sureAddr, hr]
  · exact setRow_heap w b old.toArray cs.toArray B (0, 0) hA
theorem s_fa {b o : Nat} {fs : Array Field} {f : Nat} {fl : Field} (hT : P.underlying T = some (.struct fs)) (hf : fs[f]? = some fl) (hE : Ty1 P fl.type) (hx : ev N σ x = .pointer (some ⟨b, o, none⟩))
    (h : WL r P ops Q rest (mk N (upd σ d (.pointer (some ⟨b, o + fl.offset, none⟩))) ds) w) : WL r P ops Q (⟨some d, .fieldAddr T x f, ty, pos, after, none⟩ :: rest) (mk N σ ds) w := by
  refine l_val (v := .pointer (some ⟨b, o + fl.offset, none⟩)) (by intro c e; cases e) ?_ h
  simp [execOp, hx, Instr.fieldAt, run_underlying hT, hf, Instr.sureAddr, fieldPlace, run_sizeOf1 hE, add_at]
end ops
end Go.Proofs.YtifbgpkjbciblaaGreatDoor.Sal
end
