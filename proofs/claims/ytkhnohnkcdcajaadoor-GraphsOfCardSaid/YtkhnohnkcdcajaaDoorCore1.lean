/- A thin layer over the kit's fenced rules: the frame of a call as a function from slots to values, one explicit lemma an operation. Core1: frames, codes, plain operations. -/
import Derived.OwnWalkIn
import Derived.OrdersIn
import Derived.RangeFuncLeaves
import Derived.WalkKit
import Derived.KernelRfl
set_option maxRecDepth 100000
namespace Go.Proofs.YtkhnohnkcdcajaaDoor.Sal
set_option linter.all false
open Go.RowKit

/-! ### Frames -/
def upd (σ : Nat → Value) (d : Nat) (v : Value) : Nat → Value := fun t => bif Nat.beq t d then v else σ t
def mk (N : Nat) (σ : Nat → Value) (ds : List Deferred) : Act := { tmps := Array.ofFn (fun i : Fin N => σ i.val), defers := ds }
def ev (N : Nat) (σ : Nat → Value) : Operand → Value
  | .tmp t => bif Nat.blt t N then σ t else undef
  | .const v => v
  | .global g => .pointer (some ⟨g, 0, none⟩)
  | .func f => .func (.func f) #[] #[]

theorem upd_same (σ : Nat → Value) (d : Nat) (v : Value) : upd σ d v d = v := by simp [upd]
theorem upd_other {σ : Nat → Value} {d t : Nat} {v : Value} (h : t ≠ d) : upd σ d v t = σ t := by
  have : Nat.beq t d = false := by cases hb : Nat.beq t d with | false => rfl | true => exact absurd (Nat.eq_of_beq_eq_true hb) h
  simp [upd, this]

theorem getD_mk (N : Nat) (σ : Nat → Value) (t : Nat) : (Array.ofFn (fun i : Fin N => σ i.val)).getD t undef = bif Nat.blt t N then σ t else undef := by
  cases h : Nat.blt t N with
  | true =>
    have hlt : t < N := by rw [Nat.blt_eq] at h; exact h
    simp [Array.getD, hlt]
  | false =>
    have hlt : ¬ t < N := fun hh => by rw [← Nat.blt_eq, h] at hh; cases hh
    simp [Array.getD, hlt]

theorem eval_mk (N : Nat) (σ : Nat → Value) (ds : List Deferred) (x : Operand) : (mk N σ ds).eval x = ev N σ x := by
  cases x with
  | tmp t => exact getD_mk N σ t
  | const v => rfl
  | global g => rfl
  | func f => rfl
theorem eval_mk' (N : Nat) (σ : Nat → Value) (ds : List Deferred) : (mk N σ ds).eval = ev N σ := funext (eval_mk N σ ds)

theorem put_mk (N : Nat) (σ : Nat → Value) (ds : List Deferred) (d : Nat) (v : Value) : (mk N σ ds).put (some d) v = mk N (upd σ d v) ds := by
  unfold mk Act.put
  simp only [Act.mk.injEq, and_true]
  apply Array.ext
  · simp
  · intro i h1 h2
    simp at h1
    by_cases hid : i = d
    · subst hid
      simp [upd]
    · have hdi : d ≠ i := fun e => hid e.symm
      rw [Array.getElem_setIfInBounds_ne (by simpa using h1) hdi]
      simp [upd_other hid]
/-- The slots that a piece of code may write, as bits of a number. -/
def tb (M t : Nat) : Bool := Nat.beq (Nat.land (Nat.shiftRight M t) 1) 1
def mask (M : Nat) (ρ σ : Nat → Value) : Nat → Value := fun t => bif tb M t then ρ t else σ t
def ext : List (Nat × Value) → (Nat → Value) → Nat → Value
  | [], σ => σ
  | (d, v) :: l, σ => upd (ext l σ) d v
def Has (σ : Nat → Value) : List (Nat × Value) → Prop
  | [] => True
  | (d, v) :: l => σ d = v ∧ Has σ l
def Agree (M : Nat) (σ' σ : Nat → Value) : Prop := ∀ t, tb M t = false → σ' t = σ t
theorem agree_refl (M : Nat) (σ : Nat → Value) : Agree M σ σ := fun _ _ => rfl
theorem agree_upd {M : Nat} {σ' σ : Nat → Value} {d : Nat} {v : Value} (hd : tb M d = true) (h : Agree M σ' σ) : Agree M (upd σ' d v) σ := fun t ht => by
  rw [upd_other (fun e => by rw [e, hd] at ht; cases ht)]; exact h t ht
theorem agree_mask {M M' : Nat} {ρ σ' σ : Nat → Value} (hs : Nat.land M' M = M') (h : Agree M σ' σ) : Agree M (mask M' ρ σ') σ := fun t ht => by
  have : tb M' t = false := by
    simp only [tb] at ht ⊢
    have ht' : ¬ (Nat.land (Nat.shiftRight M t) 1 = 1) := fun e => by rw [e] at ht; cases ht
    cases hb : Nat.beq (Nat.land (Nat.shiftRight M' t) 1) 1 with
    | false => rfl
    | true =>
      exfalso
      have hb' := Nat.eq_of_beq_eq_true hb
      apply ht'
      have h1 : M'.testBit t = true := by
        unfold Nat.testBit
        have : 1 &&& (M' >>> t) = 1 := by rw [Nat.and_comm]; exact hb'
        rw [this]; rfl
      have h2 : (M' &&& M).testBit t = true := by
        have e : M' &&& M = M' := hs
        rw [e]; exact h1
      rw [Nat.testBit_and] at h2
      have h3 : M.testBit t = true := by simp at h2; exact h2.2
      unfold Nat.testBit at h3
      have h4 : 1 &&& (M >>> t) = (M >>> t) % 2 := by rw [Nat.and_comm, Nat.and_one_is_mod]
      have h5 : Nat.land (Nat.shiftRight M t) 1 = (M >>> t) % 2 := Nat.and_one_is_mod (M >>> t)
      rw [h5]
      rw [h4] at h3
      have h6 : (M >>> t) % 2 ≠ 0 := by simpa using h3
      omega
  simp [mask, this]
  exact h t ht
theorem agree_ext {M : Nat} {σ' σ : Nat → Value} : ∀ {l : List (Nat × Value)}, (l.all fun p => tb M p.1) = true → Agree M σ' σ → Agree M (ext l σ') σ
  | [], _, h => h
  | (d, v) :: l, hl, h => by
    simp only [List.all_cons, Bool.and_eq_true] at hl
    exact agree_upd hl.1 (agree_ext hl.2 h)
theorem upd_self (σ : Nat → Value) (d : Nat) (v : Value) (h : σ d = v) : upd σ d v = σ := by
  funext t
  by_cases e : t = d
  · subst e; rw [upd_same, h]
  · exact upd_other e
theorem ext_has {σ : Nat → Value} : ∀ {l : List (Nat × Value)}, Has σ l → ext l σ = σ
  | [], _ => rfl
  | (d, v) :: l, h => by
    show upd (ext l σ) d v = σ
    rw [ext_has h.2]; exact upd_self σ d v h.1
theorem mask_self {M : Nat} {σ' σ : Nat → Value} (h : Agree M σ' σ) : mask M σ' σ = σ' := by
  funext t
  simp only [mask]
  cases ht : tb M t with
  | true => rfl
  | false => exact (h t ht).symm

/-! ### Codes -/
abbrev FW (r : Option Nat) : Fence := { Fence.wide with round := r }
abbrev CW (r : Option Nat) (P : Program) (c : Code) (Q : Exit → Act → World → Prop) (a : Act) (w : World) : Prop := c.wpIn (FW r) 0 P Q a w
abbrev WL (r : Option Nat) (P : Program) (ops : Array Oper) (Q : Exit → Act → World → Prop) (l : List Oper) (a : Act) (w : World) : Prop := wpListIn (FW r) 0 P ops Q l a w

section codes
variable {r : Option Nat} {P : Program} {Q : Exit → Act → World → Prop} {a : Act} {w : World}
theorem c_seq {x y : Code} (h : CW r P x (Exit.then (CW r P y Q) Q) a w) : CW r P (.seq x y) Q a w := wpIn_seq h
theorem c_skip (h : Q .normal a w) : CW r P .skip Q a w := wpIn_skip h
theorem c_exit {id : Nat} (h : Q (.exit id) a w) : CW r P (.exit id) Q a w := wpIn_exit h
theorem c_ret (h : Q .ret a w) : CW r P .ret Q a w := wpIn_ret h
theorem c_block {id : Nat} {c : Code} (h : CW r P c (Exit.inBlock id Q) a w) : CW r P (.block id c) Q a w := wpIn_block h
theorem c_region {id : Nat} {l : List Oper} (h : WL r P l.toArray Q l a w) : CW r P (.region id l.toArray false) Q a w := wpIn_region_lit h
theorem l_nil {ops : Array Oper} (h : Q .normal a w) : WL r P ops Q [] a w := h
theorem c_if {c : Operand} {x y : Code} {t : Bool} {N : Nat} {σ : Nat → Value} {ds : List Deferred} (hc : ev N σ c = .bool t) (ht : t = true → CW r P x Q (mk N σ ds) w)
    (hf : t = false → CW r P y Q (mk N σ ds) w) : CW r P (.cond c x y) Q (mk N σ ds) w := wpIn_cond_split (by rw [eval_mk]; exact hc) ht hf
theorem c_ifd {c : Operand} {x y : Code} {p : Prop} [Decidable p] {N : Nat} {σ : Nat → Value} {ds : List Deferred} (hc : ev N σ c = .bool (decide p)) (ht : p → CW r P x Q (mk N σ ds) w)
    (hf : ¬ p → CW r P y Q (mk N σ ds) w) : CW r P (.cond c x y) Q (mk N σ ds) w := c_if hc (fun h => ht (of_decide_eq_true h)) (fun h => hf (of_decide_eq_false h))
theorem c_ift {c : Operand} {x y : Code} {N : Nat} {σ : Nat → Value} {ds : List Deferred} (hc : ev N σ c = .bool true) (ht : CW r P x Q (mk N σ ds) w) : CW r P (.cond c x y) Q (mk N σ ds) w :=
  c_if hc (fun _ => ht) (fun h => by cases h)
theorem c_iff {c : Operand} {x y : Code} {N : Nat} {σ : Nat → Value} {ds : List Deferred} (hc : ev N σ c = .bool false) (ht : CW r P y Q (mk N σ ds) w) : CW r P (.cond c x y) Q (mk N σ ds) w :=
  c_if hc (fun h => by cases h) (fun _ => ht)
/-- A LOOP. γ: what a round's head knows; M: the slots that its body may write; vals: those of them whose values are told; Inv: what holds of the world; μ falls. -/
def LoopEnd {γ : Type} (N : Nat) (ds : List Deferred) (M : Nat) (σ : Nat → Value) (vals : γ → List (Nat × Value)) (Inv : γ → World → Prop) (μ : γ → Nat) (x : γ) (a' : Act) (w' : World) : Prop :=
  ∃ x' σ', a' = mk N σ' ds ∧ Agree M σ' σ ∧ Has σ' (vals x') ∧ Inv x' w' ∧ μ x' < μ x
theorem loop_end {γ : Type} {N : Nat} {ds : List Deferred} {M : Nat} {σ σ' : Nat → Value} {vals : γ → List (Nat × Value)} {Inv : γ → World → Prop} {μ : γ → Nat} {x : γ} {w' : World} (x' : γ)
    (ha : Agree M σ' σ) (hv : Has σ' (vals x')) (hi : Inv x' w') (hm : μ x' < μ x) : LoopEnd N ds M σ vals Inv μ x (mk N σ' ds) w' := ⟨x', σ', rfl, ha, hv, hi, hm⟩
theorem c_loop {γ : Type} (M : Nat) (vals : γ → List (Nat × Value)) (Inv : γ → World → Prop) (μ : γ → Nat) {N : Nat} {σ : Nat → Value} {ds : List Deferred} {c : Code} (x₀ : γ)
    (h₀ : Has σ (vals x₀)) (hI : Inv x₀ w)
    (round : ∀ (x : γ) (ρ : Nat → Value) (w : World), Inv x w → CW r P c (Exit.then (LoopEnd N ds M σ vals Inv μ x) Q) (mk N (ext (vals x) (mask M ρ σ)) ds) w) : CW r P (.loop c) Q (mk N σ ds) w := by
  intro b k cs hro hb hr
  have key : ∀ j (x : γ) (σ' : Nat → Value) (w : World), μ x = j → Agree M σ' σ → Has σ' (vals x) → Inv x w →
      ∃ e a' w', Q e a' w' ∧ ArrivesIn (Machine.fenced P (FW r)) P (lone (b.atR (mk N σ' ds) (.code c :: .inLoop c :: k)) cs w) b k cs e a' w' := by
    intro j
    induction j using Nat.strongRecOn with
    | _ j ih =>
      intro x σ' w hn hag hhas hI
      have hrd := round x σ' w hI
      rw [mask_self hag, ext_has hhas] at hrd
      obtain ⟨e, a₁, w₁, hq, harr⟩ := hrd b (.inLoop c :: k) cs hro hb hr
      cases e with
      | normal =>
        obtain ⟨x', σ'', ha, hag', hhas', hI', hlt⟩ := hq
        subst ha
        obtain ⟨e₂, a₂, w₂, hq₂, harr₂⟩ := ih (μ x') (hn ▸ hlt) x' σ'' w₁ rfl hag' hhas' hI'
        exact ⟨e₂, a₂, w₂, hq₂, .of_steps (StepsIn.trans harr (.one (fenced_calm hb hr rfl) stepR_inLoop)) harr₂⟩
      | exit id => exact ⟨_, a₁, w₁, hq, .pass (x := .inLoop c) rfl (fun _ _ => .inl (by simp)) harr⟩
      | goto l => exact ⟨_, a₁, w₁, hq, .pass (x := .inLoop c) rfl (fun _ _ => .inl (by simp)) harr⟩
      | ret => exact ⟨_, a₁, w₁, hq, .pass (x := .inLoop c) rfl (fun _ _ => .inl (by simp)) harr⟩
      | panic ch => exact ⟨_, a₁, w₁, hq, .pass (x := .inLoop c) rfl (fun _ _ => .inl (by simp)) harr⟩
      | outgrown => exact ⟨_, a₁, w₁, hq, .pass (x := .inLoop c) rfl (fun _ _ => .inl (by simp)) harr⟩
  obtain ⟨e, a', w', hq, harr⟩ := key _ x₀ σ w rfl (agree_refl M σ) h₀ hI
  exact ⟨e, a', w', hq, .of_steps (.one (fenced_calm hb hr rfl) stepR_loop) harr⟩
end codes
end Go.Proofs.YtkhnohnkcdcajaaDoor.Sal
