/- Texts that YtifbgpkjbciblaaGreatDoorFRO leans on, laid together: Core6 Core7 Core8 Core9 Core10 Core12 Core11 Core13 Ops. -/
import Derived.Test.YtifbgpkjbciblaaGreatDoorMFRO1
import Derived.Deep.Matrix
import Derived.Lib.SmallJoins
import Derived.SizedLaws
import Derived.OpenShut
import Derived.ChangeOld
import Derived.ProofKit
import Derived.RangeFuncNested
import Derived.RangeFuncMany
import Derived.Test.YtifbgpkjbciblaaGreatDoorRows
section
/- Core6: a region whose order Go leaves open: what only reads may be taken as soon as it can be; the rest in its one order. -/
set_option maxRecDepth 100000
namespace Go.Proofs.YtifbgpkjbciblaaGreatDoor.Sal
set_option linter.all false
open Go.RowKit

section draw
variable {r : Option Nat} {P : Program} {ops : Array Oper} {J : World → Prop} {Q : Exit → Act → World → Prop} {z : Nat}

def plainOp (o : Oper) : Bool := match o.op with | .defer _ | .select _ _ => false | _ => true
/-- What a reading operation may lean on: a load on J, the others on nothing. -/
def JP (op : Op) (J : World → Prop) : World → Prop := match op with | .load _ _ => J | _ => fun _ => True
/-- J holds until the first of the last stores has been. -/
def JL (z : Nat) (J : World → Prop) (listed : Array Bool) (w : World) : Prop := (∃ t, z.testBit t = true ∧ listed.getD t false = true) ∨ J w
def YS (P : Program) (ops : Array Oper) (J : World → Prop) (o : Oper) (v : Value) (a : Act) : Prop :=
  (Region.wanted o (yielded ops a.tmps) = true ∧ ∀ w', J w' → (execOp a.eval o).run P w' = .ok (.value v) w') ∨ (Region.wanted o (yielded ops a.tmps) = false ∧ v = undef)
/-- Only normal ends. -/
def OnlyN (Q : Exit → Act → World → Prop) : Exit → Act → World → Prop
  | .normal, a, w => Q .normal a w
  | _, _, _ => False
def RAJ (r : Option Nat) (P : Program) (ops : Array Oper) (J : World → Prop) (z : Nat) (Q : Exit → Act → World → Prop) : Nat → Array Bool → Act → World → Prop
  | 0, listed, a, w => Region.ready .any ops listed = [] ∧ Q .normal a w
  | fuel + 1, listed, a, w => (Region.ready .any ops listed = [] → Q .normal a w) ∧
      ∀ i ∈ Region.ready .any ops listed, wpOpIn (FW r) 0 P ops (OnlyN Q) i (fun a' w' => JL z J (listed.setIfInBounds i true) w' ∧ RAJ r P ops J z Q fuel (listed.setIfInBounds i true) a' w') a w
def WJ (r : Option Nat) (P : Program) (ops : Array Oper) (J : World → Prop) (z : Nat) (Q : Exit → Act → World → Prop) : List (Nat × Bool) → Act → World → Prop
  | [], a, w => Q .normal a w
  | (i, true) :: π, a, w => ∃ o v, ops[i]? = some o ∧ YS P ops (JP o.op J) o v a ∧ WJ r P ops J z Q π (a.put o.dst v) w
  | (i, false) :: π, a, w => wpOpIn (FW r) 0 P ops (OnlyN Q) i (fun a' w' => (z.testBit i = true ∨ J w') ∧ WJ r P ops J z Q π a' w') a w

theorem onlyN_mono {Q : Exit → Act → World → Prop} : ∀ e a w, OnlyN Q e a w → Q e a w
  | .normal, _, _, h => h
theorem wpOpIn_monoQ {Q' : Exit → Act → World → Prop} {i : Nat} {K : Act → World → Prop} {a : Act} {w : World} (hq : ∀ e a w, Q e a w → Q' e a w) (h : wpOpIn (FW r) 0 P ops Q i K a w) : wpOpIn (FW r) 0 P ops Q' i K a w := by
  unfold wpOpIn at *
  split
  · rename_i hn; rw [hn] at h; exact h
  · rename_i o ho
    rw [ho] at h
    simp only at h
    split
    · rename_i hw
      simp only [hw, if_true] at h
      unfold Oper.wpIn at *
      refine ⟨h.1, ?_⟩
      have h2 := h.2
      generalize (o.semAt (FW r).round a.eval).run P w = res at *
      cases res with
      | ok x w' =>
        cases x <;> simp only [Oper.uponIn] at h2 ⊢ <;> first
          | exact h2
          | exact ⟨h2.1, CallsIn.mono h2.2 (fun e w'' he => by cases e <;> first | exact he | exact hq _ _ _ he | exact (let ⟨a, w, hh⟩ := he; ⟨a, w, hq _ _ _ hh⟩))⟩
          | exact ⟨h2.1, RoundIn.mono h2.2 (fun e w'' he => by cases e <;> first | exact he | exact hq _ _ _ he | exact (let ⟨a, w, hh⟩ := he; ⟨a, w, hq _ _ _ hh⟩))⟩
      | halt x w' => cases x <;> simp only [Oper.uponIn] at h2 ⊢ <;> first | exact h2 | exact hq _ _ _ h2
    · rename_i hw; simp only [hw] at h; exact h

theorem wpAny_of_RAJ : ∀ (fuel : Nat) (listed : Array Bool) (a : Act) (w : World), RAJ r P ops J z Q fuel listed a w → wpAnyIn (FW r) 0 P .any ops Q fuel listed a w
  | 0, _, _, _, h => h
  | fuel + 1, listed, a, w, h => ⟨h.1, fun i hi => wpOpIn_mono (fun a' w' hh => wpAny_of_RAJ fuel _ a' w' hh.2) (wpOpIn_monoQ onlyN_mono (h.2 i hi))⟩

theorem ys_put {oi oj : Oper} {v u : Value} {a : Act} (hsel : ∀ cs b, oi.op ≠ .select cs b) (h3 : ∀ d, oj.dst = some d → d ∉ oi.looksAt ops) (h : YS P ops J oi v a) : YS P ops J oi v (a.put oj.dst u) := by
  unfold YS at *
  rw [wanted_put oi a oj.dst u h3, execOp_put oi hsel a oj.dst u h3]
  exact h
theorem put_swap {j : Nat} {oi oj : Oper} {v : Value} (hj : ops[j]? = some oj) (hap : oi.apart ops oj = true) (hpi : plainOp oi = true) (hpj : plainOp oj = true) {K : Act → World → Prop} {a : Act} {w : World}
    (hy : YS P ops J oi v a) (h : wpOpIn (FW r) 0 P ops (OnlyN Q) j K (a.put oi.dst v) w) :
    wpOpIn (FW r) 0 P ops (OnlyN Q) j (fun a' w' => YS P ops J oi v a' ∧ K (a'.put oi.dst v) w') a w := by
  obtain ⟨h1, h2, h3⟩ := Oper.apart_spec hap
  have hsi : ∀ cs b, oi.op ≠ .select cs b := fun cs b e => by simp [plainOp, e] at hpi
  have hsj : ∀ cs b, oj.op ≠ .select cs b := fun cs b e => by simp [plainOp, e] at hpj
  have hdj : ∀ c, oj.op ≠ .defer c := fun c e => by simp [plainOp, e] at hpj
  unfold wpOpIn at *
  simp only [hj] at *
  rw [wanted_put oj a oi.dst v h1, about_put oj w a oi.dst v h1] at h
  split
  · rename_i hw
    simp only [hw, if_true] at h
    unfold Oper.wpIn at *
    refine ⟨fun _ _ => trivial, ?_⟩
    have h := h.2
    rw [Oper.semAt_plain (FW r) _ _ hdj, execOp_put oj hsj a oi.dst v h1] at h
    rw [Oper.semAt_plain (FW r) _ _ hdj]
    generalize hr : (execOp a.eval oj).run P w = res at *
    cases res with
    | ok x w' =>
      cases x <;> simp only [Oper.uponIn] at h ⊢
      case value u => exact ⟨ys_put hsi h3 hy, by rw [← Act.put_comm a v u h2]; exact h⟩
      case skip => exact ⟨ys_put hsi h3 hy, by rw [← Act.put_comm a v undef h2]; exact h⟩
      case defer d =>
        have hy' : YS P ops J oi v ({ a with defers := d :: a.defers } : Act) := hy
        refine ⟨ys_put hsi h3 hy', ?_⟩
        rw [← Act.put_comm _ v undef h2, ← Act.put_defers]
        exact h
      case enter f args =>
        refine ⟨h.1, CallsIn.mono h.2 fun e w'' he => ?_⟩
        cases e with
        | returned u => exact ⟨ys_put hsi h3 hy, by rw [← Act.put_comm a v u h2]; exact he⟩
        | panicked c => exact he.elim
        | outgrown => exact he
      case row row args => exact ⟨h.1, RowsIn.mono h.2 fun u w'' he => ⟨ys_put hsi h3 hy, by rw [← Act.put_comm a v u h2]; exact he⟩⟩
      case round l f tmps assign body =>
        refine ⟨h.1, RoundIn.mono h.2 fun e w'' he => ?_⟩
        cases e with
        | returned u => exact ⟨ys_put hsi h3 hy, by rw [← Act.put_comm a v u h2]; exact he⟩
        | panicked c => exact he.elim
        | outgrown => exact he
    | halt x w' =>
      cases x <;> simp only [Oper.uponIn] at h ⊢
      case panic u => exact h.elim
  · rename_i hw
    simp only [hw] at h
    exact ⟨fun _ _ => trivial, ys_put hsi h3 hy, by rw [← Act.put_comm a v undef h2]; exact h.2⟩

/-! What must wait for what, told by a bool over the region's text. -/
def deps (ops : Array Oper) (i : Nat) : List Nat := match ops[i]? with | some o => (o.after.toList.filter (Region.binds .any ·)).map (·.on) | none => []
def reach (ops : Array Oper) (z : Nat) : Nat → List Nat
  | 0 => deps ops z
  | k + 1 => reach ops z k ++ (reach ops z k).flatMap (deps ops)
def Closed (ops : Array Oper) (listed : Array Bool) : Prop := ∀ k, listed.getD k false = true → ∀ e ∈ deps ops k, listed.getD e false = true
theorem reach_listed {listed : Array Bool} (hc : Closed ops listed) (hz : ∀ e ∈ deps ops z, listed.getD e false = true) : ∀ k, ∀ x ∈ reach ops z k, listed.getD x false = true
  | 0, x, hx => hz x hx
  | k + 1, x, hx => by
    rcases List.mem_append.1 hx with h | h
    · exact reach_listed hc hz k x h
    · obtain ⟨y, hy, hxy⟩ := List.mem_flatMap.1 h
      exact hc y (reach_listed hc hz k y hy) x hxy
def loadOp (ops : Array Oper) (i : Nat) : Bool := match ops[i]? with | some o => (match o.op with | .load _ _ => true | _ => false) | none => false
/-- z: a mask of the stores that come last, behind all that loads. -/
def sinkOK (ops : Array Oper) (z k : Nat) : Bool := (List.range ops.size).all fun t => !(z.testBit t) || (List.range ops.size).all fun j => !(loadOp ops j) || (reach ops t k).contains j
def apartOK (ops : Array Oper) (i : Nat) : Bool := match ops[i]? with
  | some oi => (List.range ops.size).all fun j => j == i || (deps ops j).contains i || (deps ops i).contains j || match ops[j]? with | some oj => oi.apart ops oj | none => true
  | none => false
def chk (ops : Array Oper) (z : Nat) : List (Nat × Bool) → Array Bool → Bool
  | [], listed => (Region.ready .any ops listed).isEmpty
  | (i, true) :: π, listed => (Region.ready .any ops listed).contains i && apartOK ops i && !(z.testBit i) && chk ops z π (listed.setIfInBounds i true)
  | (i, false) :: π, listed => (Region.ready .any ops listed == [i]) && chk ops z π (listed.setIfInBounds i true)
def regionOK (ops : Array Oper) (z k : Nat) (π : List (Nat × Bool)) : Bool :=
  ops.all plainOp && sinkOK ops z k && chk ops z π (Array.replicate ops.size false) && Nat.ble π.length ops.size

theorem deps_inv {i x : Nat} {o : Oper} (ho : ops[i]? = some o) (hx : x ∈ deps ops i) : ∃ e ∈ o.after, Region.binds .any e = true ∧ e.on = x := by
  unfold deps at hx; rw [ho] at hx
  obtain ⟨e, he, rfl⟩ := List.mem_map.1 hx
  obtain ⟨h1, h2⟩ := List.mem_filter.1 he
  exact ⟨e, by simpa using h1, h2, rfl⟩
theorem ready_deps {i : Nat} {listed : Array Bool} (h : i ∈ Region.ready .any ops listed) : ∀ e ∈ deps ops i, listed.getD e false = true := by
  obtain ⟨_, o, ho, hall⟩ := mem_ready.1 h
  intro x hx
  obtain ⟨e, he, hb, rfl⟩ := deps_inv ho hx
  exact hall e he hb
theorem closed_set {i : Nat} {listed : Array Bool} (hc : Closed ops listed) (h : i ∈ Region.ready .any ops listed) : Closed ops (listed.setIfInBounds i true) := by
  intro k hk e he
  by_cases hki : k = i
  · subst hki; exact getD_set_true (ready_deps h e he)
  · rw [getD_set_ne false (Ne.symm hki)] at hk
    exact getD_set_true (hc k hk e he)
theorem unlisted {i : Nat} {listed : Array Bool} (h : i ∈ Region.ready .any ops listed) : listed.getD i false = false := by
  obtain ⟨h0, _⟩ := mem_ready.1 h
  cases hb : listed.getD i false with
  | false => rfl
  | true =>
    have hlt : i < listed.size := by
      rcases Nat.lt_or_ge i listed.size with h' | h'
      · exact h'
      · simp [Array.getElem?_eq_none h'] at hb
    simp [hlt] at h0 hb
    rw [h0] at hb; cases hb
theorem sink_all {k i t : Nat} {listed : Array Bool} (hs : sinkOK ops z k = true) (hc : Closed ops listed) (htlt : t < ops.size) (ht : listed.getD t false = true) (htz : z.testBit t = true) (hi : i < ops.size) (hl : loadOp ops i = true) : listed.getD i false = true := by
  unfold sinkOK at hs
  have h := List.all_eq_true.1 hs t (List.mem_range.2 htlt)
  rw [htz] at h
  simp only [Bool.not_true, Bool.false_or] at h
  have := List.all_eq_true.1 h i (List.mem_range.2 hi)
  rcases Bool.or_eq_true_iff.1 this with h1 | h1
  · rw [hl] at h1; cases h1
  · exact reach_listed hc (hc t ht) k i (by simpa using h1)
theorem jl_set {i : Nat} {listed : Array Bool} {w : World} (h : JL z J listed w) : JL z J (listed.setIfInBounds i true) w :=
  h.imp (fun ⟨t, h1, h2⟩ => ⟨t, h1, getD_set_true h2⟩) id
theorem jl_of {i : Nat} {listed : Array Bool} {w : World} (hr : i ∈ Region.ready .any ops listed) (hsz : listed.size = ops.size) (h : z.testBit i = true ∨ J w) : JL z J (listed.setIfInBounds i true) w :=
  h.imp (fun h => ⟨i, h, by
    obtain ⟨_, o, ho, _⟩ := mem_ready.1 hr
    have := (Array.getElem?_eq_some_iff.1 ho).1
    simp [hsz, this]⟩) id
theorem ys_exec {i : Nat} {o : Oper} {v : Value} {a : Act} {w : World} {K : Act → World → Prop} (hi : ops[i]? = some o) (hp : plainOp o = true) (hy : YS P ops J o v a) (hJ : J w) (hK : K (a.put o.dst v) w) : wpOpIn (FW r) 0 P ops (OnlyN Q) i K a w := by
  have hd : ∀ c, o.op ≠ .defer c := fun c e => by simp [plainOp, e] at hp
  unfold wpOpIn
  simp only [hi]
  rcases hy with ⟨hw, hv⟩ | ⟨hw, rfl⟩
  · simp only [hw, if_true, Oper.wpIn]
    refine ⟨fun _ _ => trivial, ?_⟩
    rw [Oper.semAt_plain (FW r) _ _ hd, hv w hJ]
    exact hK
  · simp only [hw, Bool.false_eq_true, if_false]
    exact ⟨fun _ _ => trivial, hK⟩
theorem jp_of {i k : Nat} {oi : Oper} {listed : Array Bool} {w : World} (hs : sinkOK ops z k = true) (hsz : listed.size = ops.size) (hc : Closed ops listed) (hi : ops[i]? = some oi) (hr : i ∈ Region.ready .any ops listed) (hJ : JL z J listed w) : JP oi.op J w := by
  cases hop : oi.op with
  | load E x =>
    show J w
    refine hJ.resolve_left ?_
    rintro ⟨t, h1, h2⟩
    have htl : t < ops.size := by
      rcases Nat.lt_or_ge t listed.size with h' | h'
      · omega
      · simp [Array.getElem?_eq_none h'] at h2
    have hl : loadOp ops i = true := by simp [loadOp, hi, hop]
    have := sink_all hs hc htl h2 h1 (Array.getElem?_eq_some_iff.1 hi).1 hl
    rw [unlisted hr] at this; cases this
  | _ => exact trivial
theorem first_mover {k i : Nat} {oi : Oper} {v : Value} (hpl : ∀ (j : Nat) (o : Oper), ops[j]? = some o → plainOp o = true) (hs : sinkOK ops z k = true) (hi : ops[i]? = some oi) (hap : apartOK ops i = true) (hz : z.testBit i = false) :
    ∀ (fuel : Nat) (listed : Array Bool) (a : Act) (w : World), listed.size = ops.size → Closed ops listed → i ∈ Region.ready .any ops listed → YS P ops (JP oi.op J) oi v a → JL z J listed w →
      RAJ r P ops J z Q fuel (listed.setIfInBounds i true) (a.put oi.dst v) w → RAJ r P ops J z Q (fuel + 1) listed a w := by
  intro fuel
  induction fuel with
  | zero =>
    intro listed a w hsz hc hr hy hJ H
    refine ⟨fun h => (by rw [h] at hr; cases hr), fun j hj => ?_⟩
    by_cases hji : j = i
    · subst hji
      exact ys_exec hi (hpl _ _ hi) hy (jp_of hs hsz hc hi hr hJ) ⟨jl_set hJ, H⟩
    · have := ready_mono hj hji
      rw [H.1] at this; cases this
  | succ f ih =>
    intro listed a w hsz hc hr hy hJ H
    refine ⟨fun h => (by rw [h] at hr; cases hr), fun j hj => ?_⟩
    by_cases hji : j = i
    · subst hji
      exact ys_exec hi (hpl _ _ hi) hy (jp_of hs hsz hc hi hr hJ) ⟨jl_set hJ, H⟩
    · have h1 := H.2 j (ready_mono hj hji)
      obtain ⟨_, oj, hoj, _⟩ := mem_ready.1 hj
      have hjlt : j < ops.size := (Array.getElem?_eq_some_iff.1 hoj).1
      have hapj : oi.apart ops oj = true := by
        unfold apartOK at hap
        rw [hi] at hap
        have h2 := List.all_eq_true.1 hap j (List.mem_range.2 hjlt)
        simp only [hoj, Bool.or_eq_true] at h2
        rcases h2 with ((h2 | h2) | h2) | h2
        · exact absurd (by simpa using h2) hji
        · exfalso
          have h3 := ready_deps hj i (by simpa using h2)
          rw [unlisted hr] at h3; cases h3
        · exfalso
          have h3 := ready_deps hr j (by simpa using h2)
          rw [unlisted hj] at h3; cases h3
        · exact h2
      refine wpOpIn_mono ?_ (put_swap hoj hapj (hpl _ _ hi) (hpl _ _ hoj) hy h1)
      rintro a' w' ⟨hy', hJ', hR⟩
      have hJ2 : JL z J (listed.setIfInBounds j true) w' := by
        rcases hJ' with ⟨t, ht1, ht2⟩ | h
        · refine .inl ⟨t, ht1, ?_⟩
          rw [Array.setIfInBounds_comm _ _ (Ne.symm hji)] at ht2
          have hti : i ≠ t := fun e => by subst e; rw [hz] at ht1; cases ht1
          rwa [getD_set_ne false hti] at ht2
        · exact .inr h
      refine ⟨hJ2, ih (listed.setIfInBounds j true) a' w' (by simpa using hsz) (closed_set hc hj) (ready_mono hr (Ne.symm hji)) hy' hJ2 ?_⟩
      rw [Array.setIfInBounds_comm _ _ hji]; exact hR
theorem raj_of_wj {k : Nat} (hpl : ∀ (j : Nat) (o : Oper), ops[j]? = some o → plainOp o = true) (hs : sinkOK ops z k = true) :
    ∀ (π : List (Nat × Bool)) (fuel : Nat) (listed : Array Bool) (a : Act) (w : World), listed.size = ops.size → chk ops z π listed = true → Closed ops listed → JL z J listed w → π.length ≤ fuel → WJ r P ops J z Q π a w → RAJ r P ops J z Q fuel listed a w := by
  intro π
  induction π with
  | nil =>
    intro fuel listed a w _ hk hc _ _ h
    have he : Region.ready .any ops listed = [] := by simpa [chk] using hk
    cases fuel with
    | zero => exact ⟨he, h⟩
    | succ f => exact ⟨fun _ => h, fun i hi => by rw [he] at hi; cases hi⟩
  | cons p π ih =>
    obtain ⟨i, b⟩ := p
    intro fuel listed a w hsz hk hc hJ hf h
    cases fuel with
    | zero => simp at hf
    | succ f =>
      have hf' : π.length ≤ f := by simpa using hf
      cases b with
      | true =>
        simp only [chk, Bool.and_eq_true] at hk
        obtain ⟨⟨⟨h1, h2⟩, h3⟩, h4⟩ := hk
        have hr : i ∈ Region.ready .any ops listed := by simpa using h1
        obtain ⟨o, v, ho, hy, hW⟩ := h
        exact first_mover hpl hs ho h2 (by simpa using h3) f listed a w hsz hc hr hy hJ (ih f _ _ w (by simpa using hsz) h4 (closed_set hc hr) (jl_set hJ) hf' hW)
      | false =>
        simp only [chk, Bool.and_eq_true] at hk
        obtain ⟨h1, h4⟩ := hk
        have he : Region.ready .any ops listed = [i] := by simpa using h1
        refine ⟨fun h => by rw [he] at h; simp at h, fun j hj => ?_⟩
        rw [he] at hj
        obtain rfl : j = i := by simpa using hj
        have hr : j ∈ Region.ready .any ops listed := by rw [he]; simp
        refine wpOpIn_mono ?_ h
        rintro a' w' ⟨hJ', hW⟩
        have hJ2 : JL z J (listed.setIfInBounds j true) w' := jl_of hr hsz hJ'
        exact ⟨hJ2, ih f _ a' w' (by simpa using hsz) h4 (closed_set hc hr) hJ2 hf' hW⟩
end draw

section draw2
variable {r : Option Nat} {P : Program} {J : World → Prop} {Q : Exit → Act → World → Prop} {z : Nat} {N : Nat} {σ : Nat → Value} {ds : List Deferred} {w : World}
theorem c_draw {id : Nat} {l : List Oper} (z k : Nat) (π : List (Nat × Bool)) (hm : P.follows .mixedOrders = true) (hok : regionOK l.toArray z k π = true)
    (h : WJ r P l.toArray (Ex w.drew) z Q π (mk N σ ds) w.drew) : CW r P (.region id l.toArray true) Q (mk N σ ds) w := by
  simp only [regionOK, Bool.and_eq_true] at hok
  obtain ⟨⟨⟨h1, h2⟩, h3⟩, h4⟩ := hok
  refine wpIn_region_any hm (wpAny_of_RAJ _ _ _ _ (raj_of_wj (J := Ex w.drew) (fun j o ho => ?_) h2 π _ _ _ _ (by simp) h3 ?_ (.inr (Ex.refl _)) (Nat.le_of_ble_eq_true h4) h))
  · exact (Array.all_eq_true_iff_forall_mem.1 h1) o (Array.mem_of_getElem? ho)
  · intro k hk
    exfalso
    by_cases hlt : k < l.toArray.size
    · simp at hlt; simp [hlt] at hk
    · simp at hlt; simp [Nat.not_lt.2 hlt] at hk
variable {gd : Option (Nat × Bool)} {ops : Array Oper} {i d : Nat} {π : List (Nat × Bool)} {ty : TypeId} {pos : String} {after : Array Edge}
theorem d_re {v v' : Value} (he : v = v') (h : WJ r P ops J z Q π (mk N (upd σ d v') ds) w) : WJ r P ops J z Q π (mk N (upd σ d v) ds) w := he ▸ h
theorem d_nil (h : Q .normal (mk N σ ds) w) : WJ r P ops J z Q [] (mk N σ ds) w := h
def GOK (ops : Array Oper) (e : Operand → Value) : Option (Nat × Bool) → Prop
  | none => True
  | some (j, want) => ∃ g, (ops[j]?).bind (·.dst) = some g ∧ e (.tmp g) = .bool want
theorem d_val {op : Op} {v : Value} {gd : Option (Nat × Bool)} (hi : ops[i]? = some ⟨some d, op, ty, pos, after, gd⟩) (hrun : ∀ w', JP op J w' → (execOp (ev N σ) ⟨some d, op, ty, pos, after, none⟩).run P w' = .ok (.value v) w')
    (h : WJ r P ops J z Q π (mk N (upd σ d v) ds) w) (hgd : GOK ops (ev N σ) gd := by first | exact trivial | exact ⟨_, rfl, rfl⟩) : WJ r P ops J z Q ((i, true) :: π) (mk N σ ds) w := by
  cases gd with
  | none => exact ⟨_, v, hi, .inl ⟨rfl, fun w' hw => by rw [eval_mk']; exact hrun w' hw⟩, by rw [put_mk]; exact h⟩
  | some q =>
    obtain ⟨j, want⟩ := q
    obtain ⟨g, hj, hb⟩ := hgd
    exact ⟨_, v, hi, .inl ⟨by rw [wanted_of (g := g) rfl hj hb]; simp, fun w' hw => by rw [eval_mk']; exact hrun w' hw⟩, by rw [put_mk]; exact h⟩
theorem d_gno {op : Op} {j g : Nat} {want b : Bool} (hi : ops[i]? = some ⟨some d, op, ty, pos, after, some (j, want)⟩) (hj : (ops[j]?).bind (·.dst) = some g) (hb : ev N σ (.tmp g) = .bool b) (hne : (b == want) = false)
    (h : WJ r P ops J z Q π (mk N (upd σ d undef) ds) w) : WJ r P ops J z Q ((i, true) :: π) (mk N σ ds) w :=
  ⟨_, undef, hi, .inr ⟨by rw [wanted_of (g := g) rfl hj hb]; exact hne, rfl⟩, by rw [put_mk]; exact h⟩
theorem d_move {x : Operand} (hi : ops[i]? = some ⟨some d, .move x, ty, pos, after, gd⟩) (h : WJ r P ops J z Q π (mk N (upd σ d (ev N σ x)) ds) w) (hgd : GOK ops (ev N σ) gd := by first | exact trivial | exact ⟨_, rfl, rfl⟩) : WJ r P ops J z Q ((i, true) :: π) (mk N σ ds) w := d_val hi (fun _ _ => rfl) h hgd
theorem d_assign {x : Operand} (hi : ops[i]? = some ⟨some d, .assign x, ty, pos, after, gd⟩) (h : WJ r P ops J z Q π (mk N (upd σ d (ev N σ x)) ds) w) (hgd : GOK ops (ev N σ) gd := by first | exact trivial | exact ⟨_, rfl, rfl⟩) : WJ r P ops J z Q ((i, true) :: π) (mk N σ ds) w := d_val hi (fun _ _ => rfl) h hgd
theorem d_bin {op : BinOp} {t t' : TypeId} {x y : Operand} {u v res : Value} (hi : ops[i]? = some ⟨some d, .binOp op t x y t', ty, pos, after, gd⟩) (hx : ev N σ x = u) (hy : ev N σ y = v) (hg : eqGuard op t x y u v = pure ()) (hr : ∀ w', (binOp op t u v).run P w' = .ok res w')
    (h : WJ r P ops J z Q π (mk N (upd σ d res) ds) w) (hgd : GOK ops (ev N σ) gd := by first | exact trivial | exact ⟨_, rfl, rfl⟩) : WJ r P ops J z Q ((i, true) :: π) (mk N σ ds) w := d_val hi (fun w' _ => bin_run hx hy hg (hr w')) h hgd
section
variable {t t' : TypeId} {x y : Operand} {k : IntKind} {a b : Int}
theorem d_add (hi : ops[i]? = some ⟨some d, .binOp .add t x y t', ty, pos, after, gd⟩) (hx : ev N σ x = .int .i64 a) (hy : ev N σ y = .int .i64 b) (hr : In64 (a + b)) (h : WJ r P ops J z Q π (mk N (upd σ d (.int .i64 (a + b))) ds) w) (hgd : GOK ops (ev N σ) gd := by first | exact trivial | exact ⟨_, rfl, rfl⟩) : WJ r P ops J z Q ((i, true) :: π) (mk N σ ds) w :=
  d_bin hi hx hy rfl (fun w' => by simp [go_sem, Op.intArith, wrap_in hr]) h hgd
theorem d_sub (hi : ops[i]? = some ⟨some d, .binOp .sub t x y t', ty, pos, after, gd⟩) (hx : ev N σ x = .int .i64 a) (hy : ev N σ y = .int .i64 b) (hr : In64 (a - b)) (h : WJ r P ops J z Q π (mk N (upd σ d (.int .i64 (a - b))) ds) w) (hgd : GOK ops (ev N σ) gd := by first | exact trivial | exact ⟨_, rfl, rfl⟩) : WJ r P ops J z Q ((i, true) :: π) (mk N σ ds) w :=
  d_bin hi hx hy rfl (fun w' => by simp [go_sem, Op.intArith, wrap_in hr]) h hgd
theorem d_lss (hi : ops[i]? = some ⟨some d, .binOp .lss t x y t', ty, pos, after, gd⟩) (hx : ev N σ x = .int k a) (hy : ev N σ y = .int k b) (h : WJ r P ops J z Q π (mk N (upd σ d (.bool (decide (a < b)))) ds) w) (hgd : GOK ops (ev N σ) gd := by first | exact trivial | exact ⟨_, rfl, rfl⟩) : WJ r P ops J z Q ((i, true) :: π) (mk N σ ds) w :=
  d_bin hi hx hy rfl (fun w' => by simp [go_sem]) h hgd
theorem d_leq (hi : ops[i]? = some ⟨some d, .binOp .leq t x y t', ty, pos, after, gd⟩) (hx : ev N σ x = .int k a) (hy : ev N σ y = .int k b) (h : WJ r P ops J z Q π (mk N (upd σ d (.bool (decide (a ≤ b)))) ds) w) (hgd : GOK ops (ev N σ) gd := by first | exact trivial | exact ⟨_, rfl, rfl⟩) : WJ r P ops J z Q ((i, true) :: π) (mk N σ ds) w :=
  d_bin hi hx hy rfl (fun w' => by simp [go_sem]) h hgd
theorem d_gtr (hi : ops[i]? = some ⟨some d, .binOp .gtr t x y t', ty, pos, after, gd⟩) (hx : ev N σ x = .int k a) (hy : ev N σ y = .int k b) (h : WJ r P ops J z Q π (mk N (upd σ d (.bool (decide (b < a)))) ds) w) (hgd : GOK ops (ev N σ) gd := by first | exact trivial | exact ⟨_, rfl, rfl⟩) : WJ r P ops J z Q ((i, true) :: π) (mk N σ ds) w :=
  d_bin hi hx hy rfl (fun w' => by simp [go_sem]) h hgd
theorem d_geq (hi : ops[i]? = some ⟨some d, .binOp .geq t x y t', ty, pos, after, gd⟩) (hx : ev N σ x = .int k a) (hy : ev N σ y = .int k b) (h : WJ r P ops J z Q π (mk N (upd σ d (.bool (decide (b ≤ a)))) ds) w) (hgd : GOK ops (ev N σ) gd := by first | exact trivial | exact ⟨_, rfl, rfl⟩) : WJ r P ops J z Q ((i, true) :: π) (mk N σ ds) w :=
  d_bin hi hx hy rfl (fun w' => by simp [go_sem]) h hgd
theorem d_eql (hi : ops[i]? = some ⟨some d, .binOp .eql t x y t', ty, pos, after, gd⟩) (hx : ev N σ x = .int k a) (hy : ev N σ y = .int k b) (h : WJ r P ops J z Q π (mk N (upd σ d (.bool (decide (a = b)))) ds) w) (hgd : GOK ops (ev N σ) gd := by first | exact trivial | exact ⟨_, rfl, rfl⟩) : WJ r P ops J z Q ((i, true) :: π) (mk N σ ds) w :=
  d_bin hi hx hy (by simp [go_sem]) (fun w' => by simp [go_sem, beq_dec]) h hgd
theorem d_neq (hi : ops[i]? = some ⟨some d, .binOp .neq t x y t', ty, pos, after, gd⟩) (hx : ev N σ x = .int k a) (hy : ev N σ y = .int k b) (h : WJ r P ops J z Q π (mk N (upd σ d (.bool (decide (a ≠ b)))) ds) w) (hgd : GOK ops (ev N σ) gd := by first | exact trivial | exact ⟨_, rfl, rfl⟩) : WJ r P ops J z Q ((i, true) :: π) (mk N σ ds) w :=
  d_bin hi hx hy (by simp [go_sem]) (fun w' => by
    have e : (a != b) = decide (a ≠ b) := by by_cases h : a = b <;> simp [h]
    simp [go_sem, e]) h hgd
end
theorem d_not {x : Operand} {t : TypeId} {b : Bool} (hi : ops[i]? = some ⟨some d, .unOp .not t x, ty, pos, after, gd⟩) (hx : ev N σ x = .bool b) (h : WJ r P ops J z Q π (mk N (upd σ d (.bool !b)) ds) w) (hgd : GOK ops (ev N σ) gd := by first | exact trivial | exact ⟨_, rfl, rfl⟩) : WJ r P ops J z Q ((i, true) :: π) (mk N σ ds) w :=
  d_val hi (fun w' _ => by simp [execOp, hx, go_sem, Op.unary]) h hgd
theorem d_pickt {c x y : Operand} {v : Value} (hi : ops[i]? = some ⟨some d, .pick c x y, ty, pos, after, gd⟩) (hc : ev N σ c = .bool true) (hx : ev N σ x = v) (h : WJ r P ops J z Q π (mk N (upd σ d v) ds) w) (hgd : GOK ops (ev N σ) gd := by first | exact trivial | exact ⟨_, rfl, rfl⟩) : WJ r P ops J z Q ((i, true) :: π) (mk N σ ds) w :=
  d_val hi (fun w' _ => by simp [execOp, hc, hx, go_sem]) h hgd
theorem d_pickf {c x y : Operand} {v : Value} (hi : ops[i]? = some ⟨some d, .pick c x y, ty, pos, after, gd⟩) (hc : ev N σ c = .bool false) (hx : ev N σ y = v) (h : WJ r P ops J z Q π (mk N (upd σ d v) ds) w) (hgd : GOK ops (ev N σ) gd := by first | exact trivial | exact ⟨_, rfl, rfl⟩) : WJ r P ops J z Q ((i, true) :: π) (mk N σ ds) w :=
  d_val hi (fun w' _ => by simp [execOp, hc, hx, go_sem]) h hgd
theorem d_len {T E : TypeId} {x : Operand} {a : Option Addr} {n c : Nat} (hi : ops[i]? = some ⟨some d, .call { callee := .builtin .len, args := #[x], argTypes := #[T] }, ty, pos, after, gd⟩) (hT : SlT P T E) (hx : ev N σ x = .slice a n c)
    (h : WJ r P ops J z Q π (mk N (upd σ d (.int .i64 (n : Int))) ds) w) (hgd : GOK ops (ev N σ) gd := by first | exact trivial | exact ⟨_, rfl, rfl⟩) : WJ r P ops J z Q ((i, true) :: π) (mk N σ ds) w :=
  d_val hi (fun w' _ => by simp [execOp, resolve, invoke, builtin, Builtin.len_, hx, run_underlying hT, goInt]) h hgd
/-- An element's address: the slice reads as a list in the world w0 in which the region began. -/
theorem d_ia {w0 : World} {T E : TypeId} {x y : Operand} {v u : Value} {vs : List Value} {k : IntKind} {n : Nat} (hi : ops[i]? = some ⟨some d, .indexAddr T x y, ty, pos, after, gd⟩) (hT : SlT P T E) (hE : Ty1 P E) (hx : ev N σ x = v) (hy : ev N σ y = .int k (n : Int)) (hs : Sl w0 v vs) (hn : vs[n]? = some u)
    (h : ∀ ad, w0.cell? ad = some u → WJ r P ops J z Q π (mk N (upd σ d (.pointer (some ad))) ds) w) (hgd : GOK ops (ev N σ) gd := by first | exact trivial | exact ⟨_, rfl, rfl⟩) : WJ r P ops J z Q ((i, true) :: π) (mk N σ ds) w := by
  obtain ⟨_, a, len, c, rfl, hlen, _, hc⟩ := hs
  obtain ⟨ad, rfl, hcell⟩ := hc n u hn
  have hlt : n < len := by rw [← hlen]; exact (List.getElem?_eq_some_iff.1 hn).1
  have hT' : P.underlying T = some (.slice E) := hT
  exact d_val (v := .pointer (some (ad.add n))) hi (fun w' _ => by simp [execOp, hx, hy, Instr.indexAt, asIntOf, run_underlying hT', hlt, run_sizeOf1 hE, go_sem]) (h _ hcell) hgd
theorem d_iaI {w0 : World} {T E : TypeId} {x y : Operand} {v : Value} {l : List Int} {k : IntKind} {n : Nat} (hi : ops[i]? = some ⟨some d, .indexAddr T x y, ty, pos, after, gd⟩) (hT : SlT P T E) (hE : Ty1 P E) (hx : ev N σ x = v) (hy : ev N σ y = .int k (n : Int)) (hs : Ints w0 v l) (hn : n < l.length)
    (h : ∀ ad, w0.cell? ad = some (.int .i64 (l.getD n 0)) → WJ r P ops J z Q π (mk N (upd σ d (.pointer (some ad))) ds) w) (hgd : GOK ops (ev N σ) gd := by first | exact trivial | exact ⟨_, rfl, rfl⟩) : WJ r P ops J z Q ((i, true) :: π) (mk N σ ds) w :=
  d_ia hi hT hE hx hy hs (by simp [hn]) h hgd
theorem d_iaR {w0 : World} {T E : TypeId} {x y : Operand} {v : Value} {g : List (List Int)} {k : IntKind} {n : Nat} (hi : ops[i]? = some ⟨some d, .indexAddr T x y, ty, pos, after, gd⟩) (hT : SlT P T E) (hE : Ty1 P E) (hx : ev N σ x = v) (hy : ev N σ y = .int k (n : Int)) (hs : Rows w0 v g) (hn : n < g.length)
    (h : ∀ ad u, w0.cell? ad = some u → Ints w0 u (g.getD n []) → WJ r P ops J z Q π (mk N (upd σ d (.pointer (some ad))) ds) w) (hgd : GOK ops (ev N σ) gd := by first | exact trivial | exact ⟨_, rfl, rfl⟩) : WJ r P ops J z Q ((i, true) :: π) (mk N σ ds) w := by
  obtain ⟨vs, u, hs', hu, hI⟩ := hs.row hn
  exact d_ia hi hT hE hx hy hs' hu (fun ad hc => h ad u hc hI) hgd
theorem d_iaA {T E : TypeId} {x y : Operand} {b len c : Nat} {k : IntKind} {n : Nat} (hi : ops[i]? = some ⟨some d, .indexAddr T x y, ty, pos, after, gd⟩) (hT : SlT P T E) (hE : Ty1 P E) (hx : ev N σ x = .slice (some ⟨b, 0, none⟩) len c) (hy : ev N σ y = .int k (n : Int)) (hn : n < len)
    (h : WJ r P ops J z Q π (mk N (upd σ d (.pointer (some ⟨b, n, none⟩))) ds) w) (hgd : GOK ops (ev N σ) gd := by first | exact trivial | exact ⟨_, rfl, rfl⟩) : WJ r P ops J z Q ((i, true) :: π) (mk N σ ds) w := by
  have hT' : P.underlying T = some (.slice E) := hT
  exact d_val (v := .pointer (some ⟨b, n, none⟩)) hi (fun w' _ => by simp [execOp, hx, hy, Instr.indexAt, asIntOf, run_underlying hT', hn, run_sizeOf1 hE, go_sem]) h hgd
/-- A load of a cell that lay when the region began. -/
theorem d_ld {w0 : World} {E : TypeId} {x : Operand} {ad : Addr} {u : Value} (hi : ops[i]? = some ⟨some d, .load E x, ty, pos, after, gd⟩) (hE : Ty1 P E) (hx : ev N σ x = .pointer (some ad)) (hc : w0.cell? ad = some u)
    (h : WJ r P ops (Ex w0) z Q π (mk N (upd σ d u) ds) w) (hgd : GOK ops (ev N σ) gd := by first | exact trivial | exact ⟨_, rfl, rfl⟩) : WJ r P ops (Ex w0) z Q ((i, true) :: π) (mk N σ ds) w :=
  d_val hi (fun w' hw => by simp [execOp, hx, Instr.loadAt, Instr.sureAddr, run_loadVar1 hE (Ex.cell hw hc)]) h hgd
theorem d_ldA {w0 : World} {E B : TypeId} {x : Operand} {b n : Nat} {cs : List Value} {u : Value} (hi : ops[i]? = some ⟨some d, .load E x, ty, pos, after, gd⟩) (hE : Ty1 P E) (hx : ev N σ x = .pointer (some ⟨b, n, none⟩)) (hA : At w0 b B cs) (hc : cs[n]? = some u)
    (h : WJ r P ops (Ex w0) z Q π (mk N (upd σ d u) ds) w) (hgd : GOK ops (ev N σ) gd := by first | exact trivial | exact ⟨_, rfl, rfl⟩) : WJ r P ops (Ex w0) z Q ((i, true) :: π) (mk N σ ds) w := d_ld hi hE hx (by rw [hA.cell]; exact hc) h hgd
theorem d_ldV {w0 : World} {E B : TypeId} {x : Operand} {b : Nat} {cs : List Value} {dd : TypeDesc} (hi : ops[i]? = some ⟨some d, .load E x, ty, pos, after, gd⟩) (hu : P.underlying E = some dd) (hd : (match dd with | .struct _ | .array _ _ => true | _ => false) = true) (hsz : (P.info? E).map (·.size) = some cs.length)
    (hx : ev N σ x = .pointer (some ⟨b, 0, none⟩)) (hA : At w0 b B cs)
    (h : WJ r P ops (Ex w0) z Q π (mk N (upd σ d (.agg cs.toArray)) ds) w) (hgd : GOK ops (ev N σ) gd := by first | exact trivial | exact ⟨_, rfl, rfl⟩) : WJ r P ops (Ex w0) z Q ((i, true) :: π) (mk N σ ds) w :=
  d_val hi (fun w' hw => by
    simp [execOp, hx, Instr.loadAt, Instr.sureAddr, run_loadVar_row (P := P) w' b B E cs.toArray (0, 0) dd (At.ex hA hw) hu hd (by simpa using hsz)]) h hgd
theorem d_fa {T : TypeId} {x : Operand} {b o : Nat} {fs : Array Field} {f : Nat} {fl : Field} (hi : ops[i]? = some ⟨some d, .fieldAddr T x f, ty, pos, after, gd⟩) (hT : P.underlying T = some (.struct fs)) (hf : fs[f]? = some fl) (hE : Ty1 P fl.type) (hx : ev N σ x = .pointer (some ⟨b, o, none⟩))
    (h : WJ r P ops J z Q π (mk N (upd σ d (.pointer (some ⟨b, o + fl.offset, none⟩))) ds) w) (hgd : GOK ops (ev N σ) gd := by first | exact trivial | exact ⟨_, rfl, rfl⟩) : WJ r P ops J z Q ((i, true) :: π) (mk N σ ds) w :=
  d_val (v := .pointer (some ⟨b, o + fl.offset, none⟩)) hi (fun w' _ => by simp [execOp, hx, Instr.fieldAt, run_underlying hT, hf, Instr.sureAddr, fieldPlace, run_sizeOf1 hE, add_at]) h hgd
theorem d_extract {x : Operand} {n : Nat} {vs : Array Value} {v : Value} (hi : ops[i]? = some ⟨some d, .extract x n, ty, pos, after, gd⟩) (hx : ev N σ x = .tuple vs) (hv : vs[n]? = some v) (h : WJ r P ops J z Q π (mk N (upd σ d v) ds) w) (hgd : GOK ops (ev N σ) gd := by first | exact trivial | exact ⟨_, rfl, rfl⟩) : WJ r P ops J z Q ((i, true) :: π) (mk N σ ds) w :=
  d_val hi (fun w' _ => by simp [execOp, hx, Instr.extract, hv, go_sem]) h hgd
/-- What makes memory, calls or stores: in its one order. -/
theorem d_chain {o : Oper} {a : Act} (hi : ops[i]? = some o) (h : WL r P ops (fun e a' w' => e = .normal ∧ (z.testBit i = true ∨ J w') ∧ WJ r P ops J z Q π a' w') [o] a w) : WJ r P ops J z Q ((i, false) :: π) a w := by
  show wpOpIn _ _ _ _ _ _ _ _ _
  unfold wpOpIn
  simp only [hi]
  have h' : wpListIn (FW r) 0 P ops (fun e a' w' => e = .normal ∧ (z.testBit i = true ∨ J w') ∧ WJ r P ops J z Q π a' w') [o] a w := h
  unfold wpListIn at h'
  have hk : ∀ (a' : Act) (w' : World), wpListIn (FW r) 0 P ops (fun e a' w' => e = Exit.normal ∧ (z.testBit i = true ∨ J w') ∧ WJ r P ops J z Q π a' w') [] a' w' → (z.testBit i = true ∨ J w') ∧ WJ r P ops J z Q π a' w' := fun a' w' hh => hh.2
  split at h'
  · rename_i hw
    simp only [hw, if_true]
    have h2 := Oper.wpIn_mono (Q := fun e a' w' => e = Exit.normal ∧ (z.testBit i = true ∨ J w') ∧ WJ r P ops J z Q π a' w') hk h'
    unfold Oper.wpIn at *
    refine ⟨h2.1, ?_⟩
    have h3 := h2.2
    generalize (o.semAt (FW r).round a.eval).run P w = res at *
    cases res with
    | ok x w' =>
      cases x <;> simp only [Oper.uponIn] at h3 ⊢ <;> first
        | exact h3
        | exact ⟨h3.1, CallsIn.mono h3.2 (fun e w'' he => by cases e <;> first | exact he | exact absurd he.1 (by simp) | exact (let ⟨a, w, hh⟩ := he; absurd hh.1 (by simp)))⟩
        | exact ⟨h3.1, RoundIn.mono h3.2 (fun e w'' he => by cases e <;> first | exact he | exact absurd he.1 (by simp) | exact (let ⟨a, w, hh⟩ := he; absurd hh.1 (by simp)))⟩
    | halt x w' => cases x <;> simp only [Oper.uponIn] at h3 ⊢ <;> first | exact h3 | exact absurd h3.1 (by simp)
  · rename_i hw
    simp only [hw]
    exact ⟨h'.1, hk _ _ h'.2⟩
end draw2
end Go.Proofs.YtifbgpkjbciblaaGreatDoor.Sal
end
section
/- Core7: bits, remainders, conversions of numbers that are 0 at least. -/
set_option maxRecDepth 100000
namespace Go.Proofs.YtifbgpkjbciblaaGreatDoor.Sal
set_option linter.all false
open Go.RowKit

/-- The greatest number of a kind, and the least. -/
def top : IntKind → Nat
  | .i8 => 127 | .i16 => 32767 | .i32 => 2147483647 | .i64 => 9223372036854775807
  | .u8 => 255 | .u16 => 65535 | .u32 => 4294967295 | .u64 => 18446744073709551615
theorem wrap_nat {k : IntKind} {n : Nat} (h : n ≤ top k) : k.wrap (n : Int) = n := by
  cases k <;> simp only [top] at h <;> simp [IntKind.wrap, IntKind.bits, IntKind.signed] <;> omega
theorem top_lt (k : IntKind) : top k < 2 ^ k.bits := by cases k <;> decide
theorem ofInt_nat (k : IntKind) (n : Nat) : BitVec.ofInt k.bits (n : Int) = BitVec.ofNat k.bits n := by simp
section runs
variable {P : Program} {w : World} {t : TypeId} {k k' : IntKind} {m n : Nat}
theorem r_and (hm : m ≤ top k) (hn : n ≤ top k) : (binOp .and t (.int k (m : Int)) (.int k (n : Int))).run P w = .ok (.int k ((m &&& n : Nat) : Int)) w := by
  have h1 : m &&& n ≤ top k := Nat.le_trans Nat.and_le_left hm
  have l1 := Nat.lt_of_le_of_lt hm (top_lt k)
  have l2 := Nat.lt_of_le_of_lt hn (top_lt k)
  simp only [binOp, ne_eq, not_true, if_false]
  unfold Op.intBits
  simp only [ofInt_nat]
  have e : (BitVec.ofNat k.bits m &&& BitVec.ofNat k.bits n).toNat = m &&& n := by
    rw [BitVec.toNat_and, BitVec.toNat_ofNat, BitVec.toNat_ofNat, Nat.mod_eq_of_lt l1, Nat.mod_eq_of_lt l2]
  rw [e, wrap_nat h1]; rfl
theorem r_shl (hn : n ≤ k.bits) (hr : m * 2 ^ n ≤ top k) : (binOp .shl t (.int k (m : Int)) (.int k' (n : Int))).run P w = .ok (.int k ((m * 2 ^ n : Nat) : Int)) w := by
  simp only [binOp]
  unfold Op.shift
  have h0 : ¬ ((n : Int) < 0) := by omega
  have h1 : min ((n : Int)).toNat k.bits = n := by simp; omega
  simp only [h0, if_false, h1]
  have e : ((m : Int) * 2 ^ n) = ((m * 2 ^ n : Nat) : Int) := by simp
  rw [e, wrap_nat hr]; rfl
theorem r_shr (hn : n ≤ k.bits) : (binOp .shr t (.int k (m : Int)) (.int k' (n : Int))).run P w = .ok (.int k ((m / 2 ^ n : Nat) : Int)) w := by
  simp only [binOp]
  unfold Op.shift
  have h0 : ¬ ((n : Int) < 0) := by omega
  have h1 : min ((n : Int)).toNat k.bits = n := by simp; omega
  simp only [h0, if_false, h1]
  have e : ((m : Int).fdiv (2 ^ n)) = ((m / 2 ^ n : Nat) : Int) := by
    rw [Int.fdiv_eq_ediv_of_nonneg _ (by exact Int.pow_nonneg (by omega))]
    simp
  rw [e]; rfl
theorem r_conv {src dst : TypeId} (hs : (P.underlying src).isSome = true) (hd : P.underlying dst = some (.int k')) (hn : n ≤ top k') : (convert src dst (.int k (n : Int))).run P w = .ok (.int k' (n : Int)) w := by
  obtain ⟨sd, hs'⟩ := Option.isSome_iff_exists.1 hs
  unfold convert
  simp only [Sem.run_bind, run_underlying hs', run_underlying hd, Result.andThen_ok]
  have : (Conv.intToInt k' (n : Int)).run P w = .ok (.int k' (n : Int)) w := by unfold Conv.intToInt; rw [wrap_nat hn]; rfl
  exact this
end runs
/-- A bit asked for: x>>i&1 == 1. -/
theorem bit_asked (m n : Nat) : (((m / 2 ^ n &&& 1 : Nat) : Int) = 1) ↔ m.testBit n = true := by
  rw [Nat.and_one_is_mod, Nat.testBit_eq_decide_div_mod_eq]
  generalize m / 2 ^ n = q
  simp only [decide_eq_true_eq]; omega
section ops
variable {r : Option Nat} {P : Program} {ops : Array Oper} {Q : Exit → Act → World → Prop} {N : Nat} {σ : Nat → Value} {ds : List Deferred} {w : World} {rest : List Oper}
variable {gd : Option (Nat × Bool)} {d : Nat} {ty : TypeId} {pos : String} {after : Array Edge} {t t' : TypeId} {x y : Operand} {k k' : IntKind} {m n : Nat} {J : World → Prop} {z i : Nat} {π : List (Nat × Bool)}
theorem s_and (hx : ev N σ x = .int k (m : Int)) (hy : ev N σ y = .int k (n : Int)) (hm : m ≤ top k) (hn : n ≤ top k) (h : WL r P ops Q rest (mk N (upd σ d (.int k ((m &&& n : Nat) : Int))) ds) w) : WL r P ops Q (⟨some d, .binOp .and t x y t', ty, pos, after, none⟩ :: rest) (mk N σ ds) w :=
  l_val (by intro c e; cases e) (bin_run hx hy rfl (r_and hm hn)) h
theorem s_shl (hx : ev N σ x = .int k (m : Int)) (hy : ev N σ y = .int k' (n : Int)) (hn : n ≤ k.bits) (hr : m * 2 ^ n ≤ top k) (h : WL r P ops Q rest (mk N (upd σ d (.int k ((m * 2 ^ n : Nat) : Int))) ds) w) : WL r P ops Q (⟨some d, .binOp .shl t x y t', ty, pos, after, none⟩ :: rest) (mk N σ ds) w :=
  l_val (by intro c e; cases e) (bin_run hx hy rfl (r_shl hn hr)) h
theorem s_shr (hx : ev N σ x = .int k (m : Int)) (hy : ev N σ y = .int k' (n : Int)) (hn : n ≤ k.bits) (h : WL r P ops Q rest (mk N (upd σ d (.int k ((m / 2 ^ n : Nat) : Int))) ds) w) : WL r P ops Q (⟨some d, .binOp .shr t x y t', ty, pos, after, none⟩ :: rest) (mk N σ ds) w :=
  l_val (by intro c e; cases e) (bin_run hx hy rfl (r_shr hn)) h
theorem s_conv {src dst : TypeId} (hs : (P.underlying src).isSome = true) (hd : P.underlying dst = some (.int k')) (hx : ev N σ x = .int k (n : Int)) (hn : n ≤ top k') (h : WL r P ops Q rest (mk N (upd σ d (.int k' (n : Int))) ds) w) : WL r P ops Q (⟨some d, .convert src dst x, ty, pos, after, none⟩ :: rest) (mk N σ ds) w :=
  l_val (by intro c e; cases e) (by simp [execOp, hx, r_conv hs hd hn]) h
end ops
end Go.Proofs.YtifbgpkjbciblaaGreatDoor.Sal
end
section
/- Core8: how arguments read; the step from a law's contract to its row. -/
set_option maxRecDepth 100000
namespace Go.Proofs.YtifbgpkjbciblaaGreatDoor.Sal
set_option linter.all false
open Go.RowKit Go.Deep Go.ChangeShapes Go.WideShapes Go.ChangeAt
section
variable {H : Type} {enc : TypeId × Value → H} {P : Program} {w : World} {base : Nat} {spare : Nat → Bool} {held : Bool} {fuel : Nat} {x : DataW H × List MemPlace}
theorem read_sl {t e : TypeId} {v : Value} (ht : P.underlying t = some (.slice e)) (ce : P.cellsOf e = 1) (cb : 1 ≤ P.bytesOf e) (h : DataW.trod enc P w base spare held fuel t [v] = some x) (hw : ∀ n ∈ x.1.weights P t, n ≤ reachBytes) :
    ∃ vs : List Value, Sl w v vs ∧ ∀ (i : Nat) (u : Value), vs[i]? = some u → ∃ n d p, DataW.trod enc P w base spare held n e [u] = some (d, p) ∧ ∀ b ∈ d.weights P e, b ≤ reachBytes := by
  rcases open_slice1 ht ce h with ⟨hv, hx⟩ | ⟨a, len, cap, m, n, V, D, Pl, hv, _, hl, hm, hmm, hx, hel⟩
  · simp at hv; subst hv
    exact ⟨[], Sl.nil w, fun i u h => by simp at h⟩
  · simp at hv; subst hv
    have hlm : len ≤ m := by rw [hmm]; split <;> omega
    subst hx
    have hlen : len ≤ 140737488355328 := by
      have h1 := hw ((((List.range len).map D).length + ((List.range (m - len)).map fun j => D (len + j)).length) * P.bytesOf e) (by simp [DataW.weights, ht])
      simp only [List.length_map, List.length_range] at h1
      have h2 : len * 1 ≤ (len + (m - len)) * P.bytesOf e := Nat.mul_le_mul (by omega) cb
      have h3 := reachBytes_lt
      omega
    refine ⟨(List.range len).map V, ⟨by simp; exact hlen, some a, len, cap, rfl, by simp, hl, fun i u hi => ?_⟩, fun i u hi => ?_⟩
    · rw [List.getElem?_map] at hi
      obtain ⟨j, hj, rfl⟩ := Option.map_eq_some_iff.1 hi
      obtain ⟨hlt, rfl⟩ := List.getElem?_eq_some_iff.1 hj
      simp only [List.getElem_range]
      simp only [List.length_range] at hlt
      exact ⟨a, rfl, (hel i (by omega)).1⟩
    · rw [List.getElem?_map] at hi
      obtain ⟨j, hj, rfl⟩ := Option.map_eq_some_iff.1 hi
      obtain ⟨hlt, rfl⟩ := List.getElem?_eq_some_iff.1 hj
      simp only [List.getElem_range]
      simp only [List.length_range] at hlt
      refine ⟨n, D i, Pl i, (hel i (by omega)).2, fun b hb => hw b ?_⟩
      have hall : ∀ (L : List (DataW H)) (d : DataW H), d ∈ L → ∀ b ∈ d.weights P e, b ∈ DataW.weightsAll P e L := by
        intro L
        induction L with
        | nil => intro d hd; cases hd
        | cons d0 L ih =>
          intro d hd b hb
          simp only [DataW.weightsAll, List.mem_append]
          rcases List.mem_cons.1 hd with rfl | hd
          · exact .inl hb
          · exact .inr (ih d hd b hb)
      simp only [DataW.weights, ht, List.mem_cons, List.mem_append]
      exact .inr (.inl (hall _ (D i) (List.mem_map.2 ⟨i, List.mem_range.2 hlt, rfl⟩) b hb))
theorem in64_of_wf {n : Int} (h : (Lit.int .i64 n).wf = true) : In64 n := by
  simp [Lit.wf, IntKind.min, IntKind.max, IntKind.signed, IntKind.bits] at h
  exact ⟨by omega, by omega⟩
theorem vals_ints {k : IntKind} : ∀ (vs : List Value), (∀ (i : Nat) (u : Value), vs[i]? = some u → ∃ n : Int, u = .int k n ∧ (Lit.int k n).wf = true) → ∃ l : List Int, vs = l.map (Value.int k) ∧ ∀ n ∈ l, (Lit.int k n).wf = true
  | [], _ => ⟨[], rfl, fun n h => by cases h⟩
  | v :: vs, h => by
    obtain ⟨n, rfl, hn⟩ := h 0 v rfl
    obtain ⟨l, rfl, hl⟩ := vals_ints vs fun i u hu => h (i + 1) u (by simpa using hu)
    exact ⟨n :: l, rfl, fun m hm => by (rcases List.mem_cons.1 hm with h | h; (subst h; exact hn); exact hl m h)⟩
theorem read_intsK {k : IntKind} {t e : TypeId} {v : Value} (ht : P.underlying t = some (.slice e)) (he : P.underlying e = some (.int k)) (ce : P.cellsOf e = 1) (cb : 1 ≤ P.bytesOf e) (h : DataW.trod enc P w base spare held fuel t [v] = some x) (hw : ∀ n ∈ x.1.weights P t, n ≤ reachBytes) :
    ∃ l : List Int, Sl w v (l.map (Value.int k)) ∧ ∀ n ∈ l, (Lit.int k n).wf = true := by
  obtain ⟨vs, hs, hel⟩ := read_sl ht ce cb h hw
  obtain ⟨l, rfl, hl⟩ := vals_ints (k := k) vs fun i u hu => by
    obtain ⟨n, d, p, hd, _⟩ := hel i u hu
    obtain ⟨m, hm, _, hwf⟩ := DataW.trod_int he hd
    simp at hm; exact ⟨m, hm, hwf⟩
  exact ⟨l, hs, hl⟩
theorem read_ints {t e : TypeId} {v : Value} (ht : P.underlying t = some (.slice e)) (he : P.underlying e = some (.int .i64)) (ce : P.cellsOf e = 1) (cb : 1 ≤ P.bytesOf e) (h : DataW.trod enc P w base spare held fuel t [v] = some x) (hw : ∀ n ∈ x.1.weights P t, n ≤ reachBytes) :
    ∃ l : List Int, Ints w v l ∧ ∀ n ∈ l, In64 n := by
  obtain ⟨l, hs, hl⟩ := read_intsK ht he ce cb h hw
  exact ⟨l, hs, fun n hn => in64_of_wf (hl n hn)⟩
theorem vals_rows {w : World} : ∀ (vs : List Value), (∀ (i : Nat) (u : Value), vs[i]? = some u → ∃ l, Ints w u l ∧ ∀ n ∈ l, In64 n) → ∃ g : List (List Int), vs.length = g.length ∧ (∀ (i : Nat) (u : Value) (l : List Int), vs[i]? = some u → g[i]? = some l → Ints w u l) ∧ ∀ l ∈ g, ∀ n ∈ l, In64 n
  | [], _ => ⟨[], rfl, fun i u l h => by simp at h, fun l h => by cases h⟩
  | v :: vs, h => by
    obtain ⟨l0, h0, hw0⟩ := h 0 v rfl
    obtain ⟨g, hg1, hg2, hg3⟩ := vals_rows vs fun i u hu => h (i + 1) u (by simpa using hu)
    refine ⟨l0 :: g, by simp [hg1], fun i u l hu hl => ?_, fun l hl => ?_⟩
    · cases i with
      | zero => simp at hu hl; subst hu; subst hl; exact h0
      | succ i => exact hg2 i u l (by simpa using hu) (by simpa using hl)
    · rcases List.mem_cons.1 hl with rfl | hl
      · exact hw0
      · exact hg3 l hl
theorem read_rows {t q e : TypeId} {v : Value} (ht : P.underlying t = some (.slice q)) (hq : P.underlying q = some (.slice e)) (he : P.underlying e = some (.int .i64)) (cq : P.cellsOf q = 1) (ce : P.cellsOf e = 1) (bq : 1 ≤ P.bytesOf q) (be : 1 ≤ P.bytesOf e)
    (h : DataW.trod enc P w base spare held fuel t [v] = some x) (hw : ∀ n ∈ x.1.weights P t, n ≤ reachBytes) : ∃ g : List (List Int), Rows w v g ∧ ∀ l ∈ g, ∀ n ∈ l, In64 n := by
  obtain ⟨vs, hs, hel⟩ := read_sl ht cq bq h hw
  obtain ⟨g, hg1, hg2, hg3⟩ := vals_rows (w := w) vs fun i u hu => by
    obtain ⟨n, d, p, hd, hb⟩ := hel i u hu
    exact read_ints hq he ce be hd hb
  exact ⟨g, ⟨vs, hs, hg1, hg2⟩, hg3⟩
end
/-- Of an argument in the list of all: how heavy it may be. -/
theorem weigh {H : Type} {P : Program} {ts : List TypeId} {ds : List (DataW H)} (h : (DataW.weightsEach P ts ds).all (· ≤ reachBytes) = true) {j : Nat} {t : TypeId} {d : DataW H} (ht : ts[j]? = some t) (hd : ds[j]? = some d) : ∀ n ∈ d.weights P t, n ≤ reachBytes := fun n hn => by
  have := List.all_eq_true.1 h n (DataW.weights_mem_each ht hd n hn)
  simpa using this
end Go.Proofs.YtifbgpkjbciblaaGreatDoor.Sal
end
section
/- Core9: rows built by append, copies of one's own, parameters in boxes. -/
set_option maxRecDepth 100000
namespace Go.Proofs.YtifbgpkjbciblaaGreatDoor.Sal
set_option linter.all false
open Go.RowKit

section ops
variable {r : Option Nat} {P : Program} {ops : Array Oper} {Q : Exit → Act → World → Prop} {N : Nat} {σ : Nat → Value} {ds : List Deferred} {w : World} {rest : List Oper}
variable {d d1 d2 : Nat} {ty ty2 : TypeId} {pos pos2 : String} {after after2 : Array Edge} {T E T' : TypeId} {x i y : Operand}
theorem s_mk0 {ti : TypeInfo} {z : Value} {n : Nat} (hT : SlT P T E) (hi : P.info? E = some ti) (hz : ti.zero = some z) (hs : ti.size = 1) (hzc : z.cells = #[z]) (hb : ti.bytes ≤ 64) (h0 : ev N σ x = .int .i64 0) (hx : ev N σ y = .int .i64 (n : Int)) (hn : n ≤ 1000000)
    (h : ∀ b w', b = w.heap.size → Rw w' E (.slice (some ⟨b, 0, none⟩) 0 n) [] → Ex w w' → w'.heap.size = b + 1 → WL r P ops Q rest (mk N (upd σ d (.slice (some ⟨b, 0, none⟩) 0 n)) ds) w') :
    WL r P ops Q (⟨some d, .makeSlice T x y, ty, pos, after, none⟩ :: rest) (mk N σ ds) w := by
  have hbytes : (ti.bytes : Int) * (n : Int) ≤ 281474976710656 := by
    have h1 : ti.bytes * n ≤ 64 * 1000000 := Nat.mul_le_mul hb hn
    have h2 : ((ti.bytes * n : Nat) : Int) ≤ 64000000 := by omega
    rw [Int.natCast_mul] at h2; omega
  have hr := run_make (P := P) w T E ti z hT hi hz .i64 .i64 0 n (by omega) (by omega) hbytes (by omega)
  have hm : madeCells z.cells ((n : Int).toNat * ti.size) = (List.replicate n z).toArray := by
    rw [hs, hzc]; simp [madeCells]
    apply Array.ext
    · simp
    · intro j h1 h2; simp [Nat.mod_one]
  rw [hm] at hr
  simp only [Int.toNat_natCast] at hr
  have hA := at_new w (List.replicate n z) E
  have hR := hA.rw (n := 0) (c := n) (by simp) (Nat.zero_le _) (by omega)
  refine l_val (w' := w.alloc (.cells (List.replicate n z).toArray E)) (by intro c e; cases e) ?_ (h _ _ rfl (by simpa using hR) (Ex.alloc w _) (size_new w _))
  simp [execOp, h0, hx, hr]
theorem s_min {a c : Int} {k : IntKind} {ats : Array TypeId} (hx : ev N σ x = .int k a) (hy : ev N σ y = .int k c) (h : WL r P ops Q rest (mk N (upd σ d (.int k (if c < a then c else a))) ds) w) :
    WL r P ops Q (⟨some d, .call { callee := .builtin .min, args := #[x, y], argTypes := ats }, ty, pos, after, none⟩ :: rest) (mk N σ ds) w :=
  l_val (by intro c e; cases e) (by simp [execOp, resolve, invoke, builtin, hx, hy, Go.run_min_int2]) h
theorem s_iaI {v : Value} {l : List Int} {k : IntKind} {n : Nat} (hT : SlT P T E) (hE : Ty1 P E) (hx : ev N σ x = v) (hi : ev N σ i = .int k (n : Int)) (hs : Ints w v l) (hn : n < l.length)
    (h : ∀ ad, w.cell? ad = some (.int .i64 (l.getD n 0)) → WL r P ops Q rest (mk N (upd σ d (.pointer (some ad))) ds) w) : WL r P ops Q (⟨some d, .indexAddr T x i, ty, pos, after, none⟩ :: rest) (mk N σ ds) w :=
  s_ia hT hE hx hi hs (by simp [hn]) h
theorem s_iaR {w0 : World} {v : Value} {g : List (List Int)} {k : IntKind} {n : Nat} (hT : SlT P T E) (hE : Ty1 P E) (hs : Rows w0 v g) (hw : Ex w0 w) (hx : ev N σ x = v) (hi : ev N σ i = .int k (n : Int)) (hn : n < g.length)
    (h : ∀ ad u, w.cell? ad = some u → Ints w u (g.getD n []) → WL r P ops Q rest (mk N (upd σ d (.pointer (some ad))) ds) w) : WL r P ops Q (⟨some d, .indexAddr T x i, ty, pos, after, none⟩ :: rest) (mk N σ ds) w := by
  obtain ⟨vs, u, hs', hu, hI⟩ := hs.row hn
  exact s_ia hT hE hx hi (hs'.ex hw) hu fun ad hc => h ad u hc (hI.ex hw)
end ops

/-- Where ways meet again: what is known of the slots that were written, and of the world. -/
def JoinEnd {γ : Type} (N : Nat) (ds : List Deferred) (M : Nat) (σ : Nat → Value) (vals : γ → List (Nat × Value)) (Inv : γ → World → Prop) (a' : Act) (w' : World) : Prop :=
  ∃ x' σ', a' = mk N σ' ds ∧ Agree M σ' σ ∧ Has σ' (vals x') ∧ Inv x' w'
theorem join_end {γ : Type} {N : Nat} {ds : List Deferred} {M : Nat} {σ σ' : Nat → Value} {vals : γ → List (Nat × Value)} {Inv : γ → World → Prop} {w' : World} (x' : γ)
    (ha : Agree M σ' σ) (hv : Has σ' (vals x')) (hi : Inv x' w') : JoinEnd N ds M σ vals Inv (mk N σ' ds) w' := ⟨x', σ', rfl, ha, hv, hi⟩
theorem c_join {r : Option Nat} {P : Program} {Q : Exit → Act → World → Prop} {w : World} {γ : Type} (M : Nat) (vals : γ → List (Nat × Value)) (Inv : γ → World → Prop) {N : Nat} {σ : Nat → Value} {ds : List Deferred} {x y : Code}
    (h1 : CW r P x (Exit.then (JoinEnd N ds M σ vals Inv) Q) (mk N σ ds) w)
    (h2 : ∀ (g : γ) (ρ : Nat → Value) (w' : World), Inv g w' → CW r P y Q (mk N (ext (vals g) (mask M ρ σ)) ds) w') : CW r P (.seq x y) Q (mk N σ ds) w := by
  refine c_seq (c_mono h1 fun e a w' h => ?_)
  cases e with
  | normal =>
    obtain ⟨g, σ', rfl, hag, hhas, hI⟩ := h
    have := h2 g σ' w' hI
    rw [mask_self hag, ext_has hhas] at this
    exact this
  | _ => exact h

theorem c_joinK {r : Option Nat} {P : Program} {Q : Exit → Act → World → Prop} {w : World} {γ : Type} (M : Nat) (vals : γ → List (Nat × Value)) (Inv : γ → World → Prop) {N : Nat} {σ : Nat → Value} {ds : List Deferred} {x : Code}
    (h1 : CW r P x (Exit.then (JoinEnd N ds M σ vals Inv) Q) (mk N σ ds) w)
    (h2 : ∀ (g : γ) (ρ : Nat → Value) (w' : World), Inv g w' → Q .normal (mk N (ext (vals g) (mask M ρ σ)) ds) w') : CW r P x Q (mk N σ ds) w := by
  refine c_mono h1 fun e a w' h => ?_
  cases e with
  | normal =>
    obtain ⟨g, σ', rfl, hag, hhas, hI⟩ := h
    have := h2 g σ' w' hI
    rw [mask_self hag, ext_has hhas] at this
    exact this
  | _ => exact h

section draws
variable {r : Option Nat} {P : Program} {ops : Array Oper} {Q : Exit → Act → World → Prop} {N : Nat} {σ : Nat → Value} {ds : List Deferred} {w : World} {J : World → Prop} {z i d : Nat} {gd : Option (Nat × Bool)} {π : List (Nat × Bool)} {ty : TypeId} {pos : String} {after : Array Edge} {x y : Operand}
theorem d_max {a c : Int} {k : IntKind} {ats : Array TypeId} (hi : ops[i]? = some ⟨some d, .call { callee := .builtin .max, args := #[x, y], argTypes := ats }, ty, pos, after, gd⟩) (hx : ev N σ x = .int k a) (hy : ev N σ y = .int k c) (h : WJ r P ops J z Q π (mk N (upd σ d (.int k (if a < c then c else a))) ds) w)
    (hgd : GOK ops (ev N σ) gd := by first | exact trivial | exact ⟨_, rfl, rfl⟩) : WJ r P ops J z Q ((i, true) :: π) (mk N σ ds) w :=
  d_val hi (fun w' _ => by simp [execOp, resolve, invoke, builtin, hx, hy, Go.run_max_int2]) h hgd
end draws

theorem Sl.kept {w w' : World} {v : Value} {vs : List Value} {o : Option Nat} (h : Sl w v vs) (hg : w.grownBy w' o) (hne : vs = [] ∨ v.ownBlock ≠ o) : Sl w' v vs := by
  obtain ⟨hm, a, n, c, rfl, hn, hnc, hc⟩ := h
  refine ⟨hm, a, n, c, rfl, hn, hnc, fun i u hi => ?_⟩
  obtain ⟨ad, rfl, hcell⟩ := hc i u hi
  have hne' : some ad.block ≠ o := by
    rcases hne with rfl | h
    · simp at hi
    · exact h
  refine ⟨ad, rfl, ?_⟩
  have hb : (ad.add i).block = ad.block := by unfold Addr.add; split <;> rfl
  have hlt := block_lt_of_cell hcell
  have := hg.block (ad.add i).block hlt (by rw [hb]; exact hne')
  unfold World.cell? at hcell ⊢
  rw [this]; exact hcell
theorem Ints.kept {w w' : World} {v : Value} {l : List Int} {o : Option Nat} (h : Ints w v l) (hg : w.grownBy w' o) (hne : l = [] ∨ v.ownBlock ≠ o) : Ints w' v l := Sl.kept h hg (hne.imp (by rintro rfl; rfl) id)
theorem Sl.block {w : World} {v : Value} {vs : List Value} (h : Sl w v vs) : vs = [] ∨ ∃ b, v.ownBlock = some b ∧ b < w.heap.size := by
  obtain ⟨_, a, n, c, rfl, hn, hnc, hc⟩ := h
  cases vs with
  | nil => exact .inl rfl
  | cons u vs =>
    obtain ⟨ad, rfl, hcell⟩ := hc 0 u rfl
    exact .inr ⟨ad.block, rfl, block_lt_of_cell hcell⟩
theorem Ints.block {w : World} {v : Value} {l : List Int} (h : Ints w v l) : l = [] ∨ ∃ b, v.ownBlock = some b ∧ b < w.heap.size := by
  rcases Sl.block h with h | h
  · exact .inl (by simpa using h)
  · exact .inr h

theorem Rows.rowlen {w : World} {v : Value} {g : List (List Int)} (h : Rows w v g) (i : Nat) : (g.getD i []).length ≤ 140737488355328 := by
  by_cases hi : i < g.length
  · obtain ⟨vs, u, _, _, hI⟩ := h.row hi
    exact hI.len
  · simp [hi]
/-- Rows that are being put together by append; E the type of a row. -/
def Bld (w : World) (E : TypeId) (v : Value) (g : List (List Int)) : Prop :=
  ∃ vs, Rw w E v vs ∧ vs.length = g.length ∧ (∀ u ∈ vs, u.oneCell' = true) ∧ ∀ (i : Nat) (u : Value) (l : List Int), vs[i]? = some u → g[i]? = some l → Ints w u l ∧ (l = [] ∨ u.ownBlock ≠ v.ownBlock)
theorem Bld.nil (w : World) (E : TypeId) : Bld w E (.slice none 0 0) [] := ⟨[], Rw.nil w E, rfl, by simp, fun i u l h => by simp at h⟩
theorem Bld.ex {w w' : World} {E : TypeId} {v : Value} {g : List (List Int)} (h : Bld w E v g) (hx : Ex w w') : Bld w' E v g := by
  obtain ⟨vs, h1, h2, h3, h4⟩ := h
  exact ⟨vs, h1.ex hx, h2, h3, fun i u l hu hl => ⟨(h4 i u l hu hl).1.ex hx, (h4 i u l hu hl).2⟩⟩
theorem Bld.lt {w : World} {E : TypeId} {v : Value} {g : List (List Int)} (h : Bld w E v g) : ∀ k, v.ownBlock = some k → k < w.heap.size := by
  obtain ⟨vs, h1, _⟩ := h; exact h1.lt
theorem Bld.rows {w : World} {E : TypeId} {v : Value} {g : List (List Int)} (h : Bld w E v g) (hm : g.length ≤ 140737488355328) : Rows w v g := by
  obtain ⟨vs, h1, h2, h3, h4⟩ := h
  exact ⟨vs, h1.sl (by omega), h2, fun i u l hu hl => (h4 i u l hu hl).1⟩
theorem Ints.one {w : World} {v : Value} {l : List Int} (h : Ints w v l) : v.oneCell' = true := by
  obtain ⟨a, c, rfl⟩ := h.form; rfl
section ops2
variable {r : Option Nat} {P : Program} {ops : Array Oper} {Q : Exit → Act → World → Prop} {N : Nat} {σ : Nat → Value} {ds : List Deferred} {w : World} {rest : List Oper}
variable {d d1 d2 : Nat} {ty ty2 : TypeId} {pos pos2 : String} {after after2 : Array Edge} {T E T' : TypeId} {x i y : Operand}
end ops2

/-! ### Copies of one's own -/
abbrev sv (b n c : Nat) : Value := .slice (some ⟨b, 0, none⟩) n c
/-- A list of numbers in a block of its own. -/
def OwnI (w : World) (E : TypeId) (b c : Nat) (l : List Int) : Prop := ∃ sp, At w b E (l.map (Value.int .i64) ++ sp) ∧ l.length ≤ c ∧ l.length ≤ 100000
theorem OwnI.ints {w : World} {E : TypeId} {b c : Nat} {l : List Int} (h : OwnI w E b c l) : Ints w (sv b l.length c) l := by
  obtain ⟨sp, hA, hc, hm⟩ := h
  have := hA.sl (n := l.length) (c := c) (by simp) (by omega) hc
  rwa [List.take_left' (by simp)] at this
theorem OwnI.ex {w w' : World} {E : TypeId} {b c : Nat} {l : List Int} (h : OwnI w E b c l) (hx : Ex w w') : OwnI w' E b c l := by
  obtain ⟨sp, hA, hc⟩ := h; exact ⟨sp, hA.ex hx, hc⟩
theorem OwnI.grown {w w' : World} {E : TypeId} {b c : Nat} {l : List Int} {o : Option Nat} (h : OwnI w E b c l) (hg : w.grownBy w' o) (hne : o ≠ some b) : OwnI w' E b c l := by
  obtain ⟨sp, hA, hc⟩ := h; exact ⟨sp, hA.grown hg hne, hc⟩
theorem OwnI.lt {w : World} {E : TypeId} {b c : Nat} {l : List Int} (h : OwnI w E b c l) : b < w.heap.size := by
  obtain ⟨sp, hA, hc⟩ := h; exact hA.lt
section ops3
variable {r : Option Nat} {P : Program} {ops : Array Oper} {Q : Exit → Act → World → Prop} {N : Nat} {σ : Nat → Value} {ds : List Deferred} {w : World} {rest : List Oper}
variable {d d1 d2 : Nat} {ty ty2 : TypeId} {pos pos2 : String} {after after2 : Array Edge} {T E T' : TypeId} {x i y : Operand}
theorem s_stO {b n c : Nat} {B : TypeId} {l : List Int} {q : Int} (hE : Ty1 P E) (hx : ev N σ x = .pointer (some ⟨b, n, none⟩)) (hy : ev N σ y = .int .i64 q) (hO : OwnI w B b c l) (hn : n < l.length)
    (h : ∀ w', OwnI w' B b c (l.set n q) → w.grownBy w' (some b) → WL r P ops Q rest (mk N σ ds) w') :
    WL r P ops Q (⟨none, .store E x y, ty, pos, after, none⟩ :: rest) (mk N σ ds) w := by
  obtain ⟨sp, hA, hc, hm⟩ := hO
  refine s_stA hE hx hy rfl hA (by simp; omega) ?_
  intro w' hA' hg
  refine h w' ⟨sp, ?_, by simpa using hc, by simpa using hm⟩ hg
  rw [List.set_append_left _ _ (by simpa using hn), ← List.map_set] at hA'
  exact hA'
end ops3
/-- Lists of numbers, each and all in blocks of their own. -/
def Mat (w : World) (T E : TypeId) (b c : Nat) (rb rc : Nat → Nat) (g : List (List Int)) : Prop :=
  (∃ sp, At w b T ((List.range g.length).map (fun i => sv (rb i) (g.getD i []).length (rc i)) ++ sp)) ∧ g.length ≤ c ∧ g.length ≤ 100000 ∧ (∀ i, i < g.length → OwnI w E (rb i) (rc i) (g.getD i []) ∧ rb i ≠ b) ∧ ∀ i j, i < j → j < g.length → rb i < rb j
theorem Mat.ex {w w' : World} {T E : TypeId} {b c : Nat} {rb rc : Nat → Nat} {g : List (List Int)} (h : Mat w T E b c rb rc g) (hx : Ex w w') : Mat w' T E b c rb rc g := by
  obtain ⟨⟨sp, h1⟩, h2, h3, h4, h5⟩ := h
  exact ⟨⟨sp, h1.ex hx⟩, h2, h3, fun i hi => ⟨(h4 i hi).1.ex hx, (h4 i hi).2⟩, h5⟩
theorem Mat.rows {w : World} {T E : TypeId} {b c : Nat} {rb rc : Nat → Nat} {g : List (List Int)} (h : Mat w T E b c rb rc g) : Rows w (sv b g.length c) g := by
  obtain ⟨⟨sp, h1⟩, h2, h3, h4, h5⟩ := h
  have hs := h1.sl (n := g.length) (c := c) (by simp) (by omega) h2
  rw [List.take_left' (by simp)] at hs
  refine ⟨_, hs, by simp, fun i u l hu hl => ?_⟩
  have hi := (List.getElem?_eq_some_iff.1 hl).1
  have e : g.getD i [] = l := by simp [hl]
  have hu' : u = sv (rb i) (g.getD i []).length (rc i) := by
    rw [List.getElem?_map, List.getElem?_range hi] at hu
    exact (Option.some.inj hu).symm
  rw [e] at hu'
  subst hu'
  have := (h4 i hi).1.ints
  rwa [e] at this
theorem Mat.cell {w : World} {T E : TypeId} {b c : Nat} {rb rc : Nat → Nat} {g : List (List Int)} (h : Mat w T E b c rb rc g) {i : Nat} (hi : i < g.length) : ∃ cs, At w b T cs ∧ cs[i]? = some (sv (rb i) (g.getD i []).length (rc i)) := by
  obtain ⟨⟨sp, h1⟩, _⟩ := h
  refine ⟨_, h1, ?_⟩
  rw [List.getElem?_append_left (by simpa using hi)]; simp [hi]
theorem Mat.own {w : World} {T E : TypeId} {b c : Nat} {rb rc : Nat → Nat} {g : List (List Int)} (h : Mat w T E b c rb rc g) {i : Nat} (hi : i < g.length) : OwnI w E (rb i) (rc i) (g.getD i []) := (h.2.2.2.1 i hi).1
theorem Mat.put {w w' : World} {T E : TypeId} {b c : Nat} {rb rc : Nat → Nat} {g : List (List Int)} {i : Nat} {l : List Int} (h : Mat w T E b c rb rc g) (hi : i < g.length) (hl : l.length = (g.getD i []).length) (hO : OwnI w' E (rb i) (rc i) l) (hg : w.grownBy w' (some (rb i))) : Mat w' T E b c rb rc (g.set i l) := by
  obtain ⟨⟨sp, h1⟩, h2, h3, h4, h5⟩ := h
  have hget : ∀ j, (g.set i l).getD j [] = if j = i then l else g.getD j [] := by
    intro j
    simp only [List.getD_eq_getElem?_getD, List.getElem?_set]
    by_cases hj : i = j
    · subst hj; simp [hi]
    · have : ¬ j = i := fun e => hj e.symm
      simp [hj, this]
  refine ⟨⟨sp, ?_⟩, by simpa using h2, by simpa using h3, fun j hj => ?_, fun a j h6 h7 => h5 a j h6 (by simpa using h7)⟩
  · have e : (List.range (g.set i l).length).map (fun j => sv (rb j) ((g.set i l).getD j []).length (rc j)) = (List.range g.length).map (fun j => sv (rb j) (g.getD j []).length (rc j)) := by
      rw [List.length_set]
      apply List.map_congr_left
      intro j _
      rw [hget j]
      by_cases hj : j = i
      · subst hj; rw [if_pos rfl, hl]
      · rw [if_neg hj]
    rw [e]
    exact h1.grown hg (fun e => (h4 i hi).2 (Option.some.inj e))
  · have hj' : j < g.length := by simpa using hj
    rw [hget j]
    refine ⟨?_, (h4 j hj').2⟩
    by_cases hji : j = i
    · subst hji; rw [if_pos rfl]; exact hO
    · rw [if_neg hji]
      refine (h4 j hj').1.grown hg (fun e => ?_)
      have e' := Option.some.inj e
      rcases Nat.lt_or_gt_of_ne hji with h6 | h6
      · have := h5 j i h6 hi; omega
      · have := h5 i j h6 hj'; omega
theorem Rw.pos {w : World} {E : TypeId} {v : Value} {vs : List Value} (h : Rw w E v vs) (hn : 0 < vs.length) : ∃ b cap sp, v = sv b vs.length cap ∧ At w b E (vs ++ sp) ∧ vs.length ≤ cap := by
  rcases h.form with ⟨_, rfl⟩ | h
  · simp at hn
  · exact h
end Go.Proofs.YtifbgpkjbciblaaGreatDoor.Sal
end
section
/- Core10: lists and rows that a call builds for itself; slices in drawn regions. -/
set_option maxRecDepth 100000
namespace Go.Proofs.YtifbgpkjbciblaaGreatDoor.Sal
set_option linter.all false
open Go.RowKit

/-! ### Loops over two or three things -/
section loops
variable {r : Option Nat} {P : Program} {Q : Exit → Act → World → Prop} {w : World} {γ δ ε : Type}
def LoopEnd2 (N : Nat) (ds : List Deferred) (M : Nat) (σ : Nat → Value) (vals : γ → δ → List (Nat × Value)) (Inv : γ → δ → World → Prop) (μ : γ → δ → Nat) (x : γ) (y : δ) (a' : Act) (w' : World) : Prop :=
  LoopEnd (γ := γ × δ) N ds M σ (fun p => vals p.1 p.2) (fun p => Inv p.1 p.2) (fun p => μ p.1 p.2) (x, y) a' w'
theorem loop_end2 {N : Nat} {ds : List Deferred} {M : Nat} {σ σ' : Nat → Value} {vals : γ → δ → List (Nat × Value)} {Inv : γ → δ → World → Prop} {μ : γ → δ → Nat} {x : γ} {y : δ} {w' : World} (x' : γ) (y' : δ)
    (ha : Agree M σ' σ) (hv : Has σ' (vals x' y')) (hi : Inv x' y' w') (hm : μ x' y' < μ x y) : LoopEnd2 N ds M σ vals Inv μ x y (mk N σ' ds) w' := ⟨(x', y'), σ', rfl, ha, hv, hi, hm⟩
theorem c_loop2 (M : Nat) (vals : γ → δ → List (Nat × Value)) (Inv : γ → δ → World → Prop) (μ : γ → δ → Nat) {N : Nat} {σ : Nat → Value} {ds : List Deferred} {c : Code} (x₀ : γ) (y₀ : δ)
    (h₀ : Has σ (vals x₀ y₀)) (hI : Inv x₀ y₀ w)
    (round : ∀ (x : γ) (y : δ) (ρ : Nat → Value) (w : World), Inv x y w → CW r P c (Exit.then (LoopEnd2 N ds M σ vals Inv μ x y) Q) (mk N (ext (vals x y) (mask M ρ σ)) ds) w) : CW r P (.loop c) Q (mk N σ ds) w :=
  c_loop (γ := γ × δ) M (fun p => vals p.1 p.2) (fun p => Inv p.1 p.2) (fun p => μ p.1 p.2) (x₀, y₀) h₀ hI (fun p ρ w hi => round p.1 p.2 ρ w hi)
def LoopEnd3 (N : Nat) (ds : List Deferred) (M : Nat) (σ : Nat → Value) (vals : γ → δ → ε → List (Nat × Value)) (Inv : γ → δ → ε → World → Prop) (μ : γ → δ → ε → Nat) (x : γ) (y : δ) (z : ε) (a' : Act) (w' : World) : Prop :=
  LoopEnd (γ := γ × δ × ε) N ds M σ (fun p => vals p.1 p.2.1 p.2.2) (fun p => Inv p.1 p.2.1 p.2.2) (fun p => μ p.1 p.2.1 p.2.2) (x, y, z) a' w'
theorem loop_end3 {N : Nat} {ds : List Deferred} {M : Nat} {σ σ' : Nat → Value} {vals : γ → δ → ε → List (Nat × Value)} {Inv : γ → δ → ε → World → Prop} {μ : γ → δ → ε → Nat} {x : γ} {y : δ} {z : ε} {w' : World} (x' : γ) (y' : δ) (z' : ε)
    (ha : Agree M σ' σ) (hv : Has σ' (vals x' y' z')) (hi : Inv x' y' z' w') (hm : μ x' y' z' < μ x y z) : LoopEnd3 N ds M σ vals Inv μ x y z (mk N σ' ds) w' := ⟨(x', y', z'), σ', rfl, ha, hv, hi, hm⟩
theorem c_loop3 (M : Nat) (vals : γ → δ → ε → List (Nat × Value)) (Inv : γ → δ → ε → World → Prop) (μ : γ → δ → ε → Nat) {N : Nat} {σ : Nat → Value} {ds : List Deferred} {c : Code} (x₀ : γ) (y₀ : δ) (z₀ : ε)
    (h₀ : Has σ (vals x₀ y₀ z₀)) (hI : Inv x₀ y₀ z₀ w)
    (round : ∀ (x : γ) (y : δ) (z : ε) (ρ : Nat → Value) (w : World), Inv x y z w → CW r P c (Exit.then (LoopEnd3 N ds M σ vals Inv μ x y z) Q) (mk N (ext (vals x y z) (mask M ρ σ)) ds) w) : CW r P (.loop c) Q (mk N σ ds) w :=
  c_loop (γ := γ × δ × ε) M (fun p => vals p.1 p.2.1 p.2.2) (fun p => Inv p.1 p.2.1 p.2.2) (fun p => μ p.1 p.2.1 p.2.2) (x₀, y₀, z₀) h₀ hI (fun p ρ w hi => round p.1 p.2.1 p.2.2 ρ w hi)
end loops

/-- A list of numbers that a call builds by append: all its memory was laid since w0. -/
def LI (w0 w : World) (E : TypeId) (v : Value) (l : List Int) : Prop := Rw w E v (l.map (Value.int .i64)) ∧ ∀ b, v.ownBlock = some b → w0.heap.size ≤ b
theorem LI.nil (w0 w : World) (E : TypeId) : LI w0 w E (.slice none 0 0) [] := ⟨Rw.nil w E, fun b h => by cases h⟩
theorem LI.ex {w0 w w' : World} {E : TypeId} {v : Value} {l : List Int} (h : LI w0 w E v l) (hx : Ex w w') : LI w0 w' E v l := ⟨h.1.ex hx, h.2⟩
theorem LI.ints {w0 w : World} {E : TypeId} {v : Value} {l : List Int} (h : LI w0 w E v l) (hm : l.length ≤ 1000000) : Ints w v l := h.1.ints (by omega)
theorem LI.low {w0 w1 w : World} {E : TypeId} {v : Value} {l : List Int} (h : LI w1 w E v l) (hs : w0.heap.size ≤ w1.heap.size) : LI w0 w E v l := ⟨h.1, fun b hb => Nat.le_trans hs (h.2 b hb)⟩
theorem LI.lt {w0 w : World} {E : TypeId} {v : Value} {l : List Int} (h : LI w0 w E v l) : ∀ b, v.ownBlock = some b → b < w.heap.size := h.1.lt
theorem LI.one {w0 w : World} {E : TypeId} {v : Value} {l : List Int} (h : LI w0 w E v l) : v.oneCell' = true := by
  obtain ⟨a, c, rfl⟩ := h.1.slen; rfl
theorem LI.form {w0 w : World} {E : TypeId} {v : Value} {l : List Int} (h : LI w0 w E v l) : ∃ a c, v = .slice a l.length c := by
  obtain ⟨a, c, hv⟩ := h.1.slen; exact ⟨a, c, by simpa using hv⟩
theorem LI.kept {w0 w w' : World} {E : TypeId} {v : Value} {l : List Int} {o : Option Nat} (h : LI w0 w E v l) (hg : w.grownBy w' o) (hne : v.ownBlock = none ∨ v.ownBlock ≠ o) : LI w0 w' E v l := ⟨h.1.kept hg hne, h.2⟩
theorem LI.own {w0 w : World} {E : TypeId} {v : Value} {l : List Int} (h : LI w0 w E v l) (hn : l ≠ []) (hm : l.length ≤ 100000) : ∃ b c, v = sv b l.length c ∧ OwnI w E b c l ∧ w0.heap.size ≤ b := by
  have hp : 0 < (l.map (Value.int .i64)).length := by simp; exact List.length_pos_iff.2 hn
  obtain ⟨b, cap, sp, hv, hA, hc⟩ := h.1.pos hp
  refine ⟨b, cap, by rw [hv]; simp, ⟨sp, hA, by simpa using hc, hm⟩, h.2 b (by rw [hv]; rfl)⟩

/-- Rows that a call builds by append. -/
def BD (w0 w : World) (E : TypeId) (v : Value) (g : List (List Int)) : Prop := Bld w E v g ∧ ∀ b, v.ownBlock = some b → w0.heap.size ≤ b
theorem BD.nil (w0 w : World) (E : TypeId) : BD w0 w E (.slice none 0 0) [] := ⟨Bld.nil w E, fun b h => by cases h⟩
theorem BD.ex {w0 w w' : World} {E : TypeId} {v : Value} {g : List (List Int)} (h : BD w0 w E v g) (hx : Ex w w') : BD w0 w' E v g := ⟨h.1.ex hx, h.2⟩
theorem BD.rows {w0 w : World} {E : TypeId} {v : Value} {g : List (List Int)} (h : BD w0 w E v g) (hm : g.length ≤ 1000000) : Rows w v g := h.1.rows (by omega)
theorem BD.lt {w0 w : World} {E : TypeId} {v : Value} {g : List (List Int)} (h : BD w0 w E v g) : ∀ b, v.ownBlock = some b → b < w.heap.size := h.1.lt

section ops
variable {r : Option Nat} {P : Program} {ops : Array Oper} {Q : Exit → Act → World → Prop} {N : Nat} {σ : Nat → Value} {ds : List Deferred} {w : World} {rest : List Oper}
variable {d d1 d2 : Nat} {ty ty2 : TypeId} {pos pos2 : String} {after after2 : Array Edge} {T E T' : TypeId} {x i y : Operand}
theorem map_one (l : List Int) : ∀ u ∈ l.map (Value.int .i64), u.oneCell' = true := by
  intro u hu; obtain ⟨q, _, rfl⟩ := List.mem_map.1 hu; rfl
/-- append(l, x...) of numbers. -/
theorem s_lapp {w0 : World} {z v xv : Value} {l news : List Int} (hT : SlT P T E) (hi : InfoOf P E z) (hL : LI w0 w E v l) (hS : Ints w xv news) (hv : ev N σ x = v) (hxv : ev N σ y = xv) (hlen : l.length + news.length ≤ 100000) (hw : Ex w0 w)
    (h : ∀ v' w', LI w0 w' E v' (l ++ news) → Ex w0 w' → WL r P ops Q rest (mk N (upd σ d v') ds) w') :
    WL r P ops Q (⟨some d, .call { callee := .builtin .append, args := #[x, y], argTypes := #[T, T] }, ty, pos, after, none⟩ :: rest) (mk N σ ds) w := by
  refine s_app hT hi hL.1 hS hv hxv (map_one news) (by simp; omega) ?_
  intro v' w' hR hg hf
  refine h v' w' ⟨by rw [List.map_append]; exact hR, fun b hb => ?_⟩ (hw.storeo hg hL.2)
  rcases hf with he | hf
  · exact hL.2 b (he ▸ hb)
  · exact Nat.le_trans hw.size (hf b hb)
/-- append(l, q): the literal and the append. -/
theorem s_li {w0 : World} {v : Value} {l : List Int} {q : Int} (hT : SlT P T E) (hi : InfoOf P E (.int .i64 0)) (hd : Nat.blt d1 N = true) (hL : LI w0 w E v l) (hv : ev N σ x = v) (hq : ev N σ y = .int .i64 q) (hx1 : ∀ s, ev N (upd σ d1 s) x = v) (hlen : l.length ≤ 10000) (hw : Ex w0 w)
    (h : ∀ v' w' sl, LI w0 w' E v' (l ++ [q]) → Ex w0 w' → WL r P ops Q rest (mk N (upd (upd σ d1 sl) d2 v') ds) w') :
    WL r P ops Q (⟨some d1, .buildSlice T 1 #[(0, y)], ty, pos, after, none⟩ :: ⟨some d2, .call { callee := .builtin .append, args := #[x, .tmp d1], argTypes := #[T, T] }, ty2, pos2, after2, none⟩ :: rest) (mk N σ ds) w := by
  refine s_bs1 hT hi hq rfl ?_
  intro b1 w1 hb1 hA hx2 hs1
  have hS : Ints w1 (.slice (some ⟨b1, 0, none⟩) 1 1) [q] := hA.sl (n := 1) (c := 1) (Nat.le_refl _) (by omega) (Nat.le_refl _)
  exact s_lapp hT hi (hL.ex hx2) hS (hx1 _) (tmp_upd hd) (by simp; omega) (hw.trans hx2) (fun v' w' h1 h2 => h v' w' _ h1 h2)
/-- The head of the rows: those that came in. -/
theorem Rows.news {w0 w : World} {v xv : Value} {g : List (List Int)} (hR : Rows w0 xv g) (hx : Ex w0 w) (hv : ∀ b, v.ownBlock = some b → w0.heap.size ≤ b) :
    ∃ vs, Sl w xv vs ∧ vs.length = g.length ∧ ∀ (i : Nat) (u : Value) (l : List Int), vs[i]? = some u → g[i]? = some l → Ints w u l ∧ (l = [] ∨ u.ownBlock ≠ v.ownBlock) := by
  obtain ⟨vs, h1, h2, h3⟩ := hR
  refine ⟨vs, h1.ex hx, h2, fun i u l hu hl => ⟨(h3 i u l hu hl).ex hx, ?_⟩⟩
  rcases (h3 i u l hu hl).block with h0 | ⟨b, hb, hlt⟩
  · exact .inl h0
  · exact .inr fun e => by have := hv b (e ▸ hb); omega
theorem Ints.old {w0 w : World} {u v : Value} {l : List Int} (hI : Ints w0 u l) (hv : ∀ b, v.ownBlock = some b → w0.heap.size ≤ b) : l = [] ∨ u.ownBlock ≠ v.ownBlock := by
  rcases hI.block with h0 | ⟨b, hb, hlt⟩
  · exact .inl h0
  · exact .inr fun e => by have := hv b (e ▸ hb); omega
theorem At.one {w : World} {b : Nat} {E : TypeId} {q : Int} (h : At w b E [.int .i64 q]) : Ints w (.slice (some ⟨b, 0, none⟩) 1 1) [q] := h.sl (n := 1) (c := 1) (Nat.le_refl _) (by omega) (Nat.le_refl _)
end ops

/-! ### Rows with the blocks that they take -/
def BF (F : Nat → Prop) (w : World) (E : TypeId) (v : Value) (g : List (List Int)) : Prop :=
  ∃ vs, Rw w E v vs ∧ vs.length = g.length ∧ (∀ u ∈ vs, u.oneCell' = true) ∧ (∀ b, v.ownBlock = some b → F b) ∧ (∀ b, F b → b < w.heap.size) ∧
    ∀ (i : Nat) (u : Value) (l : List Int), vs[i]? = some u → g[i]? = some l → Ints w u l ∧ (l = [] ∨ (u.ownBlock ≠ v.ownBlock ∧ ∃ b, u.ownBlock = some b ∧ F b))
theorem BF.nil (w : World) (E : TypeId) : BF (fun _ => False) w E (.slice none 0 0) [] := ⟨[], Rw.nil w E, rfl, by simp, fun b h => (by cases h), fun b (h : False) => h.elim, fun i u l h => (by simp at h)⟩
theorem BF.kept {F : Nat → Prop} {w w' : World} {E : TypeId} {v : Value} {g : List (List Int)} {o : Option Nat} (h : BF F w E v g) (hg : w.grownBy w' o) (ho : ∀ b, o = some b → ¬ F b) : BF F w' E v g := by
  obtain ⟨vs, h1, h2, h3, h4, h5, h6⟩ := h
  refine ⟨vs, h1.kept hg ?_, h2, h3, h4, fun b hb => Nat.lt_of_lt_of_le (h5 b hb) hg.size, fun i u l hu hl => ?_⟩
  · cases hv : v.ownBlock with
    | none => exact .inl rfl
    | some b => exact .inr fun e => ho b e.symm (h4 b hv)
  · obtain ⟨a, b⟩ := h6 i u l hu hl
    refine ⟨a.kept hg ?_, b⟩
    rcases b with b | ⟨_, q, hq, hF⟩
    · exact .inl b
    · exact .inr fun e => ho q (by rw [← e, hq]) hF
theorem BF.ex {F : Nat → Prop} {w w' : World} {E : TypeId} {v : Value} {g : List (List Int)} (h : BF F w E v g) (hx : Ex w w') : BF F w' E v g := h.kept hx.grown (fun b e => by cases e)
theorem BF.rows {F : Nat → Prop} {w : World} {E : TypeId} {v : Value} {g : List (List Int)} (h : BF F w E v g) (hm : g.length ≤ 1000000) : Rows w v g := by
  obtain ⟨vs, h1, h2, h3, h4, h5, h6⟩ := h
  exact ⟨vs, h1.sl (by omega), h2, fun i u l hu hl => (h6 i u l hu hl).1⟩
theorem BF.own {F : Nat → Prop} {w : World} {E : TypeId} {v : Value} {g : List (List Int)} (h : BF F w E v g) : ∀ b, v.ownBlock = some b → F b := by
  obtain ⟨vs, h1, h2, h3, h4, h5, h6⟩ := h; exact h4
theorem BF.lt {F : Nat → Prop} {w : World} {E : TypeId} {v : Value} {g : List (List Int)} (h : BF F w E v g) : ∀ b, F b → b < w.heap.size := by
  obtain ⟨vs, h1, h2, h3, h4, h5, h6⟩ := h; exact h5
section
variable {r : Option Nat} {P : Program} {ops : Array Oper} {Q : Exit → Act → World → Prop} {N : Nat} {σ : Nat → Value} {ds : List Deferred} {w : World} {rest : List Oper}
variable {d d1 d2 : Nat} {ty ty2 : TypeId} {pos pos2 : String} {after after2 : Array Edge} {T E T' : TypeId} {x i y : Operand}
end

section draw
/-- A region whose order Go leaves open, walked with what is known of an older world. -/
theorem c_drawO {r : Option Nat} {P : Program} {Q : Exit → Act → World → Prop} {N : Nat} {σ : Nat → Value} {ds : List Deferred} {w w0 : World} {id : Nat} {l : List Oper} (hw : Ex w0 w) (z k : Nat) (π : List (Nat × Bool)) (hm : P.follows .mixedOrders = true) (hok : regionOK l.toArray z k π = true)
    (h : WJ r P l.toArray (Ex w0) z Q π (mk N σ ds) w.drew) : CW r P (.region id l.toArray true) Q (mk N σ ds) w := by
  simp only [regionOK, Bool.and_eq_true] at hok
  obtain ⟨⟨⟨h1, h2⟩, h3⟩, h4⟩ := hok
  refine wpIn_region_any hm (wpAny_of_RAJ _ _ _ _ (raj_of_wj (J := Ex w0) (fun j o ho => ?_) h2 π _ _ _ _ (by simp) h3 ?_ (.inr (hw.trans (Ex.drew w))) (Nat.le_of_ble_eq_true h4) h))
  · exact (Array.all_eq_true_iff_forall_mem.1 h1) o (Array.mem_of_getElem? ho)
  · intro k hk
    exfalso
    by_cases hlt : k < l.toArray.size
    · simp at hlt; simp [hlt] at hk
    · simp at hlt; simp [Nat.not_lt.2 hlt] at hk
variable {r : Option Nat} {P : Program} {J : World → Prop} {z : Nat} {Q : Exit → Act → World → Prop} {N : Nat} {σ : Nat → Value} {ds : List Deferred} {w : World}
variable {gd : Option (Nat × Bool)} {ops : Array Oper} {i d : Nat} {π : List (Nat × Bool)} {ty : TypeId} {pos : String} {after : Array Edge} {T E : TypeId} {x : Operand}
/-- What makes memory, calls or stores: the operation is read off at once. -/
theorem d_ch {a : Act} {dst : Option Tmp} {op : Op} (hop : ops[i]? = some ⟨dst, op, ty, pos, after, gd⟩) (h : WL r P ops (fun e a' w' => e = .normal ∧ (z.testBit i = true ∨ J w') ∧ WJ r P ops J z Q π a' w') [⟨dst, op, ty, pos, after, gd⟩] a w) : WJ r P ops J z Q ((i, false) :: π) a w := d_chain hop h
theorem d_lenRO {w1 : World} {v : Value} {g : List (List Int)} (hop : ops[i]? = some ⟨some d, .call { callee := .builtin .len, args := #[x], argTypes := #[T] }, ty, pos, after, gd⟩) (hT : SlT P T E) (hx : ev N σ x = v) (hs : Rows w1 v g)
    (h : WJ r P ops J z Q π (mk N (upd σ d (.int .i64 (g.length : Int))) ds) w) (hgd : GOK ops (ev N σ) gd := by first | exact trivial | exact ⟨_, rfl, rfl⟩) : WJ r P ops J z Q ((i, true) :: π) (mk N σ ds) w := by
  obtain ⟨a, c, rfl⟩ := hs.form; exact d_len hop hT hx h hgd
theorem d_lenIO {w1 : World} {v : Value} {l : List Int} (hop : ops[i]? = some ⟨some d, .call { callee := .builtin .len, args := #[x], argTypes := #[T] }, ty, pos, after, gd⟩) (hT : SlT P T E) (hx : ev N σ x = v) (hs : Ints w1 v l)
    (h : WJ r P ops J z Q π (mk N (upd σ d (.int .i64 (l.length : Int))) ds) w) (hgd : GOK ops (ev N σ) gd := by first | exact trivial | exact ⟨_, rfl, rfl⟩) : WJ r P ops J z Q ((i, true) :: π) (mk N σ ds) w := by
  obtain ⟨a, c, rfl⟩ := hs.form; exact d_len hop hT hx h hgd
end draw
end Go.Proofs.YtifbgpkjbciblaaGreatDoor.Sal
end
section
/- Core12: a region whose order Go leaves open, where at one point two operations that make memory are ready: both orders. -/
set_option maxRecDepth 100000
namespace Go.Proofs.YtifbgpkjbciblaaGreatDoor.Sal
set_option linter.all false
open Go.RowKit
section fork
variable {r : Option Nat} {P : Program} {ops : Array Oper} {J : World → Prop} {Q : Exit → Act → World → Prop} {z : Nat}
def chkF (ops : Array Oper) (z i : Nat) (π2 : List (Nat × Bool)) (j : Nat) (π3 : List (Nat × Bool)) : List (Nat × Bool) → Array Bool → Bool
  | [], listed => (Region.ready .any ops listed == [i, j]) && !(z.testBit i) && !(z.testBit j) && chk ops z π2 (listed.setIfInBounds i true) && chk ops z π3 (listed.setIfInBounds j true)
  | (x, true) :: π, listed => (Region.ready .any ops listed).contains x && apartOK ops x && !(z.testBit x) && chkF ops z i π2 j π3 π (listed.setIfInBounds x true)
  | (_, false) :: _, _ => false
def ForkEnd (r : Option Nat) (P : Program) (ops : Array Oper) (J : World → Prop) (z : Nat) (Q : Exit → Act → World → Prop) (i : Nat) (π2 : List (Nat × Bool)) (j : Nat) (π3 : List (Nat × Bool)) : Exit → Act → World → Prop :=
  fun _ a w => WJ r P ops J z Q ((i, false) :: π2) a w ∧ WJ r P ops J z Q ((j, false) :: π3) a w
theorem raj_of_wjF {k i j : Nat} {π2 π3 : List (Nat × Bool)} (hpl : ∀ (j : Nat) (o : Oper), ops[j]? = some o → plainOp o = true) (hs : sinkOK ops z k = true) :
    ∀ (π : List (Nat × Bool)) (fuel : Nat) (listed : Array Bool) (a : Act) (w : World), listed.size = ops.size → chkF ops z i π2 j π3 π listed = true → Closed ops listed → JL z J listed w → π.length + 1 + π2.length ≤ fuel → π.length + 1 + π3.length ≤ fuel →
      WJ r P ops J z (ForkEnd r P ops J z Q i π2 j π3) π a w → RAJ r P ops J z Q fuel listed a w := by
  intro π
  induction π with
  | nil =>
    intro fuel listed a w hsz hk hc hJ hf1 hf2 h
    simp only [chkF, Bool.and_eq_true] at hk
    obtain ⟨⟨⟨⟨h1, h2⟩, h3⟩, h4⟩, h5⟩ := hk
    have he : Region.ready .any ops listed = [i, j] := by simpa using h1
    have h2' : ¬ z.testBit i = true := by simpa using h2
    have h3' : ¬ z.testBit j = true := by simpa using h3
    cases fuel with
    | zero => simp at hf1
    | succ f =>
      simp at hf1 hf2
      refine ⟨fun h => (by rw [he] at h; simp at h), fun x hx => ?_⟩
      have hrx := hx
      rw [he] at hx
      simp at hx
      have hW : WJ r P ops J z Q ((i, false) :: π2) a w ∧ WJ r P ops J z Q ((j, false) :: π3) a w := h
      rcases hx with rfl | rfl
      · refine wpOpIn_mono ?_ hW.1
        rintro a' w' ⟨hJ', hW'⟩
        have hJw := jl_of hrx hsz hJ'
        exact ⟨hJw, raj_of_wj hpl hs π2 f _ a' w' (by simpa using hsz) h4 (closed_set hc hrx) hJw (by omega) hW'⟩
      · refine wpOpIn_mono ?_ hW.2
        rintro a' w' ⟨hJ', hW'⟩
        have hJw := jl_of hrx hsz hJ'
        exact ⟨hJw, raj_of_wj hpl hs π3 f _ a' w' (by simpa using hsz) h5 (closed_set hc hrx) hJw (by omega) hW'⟩
  | cons p π ih =>
    obtain ⟨x, b⟩ := p
    intro fuel listed a w hsz hk hc hJ hf1 hf2 h
    cases b with
    | false => simp [chkF] at hk
    | true =>
      cases fuel with
      | zero => simp at hf1
      | succ f =>
        simp only [List.length_cons] at hf1 hf2
        simp only [chkF, Bool.and_eq_true] at hk
        obtain ⟨⟨⟨h1, h2⟩, h3⟩, h4⟩ := hk
        have hr : x ∈ Region.ready .any ops listed := by simpa using h1
        obtain ⟨o, v, ho, hy, hW⟩ := h
        exact first_mover hpl hs ho h2 (by simpa using h3) f listed a w hsz hc hr hy hJ (ih f _ _ w (by simpa using hsz) h4 (closed_set hc hr) (jl_set hJ) (by omega) (by omega) hW)
def regionOKF (ops : Array Oper) (z k : Nat) (π : List (Nat × Bool)) (i : Nat) (π2 : List (Nat × Bool)) (j : Nat) (π3 : List (Nat × Bool)) : Bool :=
  ops.all plainOp && sinkOK ops z k && chkF ops z i π2 j π3 π (Array.replicate ops.size false) && Nat.ble (π.length + 1 + π2.length) ops.size && Nat.ble (π.length + 1 + π3.length) ops.size
end fork
theorem c_drawF {r : Option Nat} {P : Program} {Q : Exit → Act → World → Prop} {N : Nat} {σ : Nat → Value} {ds : List Deferred} {w w0 : World} {id : Nat} {l : List Oper} (hw : Ex w0 w) (z k : Nat) (π : List (Nat × Bool)) (i : Nat) (π2 : List (Nat × Bool)) (j : Nat) (π3 : List (Nat × Bool)) (hm : P.follows .mixedOrders = true) (hok : regionOKF l.toArray z k π i π2 j π3 = true)
    (h : WJ r P l.toArray (Ex w0) z (ForkEnd r P l.toArray (Ex w0) z Q i π2 j π3) π (mk N σ ds) w.drew) : CW r P (.region id l.toArray true) Q (mk N σ ds) w := by
  simp only [regionOKF, Bool.and_eq_true] at hok
  obtain ⟨⟨⟨⟨h1, h2⟩, h3⟩, h4⟩, h5⟩ := hok
  refine wpIn_region_any hm (wpAny_of_RAJ _ _ _ _ (raj_of_wjF (J := Ex w0) (fun j o ho => ?_) h2 π _ _ _ _ (by simp) h3 ?_ (.inr (hw.trans (Ex.drew w))) (Nat.le_of_ble_eq_true h4) (Nat.le_of_ble_eq_true h5) h))
  · exact (Array.all_eq_true_iff_forall_mem.1 h1) o (Array.mem_of_getElem? ho)
  · intro k hk
    exfalso
    by_cases hlt : k < l.toArray.size
    · simp at hlt; simp [hlt] at hk
    · simp at hlt; simp [Nat.not_lt.2 hlt] at hk
theorem d_fork {r : Option Nat} {P : Program} {ops : Array Oper} {J : World → Prop} {Q : Exit → Act → World → Prop} {z : Nat} {N : Nat} {σ : Nat → Value} {ds : List Deferred} {w : World} {i j : Nat} {π2 π3 : List (Nat × Bool)}
    (h1 : WJ r P ops J z Q ((i, false) :: π2) (mk N σ ds) w) (h2 : WJ r P ops J z Q ((j, false) :: π3) (mk N σ ds) w) : WJ r P ops J z (ForkEnd r P ops J z Q i π2 j π3) [] (mk N σ ds) w := ⟨h1, h2⟩
end Go.Proofs.YtifbgpkjbciblaaGreatDoor.Sal
end
section
/- Core11: a range over a function, outermost, whose body does not leave it. -/
set_option maxRecDepth 100000
namespace Go.Proofs.YtifbgpkjbciblaaGreatDoor.Sal
set_option linter.all false
open Go.RowKit
theorem wp_n {r : Option Nat} {P : Program} {c : Code} {Q : Exit → Act → World → Prop} {a : Act} {w : World} (n m : Nat) (h : c.wpIn (FW r) n P Q a w) : c.wpIn (FW r) m P Q a w :=
  fun b k cs h1 h2 _ => h b k cs h1 h2 (room_wide _)
def updl : List (Nat × Value) → (Nat → Value) → Nat → Value
  | [], σ => σ
  | (d, v) :: l, σ => updl l (upd σ d v)
theorem fold_mk (N : Nat) : ∀ (l : List (Nat × Value)) (σ : Nat → Value) (ds : List Deferred), ({ tmps := l.foldl (fun t p => t.setIfInBounds p.1 p.2) (mk N σ ds).tmps, defers := [] } : Act) = mk N (updl l σ) []
  | [], σ, ds => rfl
  | (d, v) :: l, σ, ds => by
    have e : (mk N σ ds).tmps.setIfInBounds d v = (mk N (upd σ d v) ds).tmps := by
      have := put_mk N σ ds d v
      unfold Act.put at this
      exact congrArg Act.tmps this
    show ({ tmps := l.foldl (fun t p => t.setIfInBounds p.1 p.2) ((mk N σ ds).tmps.setIfInBounds d v), defers := [] } : Act) = mk N (updl l (upd σ d v)) []
    rw [e]
    exact fold_mk N l (upd σ d v) ds
theorem zip_mk (N : Nat) (ps : Array Tmp) (vs : Array Value) (σ : Nat → Value) (ds : List Deferred) : ({ tmps := (ps.zip vs).foldl (fun t (p, v) => t.setIfInBounds p v) (mk N σ ds).tmps, defers := [] } : Act) = mk N (updl (ps.toList.zip vs.toList) σ) [] := by
  rw [← fold_mk N (ps.toList.zip vs.toList) σ ds]
  congr 1
  rw [← Array.foldl_toList, Array.toList_zip]
abbrev mark (D : Nat) : Deferred := { target := .collected D, args := #[] }
theorem c_range {α : Type} {P : Program} {g : Operand} {ps : Array Tmp} {assign body : Code} {Q : Exit → Act → World → Prop} {N : Nat} {σ : Nat → Value} {ds : List Deferred} {w : World} {gf : Nat} {lb : List Value}
    (hg : ev N σ g = .func (.func gf) #[] lb.toArray) (eg : CallOK P gf)
    {encs : α → Array Value} {Kp : World → World → Prop} {S Sp : List α → Prop} {NN : Nat} {w0 : World} (hseq : SeqStopsK Fence.wide 0 P gf lb.toArray encs Kp S Sp NN w0)
    (hKt : ∀ {A B C : World}, Kp A B → Kp B C → Kp A C) (hKb : ∀ (W : World) (l : Nat) (o o' : Obj), w.heap.size ≤ l → W.heap[l]? = some o → o.isCells = false → o.isWalk = false → Kp W (W.putObj l o')) (hKr : ∀ W, Kp W W) (hb0 : Ex w0 w) (hps : ∀ x, (encs x).size = ps.size)
    (I : List α → World → Prop) (hI : OwnFrom w.heap.size I) (h0 : I [] w) (σ1 : α → (Nat → Value) → Nat → Value)
    (hassign : ∀ (l : Nat) (x : α) (W : World) (K : Act → World → Prop), K (mk N (σ1 x σ) []) W → CW (some l) P assign (Exit.then K (fun _ _ _ => False)) (mk N (updl (ps.toList.zip (encs x).toList) σ) []) W)
    (hbody : ∀ (l : Nat) (pre : List α) (x : α) (W : World), I pre W → pre.length < NN → CW (some l) P body (ownPostG w.heap.size Kp I (fun _ _ _ => False) (pre ++ [x]) W) (mk N (σ1 x σ) []) W)
    (hdone : ∀ (D : Nat) (xs : List α) (W : World), w.heap.size ≤ D → S xs → I xs W → W.heap[D]? = some (.deferred (some [])) → Q .normal (mk N σ (mark D :: ds)) W) :
    CW none P (.rangeFunc g ps assign body) Q (mk N σ ds) w := by
  refine wp_n 1 0 (wpIn_rangeFunc_ownG (F := FW none) (n := 1) (a := mk N σ ds) rfl (Nat.le_refl 1) (gf := gf) (lb := lb.toArray) (by rw [eval_mk]; exact hg) trivial eg hseq (fun h k => hKt h k) hKb hb0 hps I (fun _ _ _ => False) hI (fun _ _ _ _ _ hs _ _ => hs) h0 (fun x => mk N (σ1 x σ) []) ?_ ?_ ?_ ?_)
  · intro l x W K hK
    rw [zip_mk]
    exact hassign l x W K hK
  · intro l pre x W hi hl
    exact hbody l pre x W hi hl
  · intro D xs W hD hS hi hK
    exact hdone D xs W hD hS hi hK
  · intro D c pre W _ _ h _
    exact h.elim
theorem own_norm {α : Type} {B : Nat} {Kp : World → World → Prop} {I : List α → World → Prop} {Ix : Code → List α → World → Prop} {xs : List α} {W W' : World} {a : Act} (h1 : KeepsFrom B W W') (h2 : Kp W W') (h3 : I xs W') : ownPostG B Kp I Ix xs W .normal a W' := ⟨h1, h2, h3⟩
theorem cell_gr {W W' : World} {a : Addr} {v : Value} {b : Nat} (h : W.cell? a = some v) (hg : W.grownBy W' (some b)) (hne : a.block ≠ b) : W'.cell? a = some v :=
  (World.cell?_of_block (hg.block a.block (block_lt_of_cell h) (fun e => hne (by cases e; rfl)))).trans h
/-- A call of yield, within the iterator. -/
theorem s_yield {r : Option Nat} {P : Program} {ops : Array Oper} {Q : Exit → Act → World → Prop} {N : Nat} {σ : Nat → Value} {ds : List Deferred} {w : World} {rest : List Oper} {ty : TypeId} {pos : String} {after : Array Edge}
    {d : Nat} {x : Operand} {l : Nat} {xs : List Operand} {ats : Array TypeId} {vs : List Value} {R : Ending → World → Prop} (hv : ev N σ x = .func (.yield l) #[] #[]) (hargs : xs.map (ev N σ) = vs) (hY : YieldAt Fence.wide 0 P l vs.toArray w R)
    (h : ∀ e w', R e w' → ∃ v, e = .returned v ∧ WL r P ops Q rest (mk N (upd σ d v) ds) w') : WL r P ops Q (⟨some d, .call { callee := .value x, args := xs.toArray, argTypes := ats }, ty, pos, after, none⟩ :: rest) (mk N σ ds) w := by
  obtain ⟨fn, tmps, assign, body, hy, hR⟩ := hY
  refine wpListIn_plain rfl fun K hK => ?_
  refine ⟨fun f _ => trivial, ?_⟩
  have hrun : (execOp (ev N σ) ⟨some d, .call { callee := .value x, args := xs.toArray, argTypes := ats }, ty, pos, after, none⟩).run P w = .ok (.round l fn tmps assign body) w := by
    subst hargs
    simp [execOp, resolve, hv, Deferred.ofValue, invoke, go_sem]
    exact hy
  rw [Oper.semAt_plain (FW r) _ _ (by intro c e; cases e), eval_mk', hrun]
  simp only [Oper.uponIn_round]
  refine ⟨fun hd => by simp [Fence.wide] at hd, ?_⟩
  have hR' : RoundIn (FW r) (0 - 1) P l fn tmps assign body w R := hR
  refine RoundIn.mono hR' ?_
  intro e w' he
  obtain ⟨v, rfl, hW⟩ := h e w' he
  show K ((mk N σ ds).put (some d) v) w'
  rw [put_mk]
  exact hK _ _ hW
theorem Ct.callsIn {P : Program} {f : FuncId} {args : Array Value} {w : World} {R : Value → World → Prop} (h : Ct P f args w R) : CallsIn Fence.wide 0 P f args w (RE R) := h
/-- A function without results runs off its end. -/
theorem end0 {P : Program} {fn : Func} {w : World} {R : Value → World → Prop} {N : Nat} {σ : Nat → Value} (hres : fn.results = #[]) (hR : R (.tuple #[]) w) : Post P fn R .normal (mk N σ []) w := leave_nil (results_none hres _ P w) hR
/-! ### Returns behind such a loop -/
section rets
variable {P : Program} {fn : Func} {w : World} {R : Value → World → Prop} {N : Nat} {σ : Nat → Value}
theorem leave_mark {tmps : Array Value} {v : Value} {D : Nat} (hK : w.heap[D]? = some (.deferred (some []))) (hr : ∀ w', (results fn tmps).run P w' = .ok v w') (hR : R v (w.putObj D (.deferred none))) : LeavesInM (FW none) 0 P fn tmps (RE R) [mark D] .returning w :=
  ⟨by simp, .inl ⟨D, _, rfl, run_takeDeferred hK, leave_nil (hr _) hR⟩⟩
theorem ret2m {t u D : Nat} {v x : Value} (hres : fn.results = #[.tmp t, .tmp u]) (hv : ev N σ (.tmp t) = v) (hx : ev N σ (.tmp u) = x) (hK : w.heap[D]? = some (.deferred (some []))) (hR : R (.tuple #[v, x]) (w.putObj D (.deferred none))) : Post P fn R .ret (mk N σ [mark D]) w :=
  leave_mark hK (fun w' => by rw [results_tmp2 hres, getD_mk' hv, getD_mk' hx]) hR
end rets
/-- The turn of a block that is no cells leaves all lists as they were. -/
def KC (w w' : World) : Prop := (∀ (a : Addr) (v : Value), w.cell? a = some v → w'.cell? a = some v) ∧ ∀ (b : Nat) (o : Obj), w.heap[b]? = some o → o.isCells = true → w'.heap[b]? = some o
theorem KC.sl {w w' : World} {v : Value} {vs : List Value} (hk : KC w w') (h : Sl w v vs) : Sl w' v vs := by
  obtain ⟨hm, a, n, c, hv, hn, hnc, hc⟩ := h
  exact ⟨hm, a, n, c, hv, hn, hnc, fun i u hi => let ⟨ad, ha, hcell⟩ := hc i u hi; ⟨ad, ha, hk.1 _ _ hcell⟩⟩
theorem Rows.parts {w : World} {v : Value} {g : List (List Int)} (h : Rows w v g) : ∃ vs, Sl w v vs ∧ vs.length = g.length ∧ ∀ (i : Nat) (u : Value) (l : List Int), vs[i]? = some u → g[i]? = some l → Ints w u l := h
theorem Ints.parts {w : World} {v : Value} {l : List Int} (h : Ints w v l) : (l.map (Value.int .i64)).length ≤ 140737488355328 ∧ ∃ a n c, v = .slice a n c ∧ (l.map (Value.int .i64)).length = n ∧ n ≤ c ∧ ∀ (i : Nat) (u : Value), (l.map (Value.int .i64))[i]? = some u → ∃ ad, a = some ad ∧ w.cell? (ad.add i) = some u := h
theorem Ints.of_parts {w : World} {a : Option Addr} {l : List Int} (hm : (l.map (Value.int .i64)).length ≤ 140737488355328) (hn : (l.map (Value.int .i64)).length = l.length) (hc : ∀ (i : Nat) (u : Value), (l.map (Value.int .i64))[i]? = some u → ∃ ad, a = some ad ∧ w.cell? (ad.add i) = some u) : Ints w (.slice a l.length l.length) l := ⟨hm, a, l.length, l.length, rfl, hn, Nat.le_refl _, hc⟩
theorem KC.ints {w w' : World} {v : Value} {l : List Int} (hk : KC w w') (h : Ints w v l) : Ints w' v l := KC.sl hk h
theorem KC.rows {w w' : World} {v : Value} {g : List (List Int)} (hk : KC w w') (h : Rows w v g) : Rows w' v g := by
  obtain ⟨vs, hs, hl, hr⟩ := h
  exact ⟨vs, hk.sl hs, hl, fun i u l hi hg => hk.ints (hr i u l hi hg)⟩
theorem KC.turn {w w' : World} {row : Option Nat} (hg : w.grownBy w' row) (hrow : ∀ r, row = some r → ∃ o : Obj, w.heap[r]? = some o ∧ o.isCells = false) : KC w w' :=
  ⟨fun a v h => cell_kept h hg hrow, fun b o ho hc => by
    have hl := (Array.getElem?_eq_some_iff.1 ho).1
    refine (hg.block b hl fun e => ?_).trans ho
    obtain ⟨o2, h2, h3⟩ := hrow b e.symm
    rw [ho] at h2
    cases h2
    rw [hc] at h3; cases h3⟩
theorem KC.put {W : World} {l : Nat} {o o' : Obj} (h : W.heap[l]? = some o) (hc : o.isCells = false) : KC W (W.putObj l o') := KC.turn (grownBy_putObj' W l o') (fun r e => by cases e; exact ⟨o, h, hc⟩)
theorem KC.ex {w w' : World} (h : Ex w w') : KC w w' := ⟨fun a v hc => h.cell hc, fun b o ho _ => (h.block b (Array.getElem?_eq_some_iff.1 ho).1).trans ho⟩
theorem KC.trans {a b c : World} (h : KC a b) (k : KC b c) : KC a c := ⟨fun x v hc => k.1 x v (h.1 x v hc), fun x o ho hc => k.2 x o (h.2 x o ho hc) hc⟩
theorem KC.at {w w' : World} {b : Nat} {E : TypeId} {cs : List Value} (hk : KC w w') (h : At w b E cs) : At w' b E cs := hk.2 b _ h rfl
end Go.Proofs.YtifbgpkjbciblaaGreatDoor.Sal
end
section
/- Core13: slices with three indexes, elements of arrays as values, marks. -/
set_option maxRecDepth 100000
namespace Go.Proofs.YtifbgpkjbciblaaGreatDoor.Sal
set_option linter.all false
open Go.RowKit
section
variable {r : Option Nat} {P : Program} {ops : Array Oper} {Q : Exit → Act → World → Prop} {N : Nat} {σ : Nat → Value} {ds : List Deferred} {w : World} {rest : List Oper}
variable {d : Nat} {ty : TypeId} {pos : String} {after : Array Edge} {T E : TypeId} {x i y z : Operand}
theorem run_slice3 {a : Option Addr} {n c : Nat} (hT : SlT P T E) (hE : Ty1 P E) (h : n ≤ c) : (Instr.sliceAt T (.slice a n c) none (some (.int .i64 (n : Int))) (some (.int .i64 (n : Int)))).run P w = .ok (.slice a n n) w := by
  have hT' : P.underlying T = some (.slice E) := hT
  have b1 : ∀ (x y : Nat) (code : BoundsCode), x ≤ y → (Instr.sliceBound (.int .i64 (x : Int)) y code).run P w = .ok x w := fun x y code hxy => by
    simp [Instr.sliceBound, asIntOf, go_sem]; omega
  have bds : (Instr.sliceBounds true n c none (some (.int .i64 (n : Int))) (some (.int .i64 (n : Int)))).run P w = .ok (0, n, n) w := by
    simp [Instr.sliceBounds, Sem.run_bind, b1 _ _ _ h, b1 _ _ _ (Nat.le_refl n), Result.andThen]
  cases a with
  | none => simp [Instr.sliceAt, Instr.slice, run_underlying hT', bds, run_sizeOf1 hE, Sem.run_bind]
  | some a => simp [Instr.sliceAt, Instr.slice, run_underlying hT', bds, run_sizeOf1 hE, Sem.run_bind, Addr.add_zero']
theorem s_clip {a : Option Addr} {n c : Nat} (hT : SlT P T E) (hE : Ty1 P E) (hx : ev N σ x = .slice a n c) (hy : ev N σ y = .int .i64 (n : Int)) (hz : ev N σ z = .int .i64 (n : Int)) (h : n ≤ c)
    (hK : WL r P ops Q rest (mk N (upd σ d (.slice a n n)) ds) w) : WL r P ops Q (⟨some d, .slice T x none (some y) (some z), ty, pos, after, none⟩ :: rest) (mk N σ ds) w := by
  refine l_val (v := .slice a n n) (by intro c e; cases e) ?_ hK
  have := run_slice3 (P := P) (w := w) (a := a) hT hE h
  simp [execOp, hx, hy, hz, this]
theorem s_idxV {cs : List Value} {L n : Nat} {k : IntKind} {u : Value} (hT : P.underlying T = some (.array L E)) (hE : Ty1 P E) (hx : ev N σ x = .agg cs.toArray) (hi : ev N σ i = .int k (n : Int)) (hn : n < L) (hu : cs[n]? = some u)
    (hK : WL r P ops Q rest (mk N (upd σ d u) ds) w) : WL r P ops Q (⟨some d, .index T x i, ty, pos, after, none⟩ :: rest) (mk N σ ds) w := by
  refine l_val (v := u) (by intro c e; cases e) ?_ hK
  have hA := run_isAgg1 (P := P) hE w
  obtain ⟨⟨ti, h1, h2⟩, _⟩ := hE
  simp [execOp, hx, hi, Instr.index, asIntOf, run_underlying hT, hn, Sem.run_bind, sizeOf, typeInfo, h1, h2, go_sem, part, hu, hA]
end
/-- A region whose order Go leaves open, walked with what is known all through it. -/
theorem c_drawJ {r : Option Nat} {P : Program} {Q : Exit → Act → World → Prop} {N : Nat} {σ : Nat → Value} {ds : List Deferred} {w : World} {id : Nat} {l : List Oper} (J : World → Prop) (hJ : J w.drew) (z k : Nat) (π : List (Nat × Bool)) (hm : P.follows .mixedOrders = true) (hok : regionOK l.toArray z k π = true)
    (h : WJ r P l.toArray J z Q π (mk N σ ds) w.drew) : CW r P (.region id l.toArray true) Q (mk N σ ds) w := by
  simp only [regionOK, Bool.and_eq_true] at hok
  obtain ⟨⟨⟨h1, h2⟩, h3⟩, h4⟩ := hok
  refine wpIn_region_any hm (wpAny_of_RAJ _ _ _ _ (raj_of_wj (J := J) (fun j o ho => ?_) h2 π _ _ _ _ (by simp) h3 ?_ (.inr hJ) (Nat.le_of_ble_eq_true h4) h))
  · exact (Array.all_eq_true_iff_forall_mem.1 h1) o (Array.mem_of_getElem? ho)
  · intro k hk
    exfalso
    by_cases hlt : k < l.toArray.size
    · simp at hlt; simp [hlt] at hk
    · simp at hlt; simp [Nat.not_lt.2 hlt] at hk
theorem d_ldJ {r : Option Nat} {P : Program} {J : World → Prop} {z : Nat} {Q : Exit → Act → World → Prop} {N : Nat} {σ : Nat → Value} {ds : List Deferred} {w : World} {gd : Option (Nat × Bool)} {ops : Array Oper} {i d : Nat} {π : List (Nat × Bool)} {ty : TypeId} {pos : String} {after : Array Edge}
    {E B : TypeId} {x : Operand} {b n : Nat} {cs : List Value} {u : Value} (hop : ops[i]? = some ⟨some d, .load E x, ty, pos, after, gd⟩) (hE : Ty1 P E) (hx : ev N σ x = .pointer (some ⟨b, n, none⟩)) (hA : ∀ w', J w' → At w' b B cs) (hc : cs[n]? = some u)
    (h : WJ r P ops J z Q π (mk N (upd σ d u) ds) w) (hgd : GOK ops (ev N σ) gd := by first | exact trivial | exact ⟨_, rfl, rfl⟩) : WJ r P ops J z Q ((i, true) :: π) (mk N σ ds) w :=
  d_val hop (fun w' hw => by simp [execOp, hx, Instr.loadAt, Instr.sureAddr, run_loadVar1 hE (show w'.cell? ⟨b, n, none⟩ = some u by rw [(hA w' hw).cell]; exact hc)]) h hgd
/-- The mark of a loop over a function lies as it lay. -/
theorem mark_ex {w w' : World} {D : Nat} (h : w.heap[D]? = some (.deferred (some []))) (hx : Ex w w') : w'.heap[D]? = some (.deferred (some [])) :=
  (hx.block D (Array.getElem?_eq_some_iff.1 h).1).trans h
theorem mark_gr {w w' : World} {D b : Nat} {E : TypeId} {cs : List Value} (h : w.heap[D]? = some (.deferred (some []))) (hA : At w b E cs) (hg : w.grownBy w' (some b)) : w'.heap[D]? = some (.deferred (some [])) := by
  refine (hg.block D (Array.getElem?_eq_some_iff.1 h).1 (fun e => ?_)).trans h
  cases e
  unfold At at hA
  rw [h] at hA; cases hA
/-- The end of the marks: whatever is cells reads as it did. -/
theorem mark_kc {w : World} {D : Nat} (h : w.heap[D]? = some (.deferred (some []))) : KC w (w.putObj D (.deferred none)) := KC.put h rfl
theorem mark_out {w0 w : World} {D : Nat} (hx : Ex w0 w) (hD : w0.heap.size ≤ D) : Ex w0 (w.putObj D (.deferred none)) := hx.storeo (grownBy_putObj' w D _) (fun b e => by cases e; exact hD)
theorem KeepsFrom.ex {B : Nat} {w w' : World} (h : Ex w w') : KeepsFrom B w w' := KeepsFrom.of_grownBy h.grown (fun j e => by cases e)
theorem At.own {β : Type} {b : Nat} {E : TypeId} (f : β → List Value) : Own (fun (s : β) W => At W b E (f s)) := by
  intro s W W' row hs hg hr
  refine hs.grown hg (fun e => ?_)
  obtain ⟨o, ho, hc⟩ := hr b e
  unfold At at hs
  rw [ho] at hs; cases hs; cases hc
theorem Rw.own {β : Type} {E : TypeId} {v : Value} {vs : List Value} : Own (fun (_ : β) W => Rw W E v vs) := by
  intro s W W' row hs hg hr
  refine hs.kept hg ?_
  rcases hs.form with ⟨rfl, _⟩ | ⟨b, cap, sp, rfl, hA, _⟩
  · exact .inl rfl
  · refine .inr (fun e => ?_)
    obtain ⟨o, ho, hc⟩ := hr b e.symm
    unfold At at hA
    rw [ho] at hA; cases hA; cases hc
/-- Lists that are built side by side, their values in one block. -/
structure MBv (W : World) (T E : TypeId) (bo base n : Nat) (f : Nat → List Int) (vs : Nat → Value) : Prop where
  at' : At W bo T ((List.range n).map vs)
  rw' : ∀ k, k < n → Rw W E (vs k) ((f k).map (Value.int .i64))
  low : ∀ k, k < n → ∀ b, (vs k).ownBlock = some b → base ≤ b
  dis : ∀ k j, k < n → j < n → k ≠ j → ∀ b, (vs k).ownBlock = some b → (vs j).ownBlock ≠ some b
def fs {α : Type} (f : Nat → α) (k : Nat) (x : α) : Nat → α := fun j => if j = k then x else f j
theorem map_fs {α : Type} (f : Nat → α) {n k : Nat} (x : α) (hk : k < n) : ((List.range n).map f).set k x = (List.range n).map (fs f k x) := by
  apply List.ext_getElem?
  intro i
  rw [List.getElem?_set]
  simp only [List.length_map, List.length_range]
  by_cases hi : k = i
  · subst hi; simp [hk, fs]
  · have : ¬ i = k := fun e => hi e.symm
    simp only [if_neg hi]
    by_cases h8 : i < n <;> simp [h8, this, fs]
theorem MBv.put {W W1 W2 W3 : World} {T E : TypeId} {bo base n k : Nat} {f : Nat → List Int} {vs : Nat → Value} {l : List Int} {v' : Value} (h : MBv W T E bo base n f vs) (hk : k < n) (hx : Ex W W1) (hR : Rw W2 E v' (l.map (Value.int .i64))) (hg : W1.grownBy W2 (vs k).ownBlock)
    (hf : v'.ownBlock = (vs k).ownBlock ∨ ∀ b, v'.ownBlock = some b → W1.heap.size ≤ b) (hA : At W3 bo T (((List.range n).map vs).set k v')) (hg3 : W2.grownBy W3 (some bo)) (hbase : base ≤ W.heap.size) (hbo : bo < base) : MBv W3 T E bo base n (fs f k l) (fs vs k v') := by
  have hv' : ∀ b, v'.ownBlock = some b → base ≤ b := fun b hb => by
    rcases hf with he | hf
    · exact h.low k hk b (he ▸ hb)
    · have := hf b hb; have := hx.size; omega
  have hlt : ∀ j, j < n → ∀ b, (vs j).ownBlock = some b → b < W1.heap.size := fun j hj b hb => by
    have := (h.rw' j hj).lt b hb; have := hx.size; omega
  refine ⟨by rw [← map_fs _ _ hk]; exact hA, fun j hj => ?_, fun j hj b hb => ?_, fun i j hi hj hij b hb => ?_⟩
  · by_cases e : j = k
    · subst e
      simp only [fs, if_true]
      refine hR.kept hg3 ?_
      cases hb : v'.ownBlock with
      | none => exact .inl rfl
      | some b => exact .inr (fun e => by have e' := Option.some.inj e; have := hv' b hb; omega)
    · simp only [fs, if_neg e]
      have hne : (vs j).ownBlock = none ∨ (vs j).ownBlock ≠ (vs k).ownBlock := by
        cases hb : (vs j).ownBlock with
        | none => exact .inl rfl
        | some b => exact .inr (fun e2 => h.dis j k hj hk e b hb e2.symm)
      have h1 := ((h.rw' j hj).ex hx).kept hg hne
      refine h1.kept hg3 ?_
      cases hb : (vs j).ownBlock with
      | none => exact .inl rfl
      | some b => exact .inr (fun e => by have e' := Option.some.inj e; have := h.low j hj b hb; omega)
  · by_cases e : j = k
    · subst e
      simp only [fs, if_true] at hb
      exact hv' b hb
    · simp only [fs, if_neg e] at hb
      exact h.low j hj b hb
  · by_cases e : i = k
    · subst e
      have e2 : ¬ j = i := fun e2 => hij e2.symm
      simp only [fs, if_true] at hb
      simp only [fs, if_neg e2]
      rcases hf with he | hf
      · exact h.dis i j hi hj hij b (he ▸ hb)
      · intro hb2
        have := hf b hb; have := hlt j hj b hb2; omega
    · simp only [fs, if_neg e] at hb
      by_cases e2 : j = k
      · subst e2
        simp only [fs, if_true]
        rcases hf with he | hf
        · rw [he]; exact h.dis i j hi hj hij b hb
        · intro hb2
          have := hf b hb2; have := hlt i hi b hb; omega
      · simp only [fs, if_neg e2]
        exact h.dis i j hi hj hij b hb
theorem MBv.own {β : Type} {T E : TypeId} {bo base n : Nat} (f : β → Nat → List Int) : Own (fun (s : β) W => ∃ vs, MBv W T E bo base n (f s) vs) := by
  intro s W W' row hs hg hr
  obtain ⟨vs, h⟩ := hs
  exact ⟨vs, At.own (fun _ : Unit => (List.range n).map vs) () W W' row h.at' hg hr, fun k hk => Rw.own () W W' row (h.rw' k hk) hg hr, h.low, h.dis⟩
theorem MBv.nil {W : World} {T E : TypeId} {bo base n : Nat} (hA : At W bo T (List.replicate n (.slice none 0 0))) : MBv W T E bo base n (fun _ => []) (fun _ => .slice none 0 0) := by
  refine ⟨?_, fun k _ => Rw.nil W E, fun k _ b h => (by cases h), fun k j _ _ _ b h => (by cases h)⟩
  have e : (List.range n).map (fun _ => Value.slice none 0 0) = List.replicate n (.slice none 0 0) := by
    apply List.ext_getElem
    · simp
    · intro i h1 h2; simp
  rw [e]; exact hA
end Go.Proofs.YtifbgpkjbciblaaGreatDoor.Sal
end
section
/- The types of this translation, and the functions' numbers. -/
set_option maxRecDepth 100000
namespace Go.Proofs.YtifbgpkjbciblaaGreatDoor.Sal
set_option linter.all false
open Go.RowKit
theorem inf_int : (Tryz.prog.info? 3).map (fun i => (i.zero, i.size, i.bytes)) = some (some (.int .i64 0), 1, 8) := by kernel_rfl
theorem inf_ints : (Tryz.prog.info? 25).map (fun i => (i.zero, i.size, i.bytes)) = some (some (.slice none 0 0), 1, 24) := by kernel_rfl
theorem ty_int : Ty1 Tryz.prog 3 := ⟨let ⟨i, h, _, hs, _⟩ := info_parts inf_int; ⟨i, h, hs⟩, _, Tryz.underlying3, rfl⟩
theorem ty_ints : Ty1 Tryz.prog 25 := ⟨let ⟨i, h, _, hs, _⟩ := info_parts inf_ints; ⟨i, h, hs⟩, _, Tryz.underlying25, rfl⟩
theorem in_int : InfoOf Tryz.prog 3 (.int .i64 0) := ⟨let ⟨i, h, hz, hs, hb⟩ := info_parts inf_int; ⟨i, h, hz, hs, by omega⟩, rfl⟩
theorem in_ints : InfoOf Tryz.prog 25 (.slice none 0 0) := ⟨let ⟨i, h, hz, hs, hb⟩ := info_parts inf_ints; ⟨i, h, hz, hs, by omega⟩, rfl⟩
theorem sl_ints : SlT Tryz.prog 25 3 := Tryz.underlying25
theorem sl_rows : SlT Tryz.prog 22 25 := Tryz.underlying22
theorem mixed : Tryz.prog.follows .mixedOrders = true := by kernel_rfl
end Go.Proofs.YtifbgpkjbciblaaGreatDoor.Sal
end
