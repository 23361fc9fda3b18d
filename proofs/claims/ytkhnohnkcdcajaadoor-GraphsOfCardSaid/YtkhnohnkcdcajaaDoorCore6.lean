/- Core6: a region whose order Go leaves open: what only reads may be taken as soon as it can be; the rest in its one order. -/
import Derived.Test.YtkhnohnkcdcajaaDoorCore5
set_option maxRecDepth 100000
namespace Go.Proofs.YtkhnohnkcdcajaaDoor.Sal
set_option linter.all false
open Go.RowKit

section draw
variable {r : Option Nat} {P : Program} {ops : Array Oper} {J : World → Prop} {Q : Exit → Act → World → Prop} {z : Nat}

def plainOp (o : Oper) : Bool := match o.op with | .defer _ | .select _ _ => false | _ => true
def YS (P : Program) (ops : Array Oper) (J : World → Prop) (o : Oper) (v : Value) (a : Act) : Prop :=
  (Region.wanted o (yielded ops a.tmps) = true ∧ ∀ w', J w' → (execOp a.eval o).run P w' = .ok (.value v) w') ∨ (Region.wanted o (yielded ops a.tmps) = false ∧ v = undef)
/-- Only normal ends. -/
def OnlyN (Q : Exit → Act → World → Prop) : Exit → Act → World → Prop
  | .normal, a, w => Q .normal a w
  | _, _, _ => False
def RAJ (r : Option Nat) (P : Program) (ops : Array Oper) (J : World → Prop) (z : Nat) (Q : Exit → Act → World → Prop) : Nat → Array Bool → Act → World → Prop
  | 0, listed, a, w => Region.ready .any ops listed = [] ∧ Q .normal a w
  | fuel + 1, listed, a, w => (Region.ready .any ops listed = [] → Q .normal a w) ∧
      ∀ i ∈ Region.ready .any ops listed, wpOpIn (FW r) 0 P ops (OnlyN Q) i (fun a' w' => (i = z ∨ J w') ∧ RAJ r P ops J z Q fuel (listed.setIfInBounds i true) a' w') a w
def WJ (r : Option Nat) (P : Program) (ops : Array Oper) (J : World → Prop) (z : Nat) (Q : Exit → Act → World → Prop) : List (Nat × Bool) → Act → World → Prop
  | [], a, w => Q .normal a w
  | (i, true) :: π, a, w => ∃ o v, ops[i]? = some o ∧ YS P ops J o v a ∧ WJ r P ops J z Q π (a.put o.dst v) w
  | (i, false) :: π, a, w => wpOpIn (FW r) 0 P ops (OnlyN Q) i (fun a' w' => (i = z ∨ J w') ∧ WJ r P ops J z Q π a' w') a w

theorem onlyN_mono {Q : Exit → Act → World → Prop} : ∀ e a w, OnlyN Q e a w → Q e a w
  | .normal, _, _, h => h
theorem wpOpIn_monoQ {Q' : Exit → Act → World → Prop} {i : Nat} {K : Act → World → Prop} {a : Act} {w : World} (hq : ∀ e a w, Q e a w → Q' e a w) (h : wpOpIn (FW r) 0 P ops Q i K a w) : wpOpIn (FW r) 0 P ops Q' i K a w := by
  unfold wpOpIn at *
  split
  · rename_i hn; rw [hn] at h; exact h
  · rename_i o ho
    rw [ho] at h
    simp only at h
    split
    · rename_i hw
      simp only [hw, if_true] at h
      unfold Oper.wpIn at *
      refine ⟨h.1, ?_⟩
      have h2 := h.2
      generalize (o.semAt (FW r).round a.eval).run P w = res at *
      cases res with
      | ok x w' =>
        cases x <;> simp only [Oper.uponIn] at h2 ⊢ <;> first
          | exact h2
          | exact ⟨h2.1, CallsIn.mono h2.2 (fun e w'' he => by cases e <;> first | exact he | exact hq _ _ _ he | exact (let ⟨a, w, hh⟩ := he; ⟨a, w, hq _ _ _ hh⟩))⟩
          | exact ⟨h2.1, RoundIn.mono h2.2 (fun e w'' he => by cases e <;> first | exact he | exact hq _ _ _ he | exact (let ⟨a, w, hh⟩ := he; ⟨a, w, hq _ _ _ hh⟩))⟩
      | halt x w' => cases x <;> simp only [Oper.uponIn] at h2 ⊢ <;> first | exact h2 | exact hq _ _ _ h2
    · rename_i hw; simp only [hw] at h; exact h

theorem wpAny_of_RAJ : ∀ (fuel : Nat) (listed : Array Bool) (a : Act) (w : World), RAJ r P ops J z Q fuel listed a w → wpAnyIn (FW r) 0 P .any ops Q fuel listed a w
  | 0, _, _, _, h => h
  | fuel + 1, listed, a, w, h => ⟨h.1, fun i hi => wpOpIn_mono (fun a' w' hh => wpAny_of_RAJ fuel _ a' w' hh.2) (wpOpIn_monoQ onlyN_mono (h.2 i hi))⟩

theorem ys_put {oi oj : Oper} {v u : Value} {a : Act} (hsel : ∀ cs b, oi.op ≠ .select cs b) (h3 : ∀ d, oj.dst = some d → d ∉ oi.looksAt ops) (h : YS P ops J oi v a) : YS P ops J oi v (a.put oj.dst u) := by
  unfold YS at *
  rw [wanted_put oi a oj.dst u h3, execOp_put oi hsel a oj.dst u h3]
  exact h
theorem put_swap {j : Nat} {oi oj : Oper} {v : Value} (hj : ops[j]? = some oj) (hap : oi.apart ops oj = true) (hpi : plainOp oi = true) (hpj : plainOp oj = true) {K : Act → World → Prop} {a : Act} {w : World}
    (hy : YS P ops J oi v a) (h : wpOpIn (FW r) 0 P ops (OnlyN Q) j K (a.put oi.dst v) w) :
    wpOpIn (FW r) 0 P ops (OnlyN Q) j (fun a' w' => YS P ops J oi v a' ∧ K (a'.put oi.dst v) w') a w := by
  obtain ⟨h1, h2, h3⟩ := Oper.apart_spec hap
  have hsi : ∀ cs b, oi.op ≠ .select cs b := fun cs b e => by simp [plainOp, e] at hpi
  have hsj : ∀ cs b, oj.op ≠ .select cs b := fun cs b e => by simp [plainOp, e] at hpj
  have hdj : ∀ c, oj.op ≠ .defer c := fun c e => by simp [plainOp, e] at hpj
  unfold wpOpIn at *
  simp only [hj] at *
  rw [wanted_put oj a oi.dst v h1, about_put oj w a oi.dst v h1] at h
  split
  · rename_i hw
    simp only [hw, if_true] at h
    unfold Oper.wpIn at *
    refine ⟨fun _ _ => trivial, ?_⟩
    have h := h.2
    rw [Oper.semAt_plain (FW r) _ _ hdj, execOp_put oj hsj a oi.dst v h1] at h
    rw [Oper.semAt_plain (FW r) _ _ hdj]
    generalize hr : (execOp a.eval oj).run P w = res at *
    cases res with
    | ok x w' =>
      cases x <;> simp only [Oper.uponIn] at h ⊢
      case value u => exact ⟨ys_put hsi h3 hy, by rw [← Act.put_comm a v u h2]; exact h⟩
      case skip => exact ⟨ys_put hsi h3 hy, by rw [← Act.put_comm a v undef h2]; exact h⟩
      case defer d =>
        have hy' : YS P ops J oi v ({ a with defers := d :: a.defers } : Act) := hy
        refine ⟨ys_put hsi h3 hy', ?_⟩
        rw [← Act.put_comm _ v undef h2, ← Act.put_defers]
        exact h
      case enter f args =>
        refine ⟨h.1, CallsIn.mono h.2 fun e w'' he => ?_⟩
        cases e with
        | returned u => exact ⟨ys_put hsi h3 hy, by rw [← Act.put_comm a v u h2]; exact he⟩
        | panicked c => exact he.elim
        | outgrown => exact he
      case row row args => exact ⟨h.1, RowsIn.mono h.2 fun u w'' he => ⟨ys_put hsi h3 hy, by rw [← Act.put_comm a v u h2]; exact he⟩⟩
      case round l f tmps assign body =>
        refine ⟨h.1, RoundIn.mono h.2 fun e w'' he => ?_⟩
        cases e with
        | returned u => exact ⟨ys_put hsi h3 hy, by rw [← Act.put_comm a v u h2]; exact he⟩
        | panicked c => exact he.elim
        | outgrown => exact he
    | halt x w' =>
      cases x <;> simp only [Oper.uponIn] at h ⊢
      case panic u => exact h.elim
  · rename_i hw
    simp only [hw] at h
    exact ⟨fun _ _ => trivial, ys_put hsi h3 hy, by rw [← Act.put_comm a v undef h2]; exact h.2⟩

/-! What must wait for what, told by a bool over the region's text. -/
def deps (ops : Array Oper) (i : Nat) : List Nat := match ops[i]? with | some o => (o.after.toList.filter (Region.binds .any ·)).map (·.on) | none => []
def reach (ops : Array Oper) (z : Nat) : Nat → List Nat
  | 0 => deps ops z
  | k + 1 => reach ops z k ++ (reach ops z k).flatMap (deps ops)
def Closed (ops : Array Oper) (listed : Array Bool) : Prop := ∀ k, listed.getD k false = true → ∀ e ∈ deps ops k, listed.getD e false = true
theorem reach_listed {listed : Array Bool} (hc : Closed ops listed) (hz : ∀ e ∈ deps ops z, listed.getD e false = true) : ∀ k, ∀ x ∈ reach ops z k, listed.getD x false = true
  | 0, x, hx => hz x hx
  | k + 1, x, hx => by
    rcases List.mem_append.1 hx with h | h
    · exact reach_listed hc hz k x h
    · obtain ⟨y, hy, hxy⟩ := List.mem_flatMap.1 h
      exact hc y (reach_listed hc hz k y hy) x hxy
def sinkOK (ops : Array Oper) (z k : Nat) : Bool := Nat.ble ops.size z || (List.range ops.size).all fun j => j == z || (reach ops z k).contains j
def apartOK (ops : Array Oper) (i : Nat) : Bool := match ops[i]? with
  | some oi => (List.range ops.size).all fun j => j == i || (deps ops j).contains i || (deps ops i).contains j || match ops[j]? with | some oj => oi.apart ops oj | none => true
  | none => false
def chk (ops : Array Oper) (z : Nat) : List (Nat × Bool) → Array Bool → Bool
  | [], listed => (Region.ready .any ops listed).isEmpty
  | (i, true) :: π, listed => (Region.ready .any ops listed).contains i && apartOK ops i && !(i == z) && chk ops z π (listed.setIfInBounds i true)
  | (i, false) :: π, listed => (Region.ready .any ops listed == [i]) && (!(i == z) || π.isEmpty) && chk ops z π (listed.setIfInBounds i true)
def regionOK (ops : Array Oper) (z k : Nat) (π : List (Nat × Bool)) : Bool :=
  ops.all plainOp && sinkOK ops z k && chk ops z π (Array.replicate ops.size false) && Nat.ble π.length ops.size

theorem deps_inv {i x : Nat} {o : Oper} (ho : ops[i]? = some o) (hx : x ∈ deps ops i) : ∃ e ∈ o.after, Region.binds .any e = true ∧ e.on = x := by
  unfold deps at hx; rw [ho] at hx
  obtain ⟨e, he, rfl⟩ := List.mem_map.1 hx
  obtain ⟨h1, h2⟩ := List.mem_filter.1 he
  exact ⟨e, by simpa using h1, h2, rfl⟩
theorem ready_deps {i : Nat} {listed : Array Bool} (h : i ∈ Region.ready .any ops listed) : ∀ e ∈ deps ops i, listed.getD e false = true := by
  obtain ⟨_, o, ho, hall⟩ := mem_ready.1 h
  intro x hx
  obtain ⟨e, he, hb, rfl⟩ := deps_inv ho hx
  exact hall e he hb
theorem closed_set {i : Nat} {listed : Array Bool} (hc : Closed ops listed) (h : i ∈ Region.ready .any ops listed) : Closed ops (listed.setIfInBounds i true) := by
  intro k hk e he
  by_cases hki : k = i
  · subst hki; exact getD_set_true (ready_deps h e he)
  · rw [getD_set_ne false (Ne.symm hki)] at hk
    exact getD_set_true (hc k hk e he)
theorem unlisted {i : Nat} {listed : Array Bool} (h : i ∈ Region.ready .any ops listed) : listed.getD i false = false := by
  obtain ⟨h0, _⟩ := mem_ready.1 h
  cases hb : listed.getD i false with
  | false => rfl
  | true =>
    have hlt : i < listed.size := by
      rcases Nat.lt_or_ge i listed.size with h' | h'
      · exact h'
      · simp [Array.getElem?_eq_none h'] at hb
    simp [hlt] at h0 hb
    rw [h0] at hb; cases hb
theorem sink_all {k i : Nat} {listed : Array Bool} (hs : sinkOK ops z k = true) (hc : Closed ops listed) (hz : z ∈ Region.ready .any ops listed) (hi : i < ops.size) (hne : i ≠ z) : listed.getD i false = true := by
  unfold sinkOK at hs
  rcases Bool.or_eq_true_iff.1 hs with h | h
  · exfalso
    obtain ⟨_, o, ho, _⟩ := mem_ready.1 hz
    have := (Array.getElem?_eq_some_iff.1 ho).1
    have := Nat.le_of_ble_eq_true h
    omega
  · have := List.all_eq_true.1 h i (List.mem_range.2 hi)
    rcases Bool.or_eq_true_iff.1 this with h1 | h1
    · exact absurd (by simpa using h1) hne
    · exact reach_listed hc (ready_deps hz) k i (by simpa using h1)
theorem ys_exec {i : Nat} {o : Oper} {v : Value} {a : Act} {w : World} {K : Act → World → Prop} (hi : ops[i]? = some o) (hp : plainOp o = true) (hy : YS P ops J o v a) (hJ : J w) (hK : K (a.put o.dst v) w) : wpOpIn (FW r) 0 P ops (OnlyN Q) i K a w := by
  have hd : ∀ c, o.op ≠ .defer c := fun c e => by simp [plainOp, e] at hp
  unfold wpOpIn
  simp only [hi]
  rcases hy with ⟨hw, hv⟩ | ⟨hw, rfl⟩
  · simp only [hw, if_true, Oper.wpIn]
    refine ⟨fun _ _ => trivial, ?_⟩
    rw [Oper.semAt_plain (FW r) _ _ hd, hv w hJ]
    exact hK
  · simp only [hw, Bool.false_eq_true, if_false]
    exact ⟨fun _ _ => trivial, hK⟩
theorem first_mover {k i : Nat} {oi : Oper} {v : Value} (hpl : ∀ (j : Nat) (o : Oper), ops[j]? = some o → plainOp o = true) (hs : sinkOK ops z k = true) (hi : ops[i]? = some oi) (hap : apartOK ops i = true) (hz : i ≠ z) :
    ∀ (fuel : Nat) (listed : Array Bool) (a : Act) (w : World), Closed ops listed → i ∈ Region.ready .any ops listed → YS P ops J oi v a → J w →
      RAJ r P ops J z Q fuel (listed.setIfInBounds i true) (a.put oi.dst v) w → RAJ r P ops J z Q (fuel + 1) listed a w := by
  intro fuel
  induction fuel with
  | zero =>
    intro listed a w hc hr hy hJ H
    refine ⟨fun h => (by rw [h] at hr; cases hr), fun j hj => ?_⟩
    by_cases hji : j = i
    · subst hji
      exact ys_exec hi (hpl _ _ hi) hy hJ ⟨.inr hJ, H⟩
    · have := ready_mono hj hji
      rw [H.1] at this; cases this
  | succ f ih =>
    intro listed a w hc hr hy hJ H
    refine ⟨fun h => (by rw [h] at hr; cases hr), fun j hj => ?_⟩
    by_cases hji : j = i
    · subst hji
      exact ys_exec hi (hpl _ _ hi) hy hJ ⟨.inr hJ, H⟩
    · have h1 := H.2 j (ready_mono hj hji)
      obtain ⟨_, oj, hoj, _⟩ := mem_ready.1 hj
      have hjlt : j < ops.size := (Array.getElem?_eq_some_iff.1 hoj).1
      have hilt : i < ops.size := (Array.getElem?_eq_some_iff.1 hi).1
      have hapj : oi.apart ops oj = true := by
        unfold apartOK at hap
        rw [hi] at hap
        have h2 := List.all_eq_true.1 hap j (List.mem_range.2 hjlt)
        simp only [hoj, Bool.or_eq_true] at h2
        rcases h2 with ((h2 | h2) | h2) | h2
        · exact absurd (by simpa using h2) hji
        · exfalso
          have h3 := ready_deps hj i (by simpa using h2)
          rw [unlisted hr] at h3; cases h3
        · exfalso
          have h3 := ready_deps hr j (by simpa using h2)
          rw [unlisted hj] at h3; cases h3
        · exact h2
      refine wpOpIn_mono ?_ (put_swap hoj hapj (hpl _ _ hi) (hpl _ _ hoj) hy h1)
      rintro a' w' ⟨hy', hJ', hR⟩
      refine ⟨hJ', ih (listed.setIfInBounds j true) a' w' (closed_set hc hj) (ready_mono hr (Ne.symm hji)) hy' ?_ ?_⟩
      · rcases hJ' with rfl | h
        · exfalso
          have h3 := sink_all hs hc hj hilt hz
          rw [unlisted hr] at h3; cases h3
        · exact h
      · rw [Array.setIfInBounds_comm _ _ hji]; exact hR
theorem raj_of_wj {k : Nat} (hpl : ∀ (j : Nat) (o : Oper), ops[j]? = some o → plainOp o = true) (hs : sinkOK ops z k = true) :
    ∀ (π : List (Nat × Bool)) (fuel : Nat) (listed : Array Bool) (a : Act) (w : World), chk ops z π listed = true → Closed ops listed → (π = [] ∨ J w) → π.length ≤ fuel → WJ r P ops J z Q π a w → RAJ r P ops J z Q fuel listed a w := by
  intro π
  induction π with
  | nil =>
    intro fuel listed a w hk hc _ _ h
    have he : Region.ready .any ops listed = [] := by simpa [chk] using hk
    cases fuel with
    | zero => exact ⟨he, h⟩
    | succ f => exact ⟨fun _ => h, fun i hi => by rw [he] at hi; cases hi⟩
  | cons p π ih =>
    obtain ⟨i, b⟩ := p
    intro fuel listed a w hk hc hJ hf h
    have hJw : J w := hJ.resolve_left (by simp)
    cases fuel with
    | zero => simp at hf
    | succ f =>
      have hf' : π.length ≤ f := by simpa using hf
      cases b with
      | true =>
        simp only [chk, Bool.and_eq_true] at hk
        obtain ⟨⟨⟨h1, h2⟩, h3⟩, h4⟩ := hk
        have hr : i ∈ Region.ready .any ops listed := by simpa using h1
        obtain ⟨o, v, ho, hy, hW⟩ := h
        exact first_mover hpl hs ho h2 (by simpa using h3) f listed a w hc hr hy hJw (ih f _ _ w h4 (closed_set hc hr) (.inr hJw) hf' hW)
      | false =>
        simp only [chk, Bool.and_eq_true] at hk
        obtain ⟨⟨h1, h2⟩, h4⟩ := hk
        have he : Region.ready .any ops listed = [i] := by simpa using h1
        refine ⟨fun h => by rw [he] at h; simp at h, fun j hj => ?_⟩
        rw [he] at hj
        obtain rfl : j = i := by simpa using hj
        have hr : j ∈ Region.ready .any ops listed := by rw [he]; simp
        refine wpOpIn_mono ?_ h
        rintro a' w' ⟨hJ', hW⟩
        refine ⟨hJ', ih f _ a' w' h4 (closed_set hc hr) ?_ hf' hW⟩
        rcases hJ' with rfl | hJ'
        · left
          simp at h2; exact h2
        · exact .inr hJ'
end draw

section draw2
variable {r : Option Nat} {P : Program} {J : World → Prop} {Q : Exit → Act → World → Prop} {z : Nat} {N : Nat} {σ : Nat → Value} {ds : List Deferred} {w : World}
theorem c_draw {id : Nat} {l : List Oper} (z k : Nat) (π : List (Nat × Bool)) (hm : P.follows .mixedOrders = true) (hok : regionOK l.toArray z k π = true)
    (h : WJ r P l.toArray (Ex w.drew) z Q π (mk N σ ds) w.drew) : CW r P (.region id l.toArray true) Q (mk N σ ds) w := by
  simp only [regionOK, Bool.and_eq_true] at hok
  obtain ⟨⟨⟨h1, h2⟩, h3⟩, h4⟩ := hok
  refine wpIn_region_any hm (wpAny_of_RAJ _ _ _ _ (raj_of_wj (J := Ex w.drew) (fun j o ho => ?_) h2 π _ _ _ _ h3 ?_ (.inr (Ex.refl _)) (Nat.le_of_ble_eq_true h4) h))
  · exact (Array.all_eq_true_iff_forall_mem.1 h1) o (Array.mem_of_getElem? ho)
  · intro k hk
    exfalso
    by_cases hlt : k < l.toArray.size
    · simp at hlt; simp [hlt] at hk
    · simp at hlt; simp [Nat.not_lt.2 hlt] at hk
variable {gd : Option (Nat × Bool)} {ops : Array Oper} {i d : Nat} {π : List (Nat × Bool)} {ty : TypeId} {pos : String} {after : Array Edge}
theorem d_re {v v' : Value} (he : v = v') (h : WJ r P ops J z Q π (mk N (upd σ d v') ds) w) : WJ r P ops J z Q π (mk N (upd σ d v) ds) w := he ▸ h
theorem d_nil (h : Q .normal (mk N σ ds) w) : WJ r P ops J z Q [] (mk N σ ds) w := h
def GOK (ops : Array Oper) (e : Operand → Value) : Option (Nat × Bool) → Prop
  | none => True
  | some (j, want) => ∃ g, (ops[j]?).bind (·.dst) = some g ∧ e (.tmp g) = .bool want
theorem d_val {op : Op} {v : Value} {gd : Option (Nat × Bool)} (hi : ops[i]? = some ⟨some d, op, ty, pos, after, gd⟩) (hrun : ∀ w', J w' → (execOp (ev N σ) ⟨some d, op, ty, pos, after, none⟩).run P w' = .ok (.value v) w')
    (h : WJ r P ops J z Q π (mk N (upd σ d v) ds) w) (hgd : GOK ops (ev N σ) gd := by first | exact trivial | exact ⟨_, rfl, rfl⟩) : WJ r P ops J z Q ((i, true) :: π) (mk N σ ds) w := by
  cases gd with
  | none => exact ⟨_, v, hi, .inl ⟨rfl, fun w' hw => by rw [eval_mk']; exact hrun w' hw⟩, by rw [put_mk]; exact h⟩
  | some q =>
    obtain ⟨j, want⟩ := q
    obtain ⟨g, hj, hb⟩ := hgd
    exact ⟨_, v, hi, .inl ⟨by rw [wanted_of (g := g) rfl hj hb]; simp, fun w' hw => by rw [eval_mk']; exact hrun w' hw⟩, by rw [put_mk]; exact h⟩
theorem d_gno {op : Op} {j g : Nat} {want b : Bool} (hi : ops[i]? = some ⟨some d, op, ty, pos, after, some (j, want)⟩) (hj : (ops[j]?).bind (·.dst) = some g) (hb : ev N σ (.tmp g) = .bool b) (hne : (b == want) = false)
    (h : WJ r P ops J z Q π (mk N (upd σ d undef) ds) w) : WJ r P ops J z Q ((i, true) :: π) (mk N σ ds) w :=
  ⟨_, undef, hi, .inr ⟨by rw [wanted_of (g := g) rfl hj hb]; exact hne, rfl⟩, by rw [put_mk]; exact h⟩
theorem d_move {x : Operand} (hi : ops[i]? = some ⟨some d, .move x, ty, pos, after, gd⟩) (h : WJ r P ops J z Q π (mk N (upd σ d (ev N σ x)) ds) w) (hgd : GOK ops (ev N σ) gd := by first | exact trivial | exact ⟨_, rfl, rfl⟩) : WJ r P ops J z Q ((i, true) :: π) (mk N σ ds) w := d_val hi (fun _ _ => rfl) h hgd
theorem d_bin {op : BinOp} {t t' : TypeId} {x y : Operand} {u v res : Value} (hi : ops[i]? = some ⟨some d, .binOp op t x y t', ty, pos, after, gd⟩) (hx : ev N σ x = u) (hy : ev N σ y = v) (hg : eqGuard op t x y u v = pure ()) (hr : ∀ w', (binOp op t u v).run P w' = .ok res w')
    (h : WJ r P ops J z Q π (mk N (upd σ d res) ds) w) (hgd : GOK ops (ev N σ) gd := by first | exact trivial | exact ⟨_, rfl, rfl⟩) : WJ r P ops J z Q ((i, true) :: π) (mk N σ ds) w := d_val hi (fun w' _ => bin_run hx hy hg (hr w')) h hgd
section
variable {t t' : TypeId} {x y : Operand} {k : IntKind} {a b : Int}
theorem d_sub (hi : ops[i]? = some ⟨some d, .binOp .sub t x y t', ty, pos, after, gd⟩) (hx : ev N σ x = .int .i64 a) (hy : ev N σ y = .int .i64 b) (hr : In64 (a - b)) (h : WJ r P ops J z Q π (mk N (upd σ d (.int .i64 (a - b))) ds) w) (hgd : GOK ops (ev N σ) gd := by first | exact trivial | exact ⟨_, rfl, rfl⟩) : WJ r P ops J z Q ((i, true) :: π) (mk N σ ds) w :=
  d_bin hi hx hy rfl (fun w' => by simp [go_sem, Op.intArith, wrap_in hr]) h hgd
theorem d_lss (hi : ops[i]? = some ⟨some d, .binOp .lss t x y t', ty, pos, after, gd⟩) (hx : ev N σ x = .int k a) (hy : ev N σ y = .int k b) (h : WJ r P ops J z Q π (mk N (upd σ d (.bool (decide (a < b)))) ds) w) (hgd : GOK ops (ev N σ) gd := by first | exact trivial | exact ⟨_, rfl, rfl⟩) : WJ r P ops J z Q ((i, true) :: π) (mk N σ ds) w :=
  d_bin hi hx hy rfl (fun w' => by simp [go_sem]) h hgd
theorem d_leq (hi : ops[i]? = some ⟨some d, .binOp .leq t x y t', ty, pos, after, gd⟩) (hx : ev N σ x = .int k a) (hy : ev N σ y = .int k b) (h : WJ r P ops J z Q π (mk N (upd σ d (.bool (decide (a ≤ b)))) ds) w) (hgd : GOK ops (ev N σ) gd := by first | exact trivial | exact ⟨_, rfl, rfl⟩) : WJ r P ops J z Q ((i, true) :: π) (mk N σ ds) w :=
  d_bin hi hx hy rfl (fun w' => by simp [go_sem]) h hgd
theorem d_gtr (hi : ops[i]? = some ⟨some d, .binOp .gtr t x y t', ty, pos, after, gd⟩) (hx : ev N σ x = .int k a) (hy : ev N σ y = .int k b) (h : WJ r P ops J z Q π (mk N (upd σ d (.bool (decide (b < a)))) ds) w) (hgd : GOK ops (ev N σ) gd := by first | exact trivial | exact ⟨_, rfl, rfl⟩) : WJ r P ops J z Q ((i, true) :: π) (mk N σ ds) w :=
  d_bin hi hx hy rfl (fun w' => by simp [go_sem]) h hgd
theorem d_geq (hi : ops[i]? = some ⟨some d, .binOp .geq t x y t', ty, pos, after, gd⟩) (hx : ev N σ x = .int k a) (hy : ev N σ y = .int k b) (h : WJ r P ops J z Q π (mk N (upd σ d (.bool (decide (b ≤ a)))) ds) w) (hgd : GOK ops (ev N σ) gd := by first | exact trivial | exact ⟨_, rfl, rfl⟩) : WJ r P ops J z Q ((i, true) :: π) (mk N σ ds) w :=
  d_bin hi hx hy rfl (fun w' => by simp [go_sem]) h hgd
theorem d_neq (hi : ops[i]? = some ⟨some d, .binOp .neq t x y t', ty, pos, after, gd⟩) (hx : ev N σ x = .int k a) (hy : ev N σ y = .int k b) (h : WJ r P ops J z Q π (mk N (upd σ d (.bool (decide (a ≠ b)))) ds) w) (hgd : GOK ops (ev N σ) gd := by first | exact trivial | exact ⟨_, rfl, rfl⟩) : WJ r P ops J z Q ((i, true) :: π) (mk N σ ds) w :=
  d_bin hi hx hy (by simp [go_sem]) (fun w' => by
    have e : (a != b) = decide (a ≠ b) := by by_cases h : a = b <;> simp [h]
    simp [go_sem, e]) h hgd
end
theorem d_not {x : Operand} {t : TypeId} {b : Bool} (hi : ops[i]? = some ⟨some d, .unOp .not t x, ty, pos, after, gd⟩) (hx : ev N σ x = .bool b) (h : WJ r P ops J z Q π (mk N (upd σ d (.bool !b)) ds) w) (hgd : GOK ops (ev N σ) gd := by first | exact trivial | exact ⟨_, rfl, rfl⟩) : WJ r P ops J z Q ((i, true) :: π) (mk N σ ds) w :=
  d_val hi (fun w' _ => by simp [execOp, hx, go_sem, Op.unary]) h hgd
theorem d_pickt {c x y : Operand} {v : Value} (hi : ops[i]? = some ⟨some d, .pick c x y, ty, pos, after, gd⟩) (hc : ev N σ c = .bool true) (hx : ev N σ x = v) (h : WJ r P ops J z Q π (mk N (upd σ d v) ds) w) (hgd : GOK ops (ev N σ) gd := by first | exact trivial | exact ⟨_, rfl, rfl⟩) : WJ r P ops J z Q ((i, true) :: π) (mk N σ ds) w :=
  d_val hi (fun w' _ => by simp [execOp, hc, hx, go_sem]) h hgd
theorem d_pickf {c x y : Operand} {v : Value} (hi : ops[i]? = some ⟨some d, .pick c x y, ty, pos, after, gd⟩) (hc : ev N σ c = .bool false) (hx : ev N σ y = v) (h : WJ r P ops J z Q π (mk N (upd σ d v) ds) w) (hgd : GOK ops (ev N σ) gd := by first | exact trivial | exact ⟨_, rfl, rfl⟩) : WJ r P ops J z Q ((i, true) :: π) (mk N σ ds) w :=
  d_val hi (fun w' _ => by simp [execOp, hc, hx, go_sem]) h hgd
theorem d_len {T E : TypeId} {x : Operand} {a : Option Addr} {n c : Nat} (hi : ops[i]? = some ⟨some d, .call { callee := .builtin .len, args := #[x], argTypes := #[T] }, ty, pos, after, gd⟩) (hT : SlT P T E) (hx : ev N σ x = .slice a n c)
    (h : WJ r P ops J z Q π (mk N (upd σ d (.int .i64 (n : Int))) ds) w) (hgd : GOK ops (ev N σ) gd := by first | exact trivial | exact ⟨_, rfl, rfl⟩) : WJ r P ops J z Q ((i, true) :: π) (mk N σ ds) w :=
  d_val hi (fun w' _ => by simp [execOp, resolve, invoke, builtin, Builtin.len_, hx, run_underlying hT, goInt]) h hgd
/-- An element's address: the slice reads as a list in the world w0 in which the region began. -/
theorem d_ia {w0 : World} {T E : TypeId} {x y : Operand} {v u : Value} {vs : List Value} {k : IntKind} {n : Nat} (hi : ops[i]? = some ⟨some d, .indexAddr T x y, ty, pos, after, gd⟩) (hT : SlT P T E) (hE : Ty1 P E) (hx : ev N σ x = v) (hy : ev N σ y = .int k (n : Int)) (hs : Sl w0 v vs) (hn : vs[n]? = some u)
    (h : ∀ ad, w0.cell? ad = some u → WJ r P ops J z Q π (mk N (upd σ d (.pointer (some ad))) ds) w) (hgd : GOK ops (ev N σ) gd := by first | exact trivial | exact ⟨_, rfl, rfl⟩) : WJ r P ops J z Q ((i, true) :: π) (mk N σ ds) w := by
  obtain ⟨_, a, len, c, rfl, hlen, _, hc⟩ := hs
  obtain ⟨ad, rfl, hcell⟩ := hc n u hn
  have hlt : n < len := by rw [← hlen]; exact (List.getElem?_eq_some_iff.1 hn).1
  have hT' : P.underlying T = some (.slice E) := hT
  exact d_val (v := .pointer (some (ad.add n))) hi (fun w' _ => by simp [execOp, hx, hy, Instr.indexAt, asIntOf, run_underlying hT', hlt, run_sizeOf1 hE, go_sem]) (h _ hcell) hgd
theorem d_iaI {w0 : World} {T E : TypeId} {x y : Operand} {v : Value} {l : List Int} {k : IntKind} {n : Nat} (hi : ops[i]? = some ⟨some d, .indexAddr T x y, ty, pos, after, gd⟩) (hT : SlT P T E) (hE : Ty1 P E) (hx : ev N σ x = v) (hy : ev N σ y = .int k (n : Int)) (hs : Ints w0 v l) (hn : n < l.length)
    (h : ∀ ad, w0.cell? ad = some (.int .i64 (l.getD n 0)) → WJ r P ops J z Q π (mk N (upd σ d (.pointer (some ad))) ds) w) (hgd : GOK ops (ev N σ) gd := by first | exact trivial | exact ⟨_, rfl, rfl⟩) : WJ r P ops J z Q ((i, true) :: π) (mk N σ ds) w :=
  d_ia hi hT hE hx hy hs (by simp [hn]) h hgd
theorem d_iaR {w0 : World} {T E : TypeId} {x y : Operand} {v : Value} {g : List (List Int)} {k : IntKind} {n : Nat} (hi : ops[i]? = some ⟨some d, .indexAddr T x y, ty, pos, after, gd⟩) (hT : SlT P T E) (hE : Ty1 P E) (hx : ev N σ x = v) (hy : ev N σ y = .int k (n : Int)) (hs : Rows w0 v g) (hn : n < g.length)
    (h : ∀ ad u, w0.cell? ad = some u → Ints w0 u (g.getD n []) → WJ r P ops J z Q π (mk N (upd σ d (.pointer (some ad))) ds) w) (hgd : GOK ops (ev N σ) gd := by first | exact trivial | exact ⟨_, rfl, rfl⟩) : WJ r P ops J z Q ((i, true) :: π) (mk N σ ds) w := by
  obtain ⟨vs, u, hs', hu, hI⟩ := hs.row hn
  exact d_ia hi hT hE hx hy hs' hu (fun ad hc => h ad u hc hI) hgd
theorem d_iaA {T E : TypeId} {x y : Operand} {b len c : Nat} {k : IntKind} {n : Nat} (hi : ops[i]? = some ⟨some d, .indexAddr T x y, ty, pos, after, gd⟩) (hT : SlT P T E) (hE : Ty1 P E) (hx : ev N σ x = .slice (some ⟨b, 0, none⟩) len c) (hy : ev N σ y = .int k (n : Int)) (hn : n < len)
    (h : WJ r P ops J z Q π (mk N (upd σ d (.pointer (some ⟨b, n, none⟩))) ds) w) (hgd : GOK ops (ev N σ) gd := by first | exact trivial | exact ⟨_, rfl, rfl⟩) : WJ r P ops J z Q ((i, true) :: π) (mk N σ ds) w := by
  have hT' : P.underlying T = some (.slice E) := hT
  exact d_val (v := .pointer (some ⟨b, n, none⟩)) hi (fun w' _ => by simp [execOp, hx, hy, Instr.indexAt, asIntOf, run_underlying hT', hn, run_sizeOf1 hE, go_sem]) h hgd
/-- A load of a cell that lay when the region began. -/
theorem d_ld {w0 : World} {E : TypeId} {x : Operand} {ad : Addr} {u : Value} (hi : ops[i]? = some ⟨some d, .load E x, ty, pos, after, gd⟩) (hE : Ty1 P E) (hx : ev N σ x = .pointer (some ad)) (hc : w0.cell? ad = some u)
    (h : WJ r P ops (Ex w0) z Q π (mk N (upd σ d u) ds) w) (hgd : GOK ops (ev N σ) gd := by first | exact trivial | exact ⟨_, rfl, rfl⟩) : WJ r P ops (Ex w0) z Q ((i, true) :: π) (mk N σ ds) w :=
  d_val hi (fun w' hw => by simp [execOp, hx, Instr.loadAt, Instr.sureAddr, run_loadVar1 hE (Ex.cell hw hc)]) h hgd
theorem d_ldA {w0 : World} {E B : TypeId} {x : Operand} {b n : Nat} {cs : List Value} {u : Value} (hi : ops[i]? = some ⟨some d, .load E x, ty, pos, after, gd⟩) (hE : Ty1 P E) (hx : ev N σ x = .pointer (some ⟨b, n, none⟩)) (hA : At w0 b B cs) (hc : cs[n]? = some u)
    (h : WJ r P ops (Ex w0) z Q π (mk N (upd σ d u) ds) w) (hgd : GOK ops (ev N σ) gd := by first | exact trivial | exact ⟨_, rfl, rfl⟩) : WJ r P ops (Ex w0) z Q ((i, true) :: π) (mk N σ ds) w := d_ld hi hE hx (by rw [hA.cell]; exact hc) h hgd
theorem d_fa {T : TypeId} {x : Operand} {b o : Nat} {fs : Array Field} {f : Nat} {fl : Field} (hi : ops[i]? = some ⟨some d, .fieldAddr T x f, ty, pos, after, gd⟩) (hT : P.underlying T = some (.struct fs)) (hf : fs[f]? = some fl) (hE : Ty1 P fl.type) (hx : ev N σ x = .pointer (some ⟨b, o, none⟩))
    (h : WJ r P ops J z Q π (mk N (upd σ d (.pointer (some ⟨b, o + fl.offset, none⟩))) ds) w) (hgd : GOK ops (ev N σ) gd := by first | exact trivial | exact ⟨_, rfl, rfl⟩) : WJ r P ops J z Q ((i, true) :: π) (mk N σ ds) w :=
  d_val (v := .pointer (some ⟨b, o + fl.offset, none⟩)) hi (fun w' _ => by simp [execOp, hx, Instr.fieldAt, run_underlying hT, hf, Instr.sureAddr, fieldPlace, run_sizeOf1 hE, add_at]) h hgd
/-- What makes memory, calls or stores: in its one order. -/
theorem d_chain {o : Oper} {a : Act} (hi : ops[i]? = some o) (h : WL r P ops (fun e a' w' => e = .normal ∧ (i = z ∨ J w') ∧ WJ r P ops J z Q π a' w') [o] a w) : WJ r P ops J z Q ((i, false) :: π) a w := by
  show wpOpIn _ _ _ _ _ _ _ _ _
  unfold wpOpIn
  simp only [hi]
  have h' : wpListIn (FW r) 0 P ops (fun e a' w' => e = .normal ∧ (i = z ∨ J w') ∧ WJ r P ops J z Q π a' w') [o] a w := h
  unfold wpListIn at h'
  have hk : ∀ (a' : Act) (w' : World), wpListIn (FW r) 0 P ops (fun e a' w' => e = Exit.normal ∧ (i = z ∨ J w') ∧ WJ r P ops J z Q π a' w') [] a' w' → (i = z ∨ J w') ∧ WJ r P ops J z Q π a' w' := fun a' w' hh => hh.2
  split at h'
  · rename_i hw
    simp only [hw, if_true]
    have h2 := Oper.wpIn_mono (Q := fun e a' w' => e = Exit.normal ∧ (i = z ∨ J w') ∧ WJ r P ops J z Q π a' w') hk h'
    unfold Oper.wpIn at *
    refine ⟨h2.1, ?_⟩
    have h3 := h2.2
    generalize (o.semAt (FW r).round a.eval).run P w = res at *
    cases res with
    | ok x w' =>
      cases x <;> simp only [Oper.uponIn] at h3 ⊢ <;> first
        | exact h3
        | exact ⟨h3.1, CallsIn.mono h3.2 (fun e w'' he => by cases e <;> first | exact he | exact absurd he.1 (by simp) | exact (let ⟨a, w, hh⟩ := he; absurd hh.1 (by simp)))⟩
        | exact ⟨h3.1, RoundIn.mono h3.2 (fun e w'' he => by cases e <;> first | exact he | exact absurd he.1 (by simp) | exact (let ⟨a, w, hh⟩ := he; absurd hh.1 (by simp)))⟩
    | halt x w' => cases x <;> simp only [Oper.uponIn] at h3 ⊢ <;> first | exact h3 | exact absurd h3.1 (by simp)
  · rename_i hw
    simp only [hw]
    exact ⟨h'.1, hk _ _ h'.2⟩
end draw2
end Go.Proofs.YtkhnohnkcdcajaaDoor.Sal
