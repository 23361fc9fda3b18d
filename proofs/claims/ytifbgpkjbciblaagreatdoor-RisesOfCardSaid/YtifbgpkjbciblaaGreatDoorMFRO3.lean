/- Texts that YtifbgpkjbciblaaGreatDoorFRO leans on, laid together: Core14 Core15 Core19 Core20 SL M1 GM1 GM2. -/
import Derived.Test.YtifbgpkjbciblaaGreatDoorMFRO2
import Derived.Laws.CopyRow
import Derived.RangeFuncLeaves
import Derived.ChangeKeysEq
section
/- Core14: structs with arrays in them, copy, jumps within a scope, natural numbers of any kind. -/
set_option maxRecDepth 100000
namespace Go.Proofs.YtifbgpkjbciblaaGreatDoor.Sal
set_option linter.all false
open Go.RowKit
/-! ### A scope that is left by a jump forward to one label -/
def ScopeQ (r : Option Nat) (P : Program) (rest : Code) (l : Nat) (Q : Exit → Act → World → Prop) : Exit → Act → World → Prop
  | .goto l', a, w => l' = l ∧ CW r P rest (Exit.noGoto Q) a w
  | e, a, w => Q e a w
theorem c_scope {r : Option Nat} {P : Program} {Q : Exit → Act → World → Prop} {a : Act} {w : World} {c : Code} (rest : Code) (l : Nat) (hf : findLabel c l = some rest) (h : CW r P c (ScopeQ r P rest l Q) a w) : CW r P (.scope c) Q a w := by
  intro b k cs hro hb hr
  have h0 : (lone (b.atR a (.code (.scope c) :: k)) cs w).fenced P (FW r) := fenced_calm hb hr rfl
  have hst : step P (lone (b.atR a (.code (.scope c) :: k)) cs w) = .next (lone (b.atR a (.code c :: .inScope c :: k)) cs w) := step_lone_go (by simp [stepG, stepG.exec, Frame.atR])
  have hin : ∀ a w, step P (lone (b.atR a (.inScope c :: k)) cs w) = .next (lone (b.atR a k) cs w) := fun a w => step_lone_go (by simp [stepG, stepG.exec, Frame.atR])
  have hxe : ∀ id, exitTo id (.inScope c :: k) = exitTo id k := fun id => by simp [exitTo]
  obtain ⟨e, a₁, w₁, hq, harr⟩ := h b (.inScope c :: k) cs hro hb hr
  cases e with
  | normal => exact ⟨.normal, a₁, w₁, hq, .head h0 hst (StepsIn.trans harr (.one (fenced_calm hb hr rfl) (hin _ _)))⟩
  | exit id =>
    exact ⟨_, a₁, w₁, hq, fun k' hk => .head h0 hst (harr.1 k' (by rw [hxe]; exact hk)),
      fun hr' hk => let ⟨k₁, h1, h2⟩ := harr.2 hr' (by rw [hxe]; exact hk); ⟨k₁, h1, .head h0 hst h2⟩⟩
  | goto l' =>
    obtain ⟨rfl, hrest⟩ := hq
    have hg : gotoIn l' (.inScope c :: k) = some (.code rest :: .inScope c :: k) := by simp [gotoIn, hf]
    have s1 := StepsIn.trans (.one h0 hst) (harr.1 _ hg)
    obtain ⟨e₂, a₂, w₂, hq₂, harr₂⟩ := hrest b (.inScope c :: k) cs hro hb hr
    cases e₂ with
    | normal => exact ⟨.normal, a₂, w₂, hq₂, StepsIn.trans s1 (StepsIn.trans harr₂ (.one (fenced_calm hb hr rfl) (hin _ _)))⟩
    | exit id =>
      exact ⟨_, a₂, w₂, hq₂, fun k' hk => StepsIn.trans s1 (harr₂.1 k' (by rw [hxe]; exact hk)),
        fun hr' hk => let ⟨k₁, h1, h2⟩ := harr₂.2 hr' (by rw [hxe]; exact hk); ⟨k₁, h1, StepsIn.trans s1 h2⟩⟩
    | goto l => exact hq₂.elim
    | ret => exact ⟨_, a₂, w₂, hq₂, .of_steps s1 harr₂⟩
    | panic ch => exact ⟨_, a₂, w₂, hq₂, .of_steps s1 harr₂⟩
    | outgrown => exact ⟨_, a₂, w₂, hq₂, .of_steps s1 harr₂⟩
  | ret => exact ⟨_, a₁, w₁, hq, .of_steps (.one h0 hst) harr⟩
  | panic ch => exact ⟨_, a₁, w₁, hq, .of_steps (.one h0 hst) harr⟩
  | outgrown => exact ⟨_, a₁, w₁, hq, .of_steps (.one h0 hst) harr⟩
section ends
variable {r : Option Nat} {P : Program} {Q : Exit → Act → World → Prop} {a : Act} {w : World} {rest : Code} {l : Nat}
theorem sc_ret (h : Q .ret a w) : ScopeQ r P rest l Q .ret a w := h
theorem sc_goto (h : CW r P rest (Exit.noGoto Q) a w) : ScopeQ r P rest l Q (.goto l) a w := ⟨rfl, h⟩
theorem ng_ret (h : Q .ret a w) : Exit.noGoto Q .ret a w := h
end ends

section ops
variable {r : Option Nat} {P : Program} {ops : Array Oper} {Q : Exit → Act → World → Prop} {N : Nat} {σ : Nat → Value} {ds : List Deferred} {w : World} {rest : List Oper}
variable {d d1 d2 : Nat} {ty ty2 : TypeId} {pos pos2 : String} {after after2 : Array Edge} {T E T' t t' : TypeId} {x i y : Operand} {k : IntKind} {m n : Nat}
theorem s_nil {p : Addr} (hx : ev N σ x = .pointer (some p)) (h : WL r P ops Q rest (mk N (upd σ d (.pointer (some p))) ds) w) : WL r P ops Q (⟨some d, .nilCheck x, ty, pos, after, none⟩ :: rest) (mk N σ ds) w :=
  l_val (by intro c e; cases e) (by simp [execOp, hx, go_sem]) h
def TyN (P : Program) (E : TypeId) : Prop := ∃ i, P.info? E = some i ∧ i.size ≠ 0
theorem run_sizeOfN (h : TyN P E) (w : World) : ∃ s, s ≠ 0 ∧ (sizeOf E).run P w = .ok s w := by
  obtain ⟨i, hi, hs⟩ := h
  exact ⟨i.size, hs, by simp [sizeOf, typeInfo, hi]⟩
/-- The address of a field of any size but 0. -/
theorem s_faN {b o : Nat} {fs : Array Field} {f : Nat} {fl : Field} (hT : P.underlying T = some (.struct fs)) (hf : fs[f]? = some fl) (hE : TyN P fl.type) (hx : ev N σ x = .pointer (some ⟨b, o, none⟩))
    (h : WL r P ops Q rest (mk N (upd σ d (.pointer (some ⟨b, o + fl.offset, none⟩))) ds) w) : WL r P ops Q (⟨some d, .fieldAddr T x f, ty, pos, after, none⟩ :: rest) (mk N σ ds) w := by
  refine l_val (v := .pointer (some ⟨b, o + fl.offset, none⟩)) (by intro c e; cases e) ?_ h
  obtain ⟨s, hs, hr⟩ := run_sizeOfN hE w
  simp [execOp, hx, Instr.fieldAt, run_underlying hT, hf, Instr.sureAddr, fieldPlace, hr, hs, add_at]
/-- The address of an element of an array that lies somewhere in a block. -/
theorem s_iaO {b o L : Nat} (hT : P.underlying T = some (.array L E)) (hE : Ty1 P E) (hx : ev N σ x = .pointer (some ⟨b, o, none⟩)) (hi : ev N σ i = .int k (n : Int)) (hn : n < L)
    (h : WL r P ops Q rest (mk N (upd σ d (.pointer (some ⟨b, o + n, none⟩))) ds) w) : WL r P ops Q (⟨some d, .indexAddr T x i, ty, pos, after, none⟩ :: rest) (mk N σ ds) w := by
  refine l_val (v := .pointer (some ⟨b, o + n, none⟩)) (by intro c e; cases e) ?_ h
  simp [execOp, hx, hi, Instr.indexAt, Instr.sureAddr, asIntOf, run_underlying hT, hn, run_sizeOf1 hE, go_sem, add_at]
theorem s_addN (hx : ev N σ x = .int k (m : Int)) (hy : ev N σ y = .int k (n : Int)) (hr : m + n ≤ top k) (h : WL r P ops Q rest (mk N (upd σ d (.int k ((m + n : Nat) : Int))) ds) w) : WL r P ops Q (⟨some d, .binOp .add t x y t', ty, pos, after, none⟩ :: rest) (mk N σ ds) w :=
  s_addw hx hy (by
    have e : (m : Int) + (n : Int) = ((m + n : Nat) : Int) := by omega
    rw [e, wrap_nat hr]; exact h)
theorem s_mulN (hx : ev N σ x = .int k (m : Int)) (hy : ev N σ y = .int k (n : Int)) (hr : m * n ≤ top k) (h : WL r P ops Q rest (mk N (upd σ d (.int k ((m * n : Nat) : Int))) ds) w) : WL r P ops Q (⟨some d, .binOp .mul t x y t', ty, pos, after, none⟩ :: rest) (mk N σ ds) w :=
  s_mulw hx hy (by
    have e : (m : Int) * (n : Int) = ((m * n : Nat) : Int) := by simp
    rw [e, wrap_nat hr]; exact h)
/-- copy into a block of the call's own. -/
theorem s_copy {b o dLen dCap sLen sCap : Nat} {a : Addr} {t : TypeId} {cs news : List Value} (hT : SlT P T E) (hE : Ty1 P E) (hA : At w b t cs) (hx : ev N σ x = .slice (some ⟨b, o, none⟩) dLen dCap) (hy : ev N σ y = .slice (some a) sLen sCap)
    (hn : news.length = Nat.min sLen dLen) (hsrc : ∀ j v, news[j]? = some v → w.cell? (a.add j) = some v) (hfit : o + news.length ≤ cs.length) (h1 : ∀ u ∈ news, u.oneCell' = true)
    (h : ∀ w', At w' b t (cs.take o ++ news ++ cs.drop (o + news.length)) → w.grownBy w' (some b) → w'.heap.size = w.heap.size → WL r P ops Q rest (mk N (upd σ d (.int .i64 (news.length : Int))) ds) w') :
    WL r P ops Q (⟨some d, .call { callee := .builtin .copy, args := #[x, y], argTypes := #[T, T'] }, ty, pos, after, none⟩ :: rest) (mk N σ ds) w := by
  have hs : (P.info? E).map (·.size) = some 1 := by obtain ⟨⟨i, hi, hs⟩, _⟩ := hE; simp [hi, hs]
  have hr := run_copy_row (P := P) w T T' ty E b o dLen dCap a sLen sCap cs.toArray t news hT hs hA hn hsrc (by simpa using hfit) h1
  refine l_val (v := .int .i64 (news.length : Int)) (w' := w.setRow b (cs.take o ++ news ++ cs.drop (o + news.length)).toArray) (by intro c e; cases e) ?_ (h _ ?_ ⟨rfl, rfl, rfl, by simp, fun k hk hne => setRow_other w b k _ (fun e => hne (by rw [e]))⟩ (by simp))
  · simp [execOp, resolve, invoke, builtin, hx, hy, hr, Result.andThen, goInt]
  · exact setRow_heap w b cs.toArray _ t (0, 0) hA
end ops
section draw
variable {r : Option Nat} {P : Program} {J : World → Prop} {z : Nat} {Q : Exit → Act → World → Prop} {N : Nat} {σ : Nat → Value} {ds : List Deferred} {w : World}
variable {gd : Option (Nat × Bool)} {ops : Array Oper} {i d : Nat} {π : List (Nat × Bool)} {ty : TypeId} {pos : String} {after : Array Edge} {T E : TypeId} {x y : Operand} {k : IntKind} {n : Nat}
theorem d_nilc {p : Addr} (hop : ops[i]? = some ⟨some d, .nilCheck x, ty, pos, after, gd⟩) (hx : ev N σ x = .pointer (some p)) (h : WJ r P ops J z Q π (mk N (upd σ d (.pointer (some p))) ds) w) (hgd : GOK ops (ev N σ) gd := by first | exact trivial | exact ⟨_, rfl, rfl⟩) : WJ r P ops J z Q ((i, true) :: π) (mk N σ ds) w :=
  d_val hop (fun w' _ => by simp [execOp, hx, go_sem]) h hgd
theorem d_faN {b o : Nat} {fs : Array Field} {f : Nat} {fl : Field} (hop : ops[i]? = some ⟨some d, .fieldAddr T x f, ty, pos, after, gd⟩) (hT : P.underlying T = some (.struct fs)) (hf : fs[f]? = some fl) (hE : TyN P fl.type) (hx : ev N σ x = .pointer (some ⟨b, o, none⟩))
    (h : WJ r P ops J z Q π (mk N (upd σ d (.pointer (some ⟨b, o + fl.offset, none⟩))) ds) w) (hgd : GOK ops (ev N σ) gd := by first | exact trivial | exact ⟨_, rfl, rfl⟩) : WJ r P ops J z Q ((i, true) :: π) (mk N σ ds) w :=
  d_val (v := .pointer (some ⟨b, o + fl.offset, none⟩)) hop (fun w' _ => by
    obtain ⟨s, hs, hr⟩ := run_sizeOfN hE w'
    simp [execOp, hx, Instr.fieldAt, run_underlying hT, hf, Instr.sureAddr, fieldPlace, hr, hs, add_at]) h hgd
theorem d_iaO {b o L : Nat} (hop : ops[i]? = some ⟨some d, .indexAddr T x y, ty, pos, after, gd⟩) (hT : P.underlying T = some (.array L E)) (hE : Ty1 P E) (hx : ev N σ x = .pointer (some ⟨b, o, none⟩)) (hy : ev N σ y = .int k (n : Int)) (hn : n < L)
    (h : WJ r P ops J z Q π (mk N (upd σ d (.pointer (some ⟨b, o + n, none⟩))) ds) w) (hgd : GOK ops (ev N σ) gd := by first | exact trivial | exact ⟨_, rfl, rfl⟩) : WJ r P ops J z Q ((i, true) :: π) (mk N σ ds) w :=
  d_val (v := .pointer (some ⟨b, o + n, none⟩)) hop (fun w' _ => by simp [execOp, hx, hy, Instr.indexAt, Instr.sureAddr, asIntOf, run_underlying hT, hn, run_sizeOf1 hE, go_sem, add_at]) h hgd
/-- The rest of a slice that fills its block; its head. -/
theorem d_tailA {b L lo : Nat} {l : Operand} (hop : ops[i]? = some ⟨some d, .slice T x (some l) none none, ty, pos, after, gd⟩) (hT : SlT P T E) (hE : Ty1 P E) (hx : ev N σ x = .slice (some ⟨b, 0, none⟩) L L) (hl : ev N σ l = .int k (lo : Int)) (hlo : lo < L)
    (h : WJ r P ops J z Q π (mk N (upd σ d (.slice (some ⟨b, lo, none⟩) (L - lo) (L - lo))) ds) w) (hgd : GOK ops (ev N σ) gd := by first | exact trivial | exact ⟨_, rfl, rfl⟩) : WJ r P ops J z Q ((i, true) :: π) (mk N σ ds) w :=
  d_val (v := .slice (some ⟨b, lo, none⟩) (L - lo) (L - lo)) hop (fun w' _ => by
    have := run_slice (P := P) (w := w') (a := some ⟨b, 0, none⟩) (n := L) (c := L) hT hE (Nat.le_of_lt hlo) (Nat.le_refl L) (some (.int k (lo : Int))) none (.inl ⟨k, rfl⟩) (.inr ⟨rfl, rfl⟩)
    have hne : ¬ L = lo := by omega
    simp [execOp, hx, hl, this, hne, add_at]) h hgd
theorem d_headA {b L hi : Nat} {u : Operand} (hop : ops[i]? = some ⟨some d, .slice T x none (some u) none, ty, pos, after, gd⟩) (hT : SlT P T E) (hE : Ty1 P E) (hx : ev N σ x = .slice (some ⟨b, 0, none⟩) L L) (hu : ev N σ u = .int k (hi : Int)) (hhi : hi ≤ L)
    (h : WJ r P ops J z Q π (mk N (upd σ d (.slice (some ⟨b, 0, none⟩) hi L)) ds) w) (hgd : GOK ops (ev N σ) gd := by first | exact trivial | exact ⟨_, rfl, rfl⟩) : WJ r P ops J z Q ((i, true) :: π) (mk N σ ds) w :=
  d_val (v := .slice (some ⟨b, 0, none⟩) hi L) hop (fun w' _ => by
    have := run_slice (P := P) (w := w') (a := some ⟨b, 0, none⟩) (n := L) (c := L) hT hE (Nat.zero_le hi) hhi none (some (.int k (hi : Int))) (.inr ⟨rfl, rfl⟩) (.inl ⟨k, rfl⟩)
    simp [execOp, hx, hu, this, Addr.add_zero']) h hgd
end draw
theorem Ty1.n {P : Program} {E : TypeId} (h : Ty1 P E) : TyN P E := let ⟨⟨i, hi, hs⟩, _⟩ := h; ⟨i, hi, by omega⟩
end Go.Proofs.YtifbgpkjbciblaaGreatDoor.Sal
end
section
/- Core15: iterators that hand out lists which they lay as they go; loops over them whose bodies may return; many marks; results in cells. -/
set_option maxRecDepth 100000
namespace Go.Proofs.YtifbgpkjbciblaaGreatDoor.Sal
set_option linter.all false
open Go.RowKit
/-- From block B on all that lay lies as it lay. -/
def Kb (B : Nat) (W W' : World) : Prop := W.heap.size ≤ W'.heap.size ∧ ∀ k, B ≤ k → k < W.heap.size → W'.heap[k]? = W.heap[k]?
theorem Kb.refl (B : Nat) (W : World) : Kb B W W := ⟨Nat.le_refl _, fun _ _ _ => rfl⟩
theorem Kb.ex {B : Nat} {W W' : World} (h : Ex W W') : Kb B W W' := ⟨h.size, fun k _ hk => h.block k hk⟩
theorem Kb.trans {B : Nat} {X Y Z : World} (h : Kb B X Y) (k : Kb B Y Z) : Kb B X Z := ⟨Nat.le_trans h.1 k.1, fun i hB hi => (k.2 i hB (Nat.lt_of_lt_of_le hi h.1)).trans (h.2 i hB hi)⟩
theorem Kb.mono {B B' : Nat} {W W' : World} (h : Kb B W W') (hb : B ≤ B') : Kb B' W W' := ⟨h.1, fun k hB hk => h.2 k (Nat.le_trans hb hB) hk⟩
theorem Kb.store {B b : Nat} {W W' : World} (hg : W.grownBy W' (some b)) (hb : b < B) : Kb B W W' := ⟨hg.size, fun k hB hk => hg.block k hk (fun e => by have := Option.some.inj e; omega)⟩
theorem Kb.below {B : Nat} {X Y Z : World} (h : Kb B X Y) (k : Below X.heap.size Y Z) : Kb B X Z := ⟨Nat.le_trans h.1 k.size, fun i hB hi => (k.block i hi).trans (h.2 i hB hi)⟩
/-- What an iterator over lists promises: it hands out these, one behind the other, each reading as it should; where all rounds went on, nothing that lay has turned. -/
def IterX (P : Program) (gf : Nat) (lb : List Value) (L : List (List Int)) (w0 : World) : Prop :=
  ∀ (l : Nat) (G : Nat → Prop) (Jx : Nat → World → Prop) (W0 : World), Ex w0 W0 → (∀ i W W', Jx i W → Below W0.heap.size W W' → KC W W' → Jx i W') →
    (∀ i x W v, L[i]? = some x → Ex W0 W → Ints W v x → YieldAt Fence.wide 0 P l [v].toArray W fun e W' => (e = .returned (.bool true) ∧ Ex W W' ∧ G i) ∨ (e = .returned (.bool false) ∧ Jx i W' ∧ Kb W0.heap.size W W')) →
    Ct P gf (.func (.yield l) #[] #[] :: lb).toArray W0 fun _ W' => (Ex W0 W' ∧ ∀ i, i < L.length → G i) ∨ ∃ i, i < L.length ∧ (∀ j, j < i → G j) ∧ Jx i W' ∧ Kb W0.heap.size W0 W'
/-- How the body of a round may be left. -/
def BPost (B : Nat) (G : Nat → Prop) (Jr : Nat → World → Prop) (i : Nat) (W : World) : Exit → Act → World → Prop
  | .normal, _, W' => Ex W W' ∧ G i
  | .ret, _, W' => Jr i W' ∧ Kb B W W'
  | _, _, _ => False
theorem below_put {W : World} {l B : Nat} {o : Obj} (h : B ≤ l) : Below B W (W.putObj l o) :=
  have hg := grownBy_putObj' W l o
  ⟨hg.os, hg.tape, hg.output, hg.size, fun k hk => World.putObj_heap_other (by omega)⟩
theorem put_get {W : World} {l k : Nat} {o : Obj} (h : k ≠ l) : (W.putObj l o).heap[k]? = W.heap[k]? := World.putObj_heap_other h
theorem put_size {W : World} {l : Nat} {o : Obj} : (W.putObj l o).heap.size = W.heap.size := by
  simp [World.putObj]
theorem c_rangeX {P : Program} {g : Operand} {ps : Array Tmp} {assign body : Code} {Q : Exit → Act → World → Prop} {N : Nat} {σ : Nat → Value} {ds : List Deferred} {w : World} {gf : Nat} {lb : List Value} {L : List (List Int)} {w0 : World}
    (hg : ev N σ g = .func (.func gf) #[] lb.toArray) (eg : CallOK P gf) (hit : IterX P gf lb L w0) (hw : Ex w0 w) (hps : ps.size = 1)
    (G : Nat → Prop) (Jr : Nat → World → Prop) (hJr : ∀ i W W', Jr i W → Below w.heap.size W W' → KC W W' → Jr i W') (σ1 : Value → (Nat → Value) → Nat → Value)
    (hassign : ∀ (l : Nat) (v : Value) (W : World) (K : Act → World → Prop), K (mk N (σ1 v σ) []) W → CW (some l) P assign (Exit.then K (fun _ _ _ => False)) (mk N (updl (ps.toList.zip [v]) σ) []) W)
    (hbody : ∀ (l i : Nat) (x : List Int) (v : Value) (W : World), L[i]? = some x → Ex w W → Ints W v x → CW (some l) P body (BPost w.heap.size G Jr i W) (mk N (σ1 v σ) []) W)
    (hdone : ∀ (D : Nat) (W : World), D = w.heap.size → Ex w W → (∀ i, i < L.length → G i) → W.heap[D]? = some (.deferred (some [])) → Q .normal (mk N σ (mark D :: ds)) W)
    (hstop : ∀ (D i : Nat) (W : World), D = w.heap.size → i < L.length → (∀ j, j < i → G j) → Jr i W → Kb w.heap.size w W → W.heap[D]? = some (.deferred (some [])) → Q .ret (mk N σ (mark D :: ds)) W) :
    CW none P (.rangeFunc g ps assign body) Q (mk N σ ds) w := by
  refine wpIn_rangeFunc ?_
  intro fn hfn
  obtain ⟨rec, hrec⟩ : ∃ rec : LoopState → Option Code → Loop, rec = fun st pe => { state := st, pending := pe, fn, tmps := (mk N σ ds).tmps, params := ps, assign, body, defers := w.heap.size } := ⟨_, rfl⟩
  obtain ⟨W1, hW1⟩ : ∃ W1, (w.alloc (.deferred (some []))).alloc (.loop (rec .ready none)) = W1 := ⟨_, rfl⟩
  have hs1 : W1.heap.size = w.heap.size + 2 := by rw [← hW1]; simp
  have hx1 : Ex w W1 := by rw [← hW1]; exact (Ex.alloc w _).trans (Ex.alloc _ _)
  have hL1 : W1.heap[w.heap.size + 1]? = some (.loop (rec .ready none)) := by
    rw [← hW1]
    have := World.alloc_heap_new (w.alloc (.deferred (some []))) (.loop (rec .ready none))
    rwa [World.size_alloc] at this
  have hK1 : W1.heap[w.heap.size]? = some (.deferred (some [])) := by
    rw [← hW1]
    exact ((Ex.alloc (w.alloc (.deferred (some []))) _).block w.heap.size (by simp)).trans (World.alloc_heap_new w _)
  refine ⟨w.heap.size + 1, [mark w.heap.size], W1, { target := .fn (.func gf) lb.toArray, args := #[.func (.yield (w.heap.size + 1)) #[] #[]] }, W1, gf,
    #[.func (.yield (w.heap.size + 1)) #[] #[]] ++ lb.toArray, W1, ?_, ?_, ?_, ?_, fun h => by simp [Fence.wide] at h, ?_⟩
  · rw [← hW1, hrec]; exact run_enterLoop_outer _ _ _ _ _
  · simp only [resolve, eval_mk, hg]
    simp [go_sem]
  · intro f' hf'; trivial
  · simp [invoke, go_sem]; exact eg _ _
  · have e0 : (#[Value.func (.yield (w.heap.size + 1)) #[] #[]] ++ lb.toArray : Array Value) = (Value.func (.yield (w.heap.size + 1)) #[] #[] :: lb).toArray := by simp
    rw [e0]
    have key := hit (w.heap.size + 1) G (fun i W => Jr i W ∧ W.heap[w.heap.size + 1]? = some (.loop (rec .done (some .ret))) ∧ W.heap[w.heap.size]? = some (.deferred (some []))) W1 (hw.trans hx1)
      (fun i W W' ⟨h1, h2, h3⟩ hb hkc => ⟨hJr i W W' h1 (Below.mono hb (by omega)) hkc, (hb.block _ (by omega)).trans h2, (hb.block _ (by omega)).trans h3⟩)
      (fun i x W v hx hxW hI => by
        have hl : W.heap[w.heap.size + 1]? = some (.loop (rec .ready none)) := (hxW.block _ (by omega)).trans hL1
        have hk : W.heap[w.heap.size]? = some (.deferred (some [])) := (hxW.block _ (by omega)).trans hK1
        have hlt : w.heap.size + 1 < W.heap.size := (Array.getElem?_eq_some_iff.1 hl).1
        have hy := run_yield (P := P) (args := [v].toArray) hl (by rw [hrec]; simp [hps])
        rw [hrec] at hy
        refine ⟨fn, _, assign, body, hy, ?_⟩
        have hr : RoundIn (FW none) 0 P (w.heap.size + 1) fn ((ps.zip [v].toArray).foldl (fun t (p, v) => t.setIfInBounds p v) (mk N σ ds).tmps) assign body W
            (fun e W' => (e = .returned (.bool true) ∧ Ex W W' ∧ G i) ∨ (e = .returned (.bool false) ∧ (Jr i W' ∧ W'.heap[w.heap.size + 1]? = some (.loop (rec .done (some .ret))) ∧ W'.heap[w.heap.size]? = some (.deferred (some []))) ∧ Kb W1.heap.size W W')) := by
          refine roundIn_of_wpIn (F := FW none) (n := 0) hfn ?_
          rw [zip_mk]
          refine hassign (w.heap.size + 1) v W _ ?_
          refine ⟨_, run_beginRound hl (by rw [hrec]), ?_⟩
          obtain ⟨Wb, hWb⟩ : ∃ Wb, Wb = W.putObj (w.heap.size + 1) (.loop { rec .ready none with state := .busy }) := ⟨_, rfl⟩
          rw [← hWb]
          have hlb : Wb.heap[w.heap.size + 1]? = some (.loop { rec .ready none with state := .busy }) := by rw [hWb]; exact World.putObj_heap_same hlt
          have hkb : Wb.heap[w.heap.size]? = some (.deferred (some [])) := by rw [hWb]; exact (put_get (by omega)).trans hk
          have hsb : Wb.heap.size = W.heap.size := by rw [hWb]; exact put_size
          have hxb : Ex w Wb := by
            rw [hWb]
            exact (hx1.trans hxW).storeo (grownBy_putObj' W _ _) (fun b e => by cases e; omega)
          have hIb : Ints Wb v x := by rw [hWb]; exact (KC.put hl rfl).ints hI
          refine wpIn_mono (hbody (w.heap.size + 1) i x v Wb hx hxb hIb) ?_
          rintro e a3 W3 hp
          cases e with
          | normal =>
            obtain ⟨hx3, hG⟩ := hp
            have hl3 : W3.heap[w.heap.size + 1]? = some (.loop { rec .ready none with state := .busy }) := (hx3.block _ (by omega)).trans hlb
            refine ⟨_, _, run_endRound (P := P) none hl3, .inl ⟨rfl, ?_, hG⟩⟩
            have hs3 := hx3.size
            refine ⟨hx3.os.trans (by rw [hWb]; rfl), hx3.tape.trans (by rw [hWb]; rfl), hx3.output.trans (by rw [hWb]; rfl), by rw [put_size]; omega, fun k hk' => ?_⟩
            by_cases e : k = w.heap.size + 1
            · subst e
              rw [World.putObj_heap_same (by omega), hl, hrec]
              simp
            · rw [put_get e, hx3.block k (by omega), hWb, put_get e]
          | ret =>
            obtain ⟨hJ, hK3⟩ := hp
            have hl3 : W3.heap[w.heap.size + 1]? = some (.loop { rec .ready none with state := .busy }) := (hK3.2 _ (by omega) (by omega)).trans hlb
            have hk3 : W3.heap[w.heap.size]? = some (.deferred (some [])) := (hK3.2 _ (by omega) (by omega)).trans hkb
            have hs3 := hK3.1
            refine ⟨_, _, run_endRound (P := P) (some .ret) hl3, .inr ⟨rfl, ⟨hJr i W3 _ hJ (below_put (by omega)) (KC.put hl3 rfl), ?_, (put_get (by omega)).trans hk3⟩, ?_⟩⟩
            · rw [World.putObj_heap_same (by omega), hrec]; simp
            · refine ⟨by rw [put_size]; omega, fun k hB hk' => ?_⟩
              rw [put_get (by omega), hK3.2 k (by omega) (by omega), hWb, put_get (by omega)]
          | exit id => exact hp.elim
          | goto t => exact hp.elim
          | panic ch => exact hp.elim
          | outgrown => exact hp.elim
        exact hr)
    refine CallsIn.mono key.callsIn ?_
    rintro e W2 ⟨v, rfl, h⟩
    rcases h with ⟨hx2, hall⟩ | ⟨i, hi, hG, ⟨hJ, hl, hk⟩, hK2⟩
    · have hl2 : W2.heap[w.heap.size + 1]? = some (.loop (rec .ready none)) := (hx2.block _ (by omega)).trans hL1
      have hk2 : W2.heap[w.heap.size]? = some (.deferred (some [])) := (hx2.block _ (by omega)).trans hK1
      refine ⟨none, _, by have := run_endLoop (P := P) hl2 (by rw [hrec]; simp); rw [hrec] at this; exact this, ?_⟩
      exact hdone _ _ rfl ((hx1.trans hx2).storeo (grownBy_putObj' W2 _ _) (fun b e => by cases e; omega)) hall ((put_get (by omega)).trans hk2)
    · refine ⟨some .ret, _, by have := run_endLoop (P := P) hl (by rw [hrec]; simp); rw [hrec] at this; exact this, ?_⟩
      refine wpIn_ret ?_
      have hs2 := hK2.1
      have hlW2 : w.heap.size + 1 < W2.heap.size := (Array.getElem?_eq_some_iff.1 hl).1
      refine hstop _ i _ rfl hi hG (hJr i W2 _ hJ (below_put (by omega)) (KC.put hl rfl)) ?_ ((put_get (by omega)).trans hk)
      refine ⟨by rw [put_size]; omega, fun k hB hk' => ?_⟩
      omega
/-! ### Many marks -/
/-- The marks have been taken: nothing else has turned. -/
def PD (Ds : List Nat) (w w' : World) : Prop := w'.os = w.os ∧ w'.tape = w.tape ∧ w'.output = w.output ∧ w'.heap.size = w.heap.size ∧ (∀ k, k ∉ Ds → w'.heap[k]? = w.heap[k]?) ∧ KC w w'
theorem PD.refl (w : World) : PD [] w w := ⟨rfl, rfl, rfl, rfl, fun _ _ => rfl, KC.ex (Ex.refl w)⟩
theorem PD.below {Ds : List Nat} {w w' : World} {B : Nat} (h : PD Ds w w') (hB : ∀ D ∈ Ds, B ≤ D) : Below B w w' :=
  ⟨h.1, h.2.1, h.2.2.1, by rw [h.2.2.2.1]; exact Nat.le_refl _, fun k hk => h.2.2.2.2.1 k (fun hm => by have := hB k hm; omega)⟩
theorem PD.ex {Ds : List Nat} {w0 w w' : World} (hx : Ex w0 w) (h : PD Ds w w') (hB : ∀ D ∈ Ds, w0.heap.size ≤ D) : Ex w0 w' :=
  Below.trans hx (h.below hB)
def Marks (Ds : List Nat) (w : World) : Prop := ∀ D ∈ Ds, w.heap[D]? = some (.deferred (some []))
theorem Marks.ex {Ds : List Nat} {w w' : World} (h : Marks Ds w) (hx : Ex w w') : Marks Ds w' := fun D hD => mark_ex (h D hD) hx
theorem leave_marks {P : Program} {fn : Func} {tmps : Array Value} {R : Value → World → Prop} {v : Value} : ∀ (Ds : List Nat) (w : World), Ds.Nodup → Marks Ds w →
    (∀ w', PD Ds w w' → (results fn tmps).run P w' = .ok v w' ∧ R v w') → LeavesInM (FW none) 0 P fn tmps (RE R) (Ds.map mark) .returning w
  | [], w, _, _, h => leave_nil (h w (PD.refl w)).1 (h w (PD.refl w)).2
  | D :: Ds, w, hn, hm, h => by
    have hD := hm D (by simp)
    have hn' := List.nodup_cons.1 hn
    have hlt := (Array.getElem?_eq_some_iff.1 hD).1
    refine ⟨by simp, .inl ⟨D, _, rfl, run_takeDeferred hD, ?_⟩⟩
    refine leave_marks Ds _ hn'.2 (fun E hE => ?_) (fun w' hp => h w' ?_)
    · exact (put_get (fun (e : E = D) => hn'.1 (by rw [← e]; exact hE))).trans (hm E (by simp [hE]))
    · obtain ⟨a, b, c, d, e, f⟩ := hp
      refine ⟨a, b, c, by rw [d, put_size], fun k hk => ?_, (mark_kc hD).trans f⟩
      have h1 : k ≠ D := fun e => hk (by simp [e])
      have h2 : k ∉ Ds := fun e => hk (by simp [e])
      rw [e k h2, put_get h1]
section rets
variable {P : Program} {fn : Func} {w : World} {R : Value → World → Prop} {N : Nat} {σ : Nat → Value}
theorem ret0d {Ds : List Nat} (hres : fn.results = #[]) (hn : Ds.Nodup) (hm : Marks Ds w) (hR : ∀ w', PD Ds w w' → R (.tuple #[]) w') : Post P fn R .ret (mk N σ (Ds.map mark)) w :=
  leave_marks Ds w hn hm fun w' hp => ⟨results_none hres _ P w', hR w' hp⟩
theorem end0d {Ds : List Nat} (hres : fn.results = #[]) (hn : Ds.Nodup) (hm : Marks Ds w) (hR : ∀ w', PD Ds w w' → R (.tuple #[]) w') : Post P fn R .normal (mk N σ (Ds.map mark)) w :=
  leave_marks Ds w hn hm fun w' hp => ⟨results_none hres _ P w', hR w' hp⟩
theorem results_cells3 {a b c : Tmp} {ta tb tc : TypeId} {pa pb pc : Addr} {va vb vc : Value} {tmps : Array Value} (h : fn.results = #[.cell a ta, .cell b tb, .cell c tc]) (ha : tmps.getD a undef = .pointer (some pa)) (hb : tmps.getD b undef = .pointer (some pb)) (hc : tmps.getD c undef = .pointer (some pc))
    (ea : Ty1 P ta) (eb : Ty1 P tb) (ec : Ty1 P tc) (ca : w.cell? pa = some va) (cb : w.cell? pb = some vb) (cc : w.cell? pc = some vc) : (results fn tmps).run P w = .ok (.tuple #[va, vb, vc]) w := by
  simp only [Array.getD_eq_getD_getElem?] at ha hb hc
  simp [results, h, ha, hb, hc, asAddr, run_loadVar1 ea ca, run_loadVar1 eb cb, run_loadVar1 ec cc]
/-- Returns of three results that lie in cells. -/
theorem ret3d {Ds : List Nat} {a b c : Nat} {ta tb tc : TypeId} {pa pb pc : Addr} {va vb vc : Value} (hres : fn.results = #[.cell a ta, .cell b tb, .cell c tc]) (ha : ev N σ (.tmp a) = .pointer (some pa)) (hb : ev N σ (.tmp b) = .pointer (some pb)) (hc : ev N σ (.tmp c) = .pointer (some pc))
    (ea : Ty1 P ta) (eb : Ty1 P tb) (ec : Ty1 P tc) (ca : w.cell? pa = some va) (cb : w.cell? pb = some vb) (cc : w.cell? pc = some vc) (hn : Ds.Nodup) (hm : Marks Ds w) (hR : ∀ w', PD Ds w w' → R (.tuple #[va, vb, vc]) w') : Post P fn R .ret (mk N σ (Ds.map mark)) w :=
  leave_marks Ds w hn hm fun w' hp => ⟨results_cells3 hres (getD_mk' ha) (getD_mk' hb) (getD_mk' hc) ea eb ec (hp.2.2.2.2.2.1 _ _ ca) (hp.2.2.2.2.2.1 _ _ cb) (hp.2.2.2.2.2.1 _ _ cc), hR w' hp⟩
end rets
/-! ### A loop that lays marks -/
section loop
variable {r : Option Nat} {P : Program} {Q : Exit → Act → World → Prop} {w : World}
def LoopEndD (N : Nat) (M : Nat) (σ : Nat → Value) (vals : Nat → List (Nat × Value)) (Inv : Nat → List Nat → World → Prop) (μ : Nat → Nat) (x : Nat) (a' : Act) (w' : World) : Prop :=
  ∃ x' Ds' σ', a' = mk N σ' (Ds'.map mark) ∧ Agree M σ' σ ∧ Has σ' (vals x') ∧ Inv x' Ds' w' ∧ μ x' < μ x
theorem loop_endD {N : Nat} {M : Nat} {σ σ' : Nat → Value} {vals : Nat → List (Nat × Value)} {Inv : Nat → List Nat → World → Prop} {μ : Nat → Nat} {x : Nat} {w' : World} (x' : Nat) (Ds' : List Nat)
    (ha : Agree M σ' σ) (hv : Has σ' (vals x')) (hi : Inv x' Ds' w') (hm : μ x' < μ x) : LoopEndD N M σ vals Inv μ x (mk N σ' (Ds'.map mark)) w' := ⟨x', Ds', σ', rfl, ha, hv, hi, hm⟩
theorem c_loopD (M : Nat) (vals : Nat → List (Nat × Value)) (Inv : Nat → List Nat → World → Prop) (μ : Nat → Nat) {N : Nat} {σ : Nat → Value} {c : Code} (x₀ : Nat)
    (h₀ : Has σ (vals x₀)) (hI : Inv x₀ [] w)
    (round : ∀ (x : Nat) (Ds : List Nat) (ρ : Nat → Value) (w : World), Inv x Ds w → CW r P c (Exit.then (LoopEndD N M σ vals Inv μ x) Q) (mk N (ext (vals x) (mask M ρ σ)) (Ds.map mark)) w) : CW r P (.loop c) Q (mk N σ []) w := by
  intro b k cs hro hb hr
  have key : ∀ j (x : Nat) (Ds : List Nat) (σ' : Nat → Value) (w : World), μ x = j → Agree M σ' σ → Has σ' (vals x) → Inv x Ds w →
      ∃ e a' w', Q e a' w' ∧ ArrivesIn (Machine.fenced P (FW r)) P (lone (b.atR (mk N σ' (Ds.map mark)) (.code c :: .inLoop c :: k)) cs w) b k cs e a' w' := by
    intro j
    induction j using Nat.strongRecOn with
    | _ j ih =>
      intro x Ds σ' w hn hag hhas hI
      have hrd := round x Ds σ' w hI
      rw [mask_self hag, ext_has hhas] at hrd
      obtain ⟨e, a₁, w₁, hq, harr⟩ := hrd b (.inLoop c :: k) cs hro hb hr
      cases e with
      | normal =>
        obtain ⟨x', Ds', σ'', ha, hag', hhas', hI', hlt⟩ := hq
        subst ha
        obtain ⟨e₂, a₂, w₂, hq₂, harr₂⟩ := ih (μ x') (hn ▸ hlt) x' Ds' σ'' w₁ rfl hag' hhas' hI'
        exact ⟨e₂, a₂, w₂, hq₂, .of_steps (StepsIn.trans harr (.one (fenced_calm hb hr rfl) stepR_inLoop)) harr₂⟩
      | exit id => exact ⟨_, a₁, w₁, hq, .pass (x := .inLoop c) rfl (fun _ _ => .inl (by simp)) harr⟩
      | goto l => exact ⟨_, a₁, w₁, hq, .pass (x := .inLoop c) rfl (fun _ _ => .inl (by simp)) harr⟩
      | ret => exact ⟨_, a₁, w₁, hq, .pass (x := .inLoop c) rfl (fun _ _ => .inl (by simp)) harr⟩
      | panic ch => exact ⟨_, a₁, w₁, hq, .pass (x := .inLoop c) rfl (fun _ _ => .inl (by simp)) harr⟩
      | outgrown => exact ⟨_, a₁, w₁, hq, .pass (x := .inLoop c) rfl (fun _ _ => .inl (by simp)) harr⟩
  obtain ⟨e, a', w', hq, harr⟩ := key _ x₀ [] σ w rfl (agree_refl M σ) h₀ hI
  exact ⟨e, a', w', hq, .of_steps (.one (fenced_calm hb hr rfl) stepR_loop) harr⟩
end loop
end Go.Proofs.YtifbgpkjbciblaaGreatDoor.Sal
end
section
/- Core19: deferred calls; arrays of numbers compared; iterators over lists whose consumer stores into one block of its own. -/
set_option maxRecDepth 100000
namespace Go.Proofs.YtifbgpkjbciblaaGreatDoor.Sal
set_option linter.all false
open Go.RowKit
/-! ### Deferred calls -/
abbrev dcall (f : FuncId) (caps : Array Value) : Deferred := { target := .fn (.func f) caps, args := #[] }
section
variable {P : Program} {ops : Array Oper} {Q : Exit → Act → World → Prop} {N : Nat} {σ : Nat → Value} {ds : List Deferred} {w : World} {rest : List Oper}
variable {ty : TypeId} {pos : String} {after : Array Edge}
theorem s_defer {x : Operand} (hx : ∀ f, x ≠ .func f) {f : FuncId} {caps : List Value} {ats : Array TypeId} (hv : ev N σ x = .func (.func f) #[] caps.toArray)
    (h : WL none P ops Q rest (mk N σ (dcall f caps.toArray :: ds)) w) : WL none P ops Q (⟨none, .defer { callee := .value x, args := #[], argTypes := ats }, ty, pos, after, none⟩ :: rest) (mk N σ ds) w := by
  refine wpListIn_plain rfl fun K hK => ?_
  refine ⟨fun f _ => trivial, ?_⟩
  have e : (Oper.semAt (FW none).round (mk N σ ds).eval ⟨none, .defer { callee := .value x, args := #[], argTypes := ats }, ty, pos, after, none⟩).run P w = .ok (.defer (dcall f caps.toArray)) w := by
    rw [eval_mk']
    show (execOp (ev N σ) ⟨none, .defer { callee := .value x, args := #[], argTypes := ats }, ty, pos, after, none⟩).run P w = _
    simp [execOp, resolve, hv, Deferred.ofValue, go_sem]
  rw [e]
  simp only [Oper.uponIn_defer]
  exact hK _ _ h
end
/-- A deferred call of a function without results. -/
def CtD (P : Program) (f : FuncId) (args : Array Value) (w : World) (R : World → Prop) : Prop := CallsDIn (FW none) 0 P f args .returning w fun e u' w' => u' = .returning ∧ (∃ v, e = .returned v) ∧ R w'
def PostD (P : Program) (fn : Func) (R : World → Prop) : Exit → Act → World → Prop := bodyPost P fn fun e w => (∃ v, e = .returned v) ∧ R w
theorem enterD {P : Program} {f : FuncId} {fn : Func} {w : World} {R : World → Prop} {N : Nat} {c : Code} {vs : List Value} (hf : P.funcs[f]? = some fn) (hb : fn.body = some c) (hN : fn.ntmps = N) (hlen : Nat.ble vs.length N = true)
    (h : CW none P c (PostD P fn R) (mk N (args0 vs) []) w) : CtD P f vs.toArray w R := by
  refine callsDIn_of_wp (F := FW none) (n := 0) hf hb trivial ?_
  rw [hN, enter_tmps N vs (Nat.le_of_ble_eq_true hlen)]
  exact h
theorem endD {P : Program} {fn : Func} {w : World} {R : World → Prop} {N : Nat} {σ : Nat → Value} (hres : fn.results = #[]) (hR : R w) : PostD P fn R .normal (mk N σ []) w := ⟨rfl, .tuple #[], results_none hres _ P w, ⟨_, rfl⟩, hR⟩
theorem leave_def {P : Program} {fn : Func} {w : World} {R : Value → World → Prop} {tmps : Array Value} {D f : Nat} {caps : Array Value} {v : Value} (hK : w.heap[D]? = some (.deferred (some []))) (eg : CallOK P f)
    {S : World → Prop} (hC : CtD P f (#[] ++ caps) (w.putObj D (.deferred none)) S) (hR : ∀ w', S w' → (results fn tmps).run P w' = .ok v w' ∧ R v w') : LeavesInM (FW none) 0 P fn tmps (RE R) [mark D, dcall f caps] .returning w := by
  refine ⟨by simp, .inl ⟨D, _, rfl, run_takeDeferred hK, ?_⟩⟩
  refine ⟨by simp, .inr ⟨fun h => by simp [Fence.wide] at h, .func f, caps, f, #[] ++ caps, rfl, ?_, fun g _ => trivial, ?_⟩⟩
  · simp [invoke, go_sem]; exact eg _ _
  · refine CallsDIn.mono hC ?_
    rintro e u' w' ⟨rfl, ⟨v', rfl⟩, hS⟩
    have := hR w' hS
    exact leave_nil this.1 this.2
theorem results_cells4 {P : Program} {fn : Func} {w : World} {a b c d : Tmp} {ta tb tc : TypeId} {pa pb pc : Addr} {va vb vc : Value} {tmps : Array Value} (h : fn.results = #[.cell a ta, .cell b tb, .cell c tc, .tmp d]) (ha : tmps.getD a undef = .pointer (some pa)) (hb : tmps.getD b undef = .pointer (some pb)) (hc : tmps.getD c undef = .pointer (some pc))
    (ea : Ty1 P ta) (eb : Ty1 P tb) (ec : Ty1 P tc) (ca : w.cell? pa = some va) (cb : w.cell? pb = some vb) (cc : w.cell? pc = some vc) : (results fn tmps).run P w = .ok (.tuple #[va, vb, vc, tmps.getD d undef]) w := by
  simp only [Array.getD_eq_getD_getElem?] at ha hb hc
  simp [results, h, ha, hb, hc, asAddr, run_loadVar1 ea ca, run_loadVar1 eb cb, run_loadVar1 ec cc]
theorem results_cell2 {P : Program} {fn : Func} {w : World} {a d : Tmp} {ta : TypeId} {pa : Addr} {va : Value} {tmps : Array Value} (h : fn.results = #[.cell a ta, .tmp d]) (ha : tmps.getD a undef = .pointer (some pa))
    (ea : Ty1 P ta) (ca : w.cell? pa = some va) : (results fn tmps).run P w = .ok (.tuple #[va, tmps.getD d undef]) w := by
  simp only [Array.getD_eq_getD_getElem?] at ha
  simp [results, h, ha, asAddr, run_loadVar1 ea ca]
/-! ### Arrays of numbers -/
theorem eq_items {P : Program} (w : World) (d : Nat) {e : TypeId} {k : IntKind} (he : P.underlying e = some (.int k)) (hc : P.cellsOf e = 1) (hp : P.plainKey e = true) (xs ys : List Int) : ∀ (is : List Nat), (∀ i ∈ is, i < xs.length ∧ i < ys.length) →
    (Op.eqItems (d + 1) e 1 (xs.map (Value.int k)).toArray (ys.map (Value.int k)).toArray is).run P w = .ok (is.all fun i => decide (xs.getD i 0 = ys.getD i 0)) w
  | [], _ => by simp [Op.eqItems]
  | i :: is, h => by
    have h0 := h i (by simp)
    have ih := eq_items w d he hc hp xs ys is (fun j hj => h j (by simp [hj]))
    have hdd : ∀ zs : List Int, i < zs.length → (part e (zs.map (Value.int k)).toArray (i * 1)).run P w = .ok (.int k (zs.getD i 0)) w := fun zs hz => by
      have hx : (zs.map (Value.int k)).toArray[i * 1]? = some (.int k (zs.getD i 0)) := by simp [hz]
      exact run_part_plain w hp hx
    have hq : (Op.equalIn (d + 1) e (.int k (xs.getD i 0)) (.int k (ys.getD i 0))).run P w = .ok (xs.getD i 0 == ys.getD i 0) w := by
      simp [Op.equalIn, run_underlying he]
    simp only [Op.eqItems, Sem.run_bind, hdd xs h0.1, hdd ys h0.2, hq, Result.andThen_ok, List.all_cons]
    rw [← beq_dec]
    cases hb : (xs.getD i 0 == ys.getD i 0) with
    | true => simp only [Bool.not_true, Bool.false_eq_true, if_false, Bool.true_and]; exact ih
    | false => simp only [Bool.not_false, if_true, Bool.false_and, Sem.run_pure]
theorem all_range_eq : ∀ (xs ys : List Int), xs.length = ys.length → ((List.range xs.length).all fun i => decide (xs.getD i 0 = ys.getD i 0)) = decide (xs = ys)
  | [], [], _ => rfl
  | x :: xs, y :: ys, h => by
    have ih := all_range_eq xs ys (by simpa using h)
    rw [List.length_cons, List.range_succ_eq_map, List.all_cons, List.all_map]
    have e : ((fun i => decide ((x :: xs).getD i 0 = (y :: ys).getD i 0)) ∘ Nat.succ) = fun i => decide (xs.getD i 0 = ys.getD i 0) := by funext i; simp
    rw [e, ih]
    by_cases h1 : x = y <;> by_cases h2 : xs = ys <;> simp [h1, h2]
section
variable {r : Option Nat} {P : Program} {ops : Array Oper} {Q : Exit → Act → World → Prop} {N : Nat} {σ : Nat → Value} {ds : List Deferred} {w : World} {rest : List Oper}
variable {d : Nat} {ty t t' : TypeId} {pos : String} {after : Array Edge} {E : TypeId} {x y : Operand} {k : IntKind}
theorem run_equal_arr {xs ys : List Int} {L : Nat} {i : TypeInfo} (hT : P.underlying t = some (.array L E)) (hE : P.underlying E = some (.int k)) (hc : P.cellsOf E = 1) (hp : P.plainKey E = true) (hi : P.info? E = some i) (hlx : xs.length = L) (hly : ys.length = L) :
    (Op.equal t (.agg (xs.map (Value.int k)).toArray) (.agg (ys.map (Value.int k)).toArray)).run P w = .ok (decide (xs = ys)) w := by
  show (Op.equalIn (9999 + 1) t _ _).run P w = _
  rw [run_equalIn_array w 9999 _ _ hT hi, hc, eq_items w 9998 hE hc hp xs ys (List.range L) (fun j hj => by have := List.mem_range.1 hj; omega)]
  rw [← hlx, all_range_eq xs ys (by omega)]
theorem s_eqlA {xs ys : List Int} {L : Nat} (hT : P.underlying t = some (.array L E)) (hE : P.underlying E = some (.int k)) (hc : P.cellsOf E = 1) (hp : P.plainKey E = true) (hi : (P.info? E).isSome = true) (hq : P.eqGuardType P.depth t = false) (hlx : xs.length = L) (hly : ys.length = L)
    (hx : ev N σ x = .agg (xs.map (Value.int k)).toArray) (hy : ev N σ y = .agg (ys.map (Value.int k)).toArray) (h : WL r P ops Q rest (mk N (upd σ d (.bool (decide (xs = ys)))) ds) w) :
    WL r P ops Q (⟨some d, .binOp .eql t x y t', ty, pos, after, none⟩ :: rest) (mk N σ ds) w := by
  obtain ⟨i, hi'⟩ := Option.isSome_iff_exists.1 hi
  have hr := run_equal_arr (w := w) hT hE hc hp hi' hlx hly
  have hb : (binOp .eql t (.agg (xs.map (Value.int k)).toArray) (.agg (ys.map (Value.int k)).toArray)).run P w = .ok (.bool (decide (xs = ys))) w := by
    show ((Op.equal t _ _).bind fun b => (Sem.pure (Value.bool b) : Sem Value)).run P w = _
    simp [Sem.run_bind', hr]
  refine l_val (by intro c e; cases e) ?_ h
  have hg : (eqGuard .eql t x y (.agg (xs.map (Value.int k)).toArray) (.agg (ys.map (Value.int k)).toArray)).run P w = .ok () w := by
    unfold eqGuard
    simp [hq]
  have hr2 : (Op.equalIn 10000 t (.agg (xs.map (Value.int k)).toArray) (.agg (ys.map (Value.int k)).toArray)).run P w = .ok (decide (xs = ys)) w := hr
  simp [execOp, hx, hy, hg, hr2, go_sem]
end
end Go.Proofs.YtifbgpkjbciblaaGreatDoor.Sal
end
section
/- Core20: iterators that hand out lists which they lay as they go, to a consumer that stores into one block of its own. -/
set_option maxRecDepth 100000
namespace Go.Proofs.YtifbgpkjbciblaaGreatDoor.Sal
set_option linter.all false
open Go.RowKit
theorem gr_refl (w : World) (o : Option Nat) : w.grownBy w o := ⟨rfl, rfl, rfl, Nat.le_refl _, fun _ _ _ => rfl⟩
theorem gr_trans {a b c : World} {o : Option Nat} (h : a.grownBy b o) (k : b.grownBy c o) : a.grownBy c o :=
  ⟨k.os.trans h.os, k.tape.trans h.tape, k.output.trans h.output, Nat.le_trans h.size k.size, fun q hq hne => (k.block q (Nat.lt_of_lt_of_le hq h.size) hne).trans (h.block q hq hne)⟩
theorem gr_ex {w w' : World} {o : Option Nat} (h : Ex w w') : w.grownBy w' o := ⟨h.os, h.tape, h.output, h.size, fun k hk _ => h.block k hk⟩
/-- What such an iterator promises: it hands out these lists, one behind the other, each reading as it should; what turns is the consumer's block alone. -/
def IterM (P : Program) (gf : Nat) (lb : List Value) (L : List (List Int)) (bo : Nat) (w0 : World) : Prop :=
  ∀ (l : Nat) (I : Nat → World → Prop) (W0 : World), Ex w0 W0 → (∀ i W W', I i W → Ex W W' → I i W') → I 0 W0 →
    (∀ i x W v, L[i]? = some x → W0.grownBy W (some bo) → Ints W v x → (∀ b, v.ownBlock = some b → bo < b) → I i W → YieldAt Fence.wide 0 P l [v].toArray W fun e W' => e = .returned (.bool true) ∧ W.grownBy W' (some bo) ∧ I (i + 1) W') →
    Ct P gf (.func (.yield l) #[] #[] :: lb).toArray W0 fun _ W' => W0.grownBy W' (some bo) ∧ I L.length W'
def MPost (bo : Nat) (I : Nat → World → Prop) (i : Nat) (W : World) : Exit → Act → World → Prop
  | .normal, _, W' => W.grownBy W' (some bo) ∧ I (i + 1) W'
  | _, _, _ => False
theorem c_rangeM {P : Program} {g : Operand} {ps : Array Tmp} {assign body : Code} {Q : Exit → Act → World → Prop} {N : Nat} {σ : Nat → Value} {ds : List Deferred} {w : World} {gf : Nat} {lb : List Value} {L : List (List Int)} {bo : Nat} {w0 : World}
    (hg : ev N σ g = .func (.func gf) #[] lb.toArray) (eg : CallOK P gf) (hit : IterM P gf lb L bo w0) (hw : Ex w0 w) (hbo : bo < w.heap.size) (hps : ps.size = 1)
    (I : Nat → World → Prop) (hI : ∀ i W W', I i W → W.grownBy W' none → I i W') (hIp : ∀ i W (k : Nat) o o', I i W → W.heap[k]? = some o → o.isCells = false → I i (W.putObj k o')) (hI0 : I 0 w) (σ1 : Value → (Nat → Value) → Nat → Value)
    (hassign : ∀ (l : Nat) (v : Value) (W : World) (K : Act → World → Prop), K (mk N (σ1 v σ) []) W → CW (some l) P assign (Exit.then K (fun _ _ _ => False)) (mk N (updl (ps.toList.zip [v]) σ) []) W)
    (hbody : ∀ (l i : Nat) (x : List Int) (v : Value) (W : World), L[i]? = some x → w.grownBy W (some bo) → Ints W v x → (∀ b, v.ownBlock = some b → bo < b) → I i W → CW (some l) P body (MPost bo I i W) (mk N (σ1 v σ) []) W)
    (hdone : ∀ (D : Nat) (W : World), D = w.heap.size → w.grownBy W (some bo) → I L.length W → W.heap[D]? = some (.deferred (some [])) → Q .normal (mk N σ (mark D :: ds)) W) :
    CW none P (.rangeFunc g ps assign body) Q (mk N σ ds) w := by
  refine wpIn_rangeFunc ?_
  intro fn hfn
  obtain ⟨rec, hrec⟩ : ∃ rec : LoopState → Option Code → Loop, rec = fun st pe => { state := st, pending := pe, fn, tmps := (mk N σ ds).tmps, params := ps, assign, body, defers := w.heap.size } := ⟨_, rfl⟩
  obtain ⟨W1, hW1⟩ : ∃ W1, (w.alloc (.deferred (some []))).alloc (.loop (rec .ready none)) = W1 := ⟨_, rfl⟩
  have hs1 : W1.heap.size = w.heap.size + 2 := by rw [← hW1]; simp
  have hx1 : Ex w W1 := by rw [← hW1]; exact (Ex.alloc w _).trans (Ex.alloc _ _)
  have hL1 : W1.heap[w.heap.size + 1]? = some (.loop (rec .ready none)) := by
    rw [← hW1]
    have := World.alloc_heap_new (w.alloc (.deferred (some []))) (.loop (rec .ready none))
    rwa [World.size_alloc] at this
  have hK1 : W1.heap[w.heap.size]? = some (.deferred (some [])) := by
    rw [← hW1]
    exact ((Ex.alloc (w.alloc (.deferred (some []))) _).block w.heap.size (by simp)).trans (World.alloc_heap_new w _)
  refine ⟨w.heap.size + 1, [mark w.heap.size], W1, { target := .fn (.func gf) lb.toArray, args := #[.func (.yield (w.heap.size + 1)) #[] #[]] }, W1, gf,
    #[.func (.yield (w.heap.size + 1)) #[] #[]] ++ lb.toArray, W1, ?_, ?_, ?_, ?_, fun h => by simp [Fence.wide] at h, ?_⟩
  · rw [← hW1, hrec]; exact run_enterLoop_outer _ _ _ _ _
  · simp only [resolve, eval_mk, hg]
    simp [go_sem]
  · intro f' hf'; trivial
  · simp [invoke, go_sem]; exact eg _ _
  · have e0 : (#[Value.func (.yield (w.heap.size + 1)) #[] #[]] ++ lb.toArray : Array Value) = (Value.func (.yield (w.heap.size + 1)) #[] #[] :: lb).toArray := by simp
    rw [e0]
    have key := hit (w.heap.size + 1) (fun i W => I i W ∧ W.heap[w.heap.size + 1]? = some (.loop (rec .ready none)) ∧ W.heap[w.heap.size]? = some (.deferred (some [])) ∧ W1.heap.size ≤ W.heap.size) W1 (hw.trans hx1)
      (fun i W W' ⟨h1, h2, h3, h4⟩ hx => ⟨hI i W W' h1 hx.grown, (hx.block _ (by omega)).trans h2, (hx.block _ (by omega)).trans h3, Nat.le_trans h4 hx.size⟩)
      ⟨hI 0 w W1 hI0 hx1.grown, hL1, hK1, Nat.le_refl _⟩
      (fun i x W v hx hgW hIn hvb ⟨hIi, hl, hk, hsz⟩ => by
        have hlt : w.heap.size + 1 < W.heap.size := (Array.getElem?_eq_some_iff.1 hl).1
        have hgw : w.grownBy W (some bo) := gr_trans (gr_ex hx1) hgW
        have hy := run_yield (P := P) (args := [v].toArray) hl (by rw [hrec]; simp [hps])
        rw [hrec] at hy
        refine ⟨fn, _, assign, body, hy, ?_⟩
        have hr : RoundIn (FW none) 0 P (w.heap.size + 1) fn ((ps.zip [v].toArray).foldl (fun t (p, v) => t.setIfInBounds p v) (mk N σ ds).tmps) assign body W
            (fun e W' => e = .returned (.bool true) ∧ W.grownBy W' (some bo) ∧ (I (i + 1) W' ∧ W'.heap[w.heap.size + 1]? = some (.loop (rec .ready none)) ∧ W'.heap[w.heap.size]? = some (.deferred (some [])) ∧ W1.heap.size ≤ W'.heap.size)) := by
          refine roundIn_of_wpIn (F := FW none) (n := 0) hfn ?_
          rw [zip_mk]
          refine hassign (w.heap.size + 1) v W _ ?_
          refine ⟨_, run_beginRound hl (by rw [hrec]), ?_⟩
          obtain ⟨Wb, hWb⟩ : ∃ Wb, Wb = W.putObj (w.heap.size + 1) (.loop { rec .ready none with state := .busy }) := ⟨_, rfl⟩
          rw [← hWb]
          have hlb : Wb.heap[w.heap.size + 1]? = some (.loop { rec .ready none with state := .busy }) := by rw [hWb]; exact World.putObj_heap_same hlt
          have hkb : Wb.heap[w.heap.size]? = some (.deferred (some [])) := by rw [hWb]; exact (put_get (by omega)).trans hk
          have hsb : Wb.heap.size = W.heap.size := by rw [hWb]; exact put_size
          have hgb : w.grownBy Wb (some bo) := by
            refine ⟨by rw [hWb]; exact hgw.os, by rw [hWb]; exact hgw.tape, by rw [hWb]; exact hgw.output, by rw [hsb]; exact hgw.size, fun q hq hne => ?_⟩
            rw [hWb, put_get (by omega)]
            exact hgw.block q hq hne
          have hIb : Ints Wb v x := by rw [hWb]; exact (KC.put hl rfl).ints hIn
          have hIib : I i Wb := by rw [hWb]; exact hIp i W _ _ _ hIi hl rfl
          refine wpIn_mono (hbody (w.heap.size + 1) i x v Wb hx hgb hIb hvb hIib) ?_
          rintro e a3 W3 hp
          cases e with
          | normal =>
            obtain ⟨hg3, hI3⟩ := hp
            have hl3 : W3.heap[w.heap.size + 1]? = some (.loop { rec .ready none with state := .busy }) := (hg3.block _ (by omega) (fun e => by have := Option.some.inj e; omega)).trans hlb
            have hk3 : W3.heap[w.heap.size]? = some (.deferred (some [])) := (hg3.block _ (by omega) (fun e => by have := Option.some.inj e; omega)).trans hkb
            have hs3 := hg3.size
            refine ⟨_, _, run_endRound (P := P) none hl3, rfl, ?_, hIp _ _ _ _ _ hI3 hl3 rfl, ?_, (put_get (by omega)).trans hk3, by rw [put_size]; omega⟩
            · refine ⟨hg3.os.trans (by rw [hWb]; rfl), hg3.tape.trans (by rw [hWb]; rfl), hg3.output.trans (by rw [hWb]; rfl), by rw [put_size]; omega, fun k hk' hne => ?_⟩
              by_cases e : k = w.heap.size + 1
              · subst e
                rw [World.putObj_heap_same (by omega), hl, hrec]
                simp
              · rw [put_get e, hg3.block k (by omega) hne, hWb, put_get e]
            · rw [World.putObj_heap_same (by omega), hrec]
              simp
          | ret => exact hp.elim
          | exit id => exact hp.elim
          | goto t => exact hp.elim
          | panic ch => exact hp.elim
          | outgrown => exact hp.elim
        exact hr)
    refine CallsIn.mono key.callsIn ?_
    rintro e W2 ⟨v, rfl, hg2, hI2, hl2, hk2, hsz2⟩
    have hgw : w.grownBy W2 (some bo) := gr_trans (gr_ex hx1) hg2
    refine ⟨none, _, by have := run_endLoop (P := P) hl2 (by rw [hrec]; simp); rw [hrec] at this; exact this, ?_⟩
    refine hdone _ _ rfl ?_ (hIp _ _ _ _ _ hI2 hl2 rfl) ((put_get (by omega)).trans hk2)
    refine ⟨hgw.os, hgw.tape, hgw.output, by rw [put_size]; exact hgw.size, fun q hq hne => ?_⟩
    rw [put_get (by omega)]
    exact hgw.block q hq hne
end Go.Proofs.YtifbgpkjbciblaaGreatDoor.Sal
end
section
/- slices.IndexFunc, ContainsFunc at [][]int and []int; Index, Contains, Clip, Clone at []int. -/
set_option maxRecDepth 100000
namespace Go.Proofs.YtifbgpkjbciblaaGreatDoor.Sal
open Go.RowKit
attribute [local irreducible] Go.Code.wpIn Go.wpListIn Ct Ints Rows Sl At Rw WJ
set_option linter.all false
theorem ok_ifI : CallOK Tryz.prog 115 := callOK Tryz.func115 (by kernel_rfl) rfl
theorem ok_ifR : CallOK Tryz.prog 127 := callOK Tryz.func127 (by kernel_rfl) rfl
theorem ok_cfI : CallOK Tryz.prog 72 := callOK Tryz.func72 (by kernel_rfl) rfl
theorem ok_cfR : CallOK Tryz.prog 88 := callOK Tryz.func88 (by kernel_rfl) rfl
/-- A function value that answers a bool of an int and leaves all as it was. -/
def AskI (P : Program) (g : FuncId) (caps : List Value) (w : World) (p : Int → Bool) : Prop := CallOK P g ∧ ∀ x w1, Ex w w1 → Ct P g ([Value.int .i64 x] ++ caps).toArray w1 fun v w' => v = .bool (p x) ∧ Ex w1 w'
def AskR (P : Program) (g : FuncId) (caps : List Value) (w : World) (p : List Int → Bool) : Prop := CallOK P g ∧ ∀ u l w1, Ex w w1 → Ints w1 u l → Ct P g ([u] ++ caps).toArray w1 fun v w' => v = .bool (p l) ∧ Ex w1 w'
theorem AskI.ex {P : Program} {g : FuncId} {caps : List Value} {w w' : World} {p : Int → Bool} (h : AskI P g caps w p) (hx : Ex w w') : AskI P g caps w' p := ⟨h.1, fun x w1 h1 => h.2 x w1 (hx.trans h1)⟩
theorem AskR.ex {P : Program} {g : FuncId} {caps : List Value} {w w' : World} {p : List Int → Bool} (h : AskR P g caps w p) (hx : Ex w w') : AskR P g caps w' p := ⟨h.1, fun u l w1 h1 => h.2 u l w1 (hx.trans h1)⟩
theorem any_take_succ {α : Type} (l : List α) (p : α → Bool) (k : Nat) (d : α) (hk : k < l.length) : (l.take (k + 1)).any p = ((l.take k).any p || p (l.getD k d)) := by
  rw [List.take_succ_eq_append_getElem hk, List.any_append]; simp [hk]
theorem any_of_getD {α : Type} (l : List α) (p : α → Bool) (k : Nat) (d : α) (hk : k < l.length) (h : p (l.getD k d) = true) : l.any p = true := by
  rw [List.any_eq_true]
  exact ⟨l[k], List.getElem_mem hk, by simpa [hk] using h⟩
theorem ifI_ct (v : Value) (l : List Int) (g : FuncId) (caps : List Value) (p : Int → Bool) (w : World) (hl : Ints w v l) (ha : AskI Tryz.prog g caps w p) :
    Ct Tryz.prog 115 #[v, .func (.func g) #[] caps.toArray] w fun u w' => (∃ n : Int, u = .int .i64 n ∧ (0 ≤ n ↔ l.any p = true)) ∧ Ex w w' := by
  have hlen := hl.len
  refine enter (N := 19) (vs := [v, .func (.func g) #[] caps.toArray]) Tryz.func115 rfl rfl rfl ?_
  repeat (first | (refine isO ?_; first | refine s_move ?_ | refine s_assign ?_ | (refine isCall ?_; refine s_lenI sl_ints rfl (by assumption) ?_)) | (refine isC ?_; first | refine c_sr ?_ | refine c_seq ?_ | refine c_block ?_) | (refine l_th ?_))
  refine c_loop (γ := Nat) 524080 (fun k => [(8, .int .i64 (k : Int))]) (fun k w' => k ≤ l.length ∧ (l.take k).any p = false ∧ Ex w w') (fun k => l.length - k) 0 ⟨rfl, trivial⟩ ⟨Nat.zero_le _, rfl, Ex.refl _⟩ ?_
  rintro k ρ w' ⟨hk, hno, hx⟩
  have hl' := hl.ex hx
  repeat (first | (refine isO ?_; (refine isBin ?_; refine s_lss rfl rfl ?_)) | (refine isC ?_; first | refine c_sr ?_ | refine c_seq ?_) | (refine l_th ?_))
  refine c_ifd rfl (fun h => ?_) (fun h => ?_)
  · have hk' : k < l.length := by omega
    repeat (first | (refine isO ?_; first | refine s_move ?_ | refine s_assign ?_ | (refine isIA ?_; refine s_ixI sl_ints ty_int rfl rfl rfl (by assumption) (by omega) ?_; intro _)) | (refine isC ?_; first | refine c_sr ?_ | refine c_th ?_ | refine c_seq ?_ | refine c_block ?_) | (refine l_th ?_))
    refine s_callv (by intro f e; cases e) rfl ha.1 rfl (ha.2 _ _ hx) ?_
    rintro v1 w1 ⟨rfl, hx1⟩
    cases hp : p (l.getD k 0) with
    | true =>
      repeat (first | (refine isO ?_; first | refine s_move ?_ | refine s_assign ?_) | (refine isC ?_; first | refine c_sr ?_ | refine c_ift rfl ?_ | refine c_ret ?_) | (first | refine l_th ?_ | refine th_ret ?_ | refine ib_ret ?_))
      exact ret1 rfl rfl ⟨⟨_, rfl, fun _ => any_of_getD l p k 0 hk' hp, fun _ => by omega⟩, hx.trans hx1⟩
    | false =>
      repeat (first | (refine isO ?_; first | refine s_move ?_ | (refine isBin ?_; refine s_inc rfl (by omega) ?_)) | (refine isC ?_; first | refine c_region ?_ | refine c_iff rfl ?_ | refine c_skip ?_) | (refine l_th ?_))
      refine loop_end (k + 1) (by (repeat (first | exact agree_refl _ _ | refine agree_upd rfl ?_ | refine agree_ext rfl ?_ | refine agree_mask rfl ?_))) ⟨rfl, trivial⟩ ⟨hk', ?_, hx.trans hx1⟩ (by omega)
      rw [any_take_succ l p k 0 hk', hno, hp]; rfl
  · repeat (first | (refine isO ?_; refine s_assign ?_) | (refine isC ?_; first | refine c_sr ?_ | refine c_ret ?_ | refine c_exit ?_) | (refine l_th ?_))
    refine ret1 rfl rfl ⟨⟨_, rfl, fun h0 => by omega, fun h1 => ?_⟩, hx⟩
    rw [List.take_of_length_le (by omega)] at hno
    rw [hno] at h1; cases h1
theorem ifR_ct (v : Value) (l : List (List Int)) (g : FuncId) (caps : List Value) (p : List Int → Bool) (w : World) (hl : Rows w v l) (ha : AskR Tryz.prog g caps w p) :
    Ct Tryz.prog 127 #[v, .func (.func g) #[] caps.toArray] w fun u w' => (∃ n : Int, u = .int .i64 n ∧ (0 ≤ n ↔ l.any p = true)) ∧ Ex w w' := by
  have hlen := hl.len
  refine enter (N := 19) (vs := [v, .func (.func g) #[] caps.toArray]) Tryz.func127 rfl rfl rfl ?_
  repeat (first | (refine isO ?_; first | refine s_move ?_ | refine s_assign ?_ | (refine isCall ?_; refine s_lenR sl_rows rfl (by assumption) ?_)) | (refine isC ?_; first | refine c_sr ?_ | refine c_seq ?_ | refine c_block ?_) | (refine l_th ?_))
  refine c_loop (γ := Nat) 524080 (fun k => [(8, .int .i64 (k : Int))]) (fun k w' => k ≤ l.length ∧ (l.take k).any p = false ∧ Ex w w') (fun k => l.length - k) 0 ⟨rfl, trivial⟩ ⟨Nat.zero_le _, rfl, Ex.refl _⟩ ?_
  rintro k ρ w' ⟨hk, hno, hx⟩
  have hl' := hl.ex hx
  repeat (first | (refine isO ?_; (refine isBin ?_; refine s_lss rfl rfl ?_)) | (refine isC ?_; first | refine c_sr ?_ | refine c_seq ?_) | (refine l_th ?_))
  refine c_ifd rfl (fun h => ?_) (fun h => ?_)
  · have hk' : k < l.length := by omega
    repeat (first | (refine isO ?_; first | refine s_move ?_ | refine s_assign ?_) | (refine isC ?_; first | refine c_sr ?_ | refine c_th ?_ | refine c_seq ?_ | refine c_block ?_) | (refine l_th ?_))
    refine s_ixR sl_rows ty_ints rfl rfl rfl hl' hk' ?_
    intro _ u hu
    refine s_callv (by intro f e; cases e) rfl ha.1 rfl (ha.2 _ _ _ hx hu) ?_
    rintro v1 w1 ⟨rfl, hx1⟩
    cases hp : p (l.getD k []) with
    | true =>
      repeat (first | (refine isO ?_; first | refine s_move ?_ | refine s_assign ?_) | (refine isC ?_; first | refine c_sr ?_ | refine c_ift rfl ?_ | refine c_ret ?_) | (first | refine l_th ?_ | refine th_ret ?_ | refine ib_ret ?_))
      exact ret1 rfl rfl ⟨⟨_, rfl, fun _ => any_of_getD l p k [] hk' hp, fun _ => by omega⟩, hx.trans hx1⟩
    | false =>
      repeat (first | (refine isO ?_; first | refine s_move ?_ | (refine isBin ?_; refine s_inc rfl (by omega) ?_)) | (refine isC ?_; first | refine c_region ?_ | refine c_iff rfl ?_ | refine c_skip ?_) | (refine l_th ?_))
      refine loop_end (k + 1) (by (repeat (first | exact agree_refl _ _ | refine agree_upd rfl ?_ | refine agree_ext rfl ?_ | refine agree_mask rfl ?_))) ⟨rfl, trivial⟩ ⟨hk', ?_, hx.trans hx1⟩ (by omega)
      rw [any_take_succ l p k [] hk', hno, hp]; rfl
  · repeat (first | (refine isO ?_; refine s_assign ?_) | (refine isC ?_; first | refine c_sr ?_ | refine c_ret ?_ | refine c_exit ?_) | (refine l_th ?_))
    refine ret1 rfl rfl ⟨⟨_, rfl, fun h0 => by omega, fun h1 => ?_⟩, hx⟩
    rw [List.take_of_length_le (by omega)] at hno
    rw [hno] at h1; cases h1
theorem dec_bool {p : Prop} [Decidable p] {b : Bool} (h : p ↔ b = true) : decide p = b := by
  cases b with
  | true => exact decide_eq_true (h.2 rfl)
  | false => exact decide_eq_false (fun hp => by have := h.1 hp; cases this)
theorem cfI_ct (v : Value) (l : List Int) (g : FuncId) (caps : List Value) (p : Int → Bool) (w : World) (hl : Ints w v l) (ha : AskI Tryz.prog g caps w p) :
    Ct Tryz.prog 72 #[v, .func (.func g) #[] caps.toArray] w fun u w' => u = .bool (l.any p) ∧ Ex w w' := by
  refine enter (N := 9) (vs := [v, .func (.func g) #[] caps.toArray]) Tryz.func72 rfl rfl rfl ?_
  repeat (first | (refine isO ?_; first | refine s_move ?_ | refine s_assign ?_) | (refine isC ?_; refine c_sr ?_) | (refine l_th ?_))
  refine s_call ok_ifI rfl (ifI_ct v l g caps p w hl ha) ?_
  rintro u w' ⟨⟨n, rfl, hn⟩, hx⟩
  refine s_geq rfl rfl ?_
  repeat (first | (refine isO ?_; refine s_assign ?_) | (refine isC ?_; refine c_ret ?_) | (refine l_th ?_))
  exact ret1 rfl rfl ⟨vbool (dec_bool hn), hx⟩
theorem cfR_ct (v : Value) (l : List (List Int)) (g : FuncId) (caps : List Value) (p : List Int → Bool) (w : World) (hl : Rows w v l) (ha : AskR Tryz.prog g caps w p) :
    Ct Tryz.prog 88 #[v, .func (.func g) #[] caps.toArray] w fun u w' => u = .bool (l.any p) ∧ Ex w w' := by
  refine enter (N := 9) (vs := [v, .func (.func g) #[] caps.toArray]) Tryz.func88 rfl rfl rfl ?_
  repeat (first | (refine isO ?_; first | refine s_move ?_ | refine s_assign ?_) | (refine isC ?_; refine c_sr ?_) | (refine l_th ?_))
  refine s_call ok_ifR rfl (ifR_ct v l g caps p w hl ha) ?_
  rintro u w' ⟨⟨n, rfl, hn⟩, hx⟩
  refine s_geq rfl rfl ?_
  repeat (first | (refine isO ?_; refine s_assign ?_) | (refine isC ?_; refine c_ret ?_) | (refine l_th ?_))
  exact ret1 rfl rfl ⟨vbool (dec_bool hn), hx⟩
end Go.Proofs.YtifbgpkjbciblaaGreatDoor.Sal
end
section
/- Plain: counts, Hall's theorem (by Rado's proof), the duality of the best matching. -/
set_option maxRecDepth 100000
namespace Go.Proofs.YtifbgpkjbciblaaGreatDoor.Sal
set_option linter.all false

/-! ### Counts -/
def cnt (s : Nat → Bool) : Nat → Nat
  | 0 => 0
  | n + 1 => cnt s n + (if s n = true then 1 else 0)
theorem cnt_le {s t : Nat → Bool} : ∀ (n : Nat), (∀ i, i < n → s i = true → t i = true) → cnt s n ≤ cnt t n
  | 0, _ => Nat.le_refl _
  | n + 1, h => by
    have h1 := cnt_le n (fun i hi => h i (by omega))
    have h2 := h n (by omega)
    unfold cnt
    by_cases hs : s n = true
    · simp [hs, h2 hs]; omega
    · simp [hs]; omega
theorem cnt_congr {s t : Nat → Bool} (n : Nat) (h : ∀ i, i < n → s i = t i) : cnt s n = cnt t n :=
  Nat.le_antisymm (cnt_le n fun i hi hs => by rw [← h i hi]; exact hs) (cnt_le n fun i hi hs => by rw [h i hi]; exact hs)
theorem cnt_modular (s t : Nat → Bool) : ∀ n, cnt (fun i => s i || t i) n + cnt (fun i => s i && t i) n = cnt s n + cnt t n
  | 0 => rfl
  | n + 1 => by
    have := cnt_modular s t n
    unfold cnt
    cases s n <;> cases t n <;> simp <;> omega
theorem cnt_bound (s : Nat → Bool) : ∀ n, cnt s n ≤ n
  | 0 => Nat.le_refl _
  | n + 1 => by have := cnt_bound s n; unfold cnt; split <;> omega
theorem cnt_drop {s : Nat → Bool} {i : Nat} : ∀ {n : Nat}, i < n → s i = true → cnt (fun j => s j && !(j == i)) n + 1 = cnt s n
  | n + 1, hi, hs => by
    by_cases h : i = n
    · subst h
      have e : cnt (fun j => s j && !(j == i)) i = cnt s i := cnt_congr i fun j hj => by
        have : (j == i) = false := by simp; omega
        simp [this]
      simp [cnt, hs, e]
    · have ih := cnt_drop (n := n) (by omega) hs
      have : (n == i) = false := by simp; omega
      simp only [cnt, this]
      simp
      omega
theorem cnt_pos {s : Nat → Bool} : ∀ {n : Nat}, 0 < cnt s n → ∃ i, i < n ∧ s i = true
  | n + 1, h => by
    by_cases hs : s n = true
    · exact ⟨n, by omega, hs⟩
    · simp [cnt, hs] at h
      obtain ⟨i, hi, h2⟩ := cnt_pos h
      exact ⟨i, by omega, h2⟩
theorem cnt_zero {s : Nat → Bool} : ∀ (n : Nat), (∀ i, i < n → s i = false) → cnt s n = 0
  | 0, _ => rfl
  | n + 1, h => by
    have := cnt_zero n (fun i hi => h i (by omega))
    have h2 := h n (by omega)
    simp [cnt, h2, this]
/-! ### Hall's theorem -/
noncomputable def nb (R : Nat → Nat → Bool) (N : Nat) (s : Nat → Bool) (k : Nat) : Bool := @decide (∃ i, i < N ∧ s i = true ∧ R i k = true) (Classical.propDecidable _)
theorem nb_iff {R : Nat → Nat → Bool} {N : Nat} {s : Nat → Bool} {k : Nat} : nb R N s k = true ↔ ∃ i, i < N ∧ s i = true ∧ R i k = true := by
  unfold nb; exact @decide_eq_true_iff _ (Classical.propDecidable _)
def Hall (R : Nat → Nat → Bool) (N M : Nat) : Prop := ∀ s, cnt s N ≤ cnt (nb R N s) M
def edges (R : Nat → Nat → Bool) (M : Nat) : Nat → Nat
  | 0 => 0
  | n + 1 => edges R M n + cnt (R n) M
/-! ### Sums -/
def sm (f : Nat → Int) : Nat → Int
  | 0 => 0
  | n + 1 => sm f n + f n
/-- What a map of columns to rows gains: where the row is none, or nothing is gained, 0. -/
def wt (G : Nat → Nat → Int) (m : Nat) (τ : Nat → Nat) (j : Nat) : Int := if τ j < m then (if 0 ≤ G (τ j) j then G (τ j) j else 0) else 0
def val (G : Nat → Nat → Int) (m L : Nat) (τ : Nat → Nat) : Int := sm (wt G m τ) L
end Go.Proofs.YtifbgpkjbciblaaGreatDoor.Sal
end
section
/- Plain: the search of a way to one more: what it finds, and what it shows where it finds none. -/
set_option maxRecDepth 100000
namespace Go.Proofs.YtifbgpkjbciblaaGreatDoor.Sal
set_option linter.all false

/-! ### The search -/
def fset {α : Type} (f : Nat → α) (k : Nat) (x : α) : Nat → α := fun j => if j = k then x else f j
theorem fset_same {α : Type} (f : Nat → α) (k : Nat) (x : α) : fset f k x k = x := by simp [fset]
theorem fset_other {α : Type} {f : Nat → α} {k j : Nat} {x : α} (h : j ≠ k) : fset f k x j = f j := by simp [fset, h]
/-- The items that a bidder may have, rising. -/
def rowN (n : Nat) (p : Nat → Bool) : List Nat := (List.range n).filter p
theorem mem_rowN {n : Nat} {p : Nat → Bool} {k : Nat} : k ∈ rowN n p ↔ k < n ∧ p k = true := by simp [rowN]
/-- One bidder's items, one behind the other. -/
def scanR (hold : Nat → Nat) (b : Nat) : List Nat → (Nat → Nat) → List Nat → Option Nat × (Nat → Nat) × List Nat
  | [], w, ws => (none, w, ws)
  | k :: ks, w, ws => if 0 < w k then scanR hold b ks w ws else if 0 < hold k then scanR hold b ks (fset w k (b + 1)) (ws ++ [hold k - 1]) else (some k, fset w k (b + 1), ws)
def bfsR (R : Nat → Nat → Bool) (n : Nat) (hold : Nat → Nat) : Nat → Nat → (Nat → Nat) → List Nat → Option Nat × (Nat → Nat) × List Nat
  | 0, _, w, ws => (none, w, ws)
  | f + 1, j, w, ws => if j < ws.length then
      match scanR hold (ws.getD j 0) (rowN n (R (ws.getD j 0))) w ws with
      | (some k, w', ws') => (some k, w', ws')
      | (none, w', ws') => bfsR R n hold f (j + 1) w' ws'
    else (none, w, ws)
/-- One more than who has an item; 0: nobody. -/
def holdN (has : List Int) : Nat → Nat → Nat
  | 0, _ => 0
  | j + 1, k => if has.getD j (-1) = (k : Int) then j + 1 else holdN has j k
def augR (w : Nat → Nat) : Nat → Int → List Int → List Int
  | 0, _, has => has
  | f + 1, k, has => if k = -1 then has else augR w f (has.getD (w k.toNat - 1) (-1)) (has.set (w k.toNat - 1) k)
def moreR (R : Nat → Nat → Bool) (n : Nat) (has : List Int) (a : Nat) : Option (List Int) :=
  match bfsR R n (holdN has has.length) 9 0 (fun _ => 0) [a] with
  | (some k, w, _) => some (augR w 9 (k : Int) has)
  | (none, _, _) => none

/-! ### Matchings -/
structure FitR (R : Nat → Nat → Bool) (m n : Nat) (has : List Int) : Prop where
  len : has.length = m
  ok : ∀ i, i < m → has.getD i (-1) = -1 ∨ ∃ k : Nat, k < n ∧ has.getD i (-1) = (k : Int) ∧ R i k = true
  inj : ∀ i j, i < m → j < m → has.getD i (-1) = has.getD j (-1) → has.getD i (-1) ≠ -1 → i = j
theorem getD_setI (l : List Int) (i j : Nat) (x : Int) (hi : i < l.length) : (l.set i x).getD j (-1) = if j = i then x else l.getD j (-1) := by
  simp only [List.getD_eq_getElem?_getD, List.getElem?_set]
  by_cases hj : i = j
  · subst hj; simp [hi]
  · have : ¬ j = i := fun e => hj e.symm
    simp [hj, this]
theorem holdN_pos {has : List Int} {k : Nat} : ∀ {j : Nat}, 0 < holdN has j k → holdN has j k - 1 < j ∧ has.getD (holdN has j k - 1) (-1) = (k : Int)
  | j + 1, h => by
    unfold holdN at h ⊢
    by_cases he : has.getD j (-1) = (k : Int)
    · rw [if_pos he] at h ⊢
      exact ⟨by omega, by simpa using he⟩
    · rw [if_neg he] at h ⊢
      have := holdN_pos h
      exact ⟨by omega, this.2⟩
theorem holdN_zero {has : List Int} {k : Nat} : ∀ {j : Nat}, holdN has j k = 0 → ∀ i, i < j → has.getD i (-1) ≠ (k : Int)
  | j + 1, h, i, hi => by
    unfold holdN at h
    by_cases he : has.getD j (-1) = (k : Int)
    · rw [if_pos he] at h; omega
    · rw [if_neg he] at h
      by_cases hij : i = j
      · subst hij; exact he
      · exact holdN_zero h i (by omega)

/-- What holds all through the search. -/
structure BI (R : Nat → Nat → Bool) (m n : Nat) (has : List Int) (a : Nat) (w : Nat → Nat) (ws : List Nat) : Prop where
  head : ws[0]? = some a
  bnd : ∀ b ∈ ws, b < m
  nodup : ∀ (i j b : Nat), ws[i]? = some b → ws[j]? = some b → i = j
  came : ∀ (j b : Nat), ws[j]? = some b → 0 < j → ∃ k j' : Nat, k < n ∧ has.getD b (-1) = (k : Int) ∧ 0 < w k ∧ j' < j ∧ ws[j']? = some (w k - 1)
  byok : ∀ k, 0 < w k → k < n ∧ (w k - 1) ∈ ws ∧ R (w k - 1) k = true
  full : ws.length ≤ 1 + cnt (fun k => decide (0 < w k)) n
  held : ∀ k, 0 < w k → 0 < holdN has has.length k → holdN has has.length k - 1 ∈ ws
theorem BI.len {R : Nat → Nat → Bool} {m n : Nat} {has : List Int} {a : Nat} {w : Nat → Nat} {ws : List Nat} (h : BI R m n has a w ws) : ws.length ≤ 1 + n :=
  Nat.le_trans h.full (by have := cnt_bound (fun k => decide (0 < w k)) n; omega)
theorem BI.start {R : Nat → Nat → Bool} {m n : Nat} {has : List Int} {a : Nat} (ha : a < m) : BI R m n has a (fun _ => 0) [a] := by
  refine ⟨rfl, by simp [ha], ?_, ?_, ?_, by simp, ?_⟩
  · intro i j b hi hj
    have h1 := (List.getElem?_eq_some_iff.1 hi).1
    have h2 := (List.getElem?_eq_some_iff.1 hj).1
    simp at h1 h2; omega
  · intro j b hj h0
    have h1 := (List.getElem?_eq_some_iff.1 hj).1
    simp at h1; omega
  · intro k h; omega
  · intro k h; omega
theorem cnt_fset {w : Nat → Nat} {n k x : Nat} (hk : k < n) (h0 : ¬ 0 < w k) (hx : 0 < x) : cnt (fun j => decide (0 < w j)) n + 1 = cnt (fun j => decide (0 < fset w k x j)) n := by
  have h1 : (fun j => decide (0 < fset w k x j)) k = true := by simp [fset_same, hx]
  have h2 := cnt_drop (s := fun j => decide (0 < fset w k x j)) hk h1
  rw [← h2]
  congr 1
  apply cnt_congr
  intro j hj
  by_cases e : j = k
  · subst e; simp [fset_same, h0]
  · simp [fset_other e, e]
theorem get_app {ws : List Nat} {x j b : Nat} (h : (ws ++ [x])[j]? = some b) : (j < ws.length ∧ ws[j]? = some b) ∨ (j = ws.length ∧ b = x) := by
  by_cases hj : j < ws.length
  · exact .inl ⟨hj, by rwa [List.getElem?_append_left hj] at h⟩
  · have h1 := (List.getElem?_eq_some_iff.1 h).1
    simp at h1
    have : j = ws.length := by omega
    subst this
    simp at h
    exact .inr ⟨rfl, h.symm⟩
theorem get_app_old {ws : List Nat} {x j b : Nat} (h : ws[j]? = some b) : (ws ++ [x])[j]? = some b := by
  have h1 := (List.getElem?_eq_some_iff.1 h).1
  rw [List.getElem?_append_left h1]; exact h
theorem idx_of {ws : List Nat} {b : Nat} (h : b ∈ ws) : ∃ j : Nat, ws[j]? = some b := List.mem_iff_getElem?.1 h

section search
variable {R : Nat → Nat → Bool} {m n : Nat} {has : List Int} {a : Nat}
/-- An item is come to that somebody has. -/
theorem BI.take {w : Nat → Nat} {ws : List Nat} {b k jb : Nat} (hF : FitR R m n has) (h : BI R m n has a w ws) (ha : has.getD a (-1) = -1) (hb : ws[jb]? = some b) (hk : k < n) (hR : R b k = true) (h0 : ¬ 0 < w k) (hh : 0 < holdN has has.length k) :
    BI R m n has a (fset w k (b + 1)) (ws ++ [holdN has has.length k - 1]) := by
  have hp := holdN_pos hh
  rw [hF.len] at hp
  obtain ⟨hc, hcv⟩ := hp
  rw [← hF.len] at hc hcv
  obtain ⟨c, hce⟩ : ∃ c, c = holdN has has.length k - 1 := ⟨_, rfl⟩
  rw [hF.len] at hce
  have hF' := hF.len
  rw [hF.len, ← hce] at hc hcv
  rw [hF.len, ← hce]
  have hnew : c ∉ ws := fun hm => by
    obtain ⟨j, hj⟩ := idx_of hm
    by_cases hj0 : j = 0
    · subst hj0
      rw [h.head] at hj
      cases hj
      rw [ha] at hcv; omega
    · obtain ⟨k', j', hk', hv, hw, _, _⟩ := h.came j c hj (by omega)
      rw [hcv] at hv
      have : k = k' := by omega
      subst this
      exact h0 hw
  refine ⟨get_app_old h.head, ?_, ?_, ?_, ?_, ?_, ?_⟩
  · intro x hx
    rcases List.mem_append.1 hx with hx | hx
    · exact h.bnd x hx
    · simp at hx; subst hx; exact hc
  · intro i j x hi hj
    rcases get_app hi with ⟨h1, h2⟩ | ⟨h1, h2⟩ <;> rcases get_app hj with ⟨h3, h4⟩ | ⟨h3, h4⟩
    · exact h.nodup i j x h2 h4
    · subst h4; exact absurd (List.mem_iff_getElem?.2 ⟨i, h2⟩) hnew
    · subst h2; exact absurd (List.mem_iff_getElem?.2 ⟨j, h4⟩) hnew
    · omega
  · intro j x hj hj0
    rcases get_app hj with ⟨h1, h2⟩ | ⟨h1, h2⟩
    · obtain ⟨k', j', hk', hv, hw, hlt, hj'⟩ := h.came j x h2 hj0
      have hne : k' ≠ k := fun e => by subst e; exact h0 hw
      exact ⟨k', j', hk', hv, by rw [fset_other hne]; exact hw, hlt, by rw [fset_other hne]; exact get_app_old hj'⟩
    · subst h2
      refine ⟨k, jb, hk, hcv, by rw [fset_same]; omega, ?_, by rw [fset_same]; simpa using get_app_old hb⟩
      have := (List.getElem?_eq_some_iff.1 hb).1
      omega
  · intro k' hw
    by_cases e : k' = k
    · subst e
      rw [fset_same]
      exact ⟨hk, List.mem_append_left _ (by simpa using List.mem_iff_getElem?.2 ⟨jb, hb⟩), by simpa using hR⟩
    · rw [fset_other e] at hw ⊢
      obtain ⟨h1, h2, h3⟩ := h.byok k' hw
      exact ⟨h1, List.mem_append_left _ h2, h3⟩
  · have := cnt_fset (x := b + 1) hk h0 (by omega)
    rw [← this]
    have := h.full
    simp; omega
  · intro k' hw hh'
    by_cases e : k' = k
    · subst e
      rw [hF.len, ← hce]
      simp
    · rw [fset_other e] at hw
      exact List.mem_append_left _ (h.held k' hw hh')
/-- An item is come to that nobody has. -/
theorem BI.free {w : Nat → Nat} {ws : List Nat} {b k jb : Nat} (h : BI R m n has a w ws) (hb : ws[jb]? = some b) (hk : k < n) (hR : R b k = true) (h0 : ¬ 0 < w k) (hh : ¬ 0 < holdN has has.length k) :
    BI R m n has a (fset w k (b + 1)) ws := by
  refine ⟨h.head, h.bnd, h.nodup, ?_, ?_, ?_, ?_⟩
  · intro j x hj hj0
    obtain ⟨k', j', hk', hv, hw, hlt, hj'⟩ := h.came j x hj hj0
    have hne : k' ≠ k := fun e => by subst e; exact h0 hw
    exact ⟨k', j', hk', hv, by rw [fset_other hne]; exact hw, hlt, by rw [fset_other hne]; exact hj'⟩
  · intro k' hw
    by_cases e : k' = k
    · subst e
      rw [fset_same]
      exact ⟨hk, by simpa using List.mem_iff_getElem?.2 ⟨jb, hb⟩, by simpa using hR⟩
    · rw [fset_other e] at hw ⊢
      exact h.byok k' hw
  · have := cnt_fset (x := b + 1) hk h0 (by omega)
    have := h.full
    omega
  · intro k' hw hh'
    by_cases e : k' = k
    · subst e; exact absurd hh' hh
    · rw [fset_other e] at hw
      exact h.held k' hw hh'
def Free (has : List Int) (w : Nat → Nat) : Prop := ∀ k, 0 < w k → 0 < holdN has has.length k
theorem scan_ok (hF : FitR R m n has) (ha : has.getD a (-1) = -1) {b jb : Nat} : ∀ (ks : List Nat) (w : Nat → Nat) (ws : List Nat), BI R m n has a w ws → Free has w → ws[jb]? = some b → (∀ k ∈ ks, k < n ∧ R b k = true) →
    ∃ (o : Option Nat) (w' : Nat → Nat) (ws' : List Nat), scanR (holdN has has.length) b ks w ws = (o, w', ws') ∧ BI R m n has a w' ws' ∧ (∃ ext, ws' = ws ++ ext) ∧ (∀ k, 0 < w k → 0 < w' k) ∧
      (o = none → Free has w' ∧ ∀ k ∈ ks, 0 < w' k) ∧ (∀ k, o = some k → 0 < w' k ∧ holdN has has.length k = 0)
  | [], w, ws, h, hf, hb, hk => ⟨none, w, ws, rfl, h, ⟨[], by simp⟩, fun _ h => h, fun _ => ⟨hf, by simp⟩, fun k e => by cases e⟩
  | k :: ks, w, ws, h, hf, hb, hk => by
    have hk0 := hk k (by simp)
    have hks : ∀ k ∈ ks, k < n ∧ R b k = true := fun x hx => hk x (by simp [hx])
    by_cases h0 : 0 < w k
    · obtain ⟨o, w', ws', he, h1, h2, h3, h4, h5⟩ := scan_ok hF ha ks w ws h hf hb hks
      refine ⟨o, w', ws', by rw [scanR, if_pos h0]; exact he, h1, h2, h3, fun e => ⟨(h4 e).1, fun x hx => ?_⟩, h5⟩
      rcases List.mem_cons.1 hx with rfl | hx
      · exact h3 _ h0
      · exact (h4 e).2 x hx
    · by_cases hh : 0 < holdN has has.length k
      · have hT := h.take hF ha hb hk0.1 hk0.2 h0 hh
        obtain ⟨o, w', ws', he, h1, ⟨ext, h2⟩, h3, h4, h5⟩ := scan_ok hF ha ks _ _ hT (fun k' hw => by
          by_cases e : k' = k
          · subst e; exact hh
          · rw [fset_other e] at hw; exact hf k' hw) (get_app_old hb) hks
        have hmono : ∀ k', 0 < w k' → 0 < w' k' := fun k' hw => h3 k' (by
          by_cases e : k' = k
          · subst e; rw [fset_same]; omega
          · rw [fset_other e]; exact hw)
        refine ⟨o, w', ws', by rw [scanR, if_neg h0, if_pos hh]; exact he, h1, ⟨[holdN has has.length k - 1] ++ ext, by rw [h2]; simp⟩, hmono, fun e => ⟨(h4 e).1, fun x hx => ?_⟩, h5⟩
        rcases List.mem_cons.1 hx with rfl | hx
        · exact h3 _ (by rw [fset_same]; omega)
        · exact (h4 e).2 x hx
      · refine ⟨some k, fset w k (b + 1), ws, by rw [scanR, if_neg h0, if_neg hh], h.free hb hk0.1 hk0.2 h0 hh, ⟨[], by simp⟩, fun k' hw => ?_, fun e => (by cases e), fun k' e => ?_⟩
        · by_cases e : k' = k
          · subst e; rw [fset_same]; omega
          · rw [fset_other e]; exact hw
        · cases e; exact ⟨by rw [fset_same]; omega, by omega⟩
/-- All rows of those who stand ahead of place j have been gone through. -/
def Done (R : Nat → Nat → Bool) (n : Nat) (w : Nat → Nat) (ws : List Nat) (j : Nat) : Prop := ∀ (i b : Nat), i < j → ws[i]? = some b → ∀ k, k < n → R b k = true → 0 < w k
theorem bfs_ok (hn : n ≤ 8) (hF : FitR R m n has) (ha : has.getD a (-1) = -1) : ∀ (f j : Nat) (w : Nat → Nat) (ws : List Nat), j + f = 9 → BI R m n has a w ws → Free has w → Done R n w ws j →
    ∃ (o : Option Nat) (w' : Nat → Nat) (ws' : List Nat), bfsR R n (holdN has has.length) f j w ws = (o, w', ws') ∧ BI R m n has a w' ws' ∧
      (o = none → Free has w' ∧ Done R n w' ws' ws'.length) ∧ (∀ k, o = some k → 0 < w' k ∧ holdN has has.length k = 0)
  | 0, j, w, ws, hj, h, hf, hd => ⟨none, w, ws, rfl, h, fun _ => ⟨hf, fun i b hi hb => by have := h.len; exact hd i b (by omega) hb⟩, fun k e => by cases e⟩
  | f + 1, j, w, ws, hj, h, hf, hd => by
    by_cases hlt : j < ws.length
    · have hb : ws[j]? = some (ws.getD j 0) := by simp [hlt]
      obtain ⟨o, w', ws', he, h1, ⟨ext, h2⟩, h3, h4, h5⟩ := scan_ok hF ha (rowN n (R (ws.getD j 0))) w ws h hf hb (fun k hk => mem_rowN.1 hk)
      cases o with
      | some k => exact ⟨some k, w', ws', by rw [bfsR, if_pos hlt, he], h1, fun e => (by cases e), h5⟩
      | none =>
        have hd' : Done R n w' ws' (j + 1) := by
          intro i b hi hb' k hk hR
          rw [h2] at hb'
          by_cases hij : i = j
          · subst hij
            rw [List.getElem?_append_left hlt, hb] at hb'
            cases hb'
            exact (h4 rfl).2 k (mem_rowN.2 ⟨hk, hR⟩)
          · rw [List.getElem?_append_left (by omega)] at hb'
            exact h3 k (hd i b (by omega) hb' k hk hR)
        obtain ⟨o, w'', ws'', he', h1', h4', h5'⟩ := bfs_ok hn hF ha f (j + 1) w' ws' (by omega) h1 (h4 rfl).1 hd'
        exact ⟨o, w'', ws'', by rw [bfsR, if_pos hlt, he]; exact he', h1', h4', h5'⟩
    · exact ⟨none, w, ws, by rw [bfsR, if_neg hlt], h, fun _ => ⟨hf, fun i b hi hb => hd i b (by omega) hb⟩, fun k e => by cases e⟩

/-- The items go on from one to the next, back to where the search began. -/
theorem aug_ok {has : List Int} {w : Nat → Nat} {ws : List Nat} (hF0 : FitR R m n has) (ha : has.getD a (-1) = -1) (h : BI R m n has a w ws) : ∀ (f : Nat) (k : Nat) (cur : List Int) (j : Nat), j < f → FitR R m n cur → 0 < w k → (∀ i, i < m → cur.getD i (-1) ≠ (k : Int)) →
    ws[j]? = some (w k - 1) → (∀ j' b, j' ≤ j → ws[j']? = some b → cur.getD b (-1) = has.getD b (-1)) →
    FitR R m n (augR w f (k : Int) cur) ∧ ∀ i, i < m → ((augR w f (k : Int) cur).getD i (-1) = -1 ↔ cur.getD i (-1) = -1 ∧ i ≠ a)
  | f + 1, k, cur, j, hj, hF, hw, hno, hpos, hsame => by
    have hne : ¬ ((k : Int) = -1) := by omega
    have hi : w k - 1 < m := h.bnd _ (List.mem_iff_getElem?.2 ⟨j, hpos⟩)
    obtain ⟨hkn, hmem, hRk⟩ := h.byok k hw
    rw [augR, if_neg hne]
    simp only [Int.toNat_natCast]
    obtain ⟨i, hie⟩ : ∃ i, i = w k - 1 := ⟨_, rfl⟩
    rw [← hie] at hi hmem hRk hpos ⊢
    have hil : i < cur.length := by rw [hF.len]; exact hi
    have hF' : FitR R m n (cur.set i (k : Int)) := by
      refine ⟨by rw [List.length_set]; exact hF.len, fun x hx => ?_, fun x y hx hy hxy hx1 => ?_⟩
      · rw [getD_setI _ _ _ _ hil]
        by_cases e : x = i
        · subst e; rw [if_pos rfl]; exact .inr ⟨k, hkn, rfl, hRk⟩
        · rw [if_neg e]; exact hF.ok x hx
      · rw [getD_setI _ _ _ _ hil, getD_setI _ _ _ _ hil] at hxy
        rw [getD_setI _ _ _ _ hil] at hx1
        by_cases e : x = i <;> by_cases e2 : y = i
        · omega
        · rw [if_pos e, if_neg e2] at hxy
          exact absurd hxy.symm (hno y hy)
        · rw [if_neg e, if_pos e2] at hxy
          exact absurd hxy (hno x hx)
        · rw [if_neg e, if_neg e2] at hxy
          rw [if_neg e] at hx1
          exact hF.inj x y hx hy hxy hx1
    have hcur : cur.getD i (-1) = has.getD i (-1) := hsame j i (Nat.le_refl _) hpos
    by_cases hj0 : j = 0
    · subst hj0
      have hia : i = a := by rw [h.head] at hpos; cases hpos; rfl
      have hold : cur.getD i (-1) = -1 := by rw [hcur, hia]; exact ha
      rw [hold]
      have hstop : ∀ f l, augR w f (-1) l = l := fun f l => by cases f <;> simp [augR]
      rw [hstop]
      refine ⟨hF', fun x hx => ?_⟩
      rw [getD_setI _ _ _ _ hil]
      by_cases e : x = i
      · rw [if_pos e]
        constructor
        · intro hh; omega
        · rintro ⟨_, hh⟩; exact absurd (e.trans hia) hh
      · rw [if_neg e]
        constructor
        · intro hh; exact ⟨hh, fun e2 => e (e2.trans hia.symm)⟩
        · exact fun hh => hh.1
    · obtain ⟨k', j', hk', hv, hw', hlt, hj'⟩ := h.came j i hpos (by omega)
      rw [hcur, hv]
      have hino : ∀ x, x < m → (cur.set i (k : Int)).getD x (-1) ≠ (k' : Int) := by
        intro x hx hh
        rw [getD_setI _ _ _ _ hil] at hh
        by_cases e : x = i
        · rw [if_pos e] at hh
          have : cur.getD i (-1) = (k : Int) := by rw [hcur, hv, hh]
          exact hno i hi this
        · rw [if_neg e] at hh
          exact e (hF.inj x i hx hi (by rw [hh, hcur, hv]) (by rw [hh]; omega))
      have hs' : ∀ j'' b, j'' ≤ j' → ws[j'']? = some b → (cur.set i (k : Int)).getD b (-1) = has.getD b (-1) := by
        intro j'' b hle hb
        have hbi : b ≠ i := fun e => by
          subst e
          have := h.nodup j'' j b hb hpos
          omega
        rw [getD_setI _ _ _ _ hil, if_neg hbi]
        exact hsame j'' b (by omega) hb
      obtain ⟨r1, r2⟩ := aug_ok hF0 ha h f k' (cur.set i (k : Int)) j' (by omega) hF' hw' hino hj' hs'
      refine ⟨r1, fun x hx => ?_⟩
      rw [r2 x hx, getD_setI _ _ _ _ hil]
      by_cases e : x = i
      · rw [if_pos e]
        constructor
        · rintro ⟨hh, _⟩; omega
        · rintro ⟨hh, _⟩; rw [e, hcur, hv] at hh; omega
      · rw [if_neg e]

theorem more_some (hn : n ≤ 8) (hF : FitR R m n has) (ham : a < m) (ha : has.getD a (-1) = -1) {out : List Int} (he : moreR R n has a = some out) :
    FitR R m n out ∧ ∀ i, i < m → (out.getD i (-1) = -1 ↔ has.getD i (-1) = -1 ∧ i ≠ a) := by
  obtain ⟨o, w', ws', hb, h1, h4, h5⟩ := bfs_ok hn hF ha 9 0 (fun _ => 0) [a] (by omega) (BI.start ham) (fun k (h : 0 < 0) => by omega) (fun i b hi => by omega)
  unfold moreR at he
  rw [hb] at he
  cases o with
  | none => cases he
  | some k =>
    cases he
    obtain ⟨hw, hh⟩ := h5 k rfl
    obtain ⟨_, hmem, _⟩ := h1.byok k hw
    obtain ⟨j, hj⟩ := idx_of hmem
    have hjl := (List.getElem?_eq_some_iff.1 hj).1
    have := h1.len
    exact aug_ok hF ha h1 9 k has j (by omega) hF hw (fun i hi => holdN_zero hh i (by rw [hF.len]; exact hi)) hj (fun _ _ _ _ => rfl)
theorem more_none (hn : n ≤ 8) (hF : FitR R m n has) (ham : a < m) (ha : has.getD a (-1) = -1) (he : moreR R n has a = none) :
    ∃ T : Nat → Bool, T a = true ∧ (∀ i, T i = true → i < m) ∧ (∀ i, T i = true → i ≠ a → has.getD i (-1) ≠ -1) ∧ ∀ i k, T i = true → k < n → R i k = true → ∃ j, T j = true ∧ j ≠ a ∧ has.getD j (-1) = (k : Int) := by
  obtain ⟨o, w', ws', hb, h1, h4, h5⟩ := bfs_ok hn hF ha 9 0 (fun _ => 0) [a] (by omega) (BI.start ham) (fun k (h : 0 < 0) => by omega) (fun i b hi => by omega)
  unfold moreR at he
  rw [hb] at he
  cases o with
  | some k => cases he
  | none =>
    obtain ⟨hf, hd⟩ := h4 rfl
    refine ⟨fun i => decide (i ∈ ws'), ?_, ?_, ?_, ?_⟩
    · simp; exact List.mem_iff_getElem?.2 ⟨0, h1.head⟩
    · intro i hi; simp at hi; exact h1.bnd i hi
    · intro i hi hia
      simp at hi
      obtain ⟨j, hj⟩ := idx_of hi
      by_cases hj0 : j = 0
      · subst hj0; rw [h1.head] at hj; cases hj; exact absurd rfl hia
      · obtain ⟨k', _, _, hv, _⟩ := h1.came j i hj (by omega)
        rw [hv]; omega
    · intro i k hi hk hR
      simp at hi
      obtain ⟨j, hj⟩ := idx_of hi
      have hw := hd j i (List.getElem?_eq_some_iff.1 hj).1 hj k hk hR
      have hh := hf k hw
      have hp := holdN_pos hh
      refine ⟨holdN has has.length k - 1, by simpa using h1.held k hw hh, fun e => ?_, hp.2⟩
      rw [e, ha] at hp
      have := hp.2
      omega
end search
end Go.Proofs.YtifbgpkjbciblaaGreatDoor.Sal
end
section
/- Plain: the matching of as many as can be: how many it has (Hall, Ore), and who. -/
set_option maxRecDepth 100000
namespace Go.Proofs.YtifbgpkjbciblaaGreatDoor.Sal
set_option linter.all false

theorem cnt_inj {s : Nat → Bool} {n : Nat} (f : Nat → Nat) : ∀ (m : Nat) (t : Nat → Bool), (∀ i, i < m → s i = true → f i < n ∧ t (f i) = true) → (∀ i j, i < m → j < m → s i = true → s j = true → f i = f j → i = j) → cnt s m ≤ cnt t n
  | 0, t, _, _ => Nat.zero_le _
  | m + 1, t, h, hi => by
    cases hs : s m with
    | false =>
      have := cnt_inj f m t (fun i hi' => h i (by omega)) (fun i j h1 h2 => hi i j (by omega) (by omega))
      simp [cnt, hs]; exact this
    | true =>
      obtain ⟨h1, h2⟩ := h m (by omega) hs
      have hd := cnt_drop h1 h2
      have := cnt_inj f m (fun k => t k && !(k == f m)) (fun i hi' hsi => by
        obtain ⟨h3, h4⟩ := h i (by omega) hsi
        refine ⟨h3, ?_⟩
        have : f i ≠ f m := fun e => by have := hi i m (by omega) (by omega) hsi hs e; omega
        simp [h4, this]) (fun i j h1 h2 => hi i j (by omega) (by omega))
      simp [cnt, hs]; omega
theorem cnt_split (s t : Nat → Bool) : ∀ n, cnt s n = cnt (fun i => s i && t i) n + cnt (fun i => s i && !t i) n
  | 0 => rfl
  | n + 1 => by
    have := cnt_split s t n
    unfold cnt
    cases hs : s n <;> cases ht : t n <;> simp [hs, ht] <;> omega
theorem cnt_not (t : Nat → Bool) : ∀ n, cnt t n + cnt (fun i => !t i) n = n
  | 0 => rfl
  | n + 1 => by
    have := cnt_not t n
    unfold cnt
    cases ht : t n <;> simp [ht] <;> omega
theorem cnt_lt {i : Nat} : ∀ {m : Nat}, i ≤ m → cnt (fun j => decide (j < i)) m = i
  | 0, h => by have : i = 0 := by omega
               subst this; rfl
  | m + 1, h => by
    by_cases e : i = m + 1
    · subst e
      have h1 : cnt (fun j => decide (j < m + 1)) m = cnt (fun j => decide (j < m)) m := cnt_congr m (fun j hj => by simp [hj, Nat.lt_succ_of_lt hj])
      have h2 := cnt_lt (Nat.le_refl m)
      simp [cnt, h1, h2]
    · have h2 := cnt_lt (show i ≤ m by omega)
      have : ¬ m < i := by omega
      simp [cnt, h2, this]
def mat (has : List Int) (i : Nat) : Bool := decide (has.getD i (-1) ≠ -1)
theorem mat_iff {has : List Int} {i : Nat} : mat has i = true ↔ has.getD i (-1) ≠ -1 := by simp [mat]

section rank
variable {R : Nat → Nat → Bool} {m n : Nat}
theorem nb_mono {S T : Nat → Bool} {k : Nat} (h : ∀ i, i < m → S i = true → T i = true) (hk : nb R m S k = true) : nb R m T k = true := by
  obtain ⟨i, hi, hs, hR⟩ := nb_iff.1 hk
  exact nb_iff.2 ⟨i, hi, h i hi hs, hR⟩
theorem fit_some {has : List Int} (hF : FitR R m n has) {i : Nat} (hi : i < m) (hm : mat has i = true) : ∃ k : Nat, k < n ∧ has.getD i (-1) = (k : Int) ∧ R i k = true :=
  (hF.ok i hi).resolve_left (mat_iff.1 hm)
/-- Those of S who have an item are no more than the items near. -/
theorem fit_near {has : List Int} (hF : FitR R m n has) {S : Nat → Bool} (hS : ∀ i, i < m → S i = true → mat has i = true) : cnt S m ≤ cnt (nb R m S) n := by
  refine cnt_inj (fun i => (has.getD i (-1)).toNat) m _ (fun i hi hs => ?_) (fun i j hi hj hsi hsj e => ?_)
  · obtain ⟨k, hk, hv, hR⟩ := fit_some hF hi (hS i hi hs)
    rw [hv]
    exact ⟨by simpa using hk, nb_iff.2 ⟨i, hi, hs, by simpa using hR⟩⟩
  · obtain ⟨k, hk, hv, hR⟩ := fit_some hF hi (hS i hi hsi)
    obtain ⟨k', hk', hv', hR'⟩ := fit_some hF hj (hS j hj hsj)
    refine hF.inj i j hi hj ?_ (by rw [hv]; omega)
    simp only [hv, hv'] at e ⊢
    simp at e
    rw [e]
theorem fit_upper {has : List Int} (hF : FitR R m n has) {S : Nat → Bool} {i : Nat} (hi : i ≤ m) (hm : ∀ j, mat has j = true → j < i) (hS : ∀ j, S j = true → j < i) : cnt S m + cnt (mat has) m ≤ cnt (nb R m S) n + i := by
  have h1 := cnt_split S (mat has) m
  have h2 : cnt (fun j => S j && mat has j) m ≤ cnt (nb R m S) n :=
    Nat.le_trans (fit_near hF (S := fun j => S j && mat has j) (fun j _ h => by simp at h; exact h.2)) (cnt_le n fun k _ hk => nb_mono (fun j _ h => by simp at h; exact h.1) hk)
  have h3 : cnt (fun j => S j && !mat has j) m ≤ cnt (fun j => decide (j < i) && !mat has j) m := cnt_le m fun j _ h => by
    simp at h ⊢; exact ⟨hS j h.1, h.2⟩
  have h4 := cnt_split (fun j => decide (j < i)) (mat has) m
  rw [cnt_lt hi] at h4
  have h5 : cnt (fun j => decide (j < i) && mat has j) m = cnt (mat has) m := cnt_congr m fun j _ => by
    cases h : mat has j with
    | false => simp
    | true => simp [hm j h]
  omega
end rank

def mostN (R : Nat → Nat → Bool) (m n : Nat) : Nat → List Int
  | 0 => List.replicate m (-1)
  | i + 1 => match moreR R n (mostN R m n i) i with
    | some l => l
    | none => mostN R m n i
def mostR (R : Nat → Nat → Bool) (m n : Nat) : List Int := mostN R m n m

section most
variable {R : Nat → Nat → Bool} {m n : Nat}
structure MI (R : Nat → Nat → Bool) (m n i : Nat) : Prop where
  fit : FitR R m n (mostN R m n i)
  late : ∀ j, mat (mostN R m n i) j = true → j < i
  cert : ∃ T : Nat → Bool, (∀ j, T j = true → j < i) ∧ cnt (nb R m T) n + i ≤ cnt T m + cnt (mat (mostN R m n i)) m
theorem most_none {i : Nat} (h : MI R m n i) : (mostN R m n i).getD i (-1) = -1 := by
  cases hm : mat (mostN R m n i) i with
  | true => have := h.late i hm; omega
  | false => simpa [mat] using hm
/-- A step at which nothing is found. -/
theorem mi_none (hn : n ≤ 8) {i : Nat} (hi : i < m) (h : MI R m n i) (he : moreR R n (mostN R m n i) i = none) : MI R m n (i + 1) := by
  have e : mostN R m n (i + 1) = mostN R m n i := by simp only [mostN, he]
  obtain ⟨T, hT, hc⟩ := h.cert
  obtain ⟨T2, ha, hb, hmt, hnear⟩ := more_none hn h.fit hi (most_none h) he
  obtain ⟨has, hhas⟩ : ∃ has, has = mostN R m n i := ⟨_, rfl⟩
  have hF := h.fit
  have hlate := h.late
  rw [← hhas] at hc hmt hnear hF hlate
  have hT2 : ∀ j, T2 j = true → j < i + 1 := fun j hj => by
    by_cases e : j = i
    · omega
    · have := hlate j (mat_iff.2 (hmt j hj e)); omega
  have hU := cnt_modular T T2 m
  have hNU : cnt (nb R m (fun j => T j || T2 j)) n + cnt (nb R m (fun j => T j && T2 j)) n ≤ cnt (nb R m T) n + cnt (nb R m T2) n := by
    have := cnt_modular (nb R m T) (nb R m T2) n
    have h1 : cnt (nb R m (fun j => T j || T2 j)) n ≤ cnt (fun k => nb R m T k || nb R m T2 k) n := cnt_le n fun k _ hk => by
      obtain ⟨j, hj, hs, hR⟩ := nb_iff.1 hk
      simp at hs
      rcases hs with hs | hs
      · simp [nb_iff.2 ⟨j, hj, hs, hR⟩]
      · simp [nb_iff.2 ⟨j, hj, hs, hR⟩]
    have h2 : cnt (nb R m (fun j => T j && T2 j)) n ≤ cnt (fun k => nb R m T k && nb R m T2 k) n := cnt_le n fun k _ hk => by
      obtain ⟨j, hj, hs, hR⟩ := nb_iff.1 hk
      simp at hs
      simp [nb_iff.2 ⟨j, hj, hs.1, hR⟩, nb_iff.2 ⟨j, hj, hs.2, hR⟩]
    omega
  have hI : cnt (fun j => T j && T2 j) m ≤ cnt (nb R m (fun j => T j && T2 j)) n := fit_near hF fun j _ hs => by
    simp at hs
    have := hT j hs.1
    exact mat_iff.2 (hmt j hs.2 (by omega))
  have hN2 : cnt (nb R m T2) n + 1 ≤ cnt T2 m := by
    have hd := cnt_drop hi ha
    have : cnt (nb R m T2) n ≤ cnt (fun j => T2 j && !(j == i)) m := by
      refine cnt_inj (fun k => holdN has has.length k - 1) n _ (fun k hk hs => ?_) (fun k k' hk hk' hs hs' e => ?_)
      · obtain ⟨j, hj, hsj, hR⟩ := nb_iff.1 hs
        obtain ⟨j', h1, h2, h3⟩ := hnear j k hsj hk hR
        have hj'm := hb j' h1
        have hpos : 0 < holdN has has.length k := by
          rcases Nat.eq_zero_or_pos (holdN has has.length k) with h0 | h0
          · exact absurd h3 (holdN_zero h0 j' (by rw [hF.len]; exact hj'm))
          · exact h0
        have hp := holdN_pos hpos
        have hjj : holdN has has.length k - 1 = j' := hF.inj _ _ (by have := hp.1; rw [hF.len] at this ⊢; exact this) hj'm (by rw [hp.2, h3]) (by rw [hp.2]; omega)
        rw [hjj]
        exact ⟨hj'm, by simp [h1, h2]⟩
      · have val : ∀ k, k < n → nb R m T2 k = true → has.getD (holdN has has.length k - 1) (-1) = (k : Int) := by
          intro k hk hs
          obtain ⟨j, hj, hsj, hR⟩ := nb_iff.1 hs
          obtain ⟨j', h1, h2, h3⟩ := hnear j k hsj hk hR
          have hpos : 0 < holdN has has.length k := by
            rcases Nat.eq_zero_or_pos (holdN has has.length k) with h0 | h0
            · exact absurd h3 (holdN_zero h0 j' (by rw [hF.len]; exact hb j' h1))
            · exact h0
          exact (holdN_pos hpos).2
        have a := val k hk hs
        have b := val k' hk' hs'
        have e' : holdN has has.length k - 1 = holdN has has.length k' - 1 := e
        rw [e', b] at a
        omega
    omega
  refine ⟨by rw [e]; exact h.fit, fun j hj => by rw [e] at hj; have := h.late j hj; omega, fun j => T j || T2 j, fun j hj => ?_, ?_⟩
  · simp at hj
    rcases hj with hj | hj
    · have := hT j hj; omega
    · exact hT2 j hj
  · rw [e, ← hhas]; omega
theorem mi_some (hn : n ≤ 8) {i : Nat} (hi : i < m) (h : MI R m n i) {out : List Int} (he : moreR R n (mostN R m n i) i = some out) :
    MI R m n (i + 1) ∧ ∀ j, j < m → mat (mostN R m n (i + 1)) j = (mat (mostN R m n i) j || (j == i)) := by
  have e : mostN R m n (i + 1) = out := by simp only [mostN, he]
  obtain ⟨hF, hiff⟩ := more_some hn h.fit hi (most_none h) he
  have hpt : ∀ j, j < m → mat out j = (mat (mostN R m n i) j || (j == i)) := fun j hj => by
    have := hiff j hj
    unfold mat
    by_cases h1 : (mostN R m n i).getD j (-1) = -1
    · by_cases h2 : j = i
      · have : ¬ out.getD j (-1) = -1 := fun hh => (this.1 hh).2 h2
        have h3 : (j == i) = true := by simpa using h2
        rw [h3, Bool.or_true]; exact decide_eq_true this
      · have := this.2 ⟨h1, h2⟩
        simp only [this, h1]; simp [h2]
    · have : ¬ out.getD j (-1) = -1 := fun hh => h1 (this.1 hh).1
      simp only [ne_eq, this, not_false_eq_true, decide_true, h1, Bool.true_or]
  have hbig : ∀ j, mat out j = true → j < m := fun j hj => by
    rcases Nat.lt_or_ge j m with hh | hh
    · exact hh
    · exfalso
      rw [mat_iff] at hj
      exact hj (by simp [hF.len, hh])
  refine ⟨⟨by rw [e]; exact hF, fun j hj => ?_, ?_⟩, fun j hj => by rw [e]; exact hpt j hj⟩
  · rw [e] at hj
    have hjm := hbig j hj
    rw [hpt j hjm] at hj
    simp at hj
    rcases hj with hj | hj
    · have := h.late j hj; omega
    · omega
  · obtain ⟨T, hT, hc⟩ := h.cert
    refine ⟨T, fun j hj => by have := hT j hj; omega, ?_⟩
    have h1 : mat out i = true := by rw [hpt i hi]; simp
    have hd := cnt_drop hi h1
    have h2 : cnt (fun j => mat out j && !(j == i)) m = cnt (mat (mostN R m n i)) m := cnt_congr m fun j hj => by
      rw [hpt j hj]
      by_cases e2 : j = i
      · subst e2
        have h0 : mat (mostN R m n j) j = false := by unfold mat; rw [most_none h]; rfl
        simp [h0]
      · have : (j == i) = false := by simpa using e2
        simp [this]
    rw [e]; omega
theorem mi_all (hn : n ≤ 8) : ∀ i, i ≤ m → MI R m n i
  | 0, _ => by
    have hrep : ∀ j, (List.replicate m (-1 : Int)).getD j (-1) = -1 := fun j => by
      by_cases hj : j < m <;> simp [List.getD_eq_getElem?_getD, List.getElem?_replicate, hj]
    refine ⟨⟨by simp [mostN], fun j _ => .inl (hrep j), fun j k _ _ _ h => absurd (hrep j) h⟩, fun j hj => ?_, fun _ => false, fun j hj => (by cases hj), ?_⟩
    · rw [mat_iff] at hj; exact absurd (hrep j) hj
    · have : cnt (nb R m (fun _ => false)) n = 0 := cnt_zero n fun k _ => by
        cases h : nb R m (fun _ => false) k with
        | false => rfl
        | true => obtain ⟨_, _, h, _⟩ := nb_iff.1 h; cases h
      omega
  | i + 1, hi => by
    have h := mi_all hn i (by omega)
    cases he : moreR R n (mostN R m n i) i with
    | none => exact mi_none hn (by omega) h he
    | some out => exact (mi_some hn (by omega) h he).1
/-- How many can have an item. -/
noncomputable def rkm (R : Nat → Nat → Bool) (m n : Nat) : Nat := cnt (mat (mostR R m n)) m
theorem rkm_up (hn : n ≤ 8) (S : Nat → Bool) : cnt S m + rkm R m n ≤ cnt (nb R m S) n + m := by
  have h := mi_all (R := R) (m := m) hn m (Nat.le_refl _)
  have := fit_upper h.fit (Nat.le_refl _) h.late (S := fun j => S j && decide (j < m)) (fun j hj => by simp at hj; exact hj.2)
  have e1 : cnt (fun j => S j && decide (j < m)) m = cnt S m := cnt_congr m fun j hj => by simp [hj]
  have e2 : cnt (nb R m (fun j => S j && decide (j < m))) n ≤ cnt (nb R m S) n := cnt_le n fun k _ hk => nb_mono (fun j _ h => by simp at h; exact h.1) hk
  unfold rkm mostR
  omega
theorem rkm_at (hn : n ≤ 8) : ∃ T : Nat → Bool, (∀ j, T j = true → j < m) ∧ cnt (nb R m T) n + m ≤ cnt T m + rkm R m n := (mi_all hn m (Nat.le_refl _)).cert
/-- All of some can have one: by Hall. -/
theorem rkm_hall (hn : n ≤ 8) (P : Nat → Bool) : rkm (fun i k => P i && R i k) m n ≤ cnt P m ∧
    (rkm (fun i k => P i && R i k) m n = cnt P m ↔ ∀ S : Nat → Bool, (∀ i, S i = true → P i = true) → cnt S m ≤ cnt (nb R m S) n) := by
  have hnb : ∀ S : Nat → Bool, ∀ k, nb (fun i k => P i && R i k) m S k = nb R m (fun i => S i && P i) k := fun S k => by
    have : nb (fun i k => P i && R i k) m S k = true ↔ nb R m (fun i => S i && P i) k = true := by
      rw [nb_iff, nb_iff]
      constructor
      · rintro ⟨i, hi, hs, hR⟩; simp at hR; exact ⟨i, hi, by simp [hs, hR.1], hR.2⟩
      · rintro ⟨i, hi, hs, hR⟩; simp at hs; exact ⟨i, hi, hs.1, by simp [hs.2, hR]⟩
    cases h : nb R m (fun i => S i && P i) k with
    | true => exact this.2 h
    | false => cases h2 : nb (fun i k => P i && R i k) m S k with
      | false => rfl
      | true => rw [this.1 h2] at h; cases h
  have hcn : ∀ S : Nat → Bool, cnt (nb (fun i k => P i && R i k) m S) n = cnt (nb R m (fun i => S i && P i)) n := fun S => cnt_congr n fun k _ => hnb S k
  have hP := cnt_not P m
  have h0 : rkm (fun i k => P i && R i k) m n ≤ cnt P m := by
    have hu := rkm_up (R := fun i k => P i && R i k) (m := m) hn (fun i => !P i)
    rw [hcn] at hu
    have : cnt (nb R m (fun i => !P i && P i)) n = 0 := cnt_zero n fun k _ => by
      cases h : nb R m (fun i => !P i && P i) k with
      | false => rfl
      | true => obtain ⟨i, _, h, _⟩ := nb_iff.1 h; cases hh : P i <;> simp [hh] at h
    omega
  refine ⟨h0, fun he S hS => ?_, fun h => ?_⟩
  · have hu := rkm_up (R := fun i k => P i && R i k) (m := m) hn (fun i => S i || !P i)
    rw [hcn] at hu
    have e1 : cnt (fun i => S i || !P i) m = cnt S m + cnt (fun i => !P i) m := by
      have := cnt_modular S (fun i => !P i) m
      have h2 : cnt (fun i => S i && !P i) m = 0 := cnt_zero m fun i _ => by
        cases h : S i with
        | false => rfl
        | true => simp [hS i h]
      omega
    have e2 : cnt (nb R m (fun i => (S i || !P i) && P i)) n ≤ cnt (nb R m S) n := cnt_le n fun k _ hk => nb_mono (fun i _ h => by
      cases hh : P i <;> simp [hh] at h
      exact h) hk
    omega
  · obtain ⟨T, hT, hc⟩ := rkm_at (R := fun i k => P i && R i k) (m := m) hn
    rw [hcn] at hc
    have h1 := h (fun i => T i && P i) (fun i hi => by simp at hi; exact hi.2)
    have h2 := cnt_split T P m
    have h3 : cnt (fun i => T i && !P i) m ≤ cnt (fun i => !P i) m := cnt_le m fun i _ hi => by simp at hi; simp [hi.2]
    omega
end most
end Go.Proofs.YtifbgpkjbciblaaGreatDoor.Sal
end
