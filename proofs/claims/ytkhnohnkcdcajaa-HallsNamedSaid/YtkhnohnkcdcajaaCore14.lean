/- Core14: structs with arrays in them, copy, jumps within a scope, natural numbers of any kind. -/
import Derived.Test.YtkhnohnkcdcajaaCore13
import Derived.Laws.CopyRow
namespace Go.Proofs.Ytkhnohnkcdcajaa.Sal
set_option linter.all false
open Go.RowKit
/-! ### A scope that is left by a jump forward to one label -/
def ScopeQ (r : Option Nat) (P : Program) (rest : Code) (l : Nat) (Q : Exit → Act → World → Prop) : Exit → Act → World → Prop
  | .goto l', a, w => l' = l ∧ CW r P rest (Exit.noGoto Q) a w
  | e, a, w => Q e a w
theorem c_scope {r : Option Nat} {P : Program} {Q : Exit → Act → World → Prop} {a : Act} {w : World} {c : Code} (rest : Code) (l : Nat) (hf : findLabel c l = some rest) (h : CW r P c (ScopeQ r P rest l Q) a w) : CW r P (.scope c) Q a w := by
  intro b k cs hro hb hr
  have h0 : (lone (b.atR a (.code (.scope c) :: k)) cs w).fenced P (FW r) := fenced_calm hb hr rfl
  have hst : step P (lone (b.atR a (.code (.scope c) :: k)) cs w) = .next (lone (b.atR a (.code c :: .inScope c :: k)) cs w) := step_lone_go (by simp [stepG, stepG.exec, Frame.atR])
  have hin : ∀ a w, step P (lone (b.atR a (.inScope c :: k)) cs w) = .next (lone (b.atR a k) cs w) := fun a w => step_lone_go (by simp [stepG, stepG.exec, Frame.atR])
  have hxe : ∀ id, exitTo id (.inScope c :: k) = exitTo id k := fun id => by simp [exitTo]
  obtain ⟨e, a₁, w₁, hq, harr⟩ := h b (.inScope c :: k) cs hro hb hr
  cases e with
  | normal => exact ⟨.normal, a₁, w₁, hq, .head h0 hst (StepsIn.trans harr (.one (fenced_calm hb hr rfl) (hin _ _)))⟩
  | exit id =>
    exact ⟨_, a₁, w₁, hq, fun k' hk => .head h0 hst (harr.1 k' (by rw [hxe]; exact hk)),
      fun hr' hk => let ⟨k₁, h1, h2⟩ := harr.2 hr' (by rw [hxe]; exact hk); ⟨k₁, h1, .head h0 hst h2⟩⟩
  | goto l' =>
    obtain ⟨rfl, hrest⟩ := hq
    have hg : gotoIn l' (.inScope c :: k) = some (.code rest :: .inScope c :: k) := by simp [gotoIn, hf]
    have s1 := StepsIn.trans (.one h0 hst) (harr.1 _ hg)
    obtain ⟨e₂, a₂, w₂, hq₂, harr₂⟩ := hrest b (.inScope c :: k) cs hro hb hr
    cases e₂ with
    | normal => exact ⟨.normal, a₂, w₂, hq₂, StepsIn.trans s1 (StepsIn.trans harr₂ (.one (fenced_calm hb hr rfl) (hin _ _)))⟩
    | exit id =>
      exact ⟨_, a₂, w₂, hq₂, fun k' hk => StepsIn.trans s1 (harr₂.1 k' (by rw [hxe]; exact hk)),
        fun hr' hk => let ⟨k₁, h1, h2⟩ := harr₂.2 hr' (by rw [hxe]; exact hk); ⟨k₁, h1, StepsIn.trans s1 h2⟩⟩
    | goto l => exact hq₂.elim
    | ret => exact ⟨_, a₂, w₂, hq₂, .of_steps s1 harr₂⟩
    | panic ch => exact ⟨_, a₂, w₂, hq₂, .of_steps s1 harr₂⟩
    | outgrown => exact ⟨_, a₂, w₂, hq₂, .of_steps s1 harr₂⟩
  | ret => exact ⟨_, a₁, w₁, hq, .of_steps (.one h0 hst) harr⟩
  | panic ch => exact ⟨_, a₁, w₁, hq, .of_steps (.one h0 hst) harr⟩
  | outgrown => exact ⟨_, a₁, w₁, hq, .of_steps (.one h0 hst) harr⟩
section ends
variable {r : Option Nat} {P : Program} {Q : Exit → Act → World → Prop} {a : Act} {w : World} {rest : Code} {l : Nat}
theorem sc_ret (h : Q .ret a w) : ScopeQ r P rest l Q .ret a w := h
theorem sc_goto (h : CW r P rest (Exit.noGoto Q) a w) : ScopeQ r P rest l Q (.goto l) a w := ⟨rfl, h⟩
theorem ng_ret (h : Q .ret a w) : Exit.noGoto Q .ret a w := h
end ends

section ops
variable {r : Option Nat} {P : Program} {ops : Array Oper} {Q : Exit → Act → World → Prop} {N : Nat} {σ : Nat → Value} {ds : List Deferred} {w : World} {rest : List Oper}
variable {d d1 d2 : Nat} {ty ty2 : TypeId} {pos pos2 : String} {after after2 : Array Edge} {T E T' t t' : TypeId} {x i y : Operand} {k : IntKind} {m n : Nat}
theorem s_nil {p : Addr} (hx : ev N σ x = .pointer (some p)) (h : WL r P ops Q rest (mk N (upd σ d (.pointer (some p))) ds) w) : WL r P ops Q (⟨some d, .nilCheck x, ty, pos, after, none⟩ :: rest) (mk N σ ds) w :=
  l_val (by intro c e; cases e) (by simp [execOp, hx, go_sem]) h
def TyN (P : Program) (E : TypeId) : Prop := ∃ i, P.info? E = some i ∧ i.size ≠ 0
theorem run_sizeOfN (h : TyN P E) (w : World) : ∃ s, s ≠ 0 ∧ (sizeOf E).run P w = .ok s w := by
  obtain ⟨i, hi, hs⟩ := h
  exact ⟨i.size, hs, by simp [sizeOf, typeInfo, hi]⟩
/-- The address of a field of any size but 0. -/
theorem s_faN {b o : Nat} {fs : Array Field} {f : Nat} {fl : Field} (hT : P.underlying T = some (.struct fs)) (hf : fs[f]? = some fl) (hE : TyN P fl.type) (hx : ev N σ x = .pointer (some ⟨b, o, none⟩))
    (h : WL r P ops Q rest (mk N (upd σ d (.pointer (some ⟨b, o + fl.offset, none⟩))) ds) w) : WL r P ops Q (⟨some d, .fieldAddr T x f, ty, pos, after, none⟩ :: rest) (mk N σ ds) w := by
  refine l_val (v := .pointer (some ⟨b, o + fl.offset, none⟩)) (by intro c e; cases e) ?_ h
  obtain ⟨s, hs, hr⟩ := run_sizeOfN hE w
  simp [execOp, hx, Instr.fieldAt, run_underlying hT, hf, Instr.sureAddr, fieldPlace, hr, hs, add_at]
/-- The address of an element of an array that lies somewhere in a block. -/
theorem s_iaO {b o L : Nat} (hT : P.underlying T = some (.array L E)) (hE : Ty1 P E) (hx : ev N σ x = .pointer (some ⟨b, o, none⟩)) (hi : ev N σ i = .int k (n : Int)) (hn : n < L)
    (h : WL r P ops Q rest (mk N (upd σ d (.pointer (some ⟨b, o + n, none⟩))) ds) w) : WL r P ops Q (⟨some d, .indexAddr T x i, ty, pos, after, none⟩ :: rest) (mk N σ ds) w := by
  refine l_val (v := .pointer (some ⟨b, o + n, none⟩)) (by intro c e; cases e) ?_ h
  simp [execOp, hx, hi, Instr.indexAt, Instr.sureAddr, asIntOf, run_underlying hT, hn, run_sizeOf1 hE, go_sem, add_at]
theorem s_addN (hx : ev N σ x = .int k (m : Int)) (hy : ev N σ y = .int k (n : Int)) (hr : m + n ≤ top k) (h : WL r P ops Q rest (mk N (upd σ d (.int k ((m + n : Nat) : Int))) ds) w) : WL r P ops Q (⟨some d, .binOp .add t x y t', ty, pos, after, none⟩ :: rest) (mk N σ ds) w :=
  s_addw hx hy (by
    have e : (m : Int) + (n : Int) = ((m + n : Nat) : Int) := by omega
    rw [e, wrap_nat hr]; exact h)
theorem s_mulN (hx : ev N σ x = .int k (m : Int)) (hy : ev N σ y = .int k (n : Int)) (hr : m * n ≤ top k) (h : WL r P ops Q rest (mk N (upd σ d (.int k ((m * n : Nat) : Int))) ds) w) : WL r P ops Q (⟨some d, .binOp .mul t x y t', ty, pos, after, none⟩ :: rest) (mk N σ ds) w :=
  s_mulw hx hy (by
    have e : (m : Int) * (n : Int) = ((m * n : Nat) : Int) := by simp
    rw [e, wrap_nat hr]; exact h)
/-- copy into a block of the call's own. -/
theorem s_copy {b o dLen dCap sLen sCap : Nat} {a : Addr} {t : TypeId} {cs news : List Value} (hT : SlT P T E) (hE : Ty1 P E) (hA : At w b t cs) (hx : ev N σ x = .slice (some ⟨b, o, none⟩) dLen dCap) (hy : ev N σ y = .slice (some a) sLen sCap)
    (hn : news.length = Nat.min sLen dLen) (hsrc : ∀ j v, news[j]? = some v → w.cell? (a.add j) = some v) (hfit : o + news.length ≤ cs.length) (h1 : ∀ u ∈ news, u.oneCell' = true)
    (h : ∀ w', At w' b t (cs.take o ++ news ++ cs.drop (o + news.length)) → w.grownBy w' (some b) → w'.heap.size = w.heap.size → WL r P ops Q rest (mk N (upd σ d (.int .i64 (news.length : Int))) ds) w') :
    WL r P ops Q (⟨some d, .call { callee := .builtin .copy, args := #[x, y], argTypes := #[T, T'] }, ty, pos, after, none⟩ :: rest) (mk N σ ds) w := by
  have hs : (P.info? E).map (·.size) = some 1 := by obtain ⟨⟨i, hi, hs⟩, _⟩ := hE; simp [hi, hs]
  have hr := run_copy_row (P := P) w T T' ty E b o dLen dCap a sLen sCap cs.toArray t news hT hs hA hn hsrc (by simpa using hfit) h1
  refine l_val (v := .int .i64 (news.length : Int)) (w' := w.setRow b (cs.take o ++ news ++ cs.drop (o + news.length)).toArray) (by intro c e; cases e) ?_ (h _ ?_ ⟨rfl, rfl, rfl, by simp, fun k hk hne => setRow_other w b k _ (fun e => hne (by rw [e]))⟩ (by simp))
  · simp [execOp, resolve, invoke, builtin, hx, hy, hr, Result.andThen, goInt]
  · exact setRow_heap w b cs.toArray _ t (0, 0) hA
end ops
section draw
variable {r : Option Nat} {P : Program} {J : World → Prop} {z : Nat} {Q : Exit → Act → World → Prop} {N : Nat} {σ : Nat → Value} {ds : List Deferred} {w : World}
variable {gd : Option (Nat × Bool)} {ops : Array Oper} {i d : Nat} {π : List (Nat × Bool)} {ty : TypeId} {pos : String} {after : Array Edge} {T E : TypeId} {x y : Operand} {k : IntKind} {n : Nat}
theorem d_nilc {p : Addr} (hop : ops[i]? = some ⟨some d, .nilCheck x, ty, pos, after, gd⟩) (hx : ev N σ x = .pointer (some p)) (h : WJ r P ops J z Q π (mk N (upd σ d (.pointer (some p))) ds) w) (hgd : GOK ops (ev N σ) gd := by first | exact trivial | exact ⟨_, rfl, rfl⟩) : WJ r P ops J z Q ((i, true) :: π) (mk N σ ds) w :=
  d_val hop (fun w' _ => by simp [execOp, hx, go_sem]) h hgd
theorem d_faN {b o : Nat} {fs : Array Field} {f : Nat} {fl : Field} (hop : ops[i]? = some ⟨some d, .fieldAddr T x f, ty, pos, after, gd⟩) (hT : P.underlying T = some (.struct fs)) (hf : fs[f]? = some fl) (hE : TyN P fl.type) (hx : ev N σ x = .pointer (some ⟨b, o, none⟩))
    (h : WJ r P ops J z Q π (mk N (upd σ d (.pointer (some ⟨b, o + fl.offset, none⟩))) ds) w) (hgd : GOK ops (ev N σ) gd := by first | exact trivial | exact ⟨_, rfl, rfl⟩) : WJ r P ops J z Q ((i, true) :: π) (mk N σ ds) w :=
  d_val (v := .pointer (some ⟨b, o + fl.offset, none⟩)) hop (fun w' _ => by
    obtain ⟨s, hs, hr⟩ := run_sizeOfN hE w'
    simp [execOp, hx, Instr.fieldAt, run_underlying hT, hf, Instr.sureAddr, fieldPlace, hr, hs, add_at]) h hgd
theorem d_iaO {b o L : Nat} (hop : ops[i]? = some ⟨some d, .indexAddr T x y, ty, pos, after, gd⟩) (hT : P.underlying T = some (.array L E)) (hE : Ty1 P E) (hx : ev N σ x = .pointer (some ⟨b, o, none⟩)) (hy : ev N σ y = .int k (n : Int)) (hn : n < L)
    (h : WJ r P ops J z Q π (mk N (upd σ d (.pointer (some ⟨b, o + n, none⟩))) ds) w) (hgd : GOK ops (ev N σ) gd := by first | exact trivial | exact ⟨_, rfl, rfl⟩) : WJ r P ops J z Q ((i, true) :: π) (mk N σ ds) w :=
  d_val (v := .pointer (some ⟨b, o + n, none⟩)) hop (fun w' _ => by simp [execOp, hx, hy, Instr.indexAt, Instr.sureAddr, asIntOf, run_underlying hT, hn, run_sizeOf1 hE, go_sem, add_at]) h hgd
/-- The rest of a slice that fills its block; its head. -/
theorem d_tailA {b L lo : Nat} {l : Operand} (hop : ops[i]? = some ⟨some d, .slice T x (some l) none none, ty, pos, after, gd⟩) (hT : SlT P T E) (hE : Ty1 P E) (hx : ev N σ x = .slice (some ⟨b, 0, none⟩) L L) (hl : ev N σ l = .int k (lo : Int)) (hlo : lo < L)
    (h : WJ r P ops J z Q π (mk N (upd σ d (.slice (some ⟨b, lo, none⟩) (L - lo) (L - lo))) ds) w) (hgd : GOK ops (ev N σ) gd := by first | exact trivial | exact ⟨_, rfl, rfl⟩) : WJ r P ops J z Q ((i, true) :: π) (mk N σ ds) w :=
  d_val (v := .slice (some ⟨b, lo, none⟩) (L - lo) (L - lo)) hop (fun w' _ => by
    have := run_slice (P := P) (w := w') (a := some ⟨b, 0, none⟩) (n := L) (c := L) hT hE (Nat.le_of_lt hlo) (Nat.le_refl L) (some (.int k (lo : Int))) none (.inl ⟨k, rfl⟩) (.inr ⟨rfl, rfl⟩)
    have hne : ¬ L = lo := by omega
    simp [execOp, hx, hl, this, hne, add_at]) h hgd
theorem d_headA {b L hi : Nat} {u : Operand} (hop : ops[i]? = some ⟨some d, .slice T x none (some u) none, ty, pos, after, gd⟩) (hT : SlT P T E) (hE : Ty1 P E) (hx : ev N σ x = .slice (some ⟨b, 0, none⟩) L L) (hu : ev N σ u = .int k (hi : Int)) (hhi : hi ≤ L)
    (h : WJ r P ops J z Q π (mk N (upd σ d (.slice (some ⟨b, 0, none⟩) hi L)) ds) w) (hgd : GOK ops (ev N σ) gd := by first | exact trivial | exact ⟨_, rfl, rfl⟩) : WJ r P ops J z Q ((i, true) :: π) (mk N σ ds) w :=
  d_val (v := .slice (some ⟨b, 0, none⟩) hi L) hop (fun w' _ => by
    have := run_slice (P := P) (w := w') (a := some ⟨b, 0, none⟩) (n := L) (c := L) hT hE (Nat.zero_le hi) hhi none (some (.int k (hi : Int))) (.inr ⟨rfl, rfl⟩) (.inl ⟨k, rfl⟩)
    simp [execOp, hx, hu, this, Addr.add_zero']) h hgd
end draw
end Go.Proofs.Ytkhnohnkcdcajaa.Sal
