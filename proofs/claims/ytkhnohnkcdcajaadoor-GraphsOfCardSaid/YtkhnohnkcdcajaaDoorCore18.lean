/- Core18: slices of structs; a struct read out of the middle of a block. -/
import Derived.Test.YtkhnohnkcdcajaaDoorCore17
set_option maxRecDepth 100000
namespace Go.Proofs.YtkhnohnkcdcajaaDoor.Sal
set_option linter.all false
open Go.RowKit
def SzN (P : Program) (E : TypeId) (s : Nat) : Prop := ∃ i, P.info? E = some i ∧ i.size = s
theorem run_sizeOfS {P : Program} {E : TypeId} {s : Nat} (h : SzN P E s) (w : World) : (sizeOf E).run P w = .ok s w := by
  obtain ⟨i, hi, hs⟩ := h
  simp [sizeOf, typeInfo, hi, hs]
/-- What a type of a slice's elements is. -/
structure InfoW (P : Program) (E : TypeId) (s : Nat) (z : Value) (B : Nat) : Prop where
  ex : ∃ ti, P.info? E = some ti ∧ ti.zero = some z ∧ ti.size = s ∧ ti.bytes ≤ B
  cs : z.cells.size = s
section ops
variable {r : Option Nat} {P : Program} {ops : Array Oper} {Q : Exit → Act → World → Prop} {N : Nat} {σ : Nat → Value} {ds : List Deferred} {w : World} {rest : List Oper}
variable {d d1 d2 : Nat} {ty ty2 : TypeId} {pos pos2 : String} {after after2 : Array Edge} {T E T' : TypeId} {x i y : Operand}
theorem s_bsV3 {a b c z0 z1 z2 : Value} {op1 : Operand} {B : Nat} (hT : SlT P T E) (hi : InfoW P E 3 (.agg #[z0, z1, z2]) B) (h1 : ev N σ op1 = .agg #[a, b, c])
    (h : ∀ bb w', bb = w.heap.size → At w' bb E [a, b, c] → Ex w w' → w'.heap.size = bb + 1 → WL r P ops Q rest (mk N (upd σ d (.slice (some ⟨bb, 0, none⟩) 1 1)) ds) w') :
    WL r P ops Q (⟨some d, .buildSlice T 1 #[(0, op1)], ty, pos, after, none⟩ :: rest) (mk N σ ds) w := by
  obtain ⟨ti, h1i, h2i, h3i, h4i⟩ := hi.ex
  have hT' : P.underlying T = some (.slice E) := hT
  have hc1 : (Value.agg #[a, b, c]).cells = #[a, b, c] := rfl
  have hc2 : (Value.agg #[z0, z1, z2]).cells = #[z0, z1, z2] := rfl
  refine l_val (v := .slice (some ⟨w.heap.size, 0, none⟩) 1 1) (w' := w.alloc (.cells [a, b, c].toArray E)) (by intro c e; cases e) ?_ (h _ _ rfl (at_new w _ E) (Ex.alloc w _) (size_new w _))
  simp [execOp, Instr.buildSlice, run_underlying hT', sizeOf, typeInfo, h1i, h2i, h3i, zeroValue, Instr.fill, h1, hc1, hc2, newRow, Array.range_succ, Array.range_zero', Array.zipIdx]
theorem s_appW {z v xv : Value} {n m s B : Nat} {xs news : List Value} (hT : SlT P T E) (hi : InfoW P E s z B) (hs : 0 < s) (hR : Wd w E s v n xs) (hx : ∃ b c, xv = .slice (some ⟨b, 0, none⟩) m c ∧ ∃ sp, At w b E (news ++ sp)) (hl : news.length = m * s) (hm0 : 0 < m) (h1 : ∀ u ∈ news, u.oneCell' = true) (hm : n + m ≤ 140737488355328) (hbytes : (n + m) * B ≤ 140737488355328)
    (hv : ev N σ x = v) (hxv : ev N σ y = xv)
    (h : ∀ v' w', Wd w' E s v' (n + m) (xs ++ news) → w.grownBy w' v.ownBlock → ((∃ a c, v = .slice a n c ∧ v' = .slice a (n + m) c) ∨ ((∀ b, v'.ownBlock = some b → w.heap.size ≤ b) ∧ Ex w w')) → WL r P ops Q rest (mk N (upd σ d v') ds) w') :
    WL r P ops Q (⟨some d, .call { callee := .builtin .append, args := #[x, y], argTypes := #[T, T] }, ty, pos, after, none⟩ :: rest) (mk N σ ds) w := by
  obtain ⟨ti, h1i, h2i, h3i, h4i⟩ := hi.ex
  obtain ⟨v', w', hr, a1, a2, a3⟩ := run_appW (ty := ty) hT h1i h2i h3i hi.cs hs hR hx hl hm0 h1 hm (Nat.le_trans (Nat.mul_le_mul_left _ h4i) hbytes)
  refine l_val (by intro c e; cases e) ?_ (h v' w' a1 a2 a3)
  simp [execOp, resolve, invoke, builtin, hv, hxv, hr, Result.andThen]
theorem s_iaW {b len c s : Nat} {k : IntKind} {n : Nat} (hT : SlT P T E) (hE : SzN P E s) (hx : ev N σ x = .slice (some ⟨b, 0, none⟩) len c) (hi : ev N σ i = .int k (n : Int)) (hn : n < len)
    (h : WL r P ops Q rest (mk N (upd σ d (.pointer (some ⟨b, n * s, none⟩))) ds) w) : WL r P ops Q (⟨some d, .indexAddr T x i, ty, pos, after, none⟩ :: rest) (mk N σ ds) w := by
  refine l_val (v := .pointer (some ⟨b, n * s, none⟩)) (by intro c e; cases e) ?_ h
  have hT' : P.underlying T = some (.slice E) := hT
  simp [execOp, hx, hi, Instr.indexAt, asIntOf, run_underlying hT', hn, run_sizeOfS hE, go_sem, add_at]
theorem s_ldM {b o : Nat} {B : TypeId} {cs all : List Value} {dd : TypeDesc} (hu : P.underlying E = some dd) (hd : dd.isRow = true) (hsz : (P.info? E).map (·.size) = some cs.length)
    (hx : ev N σ x = .pointer (some ⟨b, o, none⟩)) (hA : At w b B all) (hc : ∀ j v, cs[j]? = some v → all[o + j]? = some v) (h : WL r P ops Q rest (mk N (upd σ d (.agg cs.toArray)) ds) w) :
    WL r P ops Q (⟨some d, .load E x, ty, pos, after, none⟩ :: rest) (mk N σ ds) w :=
  l_val (by intro c e; cases e) (by
    simp [execOp, hx, Instr.loadAt, Instr.sureAddr, run_loadVar_mid (P := P) w b o E cs dd (fun j v hj => by rw [hA.cell]; exact hc j v hj) hu hd hsz]) h
theorem s_bldW {parts : List (Nat × Operand)} {cells : List Value} (h : P.built T (parts.map fun p => (p.1, ev N σ p.2)) = some cells.toArray) (hK : WL r P ops Q rest (mk N (upd σ d (.agg cells.toArray)) ds) w) :
    WL r P ops Q (⟨some d, .build T parts.toArray, ty, pos, after, none⟩ :: rest) (mk N σ ds) w :=
  l_val (by intro c e; cases e) (by
    have := run_build (P := P) w T (parts.map fun p => (p.1, ev N σ p.2)).toArray cells.toArray h
    simp [execOp, this]) hK
theorem s_neg {k : IntKind} {a : Int} {t : TypeId} (hx : ev N σ x = .int k a) (h : WL r P ops Q rest (mk N (upd σ d (.int k (k.wrap (-a)))) ds) w) : WL r P ops Q (⟨some d, .unOp .neg t x, ty, pos, after, none⟩ :: rest) (mk N σ ds) w :=
  l_val (by intro c e; cases e) (by simp [execOp, hx, go_sem]) h
theorem s_cap {a : Option Addr} {n c : Nat} (hT : SlT P T E) (hx : ev N σ x = .slice a n c) (h : WL r P ops Q rest (mk N (upd σ d (.int .i64 (c : Int))) ds) w) :
    WL r P ops Q (⟨some d, .call { callee := .builtin .cap, args := #[x], argTypes := #[T] }, ty, pos, after, none⟩ :: rest) (mk N σ ds) w := by
  have hT' : P.underlying T = some (.slice E) := hT
  exact l_val (by intro c e; cases e) (by simp [execOp, resolve, invoke, builtin, hx, go_sem, Result.andThen, Builtin.cap_, run_underlying hT', Sem.run_bind]) h
end ops
end Go.Proofs.YtkhnohnkcdcajaaDoor.Sal
