/- Core14: structs with arrays in them, copy, jumps within a scope, natural numbers of any kind. -/
import Derived.Test.YtkhnohnkcdcajaaDoorCore13
import Derived.Laws.CopyRow
set_option maxRecDepth 100000
namespace Go.Proofs.YtkhnohnkcdcajaaDoor.Sal
set_option linter.all false
open Go.RowKit
section ends
variable {r : Option Nat} {P : Program} {Q : Exit → Act → World → Prop} {a : Act} {w : World} {rest : Code} {l : Nat}
end ends

section ops
variable {r : Option Nat} {P : Program} {ops : Array Oper} {Q : Exit → Act → World → Prop} {N : Nat} {σ : Nat → Value} {ds : List Deferred} {w : World} {rest : List Oper}
variable {d d1 d2 : Nat} {ty ty2 : TypeId} {pos pos2 : String} {after after2 : Array Edge} {T E T' t t' : TypeId} {x i y : Operand} {k : IntKind} {m n : Nat}
theorem s_nil {p : Addr} (hx : ev N σ x = .pointer (some p)) (h : WL r P ops Q rest (mk N (upd σ d (.pointer (some p))) ds) w) : WL r P ops Q (⟨some d, .nilCheck x, ty, pos, after, none⟩ :: rest) (mk N σ ds) w :=
  l_val (by intro c e; cases e) (by simp [execOp, hx, go_sem]) h
def TyN (P : Program) (E : TypeId) : Prop := ∃ i, P.info? E = some i ∧ i.size ≠ 0
theorem run_sizeOfN (h : TyN P E) (w : World) : ∃ s, s ≠ 0 ∧ (sizeOf E).run P w = .ok s w := by
  obtain ⟨i, hi, hs⟩ := h
  exact ⟨i.size, hs, by simp [sizeOf, typeInfo, hi]⟩
/-- The address of a field of any size but 0. -/
theorem s_faN {b o : Nat} {fs : Array Field} {f : Nat} {fl : Field} (hT : P.underlying T = some (.struct fs)) (hf : fs[f]? = some fl) (hE : TyN P fl.type) (hx : ev N σ x = .pointer (some ⟨b, o, none⟩))
    (h : WL r P ops Q rest (mk N (upd σ d (.pointer (some ⟨b, o + fl.offset, none⟩))) ds) w) : WL r P ops Q (⟨some d, .fieldAddr T x f, ty, pos, after, none⟩ :: rest) (mk N σ ds) w := by
  refine l_val (v := .pointer (some ⟨b, o + fl.offset, none⟩)) (by intro c e; cases e) ?_ h
  obtain ⟨s, hs, hr⟩ := run_sizeOfN hE w
  simp [execOp, hx, Instr.fieldAt, run_underlying hT, hf, Instr.sureAddr, fieldPlace, hr, hs, add_at]
end ops
section draw
variable {r : Option Nat} {P : Program} {J : World → Prop} {z : Nat} {Q : Exit → Act → World → Prop} {N : Nat} {σ : Nat → Value} {ds : List Deferred} {w : World}
variable {gd : Option (Nat × Bool)} {ops : Array Oper} {i d : Nat} {π : List (Nat × Bool)} {ty : TypeId} {pos : String} {after : Array Edge} {T E : TypeId} {x y : Operand} {k : IntKind} {n : Nat}
theorem d_nilc {p : Addr} (hop : ops[i]? = some ⟨some d, .nilCheck x, ty, pos, after, gd⟩) (hx : ev N σ x = .pointer (some p)) (h : WJ r P ops J z Q π (mk N (upd σ d (.pointer (some p))) ds) w) (hgd : GOK ops (ev N σ) gd := by first | exact trivial | exact ⟨_, rfl, rfl⟩) : WJ r P ops J z Q ((i, true) :: π) (mk N σ ds) w :=
  d_val hop (fun w' _ => by simp [execOp, hx, go_sem]) h hgd
theorem d_faN {b o : Nat} {fs : Array Field} {f : Nat} {fl : Field} (hop : ops[i]? = some ⟨some d, .fieldAddr T x f, ty, pos, after, gd⟩) (hT : P.underlying T = some (.struct fs)) (hf : fs[f]? = some fl) (hE : TyN P fl.type) (hx : ev N σ x = .pointer (some ⟨b, o, none⟩))
    (h : WJ r P ops J z Q π (mk N (upd σ d (.pointer (some ⟨b, o + fl.offset, none⟩))) ds) w) (hgd : GOK ops (ev N σ) gd := by first | exact trivial | exact ⟨_, rfl, rfl⟩) : WJ r P ops J z Q ((i, true) :: π) (mk N σ ds) w :=
  d_val (v := .pointer (some ⟨b, o + fl.offset, none⟩)) hop (fun w' _ => by
    obtain ⟨s, hs, hr⟩ := run_sizeOfN hE w'
    simp [execOp, hx, Instr.fieldAt, run_underlying hT, hf, Instr.sureAddr, fieldPlace, hr, hs, add_at]) h hgd
end draw
end Go.Proofs.YtkhnohnkcdcajaaDoor.Sal
