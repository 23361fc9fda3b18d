/- What the laws of the graphs have in common. -/
import Derived.Test.YtkhnohnkcdcajaaDoorG8
set_option maxRecDepth 100000
namespace Go.Proofs.YtkhnohnkcdcajaaDoor.Sal
open Go.RowKit
attribute [local irreducible] Go.Code.wpIn Go.wpListIn Ct Ints Rows Sl At Rw WJ
set_option linter.all false
theorem ok_IntsSize : CallOK Tryd.prog 24 := callOK Tryd.func24 (by kernel_rfl) rfl
theorem IntsSize_ct (v : Value) (l : List Int) (w : World) (hl : Ints w v l) : Ct Tryd.prog 24 #[v] w fun u w' => u = .int .i64 (l.length : Int) ∧ Ex w w' := by
  have hlen := hl.len
  refine enter (N := 5) (vs := [v]) Tryd.func24 rfl rfl rfl ?_
  repeat (first | (refine isO ?_; first | refine s_move ?_ | refine s_assign ?_ | (refine isG ?_; first | refine g_yes rfl rfl ?_ | refine g_no rfl rfl rfl ?_ | refine g_un rfl rfl ?_) | (refine isBin ?_; first | refine s_inc rfl (by omega) ?_ | refine s_lssT rfl rfl (by omega) ?_ | refine s_lssF rfl rfl (by omega) ?_ | refine s_lss rfl rfl ?_ | refine s_eqlT rfl rfl (by omega) ?_ | refine s_eqlF rfl rfl (by omega) ?_ | refine s_eql rfl rfl ?_ | refine s_neqT rfl rfl (by omega) ?_ | refine s_neqF rfl rfl (by omega) ?_ | refine s_neq rfl rfl ?_ | refine s_leqT rfl rfl (by omega) ?_ | refine s_leqF rfl rfl (by omega) ?_ | refine s_leq rfl rfl ?_ | refine s_gtrT rfl rfl (by omega) ?_ | refine s_gtrF rfl rfl (by omega) ?_ | refine s_gtr rfl rfl ?_ | refine s_geqT rfl rfl (by omega) ?_ | refine s_geqF rfl rfl (by omega) ?_ | refine s_geq rfl rfl ?_ | refine s_add rfl rfl ⟨by omega, by omega⟩ ?_ | refine s_sub rfl rfl ⟨by omega, by omega⟩ ?_) | (refine isCall ?_; first | refine s_lenI sl_ints rfl (by assumption) ?_ | refine s_lenR sl_rows rfl (by assumption) ?_ | refine s_len sl_ints rfl ?_ | refine s_len sl_rows rfl ?_) | (refine isIA ?_; refine s_ixI sl_ints ty_int rfl rfl rfl (by assumption) (by omega) ?_; intro _) | (refine isPick ?_; first | refine s_pickt rfl rfl ?_ | refine s_pickf rfl rfl ?_) | (refine isLD ?_; first | refine s_ldA ty_int rfl (by assumption) rfl ?_ | refine s_ldA ty_ints rfl (by assumption) rfl ?_) | refine s_extract rfl rfl ?_ | refine s_not rfl ?_) | (refine isC ?_; first | refine c_sr ?_ | refine c_th ?_ | refine c_seq ?_ | refine c_region ?_ | refine c_ift rfl ?_ | refine c_iff rfl ?_ | refine c_block ?_ | refine c_ret ?_ | refine c_exit ?_ | refine c_skip ?_) | (first | refine l_th ?_ | refine th_norm ?_ | refine ib_norm ?_ | refine l_nil ?_ | refine th_ret ?_ | refine ib_ret ?_ | refine ib_exit ?_ | refine th_exit ?_ | refine ib_pass rfl ?_))
  exact ret1 rfl rfl ⟨rfl, Ex.refl _⟩
section
variable {r : Option Nat} {P : Program} {J : World → Prop} {z : Nat} {Q : Exit → Act → World → Prop} {N : Nat} {σ : Nat → Value} {ds : List Deferred} {w : World}
variable {gd : Option (Nat × Bool)} {ops : Array Oper} {i d : Nat} {π : List (Nat × Bool)} {ty : TypeId} {pos : String} {after : Array Edge} {t t' : TypeId} {x y : Operand}
theorem d_neqb {p q : Bool} (hop : ops[i]? = some ⟨some d, .binOp .neq t x y t', ty, pos, after, gd⟩) (hT : P.underlying t = some .bool) (hx : ev N σ x = .bool p) (hy : ev N σ y = .bool q) (h : WJ r P ops J z Q π (mk N (upd σ d (.bool (p != q))) ds) w) (hgd : GOK ops (ev N σ) gd := by first | exact trivial | exact ⟨_, rfl, rfl⟩) : WJ r P ops J z Q ((i, true) :: π) (mk N σ ds) w :=
  d_bin hop hx hy (by simp [go_sem]) (fun w' => by
    show ((Op.equal t (.bool p) (.bool q)).bind fun b => (Sem.pure (Value.bool (!b)) : Sem Value)).run P w' = _
    simp [Sem.run_bind', run_equal_bool P w' t p q hT]; cases p <;> cases q <;> rfl) h hgd
end
end Go.Proofs.YtkhnohnkcdcajaaDoor.Sal
