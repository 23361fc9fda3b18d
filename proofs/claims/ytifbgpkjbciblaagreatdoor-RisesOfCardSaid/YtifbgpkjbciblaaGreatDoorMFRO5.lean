/- Texts that YtifbgpkjbciblaaGreatDoorFRO leans on, laid together: P1 P2 P3 P4 P5 P6 P7 P8 H1. -/
import Derived.Test.YtifbgpkjbciblaaGreatDoorMFRO4
import Derived.Test.YtifbgpkjbciblaaGreatDoorMFRO3
import Derived.Laws.Tables
section
/- slices.Clone, slices.Repeat at []int; math/bits.Mul. -/
set_option maxRecDepth 100000
namespace Go.Proofs.YtifbgpkjbciblaaGreatDoor.Sal
open Go.RowKit
attribute [local irreducible] Go.Code.wpIn Go.wpListIn Ct Ints Rows Sl At Rw WJ
set_option linter.all false
theorem ok_Clone : CallOK Tryz.prog 76 := callOK Tryz.func76 (by kernel_rfl) rfl
theorem ok_Mul64 : CallOK Tryz.prog 129 := callOK Tryz.func129 (by kernel_rfl) rfl
theorem ok_Mul : CallOK Tryz.prog 91 := callOK Tryz.func91 (by kernel_rfl) rfl
theorem ok_Repeat : CallOK Tryz.prog 32 := callOK Tryz.func32 (by kernel_rfl) rfl
section ops
variable {r : Option Nat} {P : Program} {ops : Array Oper} {Q : Exit → Act → World → Prop} {N : Nat} {σ : Nat → Value} {ds : List Deferred} {w : World} {rest : List Oper}
variable {d : Nat} {ty t t' : TypeId} {pos : String} {after : Array Edge} {T E : TypeId} {x y : Operand}
theorem run_equalIn_nil (P : Program) (w : World) (d : Nat) (hT : SlT P T E) (a : Option Addr) (n c : Nat) : (Op.equalIn (d + 1) T (.slice a n c) (.slice none 0 0)).run P w = .ok a.isNone w := by
  have hT' : P.underlying T = some (.slice E) := hT
  cases a <;> simp [Op.equalIn, run_underlying hT']
theorem run_equal_nil (P : Program) (w : World) (hT : SlT P T E) (a : Option Addr) (n c : Nat) : (Op.equal T (.slice a n c) (.slice none 0 0)).run P w = .ok a.isNone w := run_equalIn_nil P w 9999 hT a n c
/-- Is a slice nil? -/
theorem s_eqln {a : Option Addr} {n c : Nat} (hT : SlT P T E) (hx : ev N σ x = .slice a n c) (hy : ev N σ y = .slice none 0 0) (h : WL r P ops Q rest (mk N (upd σ d (.bool a.isNone)) ds) w) : WL r P ops Q (⟨some d, .binOp .eql T x y t', ty, pos, after, none⟩ :: rest) (mk N σ ds) w :=
  l_val (by intro c e; cases e) (bin_run hx hy (by simp [go_sem]) (by
    show ((Op.equal T (.slice a n c) (.slice none 0 0)).bind fun b => (Sem.pure (Value.bool b) : Sem Value)).run P w = _
    simp [Sem.run_bind', run_equal_nil P w hT a n c])) h
/-- []T{}. -/
theorem s_bs0 {z : Value} (hT : SlT P T E) (hi : InfoOf P E z)
    (h : ∀ b w', b = w.heap.size → Rw w' E (.slice (some ⟨b, 0, none⟩) 0 0) [] → Ex w w' → w'.heap.size = b + 1 → WL r P ops Q rest (mk N (upd σ d (.slice (some ⟨b, 0, none⟩) 0 0)) ds) w') :
    WL r P ops Q (⟨some d, .buildSlice T 0 #[], ty, pos, after, none⟩ :: rest) (mk N σ ds) w := by
  obtain ⟨ti, h1i, h2i, h3i, h4i⟩ := hi.ex
  have hT' : P.underlying T = some (.slice E) := hT
  have hA := at_new w ([] : List Value) E
  have hR := hA.rw (n := 0) (c := 0) rfl (Nat.le_refl _) (by omega)
  refine l_val (v := .slice (some ⟨w.heap.size, 0, none⟩) 0 0) (w' := w.alloc (.cells ([] : List Value).toArray E)) (by intro c e; cases e) ?_ (h _ _ rfl hR (Ex.alloc w _) (size_new w _))
  simp [execOp, Instr.buildSlice, run_underlying hT', sizeOf, typeInfo, h1i, h2i, h3i, zeroValue, Instr.fill, newRow, hi.one, Array.range_succ, Array.range_zero']
end ops
theorem Clone_ct (v : Value) (l : List Int) (w : World) (hl : Ints w v l) (hm : l.length ≤ 10000) :
    Ct Tryz.prog 76 #[v] w fun u w' => LI w w' 3 u l ∧ Ex w w' := by
  obtain ⟨a, c, rfl⟩ := hl.form
  refine enter (N := 8) (vs := [.slice a l.length c]) Tryz.func76 rfl rfl rfl ?_
  repeat (first | (refine isO ?_; first | refine s_move ?_ | refine s_assign ?_) | (refine isC ?_; first | refine c_sr ?_ | refine c_seq ?_) | (refine l_th ?_))
  refine s_eqln sl_ints rfl rfl ?_
  cases a with
  | none =>
    have hl0 : l = [] := by
      obtain ⟨_, a, n, c', hv, _, _, hc⟩ := Ints.parts hl
      cases hv
      cases l with
      | nil => rfl
      | cons x l => obtain ⟨ad, h, _⟩ := hc 0 (.int .i64 x) rfl; cases h
    subst hl0
    repeat (first | (refine isO ?_; refine s_assign ?_) | (refine isC ?_; first | refine c_sr ?_ | refine c_ift rfl ?_ | refine c_ret ?_) | (first | refine l_th ?_ | refine th_ret ?_))
    exact ret1 rfl rfl ⟨LI.nil _ _ _, Ex.refl _⟩
  | some a =>
    repeat (first | (refine isC ?_; first | refine c_sr ?_ | refine c_th ?_ | refine c_iff rfl ?_) | (refine l_th ?_))
    refine s_bs0 sl_ints in_int ?_
    intro b w1 hb hR hx1 hs1
    repeat ((refine isO ?_; refine s_move ?_))
    refine s_lapp (w0 := w) (l := []) sl_ints in_int ⟨hR, fun q hq => by cases hq; show w.heap.size ≤ b; omega⟩ (hl.ex hx1) rfl rfl (by simp; omega) hx1 ?_
    intro v' w2 hL hx2
    repeat (first | (refine isO ?_; refine s_assign ?_) | (refine isC ?_; refine c_ret ?_) | (refine l_th ?_))
    exact ret1 rfl rfl ⟨hL, hx2⟩
theorem low32 {n : Nat} (h : n ≤ 1000) : n &&& 4294967295 = n := by
  have := Nat.and_two_pow_sub_one_eq_mod n 32
  rw [show (2 ^ 32 - 1 : Nat) = 4294967295 from rfl] at this
  rw [this]; exact Nat.mod_eq_of_lt (by omega)
theorem hi32 {n : Nat} (h : n ≤ 1000) : n / 2 ^ 32 = 0 := Nat.div_eq_of_lt (by omega)
theorem Mul64_ct (n : Nat) (hn : n ≤ 1000) (w : World) :
    Ct Tryz.prog 129 #[.int .u64 ((1 : Nat) : Int), .int .u64 (n : Int)] w fun u w' => u = .tuple #[.int .u64 ((0 : Nat) : Int), .int .u64 (n : Int)] ∧ Ex w w' := by
  have l0 := low32 (n := 0) (by omega)
  have l1 := low32 (n := 1) (by omega)
  have ln := low32 hn
  have h0 := hi32 (n := 0) (by omega)
  have h1 := hi32 (n := 1) (by omega)
  have h2 := hi32 hn
  refine enter (N := 51) (vs := [.int .u64 ((1 : Nat) : Int), .int .u64 (n : Int)]) Tryz.func129 rfl rfl rfl ?_
  repeat (first | (refine isO ?_; first | refine s_move ?_ | refine s_assign ?_) | (refine isC ?_; refine c_sr ?_) | (refine l_th ?_))
  refine s_and (m := 1) (n := 4294967295) rfl rfl (by simp [top]) (by simp [top]) ?_
  refine s_re (vint (congrArg (fun q : Nat => (q : Int)) l1)) ?_
  repeat (first | (refine isO ?_; first | refine s_move ?_ | refine s_assign ?_) | (refine isC ?_; refine c_sr ?_) | (refine l_th ?_))
  refine s_shr (m := 1) (n := 32) rfl rfl (by simp [IntKind.bits]) ?_
  refine s_re (vint (congrArg (fun q : Nat => (q : Int)) h1)) ?_
  repeat (first | (refine isO ?_; first | refine s_move ?_ | refine s_assign ?_) | (refine isC ?_; refine c_sr ?_) | (refine l_th ?_))
  refine s_and (m := n) (n := 4294967295) rfl rfl (by simp [top]; omega) (by simp [top]) ?_
  refine s_re (vint (congrArg (fun q : Nat => (q : Int)) ln)) ?_
  repeat (first | (refine isO ?_; first | refine s_move ?_ | refine s_assign ?_) | (refine isC ?_; refine c_sr ?_) | (refine l_th ?_))
  refine s_shr (m := n) (n := 32) rfl rfl (by simp [IntKind.bits]) ?_
  refine s_re (vint (congrArg (fun q : Nat => (q : Int)) h2)) ?_
  repeat (first | (refine isO ?_; first | refine s_move ?_ | refine s_assign ?_) | (refine isC ?_; refine c_sr ?_) | (refine l_th ?_))
  refine s_mulN (m := 1) (n := n) rfl rfl (by simp [top]; omega) ?_
  refine s_re (vint (congrArg (fun q : Nat => (q : Int)) (Nat.one_mul n))) ?_
  repeat (first | (refine isO ?_; first | refine s_move ?_ | refine s_assign ?_) | (refine isC ?_; refine c_sr ?_) | (refine l_th ?_))
  refine s_mulN (m := 0) (n := n) rfl rfl (by simp [top]) ?_
  refine s_re (vint (congrArg (fun q : Nat => (q : Int)) (Nat.zero_mul n))) ?_
  repeat ((refine isO ?_; refine s_move ?_))
  refine s_shr (m := n) (n := 32) rfl rfl (by simp [IntKind.bits]) ?_
  refine s_re (vint (congrArg (fun q : Nat => (q : Int)) h2)) ?_
  refine s_addN (m := 0) (n := 0) rfl rfl (by simp [top]) ?_
  repeat (first | (refine isO ?_; first | refine s_move ?_ | refine s_assign ?_) | (refine isC ?_; refine c_sr ?_) | (refine l_th ?_))
  refine s_and (m := 0) (n := 4294967295) rfl rfl (by simp [top]) (by simp [top]) ?_
  refine s_re (vint (congrArg (fun q : Nat => (q : Int)) l0)) ?_
  repeat (first | (refine isO ?_; first | refine s_move ?_ | refine s_assign ?_) | (refine isC ?_; refine c_sr ?_) | (refine l_th ?_))
  refine s_shr (m := 0) (n := 32) rfl rfl (by simp [IntKind.bits]) ?_
  refine s_re (vint (congrArg (fun q : Nat => (q : Int)) h0)) ?_
  repeat (first | (refine isO ?_; first | refine s_move ?_ | refine s_assign ?_) | (refine isC ?_; refine c_sr ?_) | (refine l_th ?_))
  refine s_mulN (m := 1) (n := 0) rfl rfl (by simp [top]) ?_
  refine s_addN (m := 0) (n := 0) rfl rfl (by simp [top]) ?_
  repeat (first | (refine isO ?_; first | refine s_move ?_ | refine s_assign ?_) | (refine isC ?_; refine c_sr ?_) | (refine l_th ?_))
  refine s_mulN (m := 0) (n := 0) rfl rfl (by simp [top]) ?_
  repeat ((refine isO ?_; refine s_move ?_))
  refine s_addN (m := 0) (n := 0) rfl rfl (by simp [top]) ?_
  repeat ((refine isO ?_; refine s_move ?_))
  refine s_shr (m := 0) (n := 32) rfl rfl (by simp [IntKind.bits]) ?_
  refine s_re (vint (congrArg (fun q : Nat => (q : Int)) h0)) ?_
  refine s_addN (m := 0) (n := 0) rfl rfl (by simp [top]) ?_
  repeat (first | (refine isO ?_; first | refine s_move ?_ | refine s_assign ?_) | (refine isC ?_; refine c_sr ?_) | (refine l_th ?_))
  refine s_mulN (m := 1) (n := n) rfl rfl (by simp [top]; omega) ?_
  refine s_re (vint (congrArg (fun q : Nat => (q : Int)) (Nat.one_mul n))) ?_
  repeat (first | (refine isO ?_; refine s_assign ?_) | (refine isC ?_; refine c_ret ?_) | (refine l_th ?_))
  exact ret2 rfl rfl rfl ⟨rfl, Ex.refl _⟩
theorem Mul_ct (n : Nat) (hn : n ≤ 1000) (w : World) :
    Ct Tryz.prog 91 #[.int .u64 ((1 : Nat) : Int), .int .u64 (n : Int)] w fun u w' => u = .tuple #[.int .u64 ((0 : Nat) : Int), .int .u64 (n : Int)] ∧ Ex w w' := by
  refine enter (N := 30) (vs := [.int .u64 ((1 : Nat) : Int), .int .u64 (n : Int)]) Tryz.func91 rfl rfl rfl ?_
  repeat (first | (refine isO ?_; first | refine s_move ?_ | refine s_assign ?_) | (refine isC ?_; first | refine c_sr ?_ | refine c_th ?_ | refine c_seq ?_ | refine c_iff rfl ?_) | (refine l_th ?_))
  refine s_call ok_Mul64 rfl (Mul64_ct n hn w) ?_
  rintro u w1 ⟨rfl, hx⟩
  repeat (first | (refine isO ?_; first | refine s_move ?_ | refine s_assign ?_ | refine s_extract rfl rfl ?_) | (refine isC ?_; first | refine c_sr ?_ | refine c_ret ?_) | (refine l_th ?_))
  exact ret2 rfl rfl rfl ⟨rfl, hx⟩
theorem rep_grow (c k n : Nat) (h : c + k ≤ n) : (List.replicate c (Value.int .i64 (-1)) ++ List.replicate (n - c) (Value.int .i64 0)).take c ++ List.replicate k (Value.int .i64 (-1)) ++ (List.replicate c (Value.int .i64 (-1)) ++ List.replicate (n - c) (Value.int .i64 0)).drop (c + k) = List.replicate (c + k) (Value.int .i64 (-1)) ++ List.replicate (n - (c + k)) (.int .i64 0) := by
  rw [List.take_left' (by simp), List.replicate_append_replicate, List.drop_append, List.drop_of_length_le (by simp)]
  simp only [List.length_replicate, List.nil_append, List.drop_replicate]
  congr 2; omega
theorem Repeat_ct (b0 : Nat) (n : Nat) (hn : n ≤ 1000) (w : World) (hA0 : At w b0 3 [.int .i64 (-1)]) :
    Ct Tryz.prog 32 #[sv b0 1 1, .int .i64 (n : Int)] w fun u w' => ∃ b, u = sv b n n ∧ w.heap.size ≤ b ∧ At w' b 3 (List.replicate n (.int .i64 (-1))) ∧ Ex w w' := by
  refine Exists.elim in_int' fun ti hti => ?_
  refine enter (N := 48) (vs := [sv b0 1 1, .int .i64 (n : Int)]) Tryz.func32 rfl rfl rfl ?_
  repeat (first | (refine isO ?_; first | refine s_move ?_ | refine s_assign ?_ | (refine isBin ?_; refine s_lssF rfl rfl (by omega) ?_) | (refine isCall ?_; refine s_len sl_ints rfl ?_)) | (refine isC ?_; first | refine c_sr ?_ | refine c_th ?_ | refine c_seq ?_ | refine c_iff rfl ?_) | (refine l_th ?_))
  refine s_conv (n := 1) (by kernel_rfl) Tryz.underlying69 rfl (by simp [top]) ?_
  repeat ((refine isO ?_; refine s_move ?_))
  refine s_conv (n := n) (by kernel_rfl) Tryz.underlying69 rfl (by simp [top]; omega) ?_
  refine s_call ok_Mul rfl (Mul_ct n hn w) ?_
  rintro u w1 ⟨rfl, hx1⟩
  have hA01 := hA0.ex hx1
  repeat (first | (refine isO ?_; first | refine s_move ?_ | refine s_assign ?_ | (refine isG ?_; refine g_yes rfl rfl ?_) | (refine isBin ?_; refine s_gtrF rfl rfl (by omega) ?_) | (refine isPick ?_; refine s_pickf rfl rfl ?_) | refine s_extract rfl rfl ?_) | (refine isC ?_; first | refine c_sr ?_ | refine c_th ?_ | refine c_seq ?_ | refine c_iff rfl ?_) | (refine l_th ?_))
  refine s_conv (n := n) (by kernel_rfl) Tryz.underlying3 rfl (by simp [top]; omega) ?_
  refine s_make sl_ints hti.1 hti.2.1 hti.2.2.1 rfl hti.2.2.2 rfl (by omega) ?_
  intro b w2 hb hA hx2 hs2
  have hx02 := hx1.trans hx2
  have hbw : w.heap.size ≤ b := by have := hx1.size; omega
  have hA02 := hA01.ex hx2
  have z1 := hx1.size
  repeat (first | (refine isO ?_; first | refine s_move ?_ | refine s_assign ?_) | (refine isC ?_; refine c_sr ?_) | (refine l_th ?_))
  refine s_copy (news := List.replicate (min 1 n) (.int .i64 (-1))) sl_ints ty_int hA rfl rfl (by simp) (fun j v hj => ?_) (by simp; omega) (by intro q hq; rw [List.eq_of_mem_replicate hq]; rfl) ?_
  · have hj0 := (List.getElem?_eq_some_iff.1 hj).1
    simp at hj0
    have : j = 0 := by omega
    subst this
    rw [add_at, hA02.cell]
    rw [List.getElem?_replicate, if_pos (by omega)] at hj
    exact hj
  intro w3 hA3 hg3 hs3
  have hx03 := hx02.store hg3 hbw
  have e3 : (List.replicate n (Value.int .i64 0)).take 0 ++ List.replicate (min 1 n) (.int .i64 (-1)) ++ (List.replicate n (Value.int .i64 0)).drop (0 + (List.replicate (min 1 n) (Value.int .i64 (-1))).length) = List.replicate (min 1 n) (Value.int .i64 (-1)) ++ List.replicate (n - min 1 n) (.int .i64 0) := by simp
  rw [e3] at hA3
  repeat (first | (refine isO ?_; refine s_assign ?_) | (refine isC ?_; first | refine c_seq ?_ | refine c_block ?_) | (refine l_th ?_))
  refine c_loop (γ := Nat) 140720308486400 (fun c => [(8, .int .i64 (c : Int))]) (fun c w' => (c ≤ n ∧ (0 < c ∨ n = 0)) ∧ At w' b 3 (List.replicate c (.int .i64 (-1)) ++ List.replicate (n - c) (Value.int .i64 0)) ∧ Ex w w') (fun c => n - c) (min 1 n) ⟨vint (by simp), trivial⟩ ⟨⟨by omega, by omega⟩, hA3, hx03⟩ ?_
  rintro c ρ w4 ⟨⟨hc, hc0⟩, hA4, hx4⟩
  repeat (first | (refine isO ?_; first | refine s_move ?_ | (refine isBin ?_; refine s_lss rfl rfl ?_) | (refine isCall ?_; refine s_len sl_ints rfl ?_)) | (refine isC ?_; first | refine c_sr ?_ | refine c_seq ?_) | (refine l_th ?_))
  refine c_ifd rfl (fun h => ?_) (fun h => ?_)
  · have hc' : c < n := by omega
    repeat ((refine isC ?_; first | refine c_th ?_ | refine c_block ?_))
    refine c_drawJ (fun _ => True) trivial 0 8 [(0, true), (1, true), (2, true), (3, true), (4, true), (5, true), (6, true), (7, false), (8, true), (9, true)] mixed (by kernel_rfl) ?_
    refine d_move rfl ?_
    refine d_move rfl ?_
    refine d_move rfl ?_
    refine d_tailA (lo := c) rfl sl_ints ty_int rfl rfl hc' ?_
    refine d_move rfl ?_
    refine d_move rfl ?_
    refine d_headA (hi := c) rfl sl_ints ty_int rfl rfl (by omega) ?_
    refine d_ch rfl ?_
    have hA5 := hA4.ex (Ex.drew w4)
    refine s_copy (news := List.replicate (min c (n - c)) (.int .i64 (-1))) sl_ints ty_int hA5 rfl rfl (by simp) (fun j v hj => ?_) (by simp; omega) (by intro q hq; rw [List.eq_of_mem_replicate hq]; rfl) ?_
    · have hj0 := (List.getElem?_eq_some_iff.1 hj).1
      simp at hj0
      rw [add_at, hA5.cell, Nat.zero_add, List.getElem?_append_left (by simp; omega), List.getElem?_replicate, if_pos (by omega)]
      rw [List.getElem?_replicate, if_pos (by omega)] at hj
      exact hj
    intro w5 hA6 hg5 hs5
    have hx5 := (hx4.trans (Ex.drew w4)).store hg5 hbw
    refine l_nil ⟨rfl, .inr trivial, ?_⟩
    rw [List.length_replicate, rep_grow c (min c (n - c)) n (by omega)] at hA6
    refine d_add rfl rfl rfl ⟨by omega, by simp; omega⟩ ?_
    refine d_assign rfl ?_
    refine d_nil ?_
    repeat ((first | refine th_norm ?_ | refine ib_norm ?_))
    exact loop_end (c + min c (n - c)) (by (repeat (first | exact agree_refl _ _ | refine agree_upd rfl ?_ | refine agree_ext rfl ?_ | refine agree_mask rfl ?_))) ⟨vint (by simp), trivial⟩ ⟨⟨by omega, by omega⟩, hA6, hx5⟩ (by omega)
  · have hcn : c = n := by omega
    subst hcn
    repeat (first | (refine isO ?_; first | refine s_move ?_ | refine s_assign ?_) | (refine isC ?_; first | refine c_sr ?_ | refine c_ret ?_ | refine c_exit ?_) | (refine l_th ?_))
    refine ret1 rfl rfl ⟨b, rfl, hbw, ?_, hx4⟩
    simpa using hA4
end Go.Proofs.YtifbgpkjbciblaaGreatDoor.Sal
end
section
/- The search of a way to one more: what its struct holds; paths.begin. -/
set_option maxRecDepth 100000
namespace Go.Proofs.YtifbgpkjbciblaaGreatDoor.Sal
open Go.RowKit
attribute [local irreducible] Go.Code.wpIn Go.wpListIn Ct Ints Rows Sl At Rw WJ
set_option linter.all false
theorem ok_begin : CallOK Tryz.prog 92 := callOK Tryz.func92 (by kernel_rfl) rfl
theorem ok_goes : CallOK Tryz.prog 93 := callOK Tryz.func93 (by kernel_rfl) rfl
theorem ok_More : CallOK Tryz.prog 34 := callOK Tryz.func34 (by kernel_rfl) rfl
theorem tyn_a8 : TyN Tryz.prog 95 := by
  have h := sz_a8
  cases hi : Tryz.prog.info? 95 with
  | none => rw [hi] at h; cases h
  | some ti => rw [hi] at h; exact ⟨ti, hi, by simp at h; omega⟩
theorem tyn_ints : TyN Tryz.prog 25 := ty_ints.n
theorem tyn_rows : TyN Tryz.prog 22 := ty_rows.n
def u_search := Tryz.underlying97
/-- What the search's struct holds. -/
def SE (g h v : Value) (w q : Nat → Nat) : List Value := g :: h :: v :: (tb8 (fun k => (w k : Int)) ++ tb8 (fun k => (q k : Int)))
theorem SE_len (g h v : Value) (w q : Nat → Nat) : (SE g h v w q).length = 19 := by simp [SE, tb8_len]
theorem SE_by {g h v : Value} {w q : Nat → Nat} {k : Nat} (hk : k < 8) : (SE g h v w q)[3 + k]? = some (.int .i64 (w k : Int)) := by
  have e : 3 + k = k + 1 + 1 + 1 := by omega
  rw [e]
  unfold SE
  rw [List.getElem?_cons_succ, List.getElem?_cons_succ, List.getElem?_cons_succ, List.getElem?_append_left (by rw [tb8_len]; exact hk), tb8_get _ hk]
theorem SE_ho {g h v : Value} {w q : Nat → Nat} {k : Nat} (hk : k < 8) : (SE g h v w q)[11 + k]? = some (.int .i64 (q k : Int)) := by
  have e : 11 + k = (8 + k) + 1 + 1 + 1 := by omega
  rw [e]
  unfold SE
  rw [List.getElem?_cons_succ, List.getElem?_cons_succ, List.getElem?_cons_succ, List.getElem?_append_right (by rw [tb8_len]; omega), tb8_len]
  have e2 : 8 + k - 8 = k := by omega
  rw [e2, tb8_get _ hk]
theorem fset_cast (w : Nat → Nat) (k x : Nat) : fset (fun j => (w j : Int)) k ((x : Nat) : Int) = fun j => ((fset w k x j : Nat) : Int) := by
  funext j
  unfold fset
  by_cases e : j = k
  · rw [if_pos e, if_pos e]
  · rw [if_neg e, if_neg e]
theorem SE_set_by {g h v : Value} {w q : Nat → Nat} {k x : Nat} (hk : k < 8) : (SE g h v w q).set (3 + k) (.int .i64 ((x : Nat) : Int)) = SE g h v (fset w k x) q := by
  have e : 3 + k = k + 1 + 1 + 1 := by omega
  rw [e]
  unfold SE
  rw [List.set_cons_succ, List.set_cons_succ, List.set_cons_succ, List.set_append_left _ _ (by rw [tb8_len]; exact hk), tb8_set _ _ hk, fset_cast]
theorem SE_set_ho {g h v : Value} {w q : Nat → Nat} {k x : Nat} (hk : k < 8) : (SE g h v w q).set (11 + k) (.int .i64 ((x : Nat) : Int)) = SE g h v w (fset q k x) := by
  have e : 11 + k = (8 + k) + 1 + 1 + 1 := by omega
  rw [e]
  unfold SE
  rw [List.set_cons_succ, List.set_cons_succ, List.set_cons_succ, List.set_append_right _ _ (by rw [tb8_len]; omega), tb8_len]
  have e2 : 8 + k - 8 = k := by omega
  rw [e2, tb8_set _ _ hk, fset_cast]
theorem built_search (a1 a2 a3 : Option Addr) (n1 n2 n3 c1 c2 c3 : Nat) : Tryz.prog.built 97 [(0, .slice a1 n1 c1), (1, .slice a2 n2 c2), (2, .slice a3 n3 c3)] = some (SE (.slice a1 n1 c1) (.slice a2 n2 c2) (.slice a3 n3 c3) (fun _ => 0) (fun _ => 0)).toArray := by kernel_rfl
theorem gb_refl (w : World) (o : Option Nat) : w.grownBy w o := ⟨rfl, rfl, rfl, Nat.le_refl _, fun _ _ _ => rfl⟩
theorem gb_trans {a b c : World} {o : Option Nat} (h : a.grownBy b o) (k : b.grownBy c o) : a.grownBy c o :=
  ⟨k.os.trans h.os, k.tape.trans h.tape, k.output.trans h.output, Nat.le_trans h.size k.size, fun q hq hne => (k.block q (Nat.lt_of_lt_of_le hq h.size) hne).trans (h.block q hq hne)⟩
theorem Ex.grown_to {w w' : World} {o : Option Nat} (h : Ex w w') : w.grownBy w' o := ⟨h.os, h.tape, h.output, h.size, fun k hk _ => h.block k hk⟩
section ops
variable {r : Option Nat} {P : Program} {ops : Array Oper} {Q : Exit → Act → World → Prop} {N : Nat} {σ : Nat → Value} {ds : List Deferred} {w : World} {rest : List Oper}
variable {d : Nat} {ty : TypeId} {pos : String} {after : Array Edge} {T E : TypeId} {x y : Operand}
theorem s_build {parts : List (Nat × Operand)} {cells : List Value} (h : P.built T (parts.map fun p => (p.1, ev N σ p.2)) = some cells.toArray) (hK : WL r P ops Q rest (mk N (upd σ d (.agg cells.toArray)) ds) w) :
    WL r P ops Q (⟨some d, .build T parts.toArray, ty, pos, after, none⟩ :: rest) (mk N σ ds) w :=
  l_val (by intro c e; cases e) (by
    have := run_build (P := P) w T (parts.map fun p => (p.1, ev N σ p.2)).toArray cells.toArray h
    simp [execOp, this]) hK
/-- append(l, x...) of numbers, with what turns by it. -/
theorem s_lappG {w0 : World} {z v xv : Value} {l news : List Int} (hT : SlT P T E) (hi : InfoOf P E z) (hL : LI w0 w E v l) (hS : Ints w xv news) (hv : ev N σ x = v) (hxv : ev N σ y = xv) (hlen : l.length + news.length ≤ 100000) (hw : Ex w0 w)
    (h : ∀ v' w', LI w0 w' E v' (l ++ news) → Ex w0 w' → w.grownBy w' v.ownBlock → (v'.ownBlock = v.ownBlock ∨ ∀ b, v'.ownBlock = some b → w.heap.size ≤ b) → WL r P ops Q rest (mk N (upd σ d v') ds) w') :
    WL r P ops Q (⟨some d, .call { callee := .builtin .append, args := #[x, y], argTypes := #[T, T] }, ty, pos, after, none⟩ :: rest) (mk N σ ds) w := by
  refine s_app hT hi hL.1 hS.sl hv hxv (map_one news) (by simp; omega) ?_
  intro v' w' hR hg hf
  refine h v' w' ⟨by rw [List.map_append]; exact hR, fun b hb => ?_⟩ (hw.storeo hg hL.2) hg hf
  rcases hf with he | hf
  · exact hL.2 b (he ▸ hb)
  · exact Nat.le_trans hw.size (hf b hb)
end ops
theorem At.li {w0 w : World} {b : Nat} {q : Int} (h : At w b 3 [.int .i64 q]) (hb : w0.heap.size ≤ b) : LI w0 w 3 (sv b 1 1) [q] :=
  ⟨h.rw (n := 1) (c := 1) rfl (Nat.le_refl _) (by omega), fun k hk => by cases hk; exact hb⟩
theorem Clone_own (v : Value) (l : List Int) (w : World) (hl : Ints w v l) (hm : l.length ≤ 10000) (hne : l ≠ []) :
    Ct Tryz.prog 76 #[v] w fun u w' => ∃ b c, u = sv b l.length c ∧ OwnI w' 3 b c l ∧ w.heap.size ≤ b ∧ Ex w w' :=
  (Clone_ct v l w hl hm).mono fun u w' ⟨hL, hx⟩ => by
    obtain ⟨b, c, hv, hO, hb⟩ := hL.own hne (by omega)
    exact ⟨b, c, hv, hO, hb, hx⟩
theorem Clip_own (b c : Nat) (l : List Int) (w : World) (hO : OwnI w 3 b c l) :
    Ct Tryz.prog 35 #[sv b l.length c] w fun u w' => u = sv b l.length l.length ∧ OwnI w' 3 b l.length l ∧ Ex w w' :=
  (Clip_ct _ l w hO.ints).mono fun u w' ⟨⟨a, c', hv, hu⟩, hI, hx⟩ => by
    cases hv
    obtain ⟨sp, h1, h2, h3⟩ := hO
    exact ⟨hu, ⟨sp, h1.ex hx, Nat.le_refl _, h3⟩, hx⟩
theorem holdN_m1 {has : List Int} {i : Nat} (h : has.getD i (-1) = -1) : holdN has (i + 1) = holdN has i := by
  funext k
  show (if has.getD i (-1) = (k : Int) then i + 1 else holdN has i k) = _
  rw [h, if_neg (by omega)]
theorem holdN_at {has : List Int} {i q : Nat} (h : has.getD i (-1) = (q : Int)) : holdN has (i + 1) = fset (holdN has i) q (i + 1) := by
  funext k
  show (if has.getD i (-1) = (k : Int) then i + 1 else holdN has i k) = _
  unfold fset
  by_cases e : k = q
  · subst e; rw [if_pos h, if_pos rfl]
  · rw [if_neg (by omega), if_neg e]
set_option maxHeartbeats 2000000 in
theorem begin_ct {R : Nat → Nat → Bool} {m n : Nat} (hm : m ≤ 8) (hn : n ≤ 8) {gv hv : Value} {has : List Int} {a : Nat} {w : World} (hg : Rows w gv (gL R m n)) (hh : Ints w hv has) (hF : FitR R m n has) (ham : a < m) (ha : has.getD a (-1) = -1) :
    Ct Tryz.prog 92 #[gv, .int .i64 (n : Int), hv, .int .i64 (a : Int)] w fun u w' => ∃ b hb wv, u = .tuple #[.pointer (some ⟨b, 0, none⟩), .int .i64 0] ∧ At w' b 97 (SE gv (sv hb has.length has.length) wv (fun _ => 0) (holdN has has.length)) ∧ OwnI w' 3 hb has.length has ∧ LI w w' 3 wv [(a : Int)] ∧
      (wv.ownBlock ≠ some hb ∧ wv.ownBlock ≠ some b ∧ hb ≠ b) ∧ w.heap.size ≤ b ∧ w.heap.size ≤ hb ∧ Ex w w' := by
  have hl := hF.len
  have hgl := gL_len R m n
  have ha0 : has.getD a 0 = -1 := by rw [← getD_m1 (by omega)]; exact ha
  have hne : has ≠ [] := fun e => by rw [e] at hl; simp at hl; omega
  refine Exists.elim hg.form fun ga hga => Exists.elim hga fun gc hgc => ?_
  subst hgc
  refine enter (N := 61) (vs := [.slice ga (gL R m n).length gc, .int .i64 (n : Int), hv, .int .i64 (a : Int)]) Tryz.func92 rfl rfl rfl ?_
  repeat (first | (refine isO ?_; first | refine s_move ?_ | refine s_assign ?_) | (refine isC ?_; first | refine c_sr ?_ | refine c_seq ?_) | (refine l_th ?_))
  refine s_call ok_Fits rfl (Fits_ok hm hn _ hv has w hg hh hl) ?_
  rintro u w2 ⟨⟨b0, rfl, hb0⟩, hx2⟩
  refine s_re (v' := .bool true) (vbool (hb0.2 hF)) ?_
  have hg2 := hg.ex hx2
  have hh2 := hh.ex hx2
  repeat (first | (refine isO ?_; first | refine s_move ?_ | (refine isG ?_; refine g_yes rfl rfl ?_) | (refine isBin ?_; first | refine s_lssF rfl rfl (by omega) ?_ | refine s_neqF rfl rfl (by omega) ?_ | refine s_geqF rfl rfl (by omega) ?_) | (refine isCall ?_; refine s_lenR sl_rows rfl (by assumption) ?_) | (refine isPick ?_; refine s_pickf rfl rfl ?_) | refine s_not rfl ?_) | (refine isO ?_; first | (refine s_iaI sl_ints ty_int rfl rfl (by assumption) (by omega) ?_; intro _ _) | refine s_ld ty_int rfl (by assumption) ?_) | (refine isC ?_; first | refine c_sr ?_ | refine c_th ?_ | refine c_iff rfl ?_) | (refine l_th ?_))
  refine s_call ok_Clone rfl (Clone_own hv has w2 hh2 (by omega) hne) ?_
  rintro u w3 ⟨hb, c3, rfl, hO3, hbw3, hx3⟩
  refine s_call ok_Clip rfl (Clip_own hb c3 has w3 hO3) ?_
  rintro u w4 ⟨rfl, hO4, hx4⟩
  repeat ((refine isO ?_; refine s_move ?_))
  refine s_bs1 sl_ints in_int rfl rfl ?_
  intro b5 w5 hb5 hA5 hx5 hs5
  refine s_build (cells := SE (.slice ga (gL R m n).length gc) (sv hb has.length has.length) (sv b5 1 1) (fun _ => 0) (fun _ => 0)) (built_search _ _ _ _ _ _ _ _ _) ?_
  refine s_box (cs := SE (.slice ga (gL R m n).length gc) (sv hb has.length has.length) (sv b5 1 1) (fun _ => 0) (fun _ => 0)) rfl rfl ?_
  intro b w6 hb6 hA6 hx6 hs6
  have z2 := hx2.size
  have z3 := hx3.size
  have z4 := hx4.size
  have z5 := hx5.size
  have z6 := hx6.size
  have hlt := hO4.lt
  have hx06 := hx2.trans (hx3.trans (hx4.trans (hx5.trans hx6)))
  have hO6 := hO4.ex (hx5.trans hx6)
  have hL6 : LI w w6 3 (sv b5 1 1) [(a : Int)] := (hA5.ex hx6).li (by omega)
  have hbb : w.heap.size ≤ b := by omega
  have hh6 := hh.ex hx06
  repeat (first | (refine isO ?_; first | refine s_move ?_ | refine s_assign ?_ | (refine isCall ?_; refine s_lenI sl_ints rfl (by assumption) ?_)) | (refine isC ?_; first | refine c_sr ?_ | refine c_seq ?_ | refine c_block ?_) | (refine l_th ?_))
  refine c_loop (γ := Nat) 1152886320234764288 (fun i => [(45, .int .i64 (i : Int))]) (fun i w' => i ≤ m ∧ At w' b 97 (SE (.slice ga (gL R m n).length gc) (sv hb has.length has.length) (sv b5 1 1) (fun _ => 0) (holdN has i)) ∧ w6.grownBy w' (some b) ∧ Ex w w') (fun i => m - i) 0 ⟨rfl, trivial⟩ ⟨Nat.zero_le _, hA6, gb_refl _ _, hx06⟩ ?_
  rintro i ρ w7 ⟨hi, hA7, hgb, hx7⟩
  have hh7 := hh.ex hx7
  repeat (first | (refine isO ?_; (refine isBin ?_; refine s_lss rfl rfl ?_)) | (refine isC ?_; first | refine c_sr ?_ | refine c_seq ?_) | (refine l_th ?_))
  refine c_ifd rfl (fun h => ?_) (fun h => ?_)
  · have hi' : i < m := by omega
    have hil : i < has.length := by omega
    have hd1 := getD_m1 hil
    by_cases hm1 : has.getD i 0 = -1
    · have hst := holdN_m1 (has := has) (i := i) (by omega)
      repeat (first | (refine isO ?_; first | refine s_move ?_ | refine s_assign ?_ | (refine isBin ?_; first | refine s_inc rfl (by omega) ?_ | refine s_neqF rfl rfl (by omega) ?_) | (refine isIA ?_; refine s_ixI sl_ints ty_int rfl rfl rfl (by assumption) (by omega) ?_; intro _)) | (refine isC ?_; first | refine c_sr ?_ | refine c_th ?_ | refine c_seq ?_ | refine c_region ?_ | refine c_iff rfl ?_ | refine c_block ?_ | refine c_skip ?_) | (refine l_th ?_))
      exact loop_end (i + 1) (by (repeat (first | exact agree_refl _ _ | refine agree_upd rfl ?_ | refine agree_ext rfl ?_ | refine agree_mask rfl ?_))) ⟨rfl, trivial⟩ ⟨hi', by rw [hst]; exact hA7, hgb, hx7⟩ (by omega)
    · refine Exists.elim ((hF.ok i hi').resolve_left (by omega)) fun q hq => ?_
      have hq1 := hq.1
      have hq2 := hq.2.1
      have hq0 : has.getD i 0 = (q : Int) := by omega
      have hst := holdN_at hq2
      have hq8 : q < 8 := by omega
      repeat (first | (refine isO ?_; first | refine s_move ?_ | refine s_assign ?_ | (refine isBin ?_; first | refine s_inc rfl (by omega) ?_ | refine s_neqT rfl rfl (by omega) ?_) | (refine isIA ?_; refine s_ixI sl_ints ty_int rfl rfl rfl (by assumption) (by omega) ?_; intro _)) | (refine isC ?_; first | refine c_sr ?_ | refine c_th ?_ | refine c_seq ?_ | refine c_region ?_ | refine c_ift rfl ?_ | refine c_block ?_) | (refine l_th ?_))
      refine s_nil rfl ?_
      refine s_faN u_search rfl tyn_a8 rfl ?_
      refine s_iaO (n := q) u_a8 ty_int rfl (vint hq0) hq8 ?_
      refine s_stA (n := 11 + q) (u := .int .i64 ((i + 1 : Nat) : Int)) ty_int rfl rfl rfl hA7 (by rw [SE_len]; omega) ?_
      intro w8 hA8 hg8
      rw [SE_set_ho hq8, ← hst] at hA8
      repeat (first | (refine isO ?_; first | refine s_move ?_ | (refine isBin ?_; refine s_inc rfl (by omega) ?_)) | (refine isC ?_; refine c_region ?_) | (first | refine l_th ?_ | refine l_nil ?_))
      exact loop_end (i + 1) (by (repeat (first | exact agree_refl _ _ | refine agree_upd rfl ?_ | refine agree_ext rfl ?_ | refine agree_mask rfl ?_))) ⟨rfl, trivial⟩ ⟨hi', hA8, gb_trans hgb hg8, hx7.store hg8 hbb⟩ (by omega)
  · have n5b : b5 ≠ b := by omega
    have n5h : b5 ≠ hb := by omega
    have him : i = has.length := by omega
    subst him
    repeat (first | (refine isO ?_; first | refine s_move ?_ | refine s_assign ?_) | (refine isC ?_; first | refine c_sr ?_ | refine c_ret ?_ | refine c_exit ?_) | (refine l_th ?_))
    exact ret2 rfl rfl rfl ⟨b, hb, sv b5 1 1, rfl, hA7, hO6.grown hgb (fun e => by cases e; omega), hL6.kept hgb (.inr (fun e => n5b (Option.some.inj e))), ⟨fun e => n5h (Option.some.inj e), fun e => n5b (Option.some.inj e), by omega⟩, hbb, by omega, hx7⟩
end Go.Proofs.YtifbgpkjbciblaaGreatDoor.Sal
end
section
/- (*paths.search).goes: what the search finds. -/
set_option maxRecDepth 100000
namespace Go.Proofs.YtifbgpkjbciblaaGreatDoor.Sal
open Go.RowKit
attribute [local irreducible] Go.Code.wpIn Go.wpListIn Ct Ints Rows Sl At Rw WJ
set_option linter.all false
def wsI (ws : List Nat) : List Int := ws.map (fun k : Nat => (k : Int))
theorem wsI_len (ws : List Nat) : (wsI ws).length = ws.length := by simp [wsI]
theorem wsI_get {ws : List Nat} {j b : Nat} (h : ws[j]? = some b) : (wsI ws).getD j 0 = (b : Int) := by
  simp [wsI, List.getD_eq_getElem?_getD, List.getElem?_map, h]
theorem wsI_snoc (ws : List Nat) (x : Nat) : wsI (ws ++ [x]) = wsI ws ++ [(x : Int)] := by simp [wsI]
/-- What is left of a search behind a part of one bidder's row. -/
def contR (R : Nat → Nat → Bool) (n : Nat) (hold : Nat → Nat) (f j : Nat) : Option Nat × (Nat → Nat) × List Nat → Option Nat × (Nat → Nat) × List Nat
  | (some k, w, ws) => (some k, w, ws)
  | (none, w, ws) => bfsR R n hold f (j + 1) w ws
theorem bfs_in {R : Nat → Nat → Bool} {n : Nat} {hold : Nat → Nat} {f j b : Nat} {w : Nat → Nat} {ws : List Nat} (h : ws[j]? = some b) : bfsR R n hold (f + 1) j w ws = contR R n hold f j (scanR hold b (rowN n (R b)) w ws) := by
  have hl := (List.getElem?_eq_some_iff.1 h).1
  have e : ws.getD j 0 = b := by simp [List.getD_eq_getElem?_getD, h]
  rw [bfsR, if_pos hl, e]
  cases scanR hold b (rowN n (R b)) w ws with
  | mk o p => obtain ⟨w', ws'⟩ := p; cases o <;> rfl
theorem bfs_out {R : Nat → Nat → Bool} {n : Nat} {hold : Nat → Nat} {j : Nat} {w : Nat → Nat} {ws : List Nat} (h : ¬ j < ws.length) : ∀ f, bfsR R n hold f j w ws = (none, w, ws)
  | 0 => rfl
  | f + 1 => by rw [bfsR, if_neg h]
theorem drop_at {l : List Nat} {q : Nat} (hq : q < l.length) : l.drop q = l.getD q 0 :: l.drop (q + 1) := by
  rw [List.drop_eq_getElem_cons hq]
  congr 1
  simp [List.getD_eq_getElem?_getD, hq]
section scan
variable {hold : Nat → Nat} {b q : Nat} {l : List Nat} {w : Nat → Nat} {ws : List Nat}
theorem scan_skip (hq : q < l.length) (h : 0 < w (l.getD q 0)) : scanR hold b (l.drop q) w ws = scanR hold b (l.drop (q + 1)) w ws := by
  rw [drop_at hq, scanR, if_pos h]
theorem scan_take (hq : q < l.length) (h : ¬ 0 < w (l.getD q 0)) (h1 : 0 < hold (l.getD q 0)) : scanR hold b (l.drop q) w ws = scanR hold b (l.drop (q + 1)) (fset w (l.getD q 0) (b + 1)) (ws ++ [hold (l.getD q 0) - 1]) := by
  rw [drop_at hq, scanR, if_neg h, if_pos h1]
theorem scan_free (hq : q < l.length) (h : ¬ 0 < w (l.getD q 0)) (h1 : ¬ 0 < hold (l.getD q 0)) : scanR hold b (l.drop q) w ws = (some (l.getD q 0), fset w (l.getD q 0) (b + 1), ws) := by
  rw [drop_at hq, scanR, if_neg h, if_neg h1]
theorem scan_done (hq : ¬ q < l.length) : scanR hold b (l.drop q) w ws = (none, w, ws) := by
  rw [List.drop_of_length_le (by omega), scanR]
end scan
/-- What lies in memory between two steps of the search. -/
def GS (has : List Int) (wB W : World) (b hb : Nat) (gv hv : Value) (w : Nat → Nat) (ws : List Nat) : Prop :=
  ∃ wv, At W b 97 (SE gv hv wv w (holdN has has.length)) ∧ LI wB W 3 wv (wsI ws) ∧ (wv.ownBlock ≠ some hb ∧ wv.ownBlock ≠ some b) ∧ OwnI W 3 hb has.length has ∧ Ex wB W
theorem free_take {has : List Int} {w : Nat → Nat} {k x : Nat} (h : Free has w) (hk : 0 < holdN has has.length k) : Free has (fset w k x) := fun k' hw => by
  by_cases e : k' = k
  · subst e; exact hk
  · rw [fset_other e] at hw; exact h k' hw
theorem cont_some {R : Nat → Nat → Bool} {n : Nat} {hold : Nat → Nat} {f j k : Nat} {w : Nat → Nat} {ws : List Nat} : contR R n hold f j (some k, w, ws) = (some k, w, ws) := rfl
theorem cont_none {R : Nat → Nat → Bool} {n : Nat} {hold : Nat → Nat} {f j : Nat} {w : Nat → Nat} {ws : List Nat} : contR R n hold f j (none, w, ws) = bfsR R n hold f (j + 1) w ws := rfl
attribute [local irreducible] bfsR scanR contR fset holdN
set_option maxHeartbeats 4000000 in
theorem goes_ct {R : Nat → Nat → Bool} {m n : Nat} (hm : m ≤ 8) (hn : n ≤ 8) {gv hv : Value} {has : List Int} {a b hb : Nat} {wB w : World} (hg : Rows wB gv (gL R m n)) (hF : FitR R m n has) (ham : a < m) (ha : has.getD a (-1) = -1) (hbB : wB.heap.size ≤ b) (hhB : wB.heap.size ≤ hb) (hne : hb ≠ b)
    (hG : GS has wB w b hb gv hv (fun _ => 0) [a]) :
    Ct Tryz.prog 93 #[.pointer (some ⟨b, 0, none⟩), .bool false] w fun u w' => ∃ w1 ws1, GS has wB w' b hb gv hv w1 ws1 ∧
      ((bfsR R n (holdN has has.length) 9 0 (fun _ => 0) [a] = (none, w1, ws1) ∧ u = .tuple #[.int .i64 0, .bool false]) ∨ ∃ k : Nat, bfsR R n (holdN has has.length) 9 0 (fun _ => 0) [a] = (some k, w1, ws1) ∧ u = .tuple #[.int .i64 (k : Int), .bool true]) := by
  have hgl := gL_len R m n
  have hlen := hF.len
  refine enter (N := 84) (vs := [.pointer (some ⟨b, 0, none⟩), .bool false]) Tryz.func93 rfl rfl rfl ?_
  repeat (first | (refine isO ?_; refine s_assign ?_) | (refine isC ?_; refine c_sr ?_) | (refine l_th ?_))
  refine c_scope _ 0 rfl ?_
  repeat (first | (refine isO ?_; refine s_assign ?_) | (refine isC ?_; first | refine c_sr ?_ | refine c_seq ?_ | refine c_block ?_) | (refine l_th ?_))
  refine c_loop (γ := Nat) 9671406556917033397649232 (fun j => [(6, .int .i64 (j : Int))]) (fun j W => j ≤ 9 ∧ ∃ w1 ws1, GS has wB W b hb gv hv w1 ws1 ∧ BI R m n has a w1 ws1 ∧ Free has w1 ∧ bfsR R n (holdN has has.length) 9 0 (fun _ => 0) [a] = bfsR R n (holdN has has.length) (9 - j) j w1 ws1) (fun j => 9 - j) 0 ⟨rfl, trivial⟩
    ⟨by omega, _, _, hG, BI.start ham, fun k (h : 0 < 0) => by omega, rfl⟩ ?_
  rintro j ρ W ⟨hj, hI⟩
  refine Exists.elim hI fun w1 hI => Exists.elim hI fun ws1 hI => ?_
  have hS := hI.1
  have hB := hI.2.1
  have hfr := hI.2.2.1
  have htg := hI.2.2.2
  refine Exists.elim hS fun wv hv' => ?_
  have hA := hv'.1
  have hL := hv'.2.1
  have hnb := hv'.2.2.1
  have hO := hv'.2.2.2.1
  have hxW := hv'.2.2.2.2
  have hwl := hB.len
  have hwI := wsI_len ws1
  have hIw := hL.ints (by omega)
  repeat (first | (refine isO ?_; refine s_move ?_) | (refine isC ?_; first | refine c_sr ?_ | refine c_seq ?_))
  refine s_nil rfl ?_
  refine s_faN u_search rfl tyn_ints rfl ?_
  refine s_ldA ty_ints rfl hA rfl ?_
  repeat (first | (refine isO ?_; first | (refine isBin ?_; refine s_lss rfl rfl ?_) | (refine isCall ?_; refine s_lenI sl_ints rfl (by assumption) ?_)) | (refine l_th ?_))
  refine c_ifd rfl (fun h => ?_) (fun h => ?_)
  · have hj' : j < ws1.length := by omega
    refine Exists.elim (show ∃ bb, ws1[j]? = some bb from ⟨ws1[j], by simp [hj']⟩) fun bb hbb => ?_
    have hbm := hB.bnd bb (List.mem_iff_getElem?.2 ⟨j, hbb⟩)
    have hget := wsI_get hbb
    have h9 : 9 - j = (8 - j) + 1 := by omega
    rw [h9, bfs_in hbb] at htg
    refine Exists.elim (hg.row (n := bb) (by omega)) fun vs hr => Exists.elim hr fun row hr => ?_
    have hr1 := hr.1
    have hr2 := hr.2.1
    have hr3 := hr.2.2
    rw [gL_row hbm] at hr3
    have hrl := rowL_len n (R bb)
    have hrn := rowN_le n (R bb)
    repeat ((refine isC ?_; first | refine c_th ?_ | refine c_seq ?_ | refine c_block ?_))
    refine c_drawO (Ex.refl W) 0 8 [(0, true), (1, true), (2, true), (3, true), (4, true), (5, true), (6, true), (7, true), (8, true), (9, true), (10, true), (11, true), (12, true), (13, true), (14, true)] mixed (by kernel_rfl) ?_
    refine d_move rfl ?_
    refine d_nilc rfl rfl ?_
    refine d_faN rfl u_search rfl tyn_rows rfl ?_
    refine d_ldA rfl ty_rows rfl hA rfl ?_
    refine d_move rfl ?_
    refine d_nilc rfl rfl ?_
    refine d_faN rfl u_search rfl tyn_ints rfl ?_
    refine d_ldA rfl ty_ints rfl hA rfl ?_
    refine d_move rfl ?_
    refine d_iaI (n := j) rfl sl_ints ty_int rfl rfl hIw (by omega) ?_
    intro ad1 hc1
    refine d_ld rfl ty_int rfl hc1 ?_
    refine d_ia (n := bb) rfl sl_rows ty_ints rfl (vint hget) (hr1.ex hxW) hr2 ?_
    intro ad2 hc2
    refine d_ld rfl ty_ints rfl hc2 ?_
    refine d_lenIO rfl sl_ints rfl hr3 ?_
    refine d_move rfl ?_
    refine d_nil ?_
    repeat ((refine isC ?_; refine c_block ?_))
    refine c_loop (γ := Nat) 9671406556917029102682384 (fun q => [(32, .int .i64 (q : Int))]) (fun q W' => q ≤ (rowN n (R bb)).length ∧ ∃ w2 ws2, GS has wB W' b hb gv hv w2 ws2 ∧ BI R m n has a w2 ws2 ∧ Free has w2 ∧ ws2[j]? = some bb ∧ bfsR R n (holdN has has.length) 9 0 (fun _ => 0) [a] = contR R n (holdN has has.length) (8 - j) j (scanR (holdN has has.length) bb ((rowN n (R bb)).drop q) w2 ws2)) (fun q => (rowN n (R bb)).length - q) 0 ⟨rfl, trivial⟩
      ⟨Nat.zero_le _, w1, ws1, ⟨wv, hA.ex (Ex.drew W), hL.ex (Ex.drew W), hnb, hO.ex (Ex.drew W), hxW.trans (Ex.drew W)⟩, hB, hfr, hbb, htg⟩ ?_
    rintro q ρ2 W2 ⟨hq, hI2⟩
    refine Exists.elim hI2 fun w2 hI2 => Exists.elim hI2 fun ws2 hI2 => ?_
    have hS2 := hI2.1
    have hB2 := hI2.2.1
    have hfr2 := hI2.2.2.1
    have hbb2 := hI2.2.2.2.1
    have htg2 := hI2.2.2.2.2
    refine Exists.elim hS2 fun wv2 hv2 => ?_
    have hA2 := hv2.1
    have hL2 := hv2.2.1
    have hnb2 := hv2.2.2.1
    have hO2 := hv2.2.2.2.1
    have hxW2 := hv2.2.2.2.2
    have hrow2 := hr3.ex hxW2
    have hwl2 := hB2.len
    have hwI2 := wsI_len ws2
    have hIw2 := hL2.ints (by omega)
    have hget2 := wsI_get hbb2
    repeat (first | (refine isO ?_; (refine isBin ?_; refine s_lss rfl rfl ?_)) | (refine isC ?_; first | refine c_sr ?_ | refine c_seq ?_) | (refine l_th ?_))
    refine c_ifd rfl (fun h2 => ?_) (fun h2 => ?_)
    · have hq' : q < (rowN n (R bb)).length := by omega
      have hkn := rowN_get hq'
      have hkg := rowL_get n (R bb) hq'
      have hk1 := hkn.1
      have hk2 := hkn.2
      have hk8 : (rowN n (R bb)).getD q 0 < 8 := by omega
      by_cases h0 : 0 < w2 ((rowN n (R bb)).getD q 0)
      · rw [scan_skip hq' h0] at htg2
        repeat (first | (refine isO ?_; first | refine s_move ?_ | refine s_assign ?_ | (refine isIA ?_; refine s_ixI sl_ints ty_int rfl rfl rfl (by assumption) (by omega) ?_; intro _)) | (refine isC ?_; first | refine c_sr ?_ | refine c_th ?_ | refine c_seq ?_ | refine c_block ?_) | (refine l_th ?_))
        refine s_nil rfl ?_
        refine s_faN u_search rfl tyn_a8 rfl ?_
        refine s_iaO (n := (rowN n (R bb)).getD q 0) u_a8 ty_int rfl (vint hkg) hk8 ?_
        refine s_ldA ty_int rfl hA2 (SE_by hk8) ?_
        refine s_gtrT rfl rfl (by omega) ?_
        repeat (first | (refine isO ?_; first | refine s_move ?_ | (refine isBin ?_; refine s_inc rfl (by omega) ?_)) | (refine isC ?_; first | refine c_region ?_ | refine c_ift rfl ?_ | refine c_exit ?_) | (refine l_th ?_))
        exact loop_end (q + 1) (by (repeat (first | exact agree_refl _ _ | refine agree_upd rfl ?_ | refine agree_ext rfl ?_ | refine agree_mask rfl ?_))) ⟨rfl, trivial⟩ ⟨hq', w2, ws2, hS2, hB2, hfr2, hbb2, htg2⟩ (by omega)
      · repeat (first | (refine isO ?_; first | refine s_move ?_ | refine s_assign ?_ | (refine isIA ?_; refine s_ixI sl_ints ty_int rfl rfl rfl (by assumption) (by omega) ?_; intro _)) | (refine isC ?_; first | refine c_sr ?_ | refine c_th ?_ | refine c_seq ?_ | refine c_block ?_) | (refine l_th ?_))
        refine s_nil rfl ?_
        refine s_faN u_search rfl tyn_a8 rfl ?_
        refine s_iaO (n := (rowN n (R bb)).getD q 0) u_a8 ty_int rfl (vint hkg) hk8 ?_
        refine s_ldA ty_int rfl hA2 (SE_by hk8) ?_
        refine s_gtrF rfl rfl (by omega) ?_
        repeat (first | (refine isC ?_; first | refine c_th ?_ | refine c_seq ?_ | refine c_iff rfl ?_) | (refine l_th ?_))
        refine c_drawO (Ex.refl W2) 8192 8 [(0, true), (1, true), (2, true), (3, true), (4, true), (5, true), (6, true), (7, true), (8, true), (9, true), (10, true), (11, true), (12, true), (13, false)] mixed (by kernel_rfl) ?_
        refine d_move rfl ?_
        refine d_move rfl ?_
        refine d_move rfl ?_
        refine d_nilc rfl rfl ?_
        refine d_faN rfl u_search rfl tyn_ints rfl ?_
        refine d_ldA rfl ty_ints rfl hA2 rfl ?_
        refine d_move rfl ?_
        refine d_iaI (n := j) rfl sl_ints ty_int rfl rfl hIw2 (by have := (List.getElem?_eq_some_iff.1 hbb2).1; omega) ?_
        intro ad3 hc3
        refine d_ld rfl ty_int rfl hc3 ?_
        refine d_add rfl rfl rfl ⟨by omega, by omega⟩ ?_
        refine d_nilc rfl rfl ?_
        refine d_faN rfl u_search rfl tyn_a8 rfl ?_
        refine d_iaO (n := (rowN n (R bb)).getD q 0) rfl u_a8 ty_int rfl (vint hkg) hk8 ?_
        refine d_ch rfl ?_
        refine s_stA (n := 3 + (rowN n (R bb)).getD q 0) (u := .int .i64 ((bb + 1 : Nat) : Int)) ty_int rfl (vint (by omega)) rfl (hA2.ex (Ex.drew W2)) (by rw [SE_len]; omega) ?_
        intro W3 hA3 hg3
        rw [SE_set_by hk8] at hA3
        have hgd : W2.grownBy W3 (some b) := gb_trans (Ex.drew W2).grown_to hg3
        have hL3 := hL2.kept hgd (.inr hnb2.2)
        have hO3 := hO2.grown hgd (fun e => hne (Option.some.inj e).symm)
        have hx3 := hxW2.store hgd hbB
        have hIw3 := hL3.ints (by omega)
        refine l_nil ⟨rfl, .inl rfl, ?_⟩
        refine d_nil ?_
        by_cases h1 : 0 < holdN has has.length ((rowN n (R bb)).getD q 0)
        · rw [scan_take hq' h0 h1] at htg2
          have hT := hB2.take hF ha hbb2 hk1 hk2 h0 h1
          have hfT := free_take (x := bb + 1) hfr2 h1
          have hh8 := (holdN_pos h1).1
          repeat (first | (refine isO ?_; refine s_move ?_) | (refine isC ?_; first | refine c_sr ?_ | refine c_seq ?_))
          refine s_nil rfl ?_
          refine s_faN u_search rfl tyn_a8 rfl ?_
          refine s_iaO (n := (rowN n (R bb)).getD q 0) u_a8 ty_int rfl (vint hkg) hk8 ?_
          refine s_ldA ty_int rfl hA3 (SE_ho hk8) ?_
          refine s_gtrT rfl rfl (by omega) ?_
          repeat (first | (refine isC ?_; first | refine c_seq ?_ | refine c_ift rfl ?_) | (refine l_th ?_))
          refine c_drawJ (fun W' => At W' b 97 (SE gv hv wv2 (fset w2 ((rowN n (R bb)).getD q 0) (bb + 1)) (holdN has has.length))) (hA3.ex (Ex.drew W3)) 65536 8 [(0, true), (1, true), (2, true), (3, true), (4, true), (5, true), (6, true), (7, true), (8, true), (9, true), (10, true), (11, true), (12, false), (13, false), (14, true), (15, true), (16, false)] mixed (by kernel_rfl) ?_
          refine d_move rfl ?_
          refine d_move rfl ?_
          refine d_nilc rfl rfl ?_
          refine d_faN rfl u_search rfl tyn_ints rfl ?_
          refine d_ldJ rfl ty_ints rfl (fun _ h => h) rfl ?_
          refine d_move rfl ?_
          refine d_move rfl ?_
          refine d_nilc rfl rfl ?_
          refine d_faN rfl u_search rfl tyn_a8 rfl ?_
          refine d_iaO (n := (rowN n (R bb)).getD q 0) rfl u_a8 ty_int rfl (vint hkg) hk8 ?_
          refine d_ldJ rfl ty_int rfl (fun _ h => h) (SE_ho hk8) ?_
          refine d_sub rfl rfl rfl ⟨by omega, by omega⟩ ?_
          refine d_re (v' := .int .i64 ((holdN has has.length ((rowN n (R bb)).getD q 0) - 1 : Nat) : Int)) (vint (by omega)) ?_
          refine d_ch rfl ?_
          refine s_bs1 sl_ints in_int rfl rfl ?_
          intro b4 W4 hb4 hA4 hx4 hs4
          have hx34 := (Ex.drew W3).trans hx4
          refine l_nil ⟨rfl, .inr (hA3.ex hx34), ?_⟩
          refine d_ch rfl ?_
          refine s_lappG sl_ints in_int (hL3.ex hx34) hA4.one rfl rfl (by simp; omega) (hx3.trans hx34) ?_
          intro v' W5 hL5 hx5 hg5 hf5
          have hA5 := (hA3.ex hx34).grown hg5 hnb2.2
          have hO5 := (hO3.ex hx34).grown hg5 hnb2.1
          have hlb := hA3.lt
          have hlh := hO3.lt
          have z34 := hx34.size
          have hn5 : v'.ownBlock ≠ some hb ∧ v'.ownBlock ≠ some b := by
            refine Or.elim hf5 (fun e => by rw [e]; exact hnb2) (fun hf => ⟨fun e => ?_, fun e => ?_⟩)
            · have := hf hb e; omega
            · have := hf b e; omega
          rw [← wsI_snoc] at hL5
          refine l_nil ⟨rfl, .inr hA5, ?_⟩
          refine d_nilc rfl rfl ?_
          refine d_faN rfl u_search rfl tyn_ints rfl ?_
          refine d_ch rfl ?_
          refine s_stA (n := 2) (u := v') ty_ints rfl rfl hL5.one hA5 (by rw [SE_len]; omega) ?_
          intro W6 hA6 hg6
          have hL6 := hL5.kept hg6 (.inr hn5.2)
          have hO6 := hO5.grown hg6 (fun e => hne (Option.some.inj e).symm)
          have hx6 := hx5.store hg6 hbB
          refine l_nil ⟨rfl, .inl rfl, ?_⟩
          refine d_nil ?_
          repeat (first | (refine isO ?_; first | refine s_move ?_ | (refine isBin ?_; refine s_inc rfl (by omega) ?_)) | (refine isC ?_; first | refine c_region ?_ | refine c_exit ?_) | (refine l_th ?_))
          exact loop_end (q + 1) (by (repeat (first | exact agree_refl _ _ | refine agree_upd rfl ?_ | refine agree_ext rfl ?_ | refine agree_mask rfl ?_))) ⟨rfl, trivial⟩ ⟨hq', _, _, ⟨v', hA6, hL6, hn5, hO6, hx6⟩, hT, hfT, get_app_old hbb2, htg2⟩ (by omega)
        · rw [scan_free hq' h0 h1, cont_some] at htg2
          repeat (first | (refine isO ?_; refine s_move ?_) | (refine isC ?_; first | refine c_sr ?_ | refine c_seq ?_))
          refine s_nil rfl ?_
          refine s_faN u_search rfl tyn_a8 rfl ?_
          refine s_iaO (n := (rowN n (R bb)).getD q 0) u_a8 ty_int rfl (vint hkg) hk8 ?_
          refine s_ldA ty_int rfl hA3 (SE_ho hk8) ?_
          refine s_gtrF rfl rfl (by omega) ?_
          repeat (first | (refine isO ?_; first | refine s_move ?_ | refine s_assign ?_ | refine s_not rfl ?_) | (refine isC ?_; first | refine c_sr ?_ | refine c_th ?_ | refine c_ift rfl ?_ | refine c_iff rfl ?_) | (refine l_th ?_))
          refine c_goto ?_
          repeat (first | refine th_goto ?_ | refine ib_goto ?_)
          refine sc_goto ?_
          repeat (first | (refine isO ?_; first | refine s_move ?_ | refine s_assign ?_) | (refine isC ?_; first | refine c_sr ?_ | refine c_th ?_ | refine c_seq ?_ | refine c_ret ?_) | (refine l_th ?_))
          refine ng_ret ?_
          exact ret2 rfl rfl rfl ⟨fset w2 ((rowN n (R bb)).getD q 0) (bb + 1), ws2, ⟨wv2, hA3, hL3, hnb2, hO3, hx3⟩, .inr ⟨(rowN n (R bb)).getD q 0, htg2, congrArg (fun z : Int => Value.tuple #[.int .i64 z, .bool true]) hkg⟩⟩
    · rw [scan_done (by omega), cont_none] at htg2
      repeat (first | (refine isO ?_; first | refine s_move ?_ | refine s_assign ?_ | (refine isBin ?_; refine s_inc rfl (by omega) ?_)) | (refine isC ?_; first | refine c_region ?_ | refine c_exit ?_) | (refine l_th ?_))
      exact loop_end (j + 1) (by (repeat (first | exact agree_refl _ _ | refine agree_upd rfl ?_ | refine agree_ext rfl ?_ | refine agree_mask rfl ?_))) ⟨rfl, trivial⟩ ⟨by omega, w2, ws2, hS2, hB2, hfr2, by
        rw [htg2]
        have e9 : 9 - (j + 1) = 8 - j := by omega
        rw [e9]⟩ (by omega)
  · rw [bfs_out (j := j) (w := w1) (ws := ws1) (by omega)] at htg
    repeat (first | (refine isO ?_; refine s_assign ?_) | (refine isC ?_; first | refine c_sr ?_ | refine c_seq ?_ | refine c_ret ?_ | refine c_exit ?_) | (first | refine l_th ?_ | refine th_ret ?_))
    refine sc_ret ?_
    exact ret2 rfl rfl rfl ⟨w1, ws1, hS, .inl ⟨htg, rfl⟩⟩
end Go.Proofs.YtifbgpkjbciblaaGreatDoor.Sal
end
section
/- paths.More; matchings.Most. -/
set_option maxRecDepth 100000
namespace Go.Proofs.YtifbgpkjbciblaaGreatDoor.Sal
open Go.RowKit
attribute [local irreducible] Go.Code.wpIn Go.wpListIn Ct Ints Rows Sl At Rw WJ
set_option linter.all false
theorem ok_Most : CallOK Tryz.prog 9 := callOK Tryz.func9 (by kernel_rfl) rfl
theorem ok_Most1 : CallOK Tryz.prog 33 := callOK Tryz.func33 (by kernel_rfl) rfl
/-- What holds while the items go on from one to the next. -/
def AI (w : Nat → Nat) (ws : List Nat) (has : List Int) (f : Nat) (k : Int) (cur : List Int) : Prop :=
  k = -1 ∨ ∃ q j : Nat, k = (q : Int) ∧ 0 < w q ∧ j < f ∧ ws[j]? = some (w q - 1) ∧ ∀ j' b, j' ≤ j → ws[j']? = some b → cur.getD b (-1) = has.getD b (-1)
theorem AI.step {R : Nat → Nat → Bool} {m n a : Nat} {has : List Int} {w : Nat → Nat} {ws : List Nat} (h : BI R m n has a w ws) (ha : has.getD a (-1) = -1) {f : Nat} {q : Nat} {cur : List Int} (hl : cur.length = m) (hA : AI w ws has f (q : Int) cur) :
    0 < f ∧ 0 < w q ∧ w q - 1 < m ∧ q < n ∧ AI w ws has (f - 1) (cur.getD (w q - 1) (-1)) (cur.set (w q - 1) (q : Int)) := by
  rcases hA with hA | ⟨q', j, hq, hw, hj, hpos, hsame⟩
  · omega
  · have : q = q' := by omega
    subst this
    have hi : w q - 1 < m := h.bnd _ (List.mem_iff_getElem?.2 ⟨j, hpos⟩)
    refine ⟨by omega, hw, hi, (h.byok q hw).1, ?_⟩
    have hcur := hsame j (w q - 1) (Nat.le_refl _) hpos
    by_cases hj0 : j = 0
    · subst hj0
      have hia : w q - 1 = a := by
        have := h.head
        rw [hpos] at this
        exact Option.some.inj this
      left
      rw [hcur, hia]; exact ha
    · obtain ⟨k', j', hk', hv, hw', hlt, hj'⟩ := h.came j (w q - 1) hpos (by omega)
      right
      refine ⟨k', j', by rw [hcur, hv], hw', by omega, hj', fun j'' b hle hb => ?_⟩
      have hbi : b ≠ w q - 1 := fun e => by
        subst e
        have := h.nodup j'' j _ hb hpos
        omega
      rw [getD_setI _ _ _ _ (by omega), if_neg hbi]
      exact hsame j'' b (by omega) hb
theorem aug_stop (w : Nat → Nat) (f : Nat) (l : List Int) : augR w f (-1) l = l := by cases f <;> simp [augR]
theorem aug_step (w : Nat → Nat) {f : Nat} (hf : 0 < f) (q : Nat) (l : List Int) : augR w f (q : Int) l = augR w (f - 1) (l.getD (w q - 1) (-1)) (l.set (w q - 1) (q : Int)) := by
  obtain ⟨f', rfl⟩ : ∃ f', f = f' + 1 := ⟨f - 1, by omega⟩
  rw [augR, if_neg (by omega)]; rfl
theorem AI.nat {w : Nat → Nat} {ws : List Nat} {has : List Int} {f : Nat} {k : Int} {cur : List Int} (h : AI w ws has f k cur) (hk : k ≠ -1) : ∃ q : Nat, k = (q : Int) := by
  rcases h with h | ⟨q, _, h, _⟩
  · exact absurd h hk
  · exact ⟨q, h⟩
theorem OwnI.li {w0 w : World} {b c : Nat} {l : List Int} (h : OwnI w 3 b c l) : OwnI w 3 b c l := h
set_option maxHeartbeats 4000000 in
theorem More_ct {R : Nat → Nat → Bool} {m n : Nat} (hm : m ≤ 8) (hn : n ≤ 8) {gv hv : Value} {has : List Int} {a : Nat} {w : World} (hg : Rows w gv (gL R m n)) (hh : Ints w hv has) (hF : FitR R m n has) (ham : a < m) (ha : has.getD a (-1) = -1) :
    Ct Tryz.prog 34 #[gv, .int .i64 (n : Int), hv, .int .i64 (a : Int)] w fun u w' => Ex w w' ∧
      ((∃ l hb, moreR R n has a = some l ∧ u = .tuple #[sv hb m m, .bool true, .int .i64 0] ∧ w.heap.size ≤ hb ∧ OwnI w' 3 hb m l ∧ l.length = m) ∨ (moreR R n has a = none ∧ u = .tuple #[.slice none 0 0, .bool false, .int .i64 0])) := by
  have hlen := hF.len
  refine Exists.elim (bfs_ok hn hF ha 9 0 (fun _ => 0) [a] (by omega) (BI.start ham) (fun k (h : 0 < 0) => by omega) (fun i b hi => by omega)) fun o ho => Exists.elim ho fun w1 ho => Exists.elim ho fun ws1 ho => ?_
  have hbf := ho.1
  have hBI := ho.2.1
  have hfd := ho.2.2.2
  have hwsl := hBI.len
  refine enter (N := 61) (vs := [gv, .int .i64 (n : Int), hv, .int .i64 (a : Int)]) Tryz.func34 rfl rfl rfl ?_
  repeat (first | (refine isO ?_; first | refine s_move ?_ | refine s_assign ?_) | (refine isC ?_; refine c_sr ?_) | (refine l_th ?_))
  refine s_call ok_begin rfl (begin_ct (gv := gv) (hv := hv) (a := a) hm hn hg hh hF ham ha) ?_
  rintro u w2 ⟨b, hb, wv, rfl, hA2, hO2, hL2, hnn, hbw, hhw, hx2⟩
  have hne := hnn.2.2
  repeat (first | (refine isO ?_; first | refine s_move ?_ | refine s_assign ?_ | (refine isBin ?_; refine s_neqF rfl rfl (by omega) ?_) | refine s_extract rfl rfl ?_) | (refine isC ?_; first | refine c_sr ?_ | refine c_th ?_ | refine c_seq ?_ | refine c_iff rfl ?_) | (refine l_th ?_))
  refine s_call ok_goes rfl (goes_ct hm hn (gv := gv) (hv := sv hb has.length has.length) (a := a) (b := b) (wB := w) (hb := hb) hg hF ham ha hbw hhw hne ⟨wv, hA2, hL2, ⟨hnn.1, hnn.2.1⟩, hO2, hx2⟩) ?_
  rintro u w3 ⟨w1', ws1', hS, hres⟩
  refine Exists.elim hS fun wv3 hv3 => ?_
  have hA3 := hv3.1
  have hO3 := hv3.2.2.2.1
  have hx3 := hv3.2.2.2.2
  refine Or.elim hres (fun h => ?_) (fun h => Exists.elim h fun k h => ?_)
  · have h1 := h.1
    have h2 := h.2
    rw [hbf] at h1
    have ho0 : o = none := congrArg (fun p => p.1) h1
    have hmr : moreR R n has a = none := by unfold moreR; rw [hbf, ho0]
    refine s_re h2 ?_
    repeat (first | (refine isO ?_; first | refine s_move ?_ | refine s_assign ?_ | refine s_extract rfl rfl ?_ | refine s_not rfl ?_) | (refine isC ?_; first | refine c_sr ?_ | refine c_seq ?_ | refine c_ift rfl ?_ | refine c_ret ?_) | (first | refine l_th ?_ | refine th_ret ?_))
    exact ret3 rfl rfl rfl rfl ⟨hx3, .inr ⟨hmr, rfl⟩⟩
  · have h1 := h.1
    have h2 := h.2
    rw [hbf] at h1
    have ho0 : o = some k := congrArg (fun p => p.1) h1
    have hw1 : w1 = w1' := congrArg (fun p => p.2.1) h1
    have hmr : moreR R n has a = some (augR w1 9 (k : Int) has) := by unfold moreR; rw [hbf, ho0]
    rw [← hw1] at hA3
    have hk0 := (hfd k ho0).1
    refine Exists.elim (idx_of (hBI.byok k hk0).2.1) fun j0 hj0 => ?_
    have hj9 := (List.getElem?_eq_some_iff.1 hj0).1
    have hAI0 : AI w1 ws1 has 9 (k : Int) has := .inr ⟨k, j0, rfl, hk0, by omega, hj0, fun _ _ _ _ => rfl⟩
    refine s_re h2 ?_
    repeat (first | (refine isO ?_; first | refine s_move ?_ | refine s_assign ?_ | refine s_extract rfl rfl ?_ | refine s_not rfl ?_) | (refine isC ?_; first | refine c_sr ?_ | refine c_th ?_ | refine c_seq ?_ | refine c_iff rfl ?_ | refine c_block ?_) | (refine l_th ?_))
    refine c_loop2 144115170896027648 (fun (f : Nat) (q : Int) => [(13, .int .i64 q)]) (fun f q W => ∃ cur : List Int, cur.length = m ∧ OwnI W 3 hb has.length cur ∧ AI w1 ws1 has f q cur ∧ augR w1 f q cur = augR w1 9 (k : Int) has ∧ At W b 97 (SE gv (sv hb has.length has.length) wv3 w1 (holdN has has.length)) ∧ Ex w W) (fun f _ => f) 9 (k : Int) ⟨rfl, trivial⟩
      ⟨has, hlen, hO3, hAI0, rfl, hA3, hx3⟩ ?_
    rintro f q ρ W hI
    refine Exists.elim hI fun cur hI => ?_
    have hcl := hI.1
    have hO := hI.2.1
    have hAI := hI.2.2.1
    have htg := hI.2.2.2.1
    have hA := hI.2.2.2.2.1
    have hx := hI.2.2.2.2.2
    have hIc : Ints W (sv hb has.length has.length) cur := by have h9 := hO.ints; rw [hcl, ← hlen] at h9; exact h9
    by_cases hq : q = -1
    · rw [hq, aug_stop] at htg
      repeat (first | (refine isO ?_; first | refine s_move ?_ | (refine isBin ?_; refine s_neqF rfl rfl (by omega) ?_)) | (refine isC ?_; first | refine c_sr ?_ | refine c_seq ?_ | refine c_iff rfl ?_ | refine c_exit ?_) | (refine l_th ?_))
      refine s_nil rfl ?_
      refine s_faN u_search rfl tyn_ints rfl ?_
      refine s_ldA ty_ints rfl hA rfl ?_
      repeat (first | (refine isO ?_; refine s_assign ?_) | (refine isC ?_; refine c_ret ?_) | (refine l_th ?_))
      exact ret3 rfl rfl rfl rfl ⟨hx, .inl ⟨augR w1 9 (k : Int) has, hb, hmr, congrArg (fun z : Nat => Value.tuple #[sv hb z z, .bool true, .int .i64 0]) hlen, hhw, by rw [← htg, ← hlen]; exact hO, by rw [← htg]; exact hcl⟩⟩
    · refine Exists.elim (hAI.nat hq) fun p hp => ?_
      subst hp
      have hst := hAI.step hBI ha hcl
      have hf := hst.1
      have hwp := hst.2.1
      have hi := hst.2.2.1
      have hpn := hst.2.2.2.1
      have hAI' := hst.2.2.2.2
      have hp8 : p < 8 := by omega
      rw [aug_step w1 hf] at htg
      have hgc : cur.getD (w1 p - 1) 0 = cur.getD (w1 p - 1) (-1) := (getD_m1 (by omega)).symm
      repeat (first | (refine isO ?_; first | refine s_move ?_ | (refine isBin ?_; refine s_neqT rfl rfl (by omega) ?_)) | (refine isC ?_; first | refine c_sr ?_ | refine c_th ?_ | refine c_seq ?_ | refine c_ift rfl ?_ | refine c_block ?_) | (refine l_th ?_))
      refine s_nil rfl ?_
      refine s_faN u_search rfl tyn_a8 rfl ?_
      refine s_iaO (n := p) u_a8 ty_int rfl rfl hp8 ?_
      refine s_ldA ty_int rfl hA (SE_by hp8) ?_
      refine s_sub rfl rfl ⟨by omega, by omega⟩ ?_
      refine s_re (v' := .int .i64 ((w1 p - 1 : Nat) : Int)) (vint (by omega)) ?_
      repeat (first | (refine isO ?_; refine s_assign ?_) | (refine l_th ?_))
      refine c_drawO (Ex.refl W) 32768 8 [(0, true), (1, true), (2, true), (3, true), (4, true), (5, true), (6, true), (7, true), (8, true), (9, true), (10, true), (11, true), (12, true), (13, true), (14, true), (15, false)] mixed (by kernel_rfl) ?_
      refine d_move rfl ?_
      refine d_nilc rfl rfl ?_
      refine d_faN rfl u_search rfl tyn_ints rfl ?_
      refine d_ldA rfl ty_ints rfl hA rfl ?_
      refine d_move rfl ?_
      refine d_move rfl ?_
      refine d_nilc rfl rfl ?_
      refine d_faN rfl u_search rfl tyn_ints rfl ?_
      refine d_ldA rfl ty_ints rfl hA rfl ?_
      refine d_move rfl ?_
      refine d_iaI (n := w1 p - 1) rfl sl_ints ty_int rfl rfl hIc (by omega) ?_
      intro ad1 hc1
      refine d_ld rfl ty_int rfl hc1 ?_
      refine d_re (v' := .int .i64 (cur.getD (w1 p - 1) (-1))) (vint hgc) ?_
      refine d_move rfl ?_
      refine d_assign rfl ?_
      refine d_iaA (b := hb) (len := has.length) (c := has.length) (n := w1 p - 1) rfl sl_ints ty_int rfl rfl (by omega) ?_
      refine d_ch rfl ?_
      refine s_stO (q := (p : Int)) ty_int rfl rfl (hO.ex (Ex.drew W)) (by omega) ?_
      intro W2 hO2' hg2
      refine l_nil ⟨rfl, .inl rfl, ?_⟩
      refine d_nil ?_
      repeat ((first | refine th_norm ?_ | refine ib_norm ?_))
      exact loop_end2 (f - 1) (cur.getD (w1 p - 1) (-1)) (by (repeat (first | exact agree_refl _ _ | refine agree_upd rfl ?_ | refine agree_ext rfl ?_ | refine agree_mask rfl ?_))) ⟨rfl, trivial⟩ ⟨cur.set (w1 p - 1) (p : Int), by rw [List.length_set]; exact hcl, hO2', hAI', htg, (hA.ex (Ex.drew W)).grown hg2 (fun e => hne (Option.some.inj e)), (hx.trans (Ex.drew W)).store hg2 hhw⟩ (by omega)
end Go.Proofs.YtifbgpkjbciblaaGreatDoor.Sal
end
section
/- matchings.Most, matchings.All. -/
set_option maxRecDepth 100000
namespace Go.Proofs.YtifbgpkjbciblaaGreatDoor.Sal
open Go.RowKit
attribute [local irreducible] Go.Code.wpIn Go.wpListIn Ct Ints Rows Sl At Rw WJ
set_option linter.all false
theorem ok_All : CallOK Tryz.prog 11 := callOK Tryz.func11 (by kernel_rfl) rfl
theorem mostN_fit {R : Nat → Nat → Bool} {m n i : Nat} (hn : n ≤ 8) (hi : i ≤ m) : FitR R m n (mostN R m n i) := (mi_all hn i hi).fit
theorem mostN_none {R : Nat → Nat → Bool} {m n i : Nat} (hn : n ≤ 8) (hi : i < m) : (mostN R m n i).getD i (-1) = -1 := most_none (mi_all hn i (by omega))
theorem mostN_some {R : Nat → Nat → Bool} {m n i : Nat} {l : List Int} (h : moreR R n (mostN R m n i) i = some l) : mostN R m n (i + 1) = l := by simp only [mostN, h]
theorem mostN_no {R : Nat → Nat → Bool} {m n i : Nat} (h : moreR R n (mostN R m n i) i = none) : mostN R m n (i + 1) = mostN R m n i := by simp only [mostN, h]
theorem own_sv {b n c q : Nat} (h : (sv b n c).ownBlock = some q) : b = q := Option.some.inj h
/-- What lies in memory between two bidders. -/
structure MS (wB W : World) (b2 b3 b6 : Nat) (gv : Value) (n : Nat) (hv : Value) (l : List Int) : Prop where
  a2 : At W b2 22 [gv]
  a3 : At W b3 3 [.int .i64 (n : Int)]
  a6 : At W b6 25 [hv]
  il : Ints W hv l
  own : ∀ b, hv.ownBlock = some b → wB.heap.size ≤ b ∧ b ≠ b6
  ex : Ex wB W
theorem MS.exd {wB W W' : World} {b2 b3 b6 : Nat} {gv : Value} {n : Nat} {hv : Value} {l : List Int} (h : MS wB W b2 b3 b6 gv n hv l) (hx : Ex W W') : MS wB W' b2 b3 b6 gv n hv l := ⟨h.a2.ex hx, h.a3.ex hx, h.a6.ex hx, h.il.ex hx, h.own, h.ex.trans hx⟩
set_option maxHeartbeats 4000000 in
theorem Most1_ct {R : Nat → Nat → Bool} {m n i : Nat} (hm : m ≤ 8) (hn : n ≤ 8) (hi : i < m) {gv hv : Value} {b2 b3 b6 : Nat} {wB w : World} (hg : Rows wB gv (gL R m n)) (hM : MS wB w b2 b3 b6 gv n hv (mostN R m n i)) (hb6 : wB.heap.size ≤ b6) (h26 : b2 ≠ b6) (h36 : b3 ≠ b6) :
    Ct Tryz.prog 33 #[.int .i64 (i : Int), .pointer (some ⟨b2, 0, none⟩), .pointer (some ⟨b3, 0, none⟩), .pointer (some ⟨b6, 0, none⟩)] w fun u w' => u = .tuple #[] ∧ ∃ hv', MS wB w' b2 b3 b6 gv n hv' (mostN R m n (i + 1)) := by
  have hA2 := hM.a2
  have hA3 := hM.a3
  have hA6 := hM.a6
  have hI := hM.il
  have hx := hM.ex
  have hF := mostN_fit (R := R) hn (show i ≤ m by omega)
  have hno := mostN_none (R := R) hn hi
  refine enter (N := 23) (vs := [.int .i64 (i : Int), .pointer (some ⟨b2, 0, none⟩), .pointer (some ⟨b3, 0, none⟩), .pointer (some ⟨b6, 0, none⟩)]) Tryz.func33 rfl rfl rfl ?_
  refine c_sr ?_
  refine s_ldA ty_rows rfl hA2 rfl ?_
  refine s_ldA ty_int rfl hA3 rfl ?_
  refine s_ldA ty_ints rfl hA6 rfl ?_
  repeat ((refine isO ?_; refine s_move ?_))
  refine s_call ok_More rfl (More_ct (gv := gv) (hv := hv) (a := i) hm hn (hg.ex hx) hI hF hi hno) ?_
  rintro u w2 ⟨hx2, hres⟩
  have hM2 := hM.exd hx2
  refine Or.elim hres (fun h => Exists.elim h fun l h => Exists.elim h fun hb h => ?_) (fun h => ?_)
  · have h1 := h.1
    have h2 := h.2.1
    have h3 := h.2.2.1
    have h4 := h.2.2.2.1
    have h5 := h.2.2.2.2
    have hst := mostN_some h1
    have hlt := hA6.lt
    have z := hx.size
    have hIl : Ints w2 (sv hb m m) l := by have h9 := h4.ints; rw [h5] at h9; exact h9
    have hA62 := hM2.a6
    refine s_re h2 ?_
    repeat (first | (refine isO ?_; first | refine s_move ?_ | refine s_assign ?_ | (refine isG ?_; refine g_yes rfl rfl ?_) | (refine isBin ?_; refine s_eqlT rfl rfl (by omega) ?_) | (refine isPick ?_; refine s_pickt rfl rfl ?_) | refine s_extract rfl rfl ?_) | (refine isC ?_; first | refine c_sr ?_ | refine c_region ?_ | refine c_ift rfl ?_) | (refine l_th ?_))
    refine s_stA (n := 0) (u := sv hb m m) ty_ints rfl rfl rfl hA62 (by simp) ?_
    intro w3 hA63 hg3
    repeat ((refine l_nil ?_))
    refine end0 rfl ⟨rfl, sv hb m m, hM2.a2.grown hg3 (fun e => h26 (Option.some.inj e).symm), hM2.a3.grown hg3 (fun e => h36 (Option.some.inj e).symm), hA63, ?_, fun b e => ?_, hM2.ex.store hg3 hb6⟩
    · rw [hst]
      exact hIl.kept hg3 (.inr fun e => by have := own_sv e; omega)
    · have := own_sv e; omega
  · have h1 := h.1
    have h2 := h.2
    have hst := mostN_no h1
    refine s_re h2 ?_
    repeat (first | (refine isO ?_; first | refine s_move ?_ | refine s_assign ?_ | (refine isG ?_; refine g_yes rfl rfl ?_) | (refine isBin ?_; refine s_eqlT rfl rfl (by omega) ?_) | (refine isPick ?_; refine s_pickt rfl rfl ?_) | refine s_extract rfl rfl ?_) | (refine isC ?_; first | refine c_sr ?_ | refine c_iff rfl ?_ | refine c_skip ?_) | (refine l_th ?_))
    refine end0 rfl ⟨rfl, hv, ?_⟩
    rw [hst]; exact hM2
theorem rep_ints (m : Nat) : List.replicate m (Value.int .i64 (-1)) = (List.replicate m (-1)).map (Value.int .i64) := by simp
set_option maxHeartbeats 4000000 in
theorem Most_ok {R : Nat → Nat → Bool} {m n : Nat} (hm : m ≤ 8) (hn : n ≤ 8) (gv : Value) (w : World) (hg : Rows w gv (gL R m n)) :
    Ct Tryz.prog 9 #[gv, .int .i64 (n : Int)] w fun u w' => ∃ v a, u = .tuple #[v, .int .i64 0] ∧ v = .slice a m m ∧ (∀ b, v.ownBlock = some b → w.heap.size ≤ b) ∧ Ints w' v (mostR R m n) ∧ Ex w w' := by
  have hgl := gL_len R m n
  have hchk := chk_ok (R := R) hm hn
  refine Exists.elim in_ints' fun ti hti => ?_
  refine Exists.elim hg.form fun ga hga => Exists.elim hga fun gc hgc => ?_
  subst hgc
  refine enter (N := 29) (vs := [.slice ga (gL R m n).length gc, .int .i64 (n : Int)]) Tryz.func9 rfl rfl rfl ?_
  refine c_sr ?_
  refine s_box (cs := [.slice ga (gL R m n).length gc]) rfl rfl ?_
  intro b2 w1 hb2 hA2 hx1 hs1
  refine s_box (cs := [.int .i64 (n : Int)]) rfl rfl ?_
  intro b3 w2 hb3 hA3 hx2 hs2
  have hA22 := hA2.ex hx2
  have hx02 := hx1.trans hx2
  repeat (first | (refine isO ?_; refine s_assign ?_) | (refine isC ?_; first | refine c_sr ?_ | refine c_seq ?_) | (refine l_th ?_))
  refine s_ldA ty_rows rfl hA22 rfl ?_
  repeat ((refine isO ?_; (refine isLD ?_; refine s_ldA ty_int rfl (by assumption) rfl ?_)))
  refine s_call ok_Check rfl (Check_ct _ (gL R m n) n w2 (hg.ex hx02)) ?_
  rintro v w3 ⟨rfl, hx3⟩
  refine s_re (v' := .bool true) (vbool hchk) ?_
  repeat (first | (refine isO ?_; refine s_not rfl ?_) | (refine isC ?_; first | refine c_sr ?_ | refine c_th ?_ | refine c_iff rfl ?_) | (refine l_th ?_))
  refine s_bs1 sl_ints in_int rfl rfl ?_
  intro b13 w4 hb13 hA13 hx4 hs4
  have hA24 := hA22.ex (hx3.trans hx4)
  refine s_ldA ty_rows rfl hA24 rfl ?_
  refine s_len sl_rows rfl ?_
  refine s_re (v' := .int .i64 (m : Int)) (vint (by rw [hgl])) ?_
  refine s_call ok_Repeat rfl (Repeat_ct b13 m (by omega) w4 hA13) ?_
  rintro v w5 ⟨hb, rfl, hbw, hA5, hx5⟩
  refine s_alloc (cs := [.slice none 0 0]) hti.1 hti.2.1 rfl ?_
  intro b6 w6 hb6 hA6 hx6 hs6
  refine s_stA (n := 0) (u := sv hb m m) ty_ints rfl rfl rfl hA6 (by simp) ?_
  intro w7 hA7 hg7
  have z1 := hx1.size
  have z2 := hx2.size
  have z3 := hx3.size
  have z4 := hx4.size
  have z5 := hx5.size
  have z6 := hx6.size
  have hlh := hA5.lt
  have hlt3 := hA3.lt
  have hx06 := hx02.trans (hx3.trans (hx4.trans (hx5.trans hx6)))
  have hx26 := hx3.trans (hx4.trans (hx5.trans hx6))
  have hx07 := hx06.store hg7 (by omega)
  rw [rep_ints] at hA5
  have hI5 : Ints w6 (sv hb m m) (List.replicate m (-1)) := by
    have h9 := (hA5.ex hx6).ints (c := m) (by simp; omega) (by simp)
    rw [List.length_replicate] at h9
    exact h9
  have hMS : MS w w7 b2 b3 b6 (.slice ga (gL R m n).length gc) n (sv hb m m) (mostN R m n 0) :=
    ⟨(hA22.ex hx26).grown hg7 (fun e => by have := Option.some.inj e; omega), (hA3.ex hx26).grown hg7 (fun e => by have := Option.some.inj e; omega), hA7, hI5.kept hg7 (.inr fun e => by have := own_sv e; omega), fun b e => by have := own_sv e; omega, hx07⟩
  have n26 : b2 ≠ b6 := by omega
  have n36 : b3 ≠ b6 := by omega
  have n6w : w.heap.size ≤ b6 := by omega
  repeat (first | (refine isC ?_; refine c_sr ?_) | (refine l_th ?_))
  refine s_mkfn (vs := [.pointer (some ⟨b2, 0, none⟩), .pointer (some ⟨b3, 0, none⟩), .pointer (some ⟨b6, 0, none⟩)]) rfl ?_
  repeat (first | (refine isO ?_; refine s_assign ?_) | (refine isC ?_; first | refine c_sr ?_ | refine c_seq ?_) | (refine l_th ?_))
  refine s_ldA ty_rows rfl hMS.a2 rfl ?_
  refine s_len sl_rows rfl ?_
  refine s_re (v' := .int .i64 (m : Int)) (vint (by rw [hgl])) ?_
  repeat (first | (refine isO ?_; refine s_move ?_) | (refine isC ?_; refine c_block ?_) | (refine l_th ?_))
  refine c_loop (γ := Nat) 133169408 (fun i => [(20, .int .i64 (i : Int))]) (fun i W => i ≤ m ∧ ∃ hv, MS w W b2 b3 b6 (.slice ga (gL R m n).length gc) n hv (mostN R m n i)) (fun i => m - i) 0 ⟨rfl, trivial⟩ ⟨Nat.zero_le _, _, hMS⟩ ?_
  rintro i ρ W ⟨hi, hI⟩
  refine Exists.elim hI fun hv hM => ?_
  repeat (first | (refine isO ?_; (refine isBin ?_; refine s_lss rfl rfl ?_)) | (refine isC ?_; first | refine c_sr ?_ | refine c_seq ?_) | (refine l_th ?_))
  refine c_ifd rfl (fun h => ?_) (fun h => ?_)
  · have hi' : i < m := by omega
    repeat (first | (refine isO ?_; first | refine s_move ?_ | refine s_assign ?_) | (refine isC ?_; first | refine c_sr ?_ | refine c_th ?_ | refine c_seq ?_ | refine c_region ?_ | refine c_block ?_) | (refine l_th ?_))
    refine s_callv (by intro f e; cases e) rfl ok_Most1 rfl (Most1_ct hm hn hi' hg hM n6w n26 n36) ?_
    rintro u w8 ⟨rfl, hM8⟩
    repeat (first | (refine isO ?_; first | refine s_move ?_ | (refine isBin ?_; refine s_inc rfl (by omega) ?_)) | (refine isC ?_; refine c_region ?_) | (first | refine l_th ?_ | refine l_nil ?_))
    exact loop_end (i + 1) (by (repeat (first | exact agree_refl _ _ | refine agree_upd rfl ?_ | refine agree_ext rfl ?_ | refine agree_mask rfl ?_))) ⟨rfl, trivial⟩ ⟨hi', hM8⟩ (by omega)
  · have him : i = m := by omega
    subst him
    have hA6W := hM.a6
    have hIl := hM.il
    have hll : (mostN R i n i).length = i := (mostN_fit (R := R) hn (Nat.le_refl i)).len
    repeat (first | (refine isO ?_; (refine isLD ?_; refine s_ldA ty_ints rfl (by assumption) rfl ?_)) | (refine isC ?_; first | refine c_sr ?_ | refine c_exit ?_))
    refine s_call ok_Clip rfl (Clip_ct hv _ W hIl) ?_
    rintro u w9 ⟨⟨ac, cc, hvc, rfl⟩, hI9, hx9⟩
    refine s_re (v' := .slice ac i i) (by rw [hll]) ?_
    repeat (first | (refine isO ?_; refine s_assign ?_) | (refine isC ?_; refine c_ret ?_) | (refine l_th ?_))
    refine ret2 rfl rfl rfl ⟨_, ac, rfl, rfl, fun b hbb => (hM.own b (by rw [hvc]; cases ac <;> exact hbb)).1, ?_, hM.ex.trans hx9⟩
    rw [hll] at hI9
    exact hI9
end Go.Proofs.YtifbgpkjbciblaaGreatDoor.Sal
end
section
/- matchings.All. -/
set_option maxRecDepth 100000
namespace Go.Proofs.YtifbgpkjbciblaaGreatDoor.Sal
open Go.RowKit
attribute [local irreducible] Go.Code.wpIn Go.wpListIn Ct Ints Rows Sl At Rw WJ
set_option linter.all false
/-- Who may have what, of some alone. -/
def Rsome (sl : List Int) (R : Nat → Nat → Bool) (i k : Nat) : Bool := sl.contains (i : Int) && R i k
theorem ris_at {sl : List Int} {m : Nat} (h : risB (-1) sl (m : Int) = true) {k : Nat} (hk : k < sl.length) : ∃ p : Nat, sl.getD k 0 = (p : Int) ∧ p < m := by
  have h1 := ris_mem sl (-1) m h sl[k] (List.getElem_mem hk)
  exact ⟨sl[k].toNat, by simp [hk]; omega, by omega⟩
theorem ris_len {sl : List Int} {m : Nat} (h : risB (-1) sl (m : Int) = true) : sl.length ≤ m := by
  have := ris_rowL h
  rw [this, rowL_len]; exact rowN_le _ _
/-- Rows of whom there are, as far as they have been copied. -/
def usK (sl : List Int) (rv : Nat → Value) (k i : Nat) : Value := if (sl.take k).contains (i : Int) = true then rv i else .slice none 0 0
theorem usK_zero (sl : List Int) (rv : Nat → Value) (i : Nat) : usK sl rv 0 i = .slice none 0 0 := by simp [usK]
theorem usK_succ {sl : List Int} {rv : Nat → Value} {k p : Nat} (hk : k < sl.length) (hp : sl.getD k 0 = (p : Int)) : fs (usK sl rv k) p (rv p) = usK sl rv (k + 1) := by
  funext i
  unfold fs usK
  rw [take_has hk, hp]
  by_cases e : i = p
  · subst e
    rw [if_pos rfl, if_pos (by simp)]
  · have h9 : decide ((p : Int) = (i : Int)) = false := decide_eq_false (by omega)
    rw [if_neg e, h9, Bool.or_false]
set_option maxHeartbeats 4000000 in
theorem All_ok {R : Nat → Nat → Bool} {m n : Nat} (hm : m ≤ 8) (hn : n ≤ 8) (gv : Value) (sv' : Value) (sl : List Int) (w : World) (hg : Rows w gv (gL R m n)) (hs : Ints w sv' sl) (hb : risB (-1) sl (m : Int) = true) :
    Ct Tryz.prog 11 #[gv, .int .i64 (n : Int), sv'] w fun u w' => u = .tuple #[.bool (decide (rkm (Rsome sl R) m n = sl.length)), .int .i64 0] ∧ Ex w w' := by
  have hgl := gL_len R m n
  have hsl := ris_len hb
  refine Exists.elim in_ints' fun ti hti => ?_
  refine Exists.elim hg.parts fun vs hvs => ?_
  have hvl := hvs.2.1
  have hrv : ∀ i, i < m → vs[i]? = some (vs.getD i undef) ∧ Ints w (vs.getD i undef) (rowL n (R i)) := fun i hi => by
    have hil : i < vs.length := by omega
    have hig : i < (gL R m n).length := by omega
    have h1 : vs[i]? = some (vs.getD i undef) := by simp [List.getD_eq_getElem?_getD, hil]
    refine ⟨h1, hvs.2.2 i _ _ h1 ?_⟩
    have := gL_row (R := R) (n := n) hi
    rw [← this]; simp [List.getD_eq_getElem?_getD, hig]
  refine enter (N := 58) (vs := [gv, .int .i64 (n : Int), sv']) Tryz.func11 rfl rfl rfl ?_
  repeat (first | (refine isO ?_; first | refine s_move ?_ | refine s_assign ?_) | (refine isC ?_; first | refine c_sr ?_ | refine c_seq ?_) | (refine l_th ?_))
  refine s_call ok_Near rfl (Near_ok hm hn gv sv' sl w hg hs hb) ?_
  rintro u w1 ⟨vn, an, rfl, hvn, hvnb, hIn, hx1⟩
  have hg1 := hg.ex hx1
  repeat (first | (refine isO ?_; first | refine s_move ?_ | refine s_assign ?_ | (refine isBin ?_; refine s_neqF rfl rfl (by omega) ?_) | (refine isCall ?_; refine s_lenR sl_rows rfl (by assumption) ?_) | refine s_extract rfl rfl ?_) | (refine isC ?_; first | refine c_sr ?_ | refine c_th ?_ | refine c_iff rfl ?_) | (refine l_th ?_))
  refine s_re (v' := .int .i64 (m : Int)) (vint (by rw [hgl])) ?_
  refine s_make sl_rows hti.1 hti.2.1 hti.2.2.1 rfl hti.2.2.2 rfl (by omega) ?_
  intro ba w2 hba hAa hx2 hs2
  have hx02 := hx1.trans hx2
  have hs2' := hs.ex hx02
  have hbw : w.heap.size ≤ ba := by have := hx1.size; omega
  have eA : List.replicate m (Value.slice none 0 0) = (List.range m).map (usK sl (fun i => vs.getD i undef) 0) := by
    apply List.ext_getElem
    · simp
    · intro i h1 h2; simp [usK_zero]
  rw [eA] at hAa
  repeat (first | (refine isO ?_; first | refine s_move ?_ | refine s_assign ?_ | (refine isCall ?_; refine s_lenI sl_ints rfl (by assumption) ?_)) | (refine isC ?_; first | refine c_sr ?_ | refine c_seq ?_ | refine c_block ?_) | (refine l_th ?_))
  refine c_loop (γ := Nat) 4396972773376 (fun k => [(30, .int .i64 (k : Int))]) (fun k W => k ≤ sl.length ∧ At W ba 25 ((List.range m).map (usK sl (fun i => vs.getD i undef) k)) ∧ Ex w W) (fun k => sl.length - k) 0 ⟨rfl, trivial⟩ ⟨Nat.zero_le _, hAa, hx02⟩ ?_
  rintro k ρ W ⟨hk, hA, hx⟩
  have hsW := hs.ex hx
  have hgW := hg.ex hx
  repeat (first | (refine isO ?_; (refine isBin ?_; refine s_lss rfl rfl ?_)) | (refine isC ?_; first | refine c_sr ?_ | refine c_seq ?_) | (refine l_th ?_))
  refine c_ifd rfl (fun h => ?_) (fun h => ?_)
  · have hk' : k < sl.length := by omega
    refine Exists.elim (ris_at hb hk') fun p hp => ?_
    have hp1 := hp.1
    have hp2 := hp.2
    have hr1 := (hrv p hp2).1
    have hr2 := (hrv p hp2).2
    repeat (first | (refine isO ?_; first | refine s_move ?_ | refine s_assign ?_ | (refine isIA ?_; refine s_ixI sl_ints ty_int rfl rfl rfl (by assumption) (by omega) ?_; intro _)) | (refine isC ?_; first | refine c_sr ?_ | refine c_th ?_ | refine c_seq ?_ | refine c_region ?_ | refine c_block ?_) | (refine l_th ?_))
    refine s_ia (n := p) sl_rows ty_ints rfl (vint hp1) (hvs.1.ex hx) hr1 ?_
    intro ad hc
    refine s_ld ty_ints rfl hc ?_
    refine s_iaA (n := p) sl_rows ty_ints rfl (vint hp1) hp2 ?_
    refine s_stA (n := p) (u := vs.getD p undef) ty_ints rfl rfl hr2.one hA (by simp [hp2]) ?_
    intro W2 hA2 hg2
    rw [map_fs _ _ hp2, usK_succ hk' hp1] at hA2
    repeat (first | (refine isO ?_; first | refine s_move ?_ | (refine isBin ?_; refine s_inc rfl (by omega) ?_)) | (refine isC ?_; refine c_region ?_) | (first | refine l_th ?_ | refine l_nil ?_))
    exact loop_end (k + 1) (by (repeat (first | exact agree_refl _ _ | refine agree_upd rfl ?_ | refine agree_ext rfl ?_ | refine agree_mask rfl ?_))) ⟨rfl, trivial⟩ ⟨hk', hA2, hx.store hg2 hbw⟩ (by omega)
  · have hke : sl.take k = sl := List.take_of_length_le (by omega)
    have hgl2 := gL_len (Rsome sl R) m n
    have hRA : Rows W (sv ba m m) (gL (Rsome sl R) m n) := by
      have h9 := hA.rows (g := gL (Rsome sl R) m n) (c := m) (by rw [gL_len]; simp) (by omega) (by omega) (fun i u l hu hl => by
        have hi := (List.getElem?_eq_some_iff.1 hl).1
        rw [gL_len] at hi
        have e1 : u = usK sl (fun i => vs.getD i undef) k i := by simp [hi] at hu; exact hu.symm
        have e2 : l = rowL n (Rsome sl R i) := by simp [gL, hi] at hl; exact hl.symm
        rw [e1, e2]
        unfold usK
        rw [hke]
        by_cases hc : sl.contains (i : Int) = true
        · rw [if_pos hc]
          have : Rsome sl R i = R i := by funext q; unfold Rsome; rw [hc]; rfl
          rw [this]
          exact (hrv i hi).2.ex hx
        · rw [if_neg hc]
          have : rowL n (Rsome sl R i) = [] := rowL_none (fun q => by unfold Rsome; simp at hc; simp [hc])
          rw [this]
          exact Ints.nil _)
      rw [hgl2] at h9
      exact h9
    repeat (first | (refine isO ?_; refine s_move ?_) | (refine isC ?_; first | refine c_sr ?_ | refine c_exit ?_))
    refine s_call ok_Most rfl (Most_ok hm hn (sv ba m m) W hRA) ?_
    rintro u w4 ⟨vm, am, rfl, hvm, hvmb, hIm, hx4⟩
    have hml : (mostR (Rsome sl R) m n).length = m := (mostN_fit hn (Nat.le_refl m)).len
    have hs4 := hsW.ex hx4
    repeat (first | (refine isO ?_; first | refine s_move ?_ | refine s_assign ?_ | (refine isG ?_; refine g_yes rfl rfl ?_) | (refine isBin ?_; refine s_eqlT rfl rfl (by omega) ?_) | refine s_extract rfl rfl ?_) | (refine isC ?_; refine c_sr ?_) | (refine l_th ?_))
    refine s_call ok_Many rfl (Many_ct vm _ w4 hIm) ?_
    rintro u w5 ⟨rfl, hx5⟩
    have hs5 := hs4.ex hx5
    repeat (first | (refine isO ?_; first | refine s_move ?_ | refine s_assign ?_ | (refine isG ?_; refine g_yes rfl rfl ?_) | (refine isBin ?_; refine s_eql rfl rfl ?_) | (refine isCall ?_; refine s_lenI sl_ints rfl (by assumption) ?_) | (refine isPick ?_; refine s_pickt rfl rfl ?_)) | (refine isC ?_; refine c_ret ?_) | (refine l_th ?_))
    refine ret2 rfl rfl rfl ⟨?_, (hx.trans hx4).trans hx5⟩
    refine congrArg (fun z : Bool => Value.tuple #[.bool z, .int .i64 0]) ?_
    rw [hml]
    unfold rkm
    by_cases e : cnt (mat (mostR (Rsome sl R) m n)) m = sl.length
    · rw [decide_eq_true e, decide_eq_true (by omega)]
    · rw [decide_eq_false e, decide_eq_false (by omega)]
end Go.Proofs.YtifbgpkjbciblaaGreatDoor.Sal
end
section
/- salesroomlaw08.alive, parts. -/
set_option maxRecDepth 100000
namespace Go.Proofs.YtifbgpkjbciblaaGreatDoor.Sal
open Go.RowKit
attribute [local irreducible] Go.Code.wpIn Go.wpListIn Ct Ints Rows Sl At Rw WJ
set_option linter.all false
theorem tf8 (b : Bool) : b = true ∨ b = false := by cases b <;> simp
theorem rows3 {w : World} {b b1 b2 b3 : Nat} {E : TypeId} {l1 l2 l3 : List Int} (h : At w b E [sv b1 l1.length l1.length, sv b2 l2.length l2.length, sv b3 l3.length l3.length]) (h1 : Ints w (sv b1 l1.length l1.length) l1) (h2 : Ints w (sv b2 l2.length l2.length) l2) (h3 : Ints w (sv b3 l3.length l3.length) l3) : Rows w (sv b 3 3) [l1, l2, l3] := by
  refine At.rows (g := [l1, l2, l3]) h rfl (by simp) (by simp) (fun i u l hu hl => ?_)
  match i with
  | 0 => simp at hu hl; subst hu; subst hl; exact h1
  | 1 => simp at hu hl; subst hu; subst hl; exact h2
  | 2 => simp at hu hl; subst hu; subst hl; exact h3
  | i + 3 => simp at hu
end Go.Proofs.YtifbgpkjbciblaaGreatDoor.Sal
end
section
/- Plain: what the laws of the matchings say of the counts. -/
set_option maxRecDepth 100000
namespace Go.Proofs.YtifbgpkjbciblaaGreatDoor.Sal
set_option linter.all false
theorem rowN_cnt (p : Nat → Bool) : ∀ m, (rowN m p).length = cnt p m
  | 0 => rfl
  | m + 1 => by
    have ih := rowN_cnt p m
    unfold rowN at ih ⊢
    rw [List.range_succ, List.filter_append, List.length_append, ih]
    show _ = cnt p m + (if p m = true then 1 else 0)
    cases h : p m <;> simp [h]
theorem rowL_cnt (p : Nat → Bool) (m : Nat) : (rowL m p).length = cnt p m := by rw [rowL_len, rowN_cnt]
theorem bits_ex : ∀ (m : Nat) (T : Nat → Bool), ∃ x, x < 2 ^ m ∧ ∀ j, j < m → x.testBit j = T j
  | 0, _ => ⟨0, by simp, fun j h => by omega⟩
  | m + 1, T => by
    obtain ⟨x, h1, h2⟩ := bits_ex m (fun j => T (j + 1))
    refine ⟨2 * x + (if T 0 = true then 1 else 0), by rw [Nat.pow_succ]; split <;> omega, fun j hj => ?_⟩
    cases j with
    | zero =>
      rw [Nat.testBit_zero]
      cases hT : T 0 with
      | true => simp only [if_true]; exact decide_eq_true (by omega)
      | false => simp only [Bool.false_eq_true, if_false]; exact decide_eq_false (by omega)
    | succ j =>
      rw [Nat.testBit_succ, ← h2 j (by omega)]
      congr 1
      split <;> omega
theorem cnt_some {sl : List Int} {m : Nat} (h : risB (-1) sl (m : Int) = true) : cnt (fun i => sl.contains (i : Int)) m = sl.length := by
  have := ris_rowL h
  rw [← rowL_cnt, ← this]
theorem ris_inj {sl : List Int} {m : Nat} (h : risB (-1) sl (m : Int) = true) {i j : Nat} (hi : i < sl.length) (hj : j < sl.length) (e : sl.getD i 0 = sl.getD j 0) : i = j := by
  have key : ∀ (l : List Int) (a : Int), risB a l (m : Int) = true → ∀ i j, i < j → j < l.length → l.getD i 0 < l.getD j 0 := by
    intro l
    induction l with
    | nil => intro a _ i j _ hj; simp at hj
    | cons x l ih =>
      intro a h i j hij hj
      simp only [risB, Bool.and_eq_true] at h
      cases j with
      | zero => omega
      | succ j =>
        have hj' : j < l.length := by simpa using hj
        cases i with
        | zero =>
          have h9 := ris_mem l x m h.2 l[j] (List.getElem_mem hj')
          simp [List.getD_eq_getElem?_getD, hj']; exact h9.1
        | succ i =>
          have := ih x h.2 i j (by omega) hj'
          simpa using this
  rcases Nat.lt_trichotomy i j with h1 | h1 | h1
  · have := key sl (-1) h i j h1 hj; omega
  · exact h1
  · have := key sl (-1) h j i h1 hi; omega
/-- Two things that a call builds by append, side by side. -/
structure D2 (w0 W : World) (E1 : TypeId) (v1 : Value) (l1 : List Value) (E2 : TypeId) (v2 : Value) (l2 : List Value) : Prop where
  r1 : Rw W E1 v1 l1
  r2 : Rw W E2 v2 l2
  o1 : ∀ b, v1.ownBlock = some b → w0.heap.size ≤ b
  o2 : ∀ b, v2.ownBlock = some b → w0.heap.size ≤ b
  ne : ∀ b, v1.ownBlock = some b → v2.ownBlock ≠ some b
  ex : Ex w0 W
theorem D2.nil {w0 W : World} {E1 E2 : TypeId} (h : Ex w0 W) : D2 w0 W E1 (.slice none 0 0) [] E2 (.slice none 0 0) [] := ⟨Rw.nil _ _, Rw.nil _ _, fun b h => (by cases h), fun b h => (by cases h), fun b h => (by cases h), h⟩
theorem D2.exd {w0 W W' : World} {E1 E2 : TypeId} {v1 v2 : Value} {l1 l2 : List Value} (h : D2 w0 W E1 v1 l1 E2 v2 l2) (hx : Ex W W') : D2 w0 W' E1 v1 l1 E2 v2 l2 := ⟨h.r1.ex hx, h.r2.ex hx, h.o1, h.o2, h.ne, h.ex.trans hx⟩
theorem LI.mk' {w0 w : World} {E : TypeId} {v : Value} {l : List Int} (h : Rw w E v (l.map (Value.int .i64))) (ho : ∀ b, v.ownBlock = some b → w0.heap.size ≤ b) : LI w0 w E v l := ⟨h, ho⟩
/-- A copy of rows, of which one is another now. -/
def twinV (rb rc : Nat → Nat) (g : List (List Int)) (p : Nat) (v : Value) : List Value := (List.range g.length).map fun i => if i = p then v else sv (rb i) (g.getD i []).length (rc i)
theorem Mat.parts {w : World} {T E : TypeId} {b c : Nat} {rb rc : Nat → Nat} {g : List (List Int)} (h : Mat w T E b c rb rc g) {p : Nat} (hp : p < g.length) :
    (∃ sp, At w b T (twinV rb rc g p (sv (rb p) (g.getD p []).length (rc p)) ++ sp)) ∧ g.length ≤ c ∧ (∀ i, i < g.length → OwnI w E (rb i) (rc i) (g.getD i []) ∧ rb i ≠ b) := by
  obtain ⟨⟨sp, h1⟩, h2, h3, h4, h5⟩ := h
  refine ⟨⟨sp, ?_⟩, h2, h4⟩
  have e : twinV rb rc g p (sv (rb p) (g.getD p []).length (rc p)) = (List.range g.length).map (fun i => sv (rb i) (g.getD i []).length (rc i)) := by
    unfold twinV
    apply List.map_congr_left
    intro i _
    by_cases e : i = p
    · subst e; rw [if_pos rfl]
    · rw [if_neg e]
  rw [e]; exact h1
section
variable {r : Option Nat} {P : Program} {Q : Exit → Act → World → Prop} {a : Act} {w : World} {o : Operand} {x y z : Code}
end
theorem ris_weak {m : Int} : ∀ (l : List Int) (a b : Int), a ≤ b → risB b l m = true → risB a l m = true
  | [], _, _, _, _ => rfl
  | x :: l, a, b, hab, h => by
    simp only [risB, Bool.and_eq_true, Bool.not_eq_true', Bool.or_eq_false_iff, decide_eq_false_iff_not] at h ⊢
    exact ⟨⟨by omega, h.1.2⟩, h.2⟩
theorem ris_sub {m : Int} : ∀ {l' l : List Int}, l'.Sublist l → ∀ a, risB a l m = true → risB a l' m = true := by
  intro l' l h
  induction h with
  | slnil => intro a _; rfl
  | cons x _ ih =>
    intro a h
    simp only [risB, Bool.and_eq_true, Bool.not_eq_true', Bool.or_eq_false_iff, decide_eq_false_iff_not] at h
    exact ris_weak _ a x (by omega) (ih x h.2)
  | cons_cons x _ ih =>
    intro a h
    simp only [risB, Bool.and_eq_true] at h ⊢
    exact ⟨h.1, ih x h.2⟩
section
open Go.RowKit
variable {r : Option Nat} {P : Program} {J : World → Prop} {z : Nat} {Q : Exit → Act → World → Prop} {N : Nat} {σ : Nat → Value} {ds : List Deferred} {w : World}
variable {gd : Option (Nat × Bool)} {ops : Array Oper} {i d : Nat} {π : List (Nat × Bool)} {ty : TypeId} {pos : String} {after : Array Edge} {T E : TypeId} {x : Operand}
end
section
open Go.RowKit
variable {r : Option Nat} {P : Program} {J : World → Prop} {z : Nat} {Q : Exit → Act → World → Prop} {N : Nat} {σ : Nat → Value} {ds : List Deferred} {w : World}
variable {gd : Option (Nat × Bool)} {ops : Array Oper} {i d : Nat} {π : List (Nat × Bool)} {ty : TypeId} {pos : String} {after : Array Edge} {E : TypeId} {x : Operand}
end
end Go.Proofs.YtifbgpkjbciblaaGreatDoor.Sal
end
section
/- halls.sets: its iterator hands out all sets of so many, in order. -/
set_option maxRecDepth 100000
namespace Go.Proofs.YtifbgpkjbciblaaGreatDoor.Sal
open Go.RowKit
/-- The sets of so many of the items from some one on, in order, each behind those ahead. -/
def setsR : Nat → List Int → Nat → Nat → List (List Int)
  | 0, ahead, _, _ => [ahead]
  | many + 1, ahead, frm, items => (List.range (items - many - frm)).flatMap fun d => setsR many (ahead ++ [((frm + d : Nat) : Int)]) (frm + d + 1) items
def preL (S : Nat → List (List Int)) (d : Nat) : List (List Int) := (List.range d).flatMap S
theorem preL_succ (S : Nat → List (List Int)) (d : Nat) : preL S (d + 1) = preL S d ++ S d := by simp [preL, List.range_succ]
theorem preL_rest (S : Nat → List (List Int)) (d : Nat) : ∀ e, ∃ rest, preL S (d + e) = preL S d ++ rest
  | 0 => ⟨[], by simp⟩
  | e + 1 => by
    obtain ⟨r, h⟩ := preL_rest S d e
    exact ⟨r ++ S (d + e), by rw [← Nat.add_assoc, preL_succ, h, List.append_assoc]⟩
theorem preL_get {S : Nat → List (List Int)} {d t i : Nat} {x : List Int} (hd : d < t) (h : (S d)[i]? = some x) : (preL S t)[(preL S d).length + i]? = some x := by
  obtain ⟨r, hr⟩ := preL_rest S (d + 1) (t - (d + 1))
  have e : d + 1 + (t - (d + 1)) = t := by omega
  rw [e] at hr
  rw [hr, preL_succ, List.append_assoc, List.getElem?_append_right (by omega), List.getElem?_append_left (by have := (List.getElem?_eq_some_iff.1 h).1; omega)]
  have e2 : (preL S d).length + i - (preL S d).length = i := by omega
  rw [e2]; exact h
theorem preL_len {S : Nat → List (List Int)} {d t : Nat} (hd : d < t) : (preL S d).length + (S d).length ≤ (preL S t).length := by
  obtain ⟨r, hr⟩ := preL_rest S (d + 1) (t - (d + 1))
  have e : d + 1 + (t - (d + 1)) = t := by omega
  rw [e] at hr
  rw [hr, preL_succ, List.length_append, List.length_append]
  omega
theorem setsR_pre (many : Nat) (ahead : List Int) (frm items : Nat) : setsR (many + 1) ahead frm items = preL (fun d => setsR many (ahead ++ [((frm + d : Nat) : Int)]) (frm + d + 1) items) (items - many - frm) := rfl
attribute [local irreducible] Go.Code.wpIn Go.wpListIn Ct Ints Rows Sl At Rw WJ
set_option linter.all false
theorem ok_sets : CallOK Tryz.prog 75 := callOK Tryz.func75 (by kernel_rfl) rfl
theorem ok_sets1 : CallOK Tryz.prog 117 := callOK Tryz.func117 (by kernel_rfl) rfl
theorem ty_yl : Ty1 Tryz.prog 87 := ⟨let ⟨i, h, _, hs, _⟩ := info_parts (show (Tryz.prog.info? 87).map (fun i => (i.zero, i.size, i.bytes)) = some (some .nilFunc, 1, 8) by kernel_rfl); ⟨i, h, hs⟩, _, Tryz.underlying87, rfl⟩
/-- What a sets' iterator has captured. -/
structure SC (w : World) (b1 b2 b3 b4 : Nat) (many : Nat) (ahead : List Int) (frm items : Nat) (av : Value) : Prop where
  a1 : At w b1 3 [.int .i64 (many : Int)]
  a2 : At w b2 25 [av]
  a3 : At w b3 3 [.int .i64 (frm : Int)]
  a4 : At w b4 3 [.int .i64 (items : Int)]
  al : Ints w av ahead
theorem SC.ex {w w' : World} {b1 b2 b3 b4 many frm items : Nat} {ahead : List Int} {av : Value} (h : SC w b1 b2 b3 b4 many ahead frm items av) (hx : Ex w w') : SC w' b1 b2 b3 b4 many ahead frm items av := ⟨h.a1.ex hx, h.a2.ex hx, h.a3.ex hx, h.a4.ex hx, h.al.ex hx⟩
def capsL (b1 b2 b3 b4 : Nat) : List Value := [.pointer (some ⟨b1, 0, none⟩), .pointer (some ⟨b2, 0, none⟩), .pointer (some ⟨b3, 0, none⟩), .pointer (some ⟨b4, 0, none⟩)]
theorem sets_ct (av : Value) (ahead : List Int) (frm items many : Nat) (w : World) (ha : Ints w av ahead) :
    Ct Tryz.prog 75 #[av, .int .i64 (frm : Int), .int .i64 (items : Int), .int .i64 (many : Int)] w fun u w' => ∃ b1 b2 b3 b4, u = .func (.func 117) #[] (capsL b1 b2 b3 b4).toArray ∧ SC w' b1 b2 b3 b4 many ahead frm items av ∧ Ex w w' := by
  obtain ⟨a, c, rfl⟩ := ha.form
  refine enter (N := 10) (vs := [.slice a ahead.length c, .int .i64 (frm : Int), .int .i64 (items : Int), .int .i64 (many : Int)]) Tryz.func75 rfl rfl rfl ?_
  refine c_sr ?_
  refine s_box (cs := [.slice a ahead.length c]) rfl rfl ?_
  intro b2 w1 hb2 hA2 hx1 hs1
  refine s_box (cs := [.int .i64 (frm : Int)]) rfl rfl ?_
  intro b3 w2 hb3 hA3 hx2 hs2
  refine s_box (cs := [.int .i64 (items : Int)]) rfl rfl ?_
  intro b4 w3 hb4 hA4 hx3 hs3
  refine s_box (cs := [.int .i64 (many : Int)]) rfl rfl ?_
  intro b1 w4 hb1 hA1 hx4 hs4
  have hx04 := hx1.trans (hx2.trans (hx3.trans hx4))
  repeat (first | (refine isO ?_; refine s_assign ?_) | (refine isC ?_; refine c_sr ?_) | (refine l_th ?_))
  refine s_mkfn (vs := capsL b1 b2 b3 b4) rfl ?_
  repeat (first | (refine isO ?_; refine s_assign ?_) | (refine isC ?_; refine c_ret ?_) | (refine l_th ?_))
  exact ret1 rfl rfl ⟨b1, b2, b3, b4, rfl, ⟨hA1, hA2.ex (hx2.trans (hx3.trans hx4)), hA3.ex (hx3.trans hx4), hA4.ex hx4, ha.ex hx04⟩, hx04⟩
set_option maxHeartbeats 4000000 in
theorem sets_iter : ∀ (many : Nat) (ahead : List Int) (frm items : Nat) (b1 b2 b3 b4 : Nat) (av : Value) (w : World), items ≤ 8 → frm ≤ 9 → ahead.length + many ≤ 100 → SC w b1 b2 b3 b4 many ahead frm items av →
    IterX Tryz.prog 117 (capsL b1 b2 b3 b4) (setsR many ahead frm items) w
  | 0, ahead, frm, items, b1, b2, b3, b4, av, w, hi8, hf9, hal, hC => by
    intro l G Jx W0 hw0 hJx hY
    refine enter (N := 37) (vs := .func (.yield l) #[] #[] :: capsL b1 b2 b3 b4) Tryz.func117 rfl rfl rfl ?_
    refine c_sr ?_
    refine s_box (cs := [.func (.yield l) #[] #[]]) rfl rfl ?_
    intro b5 W1 hb5 hA5 hx1 hs1
    have hC1 := hC.ex (hw0.trans hx1)
    have ha1 := hC1.a1
    have ha2 := hC1.a2
    repeat (first | (refine isO ?_; first | (refine isBin ?_; refine s_eqlT rfl rfl (by omega) ?_) | (refine isLD ?_; refine s_ldA ty_int rfl (by assumption) rfl ?_)) | (refine isC ?_; first | refine c_sr ?_ | refine c_seq ?_ | refine c_ift rfl ?_) | (refine l_th ?_))
    refine s_ldA ty_yl rfl hA5 rfl ?_
    repeat ((refine isO ?_; (refine isLD ?_; refine s_ldA ty_ints rfl (by assumption) rfl ?_)))
    refine s_yield (vs := [av]) rfl rfl (hY 0 ahead W1 av rfl hx1 hC1.al) ?_
    rintro e W2 (⟨rfl, hx2, hG⟩ | ⟨rfl, hJ, hK⟩)
    · refine ⟨_, rfl, ?_⟩
      repeat (first | (refine isC ?_; refine c_ret ?_) | (first | refine l_th ?_ | refine th_ret ?_))
      refine ret0 rfl (.inl ⟨hx1.trans hx2, fun i hi => ?_⟩)
      have : i = 0 := by simp [setsR] at hi; exact hi
      rw [this]; exact hG
    · refine ⟨_, rfl, ?_⟩
      repeat (first | (refine isC ?_; refine c_ret ?_) | (first | refine l_th ?_ | refine th_ret ?_))
      exact ret0 rfl (.inr ⟨0, by simp [setsR], fun j hj => by omega, hJ, (Kb.ex hx1).trans hK⟩)
  | many + 1, ahead, frm, items, b1, b2, b3, b4, av, w, hi8, hf9, hal, hC => by
    intro l G Jx W0 hw0 hJx hY
    obtain ⟨S, hS⟩ : ∃ S : Nat → List (List Int), S = fun d => setsR many (ahead ++ [((frm + d : Nat) : Int)]) (frm + d + 1) items := ⟨_, rfl⟩
    have hL : setsR (many + 1) ahead frm items = preL S (items - many - frm) := by rw [hS]; exact setsR_pre _ _ _ _
    rw [hL] at hY ⊢
    refine enter (N := 37) (vs := .func (.yield l) #[] #[] :: capsL b1 b2 b3 b4) Tryz.func117 rfl rfl rfl ?_
    refine c_sr ?_
    refine s_box (cs := [.func (.yield l) #[] #[]]) rfl rfl ?_
    intro b5 W1 hb5 hA5 hx1 hs1
    have hC1 := hC.ex (hw0.trans hx1)
    have ha1 := hC1.a1
    have ha3 := hC1.a3
    repeat (first | (refine isO ?_; first | refine s_assign ?_ | (refine isBin ?_; refine s_eqlF rfl rfl (by omega) ?_) | (refine isLD ?_; refine s_ldA ty_int rfl (by assumption) rfl ?_)) | (refine isC ?_; first | refine c_sr ?_ | refine c_th ?_ | refine c_seq ?_ | refine c_iff rfl ?_ | refine c_block ?_) | (refine l_th ?_))
    refine c_loopD 137438937280 (fun d => [(6, .int .i64 ((frm + d : Nat) : Int))]) (fun d Ds W => d ≤ items - many - frm ∧ Ex W1 W ∧ (∀ i, i < (preL S d).length → G i) ∧ Marks Ds W ∧ Ds.Nodup ∧ ∀ D ∈ Ds, W0.heap.size ≤ D ∧ D < W.heap.size) (fun d => items - many - frm - d) 0 ⟨vint (by simp), trivial⟩
      ⟨Nat.zero_le _, Ex.refl _, fun i hi => by simp [preL] at hi, fun D hD => by simp at hD, List.nodup_nil, fun D hD => by simp at hD⟩ ?_
    rintro d Ds ρ W ⟨hd, hxW, hGd, hmk, hnd, hDs⟩
    have hx0W := hx1.trans hxW
    have hCW := hC1.ex hxW
    have ha1W := hCW.a1
    have ha2W := hCW.a2
    have ha4W := hCW.a4
    by_cases hd' : d < items - many - frm
    · repeat (first | (refine isO ?_; first | refine s_move ?_ | (refine isBin ?_; first | refine s_leqT rfl rfl (by omega) ?_ | refine s_sub rfl rfl ⟨by omega, by omega⟩ ?_) | (refine isLD ?_; refine s_ldA ty_int rfl (by assumption) rfl ?_)) | (refine isC ?_; first | refine c_sr ?_ | refine c_th ?_ | refine c_seq ?_ | refine c_ift rfl ?_ | refine c_block ?_) | (refine l_th ?_))
      have hlen1 : (ahead ++ [((frm + d : Nat) : Int)]).length = ahead.length + 1 := by simp
      refine c_joinK (γ := Nat × Nat × Nat × Nat) 4292870144 (fun q => [(31, .func (.func 117) #[] (capsL q.1 q.2.1 q.2.2.1 q.2.2.2).toArray)]) (fun q W' => (∃ av', SC W' q.1 q.2.1 q.2.2.1 q.2.2.2 many (ahead ++ [((frm + d : Nat) : Int)]) (frm + d + 1) items av') ∧ Ex W W') ?_ ?_
      · refine c_drawF (Ex.refl W) 0 8 [(0, true), (2, true), (5, true), (6, true), (7, true), (8, true), (9, true)] 1 [(3, false), (4, false), (10, false)] 3 [(1, false), (4, false), (10, false)] mixed (by kernel_rfl) ?_
        have hxd := Ex.drew W
        refine d_ldA rfl ty_ints rfl ha2W rfl ?_
        refine d_move rfl ?_
        refine d_move rfl ?_
        refine d_add rfl rfl rfl ⟨by omega, by omega⟩ ?_
        refine d_ldA rfl ty_int rfl ha4W rfl ?_
        refine d_ldA rfl ty_int rfl ha1W rfl ?_
        refine d_sub rfl rfl rfl ⟨by omega, by omega⟩ ?_
        refine d_re (v' := .int .i64 (many : Int)) (vint (by omega)) ?_
        refine d_fork ?_ ?_
        · refine d_ch rfl ?_
          refine s_call ok_Clone rfl (Clone_ct av ahead W.drew (hCW.al.ex hxd) (by omega)) ?_
          rintro v22 W2 ⟨hL2, hx2⟩
          have hxd2 := hxd.trans hx2
          refine l_nil ⟨rfl, .inr hxd2, ?_⟩
          refine d_ch rfl ?_
          refine s_bs1 sl_ints in_int rfl rfl ?_
          intro b3' W3 hb3' hA3 hx3 hs3
          have hxd3 := hxd2.trans hx3
          refine l_nil ⟨rfl, .inr hxd3, ?_⟩
          refine d_ch rfl ?_
          refine s_lapp (w0 := W.drew) sl_ints in_int (hL2.ex hx3) hA3.one rfl rfl (by simp; omega) (hx2.trans hx3) ?_
          intro v4 W4 hL4 hx4
          have hxd4 := hxd.trans hx4
          refine l_nil ⟨rfl, .inr hxd4, ?_⟩
          refine d_ch rfl ?_
          refine s_call (vs := [v4, .int .i64 ((frm + d + 1 : Nat) : Int), .int .i64 (items : Int), .int .i64 (many : Int)]) ok_sets rfl (sets_ct v4 _ (frm + d + 1) items many W4 (hL4.ints (by omega))) ?_
          rintro u W5 ⟨c1, c2, c3, c4, rfl, hC5, hx5⟩
          have hxd5 := hxd4.trans hx5
          refine l_nil ⟨rfl, .inr hxd5, ?_⟩
          refine d_nil ?_
          refine th_norm ?_
          exact join_end (c1, c2, c3, c4) (by (repeat (first | exact agree_refl _ _ | refine agree_upd rfl ?_))) ⟨rfl, trivial⟩ ⟨⟨v4, hC5⟩, hxd5⟩
        · refine d_ch rfl ?_
          refine s_bs1 sl_ints in_int rfl rfl ?_
          intro b3' W3 hb3' hA3 hx3 hs3
          have hxd3 := hxd.trans hx3
          refine l_nil ⟨rfl, .inr hxd3, ?_⟩
          refine d_ch rfl ?_
          refine s_call ok_Clone rfl (Clone_ct av ahead W3 (hCW.al.ex hxd3) (by omega)) ?_
          rintro v22 W2 ⟨hL2, hx2⟩
          have hxd2 := hxd3.trans hx2
          refine l_nil ⟨rfl, .inr hxd2, ?_⟩
          refine d_ch rfl ?_
          refine s_lapp (w0 := W3) sl_ints in_int hL2 (hA3.one.ex hx2) rfl rfl (by simp; omega) hx2 ?_
          intro v4 W4 hL4 hx4
          have hxd4 := hxd3.trans hx4
          refine l_nil ⟨rfl, .inr hxd4, ?_⟩
          refine d_ch rfl ?_
          refine s_call (vs := [v4, .int .i64 ((frm + d + 1 : Nat) : Int), .int .i64 (items : Int), .int .i64 (many : Int)]) ok_sets rfl (sets_ct v4 _ (frm + d + 1) items many W4 (hL4.ints (by omega))) ?_
          rintro u W5 ⟨c1, c2, c3, c4, rfl, hC5, hx5⟩
          have hxd5 := hxd4.trans hx5
          refine l_nil ⟨rfl, .inr hxd5, ?_⟩
          refine d_nil ?_
          refine th_norm ?_
          exact join_end (c1, c2, c3, c4) (by (repeat (first | exact agree_refl _ _ | refine agree_upd rfl ?_))) ⟨rfl, trivial⟩ ⟨⟨v4, hC5⟩, hxd5⟩
      · intro q ρ2 W5 hI5
        refine Exists.elim hI5.1 fun av5 hC5 => ?_
        have hx5 := hI5.2
        have hx05 := hx0W.trans hx5
        have hx15 := hxW.trans hx5
        have hlt := preL_len (S := S) hd'
        have hSd : setsR many (ahead ++ [((frm + d : Nat) : Int)]) (frm + d + 1) items = S d := by rw [hS]
        have hit := sets_iter many (ahead ++ [((frm + d : Nat) : Int)]) (frm + d + 1) items q.1 q.2.1 q.2.2.1 q.2.2.2 av5 W5 hi8 (by omega) (by omega) hC5
        rw [hSd] at hit
        have z05 := hx05.size
        refine th_norm ?_
        repeat ((refine isC ?_; refine c_block ?_))
        refine c_rangeX (gf := 117) (lb := capsL q.1 q.2.1 q.2.2.1 q.2.2.2) (L := S d) (w0 := W5) rfl ok_sets1 hit (Ex.refl W5) rfl (fun i => G ((preL S d).length + i)) (fun i W' => Jx ((preL S d).length + i) W' ∧ Kb W0.heap.size W5 W') (fun i W' W'' hJ hb hkc => ⟨hJx _ _ _ hJ.1 (Below.mono hb z05) hkc, Kb.below hJ.2 hb⟩)
          (fun v σ => upd (updl [(32, v)] σ) 7 v) ?_ ?_ ?_ ?_
        · intro l' v W' K hK
          repeat (first | (refine isO ?_; refine s_assign ?_) | (refine isC ?_; refine c_region ?_) | (refine l_th ?_))
          exact hK
        · intro l' i x v W' hx hxW' hI'
          have hYi := hY ((preL S d).length + i) x W' v (preL_get hd' hx) (hx05.trans hxW') hI'
          have hA5' := hA5.ex (hx15.trans hxW')
          repeat ((refine isC ?_; first | refine c_sr ?_ | refine c_block ?_))
          refine s_ldA ty_yl rfl hA5' rfl ?_
          repeat ((refine isO ?_; refine s_move ?_))
          refine s_yield (vs := [v]) rfl rfl hYi ?_
          rintro e W6 (⟨rfl, hx6, hG⟩ | ⟨rfl, hJ, hK⟩)
          · refine ⟨_, rfl, ?_⟩
            repeat (first | (refine isO ?_; refine s_not rfl ?_) | (refine isC ?_; first | refine c_iff rfl ?_ | refine c_skip ?_) | (first | refine l_th ?_ | refine ib_norm ?_))
            exact ⟨hx6, hG⟩
          · refine ⟨_, rfl, ?_⟩
            repeat (first | (refine isO ?_; refine s_not rfl ?_) | (refine isC ?_; first | refine c_ift rfl ?_ | refine c_ret ?_) | (first | refine l_th ?_ | refine ib_ret ?_))
            exact ⟨⟨hJ, (Kb.ex hxW').trans hK⟩, hK.mono z05⟩
        · intro D W6 hD hx6 hG6 hK6
          have hmk6 : Marks (D :: Ds) W6 := fun E hE => by
            rcases List.mem_cons.1 hE with rfl | hE
            · exact hK6
            · exact (hmk.ex (hx5.trans hx6)) E hE
          have z5 := hx5.size
          have z6 := hx6.size
          have hlt6 := (Array.getElem?_eq_some_iff.1 hK6).1
          repeat (first | (refine isO ?_; first | refine s_move ?_ | refine s_assign ?_ | (refine isBin ?_; refine s_inc rfl (by omega) ?_)) | (refine isC ?_; refine c_region ?_) | (refine l_th ?_))
          refine loop_endD (d + 1) (D :: Ds) (by (repeat (first | exact agree_refl _ _ | refine agree_upd rfl ?_ | refine agree_ext rfl ?_ | refine agree_mask rfl ?_))) ⟨vint (by omega), trivial⟩ ⟨hd', hx15.trans hx6, fun i hi => ?_, hmk6, List.nodup_cons.2 ⟨fun hm => by have := (hDs D hm).2; omega, hnd⟩, fun E hE => ?_⟩ (by omega)
          · rw [preL_succ, List.length_append] at hi
            by_cases hi2 : i < (preL S d).length
            · exact hGd i hi2
            · have h9 := hG6 (i - (preL S d).length) (by omega)
              have e : (preL S d).length + (i - (preL S d).length) = i := by omega
              rw [e] at h9; exact h9
          · rcases List.mem_cons.1 hE with rfl | hE
            · omega
            · have := hDs E hE; omega
        · intro D i W6 hD hi hG6 hJ6 hKb hK6
          have hlt6 := (Array.getElem?_eq_some_iff.1 hK6).1
          have z5 := hx5.size
          have hmk6 : Marks (D :: Ds) W6 := fun E hE => by
            rcases List.mem_cons.1 hE with rfl | hE
            · exact hK6
            · have h9 := hDs E hE
              exact (hJ6.2.2 E h9.1 (by omega)).trans ((hmk.ex hx5) E hE)
          have hB6 : ∀ E ∈ D :: Ds, W0.heap.size ≤ E := fun E hE => by
            rcases List.mem_cons.1 hE with rfl | hE
            · omega
            · exact (hDs E hE).1
          have z6 := hJ6.2.1
          repeat (first | refine th_ret ?_ | refine ib_ret ?_)
          refine ret0d (Ds := D :: Ds) rfl (List.nodup_cons.2 ⟨fun hm => by have := (hDs D hm).2; omega, hnd⟩) hmk6 (fun w' hp => .inr ⟨(preL S d).length + i, by omega, fun j hj => ?_, hJx _ _ _ hJ6.1 (hp.below hB6) hp.2.2.2.2.2, ?_⟩)
          · by_cases hj2 : j < (preL S d).length
            · exact hGd j hj2
            · have h9 := hG6 (j - (preL S d).length) (by omega)
              have e : (preL S d).length + (j - (preL S d).length) = j := by omega
              rw [e] at h9; exact h9
          · refine ⟨by rw [hp.2.2.2.1]; omega, fun k hB hk => ?_⟩
            omega
    · have hde : d = items - many - frm := by omega
      repeat (first | (refine isO ?_; first | refine s_move ?_ | (refine isBin ?_; first | refine s_leqF rfl rfl (by omega) ?_ | refine s_sub rfl rfl ⟨by omega, by omega⟩ ?_) | (refine isLD ?_; refine s_ldA ty_int rfl (by assumption) rfl ?_)) | (refine isC ?_; first | refine c_sr ?_ | refine c_seq ?_ | refine c_iff rfl ?_ | refine c_exit ?_) | (first | refine l_th ?_ | refine ib_exit ?_ | refine th_exit ?_))
      exact end0d rfl hnd hmk (fun w' hp => .inl ⟨PD.ex hx0W hp (fun D hD => (hDs D hD).1), fun i hi => hGd i (by rw [hde]; exact hi)⟩)
end Go.Proofs.YtifbgpkjbciblaaGreatDoor.Sal
end
