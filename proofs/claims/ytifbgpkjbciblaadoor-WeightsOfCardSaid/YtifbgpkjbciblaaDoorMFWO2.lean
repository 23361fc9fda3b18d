/- Texts that YtifbgpkjbciblaaDoorFWO leans on, laid together: Core7 Ops W1 Core8 Core9 Core10 Core12 SL TW W2 W3 WSpec W4. -/
import Derived.Test.YtifbgpkjbciblaaDoorMFWO1
import Derived.Test.YtifbgpkjbciblaaDoorRows
import Derived.Deep.Matrix
import Derived.Lib.SmallJoins
import Derived.SizedLaws
import Derived.OpenShut
import Derived.ChangeOld
import Derived.ProofKit
section
/- Core7: bits, remainders, conversions of numbers that are 0 at least. -/
set_option maxRecDepth 100000
namespace Go.Proofs.YtifbgpkjbciblaaDoor.Sal
set_option linter.all false
open Go.RowKit

/-- The greatest number of a kind, and the least. -/
def top : IntKind → Nat
  | .i8 => 127 | .i16 => 32767 | .i32 => 2147483647 | .i64 => 9223372036854775807
  | .u8 => 255 | .u16 => 65535 | .u32 => 4294967295 | .u64 => 18446744073709551615
theorem wrap_nat {k : IntKind} {n : Nat} (h : n ≤ top k) : k.wrap (n : Int) = n := by
  cases k <;> simp only [top] at h <;> simp [IntKind.wrap, IntKind.bits, IntKind.signed] <;> omega
theorem top_lt (k : IntKind) : top k < 2 ^ k.bits := by cases k <;> decide
theorem ofInt_nat (k : IntKind) (n : Nat) : BitVec.ofInt k.bits (n : Int) = BitVec.ofNat k.bits n := by simp
section runs
variable {P : Program} {w : World} {t : TypeId} {k k' : IntKind} {m n : Nat}
theorem r_and (hm : m ≤ top k) (hn : n ≤ top k) : (binOp .and t (.int k (m : Int)) (.int k (n : Int))).run P w = .ok (.int k ((m &&& n : Nat) : Int)) w := by
  have h1 : m &&& n ≤ top k := Nat.le_trans Nat.and_le_left hm
  have l1 := Nat.lt_of_le_of_lt hm (top_lt k)
  have l2 := Nat.lt_of_le_of_lt hn (top_lt k)
  simp only [binOp, ne_eq, not_true, if_false]
  unfold Op.intBits
  simp only [ofInt_nat]
  have e : (BitVec.ofNat k.bits m &&& BitVec.ofNat k.bits n).toNat = m &&& n := by
    rw [BitVec.toNat_and, BitVec.toNat_ofNat, BitVec.toNat_ofNat, Nat.mod_eq_of_lt l1, Nat.mod_eq_of_lt l2]
  rw [e, wrap_nat h1]; rfl
theorem r_xor (hm : m ≤ top k) (hn : n ≤ top k) (h1 : m ^^^ n ≤ top k) : (binOp .xor t (.int k (m : Int)) (.int k (n : Int))).run P w = .ok (.int k ((m ^^^ n : Nat) : Int)) w := by
  have l1 := Nat.lt_of_le_of_lt hm (top_lt k)
  have l2 := Nat.lt_of_le_of_lt hn (top_lt k)
  simp only [binOp, ne_eq, not_true, if_false]
  unfold Op.intBits
  simp only [ofInt_nat]
  have e : (BitVec.ofNat k.bits m ^^^ BitVec.ofNat k.bits n).toNat = m ^^^ n := by
    rw [BitVec.toNat_xor, BitVec.toNat_ofNat, BitVec.toNat_ofNat, Nat.mod_eq_of_lt l1, Nat.mod_eq_of_lt l2]
  rw [e, wrap_nat h1]; rfl
/-- m without the bits of n. -/
def clr (m n : Nat) : Nat := m ^^^ (m &&& n)
theorem clr_bit (m n i : Nat) : (clr m n).testBit i = (m.testBit i && !n.testBit i) := by
  simp only [clr, Nat.testBit_xor, Nat.testBit_and]
  cases m.testBit i <;> cases n.testBit i <;> rfl
theorem clr_le (m n : Nat) : clr m n ≤ m := by
  have : clr m n = m &&& clr m n := by
    apply Nat.eq_of_testBit_eq
    intro i
    rw [Nat.testBit_and, clr_bit]
    cases m.testBit i <;> simp
  rw [this]; exact Nat.and_le_left
theorem r_andNot (hm : m ≤ top k) (hn : n ≤ top k) : (binOp .andNot t (.int k (m : Int)) (.int k (n : Int))).run P w = .ok (.int k ((clr m n : Nat) : Int)) w := by
  have l1 := Nat.lt_of_le_of_lt hm (top_lt k)
  have l2 := Nat.lt_of_le_of_lt hn (top_lt k)
  simp only [binOp, ne_eq, not_true, if_false]
  unfold Op.intBits
  simp only [ofInt_nat]
  have e : (BitVec.ofNat k.bits m &&& ~~~BitVec.ofNat k.bits n).toNat = clr m n := by
    apply Nat.eq_of_testBit_eq
    intro i
    rw [clr_bit]
    by_cases hi : i < k.bits
    · simp [BitVec.testBit_toNat, BitVec.getLsbD_and, hi]
      rw [Nat.mod_eq_of_lt l2, Nat.sub_sub, Nat.add_comm 1 n, Nat.testBit_two_pow_sub_succ l2]; simp [hi]
    · have h1 : m.testBit i = false := Nat.testBit_lt_two_pow (Nat.lt_of_lt_of_le l1 (Nat.pow_le_pow_right (by omega) (by omega)))
      have h2 : (BitVec.ofNat k.bits m &&& ~~~BitVec.ofNat k.bits n).toNat.testBit i = false := Nat.testBit_lt_two_pow (Nat.lt_of_lt_of_le (BitVec.isLt _) (Nat.pow_le_pow_right (by omega) (by omega)))
      rw [h2, h1]; rfl
  rw [e, wrap_nat (Nat.le_trans (clr_le m n) hm)]; rfl
theorem r_shl (hn : n ≤ k.bits) (hr : m * 2 ^ n ≤ top k) : (binOp .shl t (.int k (m : Int)) (.int k' (n : Int))).run P w = .ok (.int k ((m * 2 ^ n : Nat) : Int)) w := by
  simp only [binOp]
  unfold Op.shift
  have h0 : ¬ ((n : Int) < 0) := by omega
  have h1 : min ((n : Int)).toNat k.bits = n := by simp; omega
  simp only [h0, if_false, h1]
  have e : ((m : Int) * 2 ^ n) = ((m * 2 ^ n : Nat) : Int) := by simp
  rw [e, wrap_nat hr]; rfl
theorem r_shr (hn : n ≤ k.bits) : (binOp .shr t (.int k (m : Int)) (.int k' (n : Int))).run P w = .ok (.int k ((m / 2 ^ n : Nat) : Int)) w := by
  simp only [binOp]
  unfold Op.shift
  have h0 : ¬ ((n : Int) < 0) := by omega
  have h1 : min ((n : Int)).toNat k.bits = n := by simp; omega
  simp only [h0, if_false, h1]
  have e : ((m : Int).fdiv (2 ^ n)) = ((m / 2 ^ n : Nat) : Int) := by
    rw [Int.fdiv_eq_ediv_of_nonneg _ (by exact Int.pow_nonneg (by omega))]
    simp
  rw [e]; rfl
theorem r_conv {src dst : TypeId} (hs : (P.underlying src).isSome = true) (hd : P.underlying dst = some (.int k')) (hn : n ≤ top k') : (convert src dst (.int k (n : Int))).run P w = .ok (.int k' (n : Int)) w := by
  obtain ⟨sd, hs'⟩ := Option.isSome_iff_exists.1 hs
  unfold convert
  simp only [Sem.run_bind, run_underlying hs', run_underlying hd, Result.andThen_ok]
  have : (Conv.intToInt k' (n : Int)).run P w = .ok (.int k' (n : Int)) w := by unfold Conv.intToInt; rw [wrap_nat hn]; rfl
  exact this
end runs
/-- A bit asked for: x>>i&1 == 1. -/
theorem bit_asked (m n : Nat) : (((m / 2 ^ n &&& 1 : Nat) : Int) = 1) ↔ m.testBit n = true := by
  rw [Nat.and_one_is_mod, Nat.testBit_eq_decide_div_mod_eq]
  generalize m / 2 ^ n = q
  simp only [decide_eq_true_eq]; omega
theorem xor_two : ∀ (i m : Nat), m.testBit i = true → (m ^^^ 2 ^ i) + 2 ^ i = m
  | 0, m, h => by
    have h1 : m % 2 = 1 := by simpa [Nat.testBit_zero] using h
    have a := Nat.xor_div_two (a := m) (b := 2 ^ 0)
    have b := Nat.xor_mod_two_eq_one (a := m) (b := 2 ^ 0)
    have c : (m ^^^ 2 ^ 0) % 2 = 0 := by
      have : ¬ ((m ^^^ 2 ^ 0) % 2 = 1) := fun hh => by rw [b] at hh; simp [h1] at hh
      omega
    simp at a c ⊢
    omega
  | i + 1, m, h => by
    rw [Nat.testBit_succ] at h
    have ih := xor_two i (m / 2) h
    have a := Nat.xor_div_two (a := m) (b := 2 ^ (i + 1))
    have b := Nat.xor_mod_two_eq_one (a := m) (b := 2 ^ (i + 1))
    have e : 2 ^ (i + 1) / 2 = 2 ^ i := by rw [Nat.pow_succ]; omega
    have e2 : 2 ^ (i + 1) % 2 = 0 := by rw [Nat.pow_succ]; omega
    rw [e] at a
    have e3 : 2 ^ (i + 1) = 2 * 2 ^ i := by rw [Nat.pow_succ]; omega
    have c : (m ^^^ 2 ^ (i + 1)) % 2 = m % 2 := by
      rcases Nat.mod_two_eq_zero_or_one m with h1 | h1
      · have : ¬ ((m ^^^ 2 ^ (i + 1)) % 2 = 1) := fun hh => by rw [b] at hh; omega
        omega
      · have : ((m ^^^ 2 ^ (i + 1)) % 2 = 1) := by rw [b]; omega
        omega
    omega
theorem clr_two {m i : Nat} (h : m.testBit i = true) : clr m (1 * 2 ^ i) = m - 2 ^ i := by
  have h1 : m &&& 2 ^ i = 2 ^ i := by
    apply Nat.eq_of_testBit_eq
    intro j
    rw [Nat.testBit_and, Nat.testBit_two_pow]
    by_cases hj : i = j
    · subst hj; simp [h]
    · simp [hj]
  have := xor_two i m h
  unfold clr
  rw [Nat.one_mul, h1]
  omega

section ops
variable {r : Option Nat} {P : Program} {ops : Array Oper} {Q : Exit → Act → World → Prop} {N : Nat} {σ : Nat → Value} {ds : List Deferred} {w : World} {rest : List Oper}
variable {gd : Option (Nat × Bool)} {d : Nat} {ty : TypeId} {pos : String} {after : Array Edge} {t t' : TypeId} {x y : Operand} {k k' : IntKind} {m n : Nat} {J : World → Prop} {z i : Nat} {π : List (Nat × Bool)}
theorem s_and (hx : ev N σ x = .int k (m : Int)) (hy : ev N σ y = .int k (n : Int)) (hm : m ≤ top k) (hn : n ≤ top k) (h : WL r P ops Q rest (mk N (upd σ d (.int k ((m &&& n : Nat) : Int))) ds) w) : WL r P ops Q (⟨some d, .binOp .and t x y t', ty, pos, after, none⟩ :: rest) (mk N σ ds) w :=
  l_val (by intro c e; cases e) (bin_run hx hy rfl (r_and hm hn)) h
theorem s_shl (hx : ev N σ x = .int k (m : Int)) (hy : ev N σ y = .int k' (n : Int)) (hn : n ≤ k.bits) (hr : m * 2 ^ n ≤ top k) (h : WL r P ops Q rest (mk N (upd σ d (.int k ((m * 2 ^ n : Nat) : Int))) ds) w) : WL r P ops Q (⟨some d, .binOp .shl t x y t', ty, pos, after, none⟩ :: rest) (mk N σ ds) w :=
  l_val (by intro c e; cases e) (bin_run hx hy rfl (r_shl hn hr)) h
theorem s_shr (hx : ev N σ x = .int k (m : Int)) (hy : ev N σ y = .int k' (n : Int)) (hn : n ≤ k.bits) (h : WL r P ops Q rest (mk N (upd σ d (.int k ((m / 2 ^ n : Nat) : Int))) ds) w) : WL r P ops Q (⟨some d, .binOp .shr t x y t', ty, pos, after, none⟩ :: rest) (mk N σ ds) w :=
  l_val (by intro c e; cases e) (bin_run hx hy rfl (r_shr hn)) h
theorem s_conv {src dst : TypeId} (hs : (P.underlying src).isSome = true) (hd : P.underlying dst = some (.int k')) (hx : ev N σ x = .int k (n : Int)) (hn : n ≤ top k') (h : WL r P ops Q rest (mk N (upd σ d (.int k' (n : Int))) ds) w) : WL r P ops Q (⟨some d, .convert src dst x, ty, pos, after, none⟩ :: rest) (mk N σ ds) w :=
  l_val (by intro c e; cases e) (by simp [execOp, hx, r_conv hs hd hn]) h
theorem d_andNot (hi : ops[i]? = some ⟨some d, .binOp .andNot t x y t', ty, pos, after, gd⟩) (hx : ev N σ x = .int k (m : Int)) (hy : ev N σ y = .int k (n : Int)) (hm : m ≤ top k) (hn : n ≤ top k) (h : WJ r P ops J z Q π (mk N (upd σ d (.int k ((clr m n : Nat) : Int))) ds) w) (hgd : GOK ops (ev N σ) gd := by first | exact trivial | exact ⟨_, rfl, rfl⟩) : WJ r P ops J z Q ((i, true) :: π) (mk N σ ds) w :=
  d_bin hi hx hy rfl (fun w' => r_andNot hm hn) h hgd
theorem d_shl (hi : ops[i]? = some ⟨some d, .binOp .shl t x y t', ty, pos, after, gd⟩) (hx : ev N σ x = .int k (m : Int)) (hy : ev N σ y = .int k' (n : Int)) (hn : n ≤ k.bits) (hr : m * 2 ^ n ≤ top k) (h : WJ r P ops J z Q π (mk N (upd σ d (.int k ((m * 2 ^ n : Nat) : Int))) ds) w) (hgd : GOK ops (ev N σ) gd := by first | exact trivial | exact ⟨_, rfl, rfl⟩) : WJ r P ops J z Q ((i, true) :: π) (mk N σ ds) w :=
  d_bin hi hx hy rfl (fun w' => r_shl hn hr) h hgd
theorem d_conv {src dst : TypeId} (hi : ops[i]? = some ⟨some d, .convert src dst x, ty, pos, after, gd⟩) (hs : (P.underlying src).isSome = true) (hd : P.underlying dst = some (.int k')) (hx : ev N σ x = .int k (n : Int)) (hn : n ≤ top k') (h : WJ r P ops J z Q π (mk N (upd σ d (.int k' (n : Int))) ds) w) (hgd : GOK ops (ev N σ) gd := by first | exact trivial | exact ⟨_, rfl, rfl⟩) : WJ r P ops J z Q ((i, true) :: π) (mk N σ ds) w :=
  d_val hi (fun w' _ => by simp [execOp, hx, r_conv hs hd hn]) h hgd
end ops
end Go.Proofs.YtifbgpkjbciblaaDoor.Sal
end
section
/- The types of this translation, and the functions' numbers. -/
set_option maxRecDepth 100000
namespace Go.Proofs.YtifbgpkjbciblaaDoor.Sal
set_option linter.all false
open Go.RowKit
theorem inf_int : (Tryd.prog.info? 3).map (fun i => (i.zero, i.size, i.bytes)) = some (some (.int .i64 0), 1, 8) := by kernel_rfl
theorem inf_ints : (Tryd.prog.info? 30).map (fun i => (i.zero, i.size, i.bytes)) = some (some (.slice none 0 0), 1, 24) := by kernel_rfl
theorem ty_int : Ty1 Tryd.prog 3 := ⟨let ⟨i, h, _, hs, _⟩ := info_parts inf_int; ⟨i, h, hs⟩, _, Tryd.underlying3, rfl⟩
theorem ty_ints : Ty1 Tryd.prog 30 := ⟨let ⟨i, h, _, hs, _⟩ := info_parts inf_ints; ⟨i, h, hs⟩, _, Tryd.underlying30, rfl⟩
theorem in_int : InfoOf Tryd.prog 3 (.int .i64 0) := ⟨let ⟨i, h, hz, hs, hb⟩ := info_parts inf_int; ⟨i, h, hz, hs, by omega⟩, rfl⟩
theorem in_ints : InfoOf Tryd.prog 30 (.slice none 0 0) := ⟨let ⟨i, h, hz, hs, hb⟩ := info_parts inf_ints; ⟨i, h, hz, hs, by omega⟩, rfl⟩
theorem sl_ints : SlT Tryd.prog 30 3 := Tryd.underlying30
theorem sl_rows : SlT Tryd.prog 22 30 := Tryd.underlying22
theorem mixed : Tryd.prog.follows .mixedOrders = true := by kernel_rfl
end Go.Proofs.YtifbgpkjbciblaaDoor.Sal
end
section
/- weights.most. -/
set_option maxRecDepth 100000
namespace Go.Proofs.YtifbgpkjbciblaaDoor.Sal
open Go.RowKit
attribute [local irreducible] Go.Code.wpIn Go.wpListIn Ct Ints Rows Sl At Rw
set_option linter.all false

def maxL (m : Int) : List Int → Int
  | [] => m
  | x :: l => maxL (if m < x then x else m) l
theorem maxL_snoc (m : Int) (l : List Int) (x : Int) : maxL m (l ++ [x]) = if maxL m l < x then x else maxL m l := by
  induction l generalizing m with
  | nil => rfl
  | cons y l ih => exact ih _
theorem take_snocD (l : List Int) (k : Nat) (h : k < l.length) : l.take (k + 1) = l.take k ++ [l.getD k 0] := by
  rw [List.take_succ_eq_append_getElem h]; simp [h]

theorem ok_most : CallOK Tryd.prog 22 := callOK Tryd.func22 (by kernel_rfl) rfl
theorem most_ct (m : Int) (v : Value) (l : List Int) (w : World) (hl : Ints w v l) :
    Ct Tryd.prog 22 #[.int .i64 m, v] w fun u w' => u = .int .i64 (maxL m l) ∧ w' = w := by
  have hlen := hl.len
  refine enter (N := 19) (vs := [.int .i64 m, v]) Tryd.func22 rfl rfl rfl ?_
  repeat (first | (refine isO ?_; first | refine s_move ?_ | refine s_assign ?_ | (refine isCall ?_; refine s_lenI sl_ints rfl (by assumption) ?_)) | (refine isC ?_; first | refine c_sr ?_ | refine c_seq ?_ | refine c_block ?_) | (refine l_th ?_))
  refine c_loop (γ := Nat) 261697 (fun k => [(9, .int .i64 (k : Int)), (0, .int .i64 (maxL m (l.take k)))]) (fun k w' => k ≤ l.length ∧ w' = w) (fun k => l.length - k) 0 ⟨rfl, rfl, trivial⟩ ⟨Nat.zero_le _, rfl⟩ ?_
  rintro k ρ w' ⟨hk, rfl⟩
  repeat (first | (refine isO ?_; (refine isBin ?_; refine s_lss rfl rfl ?_)) | (refine isC ?_; first | refine c_sr ?_ | refine c_seq ?_) | (refine l_th ?_))
  refine c_ifd rfl (fun h => ?_) (fun h => ?_)
  · have hk' : k < l.length := by omega
    have ht := take_snocD l k hk'
    repeat (first | (refine isO ?_; first | refine s_move ?_ | refine s_assign ?_ | (refine isBin ?_; refine s_gtr rfl rfl ?_) | (refine isIA ?_; refine s_ixI sl_ints ty_int rfl rfl rfl (by assumption) (by omega) ?_; intro _)) | (refine isC ?_; first | refine c_sr ?_ | refine c_th ?_ | refine c_seq ?_ | refine c_block ?_) | (refine l_th ?_))
    refine c_ifd rfl (fun h2 => ?_) (fun h2 => ?_)
    · repeat (first | (refine isO ?_; first | refine s_move ?_ | refine s_assign ?_ | (refine isBin ?_; refine s_inc rfl (by omega) ?_)) | (refine isC ?_; refine c_region ?_) | (first | refine l_th ?_ | refine l_nil ?_))
      refine loop_end (k + 1) (by (repeat (first | exact agree_refl _ _ | refine agree_upd rfl ?_ | refine agree_ext rfl ?_ | refine agree_mask rfl ?_))) ⟨rfl, vint ?_, trivial⟩ ⟨hk', rfl⟩ (by omega)
      rw [ht, maxL_snoc, if_pos h2]
    · repeat (first | (refine isO ?_; first | refine s_move ?_ | (refine isBin ?_; refine s_inc rfl (by omega) ?_)) | (refine isC ?_; first | refine c_region ?_ | refine c_skip ?_) | (refine l_th ?_))
      refine loop_end (k + 1) (by (repeat (first | exact agree_refl _ _ | refine agree_upd rfl ?_ | refine agree_ext rfl ?_ | refine agree_mask rfl ?_))) ⟨rfl, vint ?_, trivial⟩ ⟨hk', rfl⟩ (by omega)
      rw [ht, maxL_snoc, if_neg h2]
  · repeat (first | (refine isO ?_; first | refine s_move ?_ | refine s_assign ?_) | (refine isC ?_; first | refine c_sr ?_ | refine c_ret ?_ | refine c_exit ?_) | (refine l_th ?_))
    exact ret1 rfl rfl ⟨vint (congrArg (maxL m) (List.take_of_length_le (by omega))), rfl⟩
end Go.Proofs.YtifbgpkjbciblaaDoor.Sal
end
section
/- Core8: how arguments read; the step from a law's contract to its row. -/
set_option maxRecDepth 100000
namespace Go.Proofs.YtifbgpkjbciblaaDoor.Sal
set_option linter.all false
open Go.RowKit Go.Deep Go.ChangeShapes Go.WideShapes Go.ChangeAt
section
variable {H : Type} {enc : TypeId × Value → H} {P : Program} {w : World} {base : Nat} {spare : Nat → Bool} {held : Bool} {fuel : Nat} {x : DataW H × List MemPlace}
theorem read_sl {t e : TypeId} {v : Value} (ht : P.underlying t = some (.slice e)) (ce : P.cellsOf e = 1) (cb : 1 ≤ P.bytesOf e) (h : DataW.trod enc P w base spare held fuel t [v] = some x) (hw : ∀ n ∈ x.1.weights P t, n ≤ reachBytes) :
    ∃ vs : List Value, Sl w v vs ∧ ∀ (i : Nat) (u : Value), vs[i]? = some u → ∃ n d p, DataW.trod enc P w base spare held n e [u] = some (d, p) ∧ ∀ b ∈ d.weights P e, b ≤ reachBytes := by
  rcases open_slice1 ht ce h with ⟨hv, hx⟩ | ⟨a, len, cap, m, n, V, D, Pl, hv, _, hl, hm, hmm, hx, hel⟩
  · simp at hv; subst hv
    exact ⟨[], Sl.nil w, fun i u h => by simp at h⟩
  · simp at hv; subst hv
    have hlm : len ≤ m := by rw [hmm]; split <;> omega
    subst hx
    have hlen : len ≤ 140737488355328 := by
      have h1 := hw ((((List.range len).map D).length + ((List.range (m - len)).map fun j => D (len + j)).length) * P.bytesOf e) (by simp [DataW.weights, ht])
      simp only [List.length_map, List.length_range] at h1
      have h2 : len * 1 ≤ (len + (m - len)) * P.bytesOf e := Nat.mul_le_mul (by omega) cb
      have h3 := reachBytes_lt
      omega
    refine ⟨(List.range len).map V, ⟨by simp; exact hlen, some a, len, cap, rfl, by simp, hl, fun i u hi => ?_⟩, fun i u hi => ?_⟩
    · rw [List.getElem?_map] at hi
      obtain ⟨j, hj, rfl⟩ := Option.map_eq_some_iff.1 hi
      obtain ⟨hlt, rfl⟩ := List.getElem?_eq_some_iff.1 hj
      simp only [List.getElem_range]
      simp only [List.length_range] at hlt
      exact ⟨a, rfl, (hel i (by omega)).1⟩
    · rw [List.getElem?_map] at hi
      obtain ⟨j, hj, rfl⟩ := Option.map_eq_some_iff.1 hi
      obtain ⟨hlt, rfl⟩ := List.getElem?_eq_some_iff.1 hj
      simp only [List.getElem_range]
      simp only [List.length_range] at hlt
      refine ⟨n, D i, Pl i, (hel i (by omega)).2, fun b hb => hw b ?_⟩
      have hall : ∀ (L : List (DataW H)) (d : DataW H), d ∈ L → ∀ b ∈ d.weights P e, b ∈ DataW.weightsAll P e L := by
        intro L
        induction L with
        | nil => intro d hd; cases hd
        | cons d0 L ih =>
          intro d hd b hb
          simp only [DataW.weightsAll, List.mem_append]
          rcases List.mem_cons.1 hd with rfl | hd
          · exact .inl hb
          · exact .inr (ih d hd b hb)
      simp only [DataW.weights, ht, List.mem_cons, List.mem_append]
      exact .inr (.inl (hall _ (D i) (List.mem_map.2 ⟨i, List.mem_range.2 hlt, rfl⟩) b hb))
theorem in64_of_wf {n : Int} (h : (Lit.int .i64 n).wf = true) : In64 n := by
  simp [Lit.wf, IntKind.min, IntKind.max, IntKind.signed, IntKind.bits] at h
  exact ⟨by omega, by omega⟩
theorem vals_ints {k : IntKind} : ∀ (vs : List Value), (∀ (i : Nat) (u : Value), vs[i]? = some u → ∃ n : Int, u = .int k n ∧ (Lit.int k n).wf = true) → ∃ l : List Int, vs = l.map (Value.int k) ∧ ∀ n ∈ l, (Lit.int k n).wf = true
  | [], _ => ⟨[], rfl, fun n h => by cases h⟩
  | v :: vs, h => by
    obtain ⟨n, rfl, hn⟩ := h 0 v rfl
    obtain ⟨l, rfl, hl⟩ := vals_ints vs fun i u hu => h (i + 1) u (by simpa using hu)
    exact ⟨n :: l, rfl, fun m hm => by (rcases List.mem_cons.1 hm with h | h; (subst h; exact hn); exact hl m h)⟩
theorem read_intsK {k : IntKind} {t e : TypeId} {v : Value} (ht : P.underlying t = some (.slice e)) (he : P.underlying e = some (.int k)) (ce : P.cellsOf e = 1) (cb : 1 ≤ P.bytesOf e) (h : DataW.trod enc P w base spare held fuel t [v] = some x) (hw : ∀ n ∈ x.1.weights P t, n ≤ reachBytes) :
    ∃ l : List Int, Sl w v (l.map (Value.int k)) ∧ ∀ n ∈ l, (Lit.int k n).wf = true := by
  obtain ⟨vs, hs, hel⟩ := read_sl ht ce cb h hw
  obtain ⟨l, rfl, hl⟩ := vals_ints (k := k) vs fun i u hu => by
    obtain ⟨n, d, p, hd, _⟩ := hel i u hu
    obtain ⟨m, hm, _, hwf⟩ := DataW.trod_int he hd
    simp at hm; exact ⟨m, hm, hwf⟩
  exact ⟨l, hs, hl⟩
theorem read_ints {t e : TypeId} {v : Value} (ht : P.underlying t = some (.slice e)) (he : P.underlying e = some (.int .i64)) (ce : P.cellsOf e = 1) (cb : 1 ≤ P.bytesOf e) (h : DataW.trod enc P w base spare held fuel t [v] = some x) (hw : ∀ n ∈ x.1.weights P t, n ≤ reachBytes) :
    ∃ l : List Int, Ints w v l ∧ ∀ n ∈ l, In64 n := by
  obtain ⟨l, hs, hl⟩ := read_intsK ht he ce cb h hw
  exact ⟨l, hs, fun n hn => in64_of_wf (hl n hn)⟩
theorem vals_rows {w : World} : ∀ (vs : List Value), (∀ (i : Nat) (u : Value), vs[i]? = some u → ∃ l, Ints w u l ∧ ∀ n ∈ l, In64 n) → ∃ g : List (List Int), vs.length = g.length ∧ (∀ (i : Nat) (u : Value) (l : List Int), vs[i]? = some u → g[i]? = some l → Ints w u l) ∧ ∀ l ∈ g, ∀ n ∈ l, In64 n
  | [], _ => ⟨[], rfl, fun i u l h => by simp at h, fun l h => by cases h⟩
  | v :: vs, h => by
    obtain ⟨l0, h0, hw0⟩ := h 0 v rfl
    obtain ⟨g, hg1, hg2, hg3⟩ := vals_rows vs fun i u hu => h (i + 1) u (by simpa using hu)
    refine ⟨l0 :: g, by simp [hg1], fun i u l hu hl => ?_, fun l hl => ?_⟩
    · cases i with
      | zero => simp at hu hl; subst hu; subst hl; exact h0
      | succ i => exact hg2 i u l (by simpa using hu) (by simpa using hl)
    · rcases List.mem_cons.1 hl with rfl | hl
      · exact hw0
      · exact hg3 l hl
theorem read_rows {t q e : TypeId} {v : Value} (ht : P.underlying t = some (.slice q)) (hq : P.underlying q = some (.slice e)) (he : P.underlying e = some (.int .i64)) (cq : P.cellsOf q = 1) (ce : P.cellsOf e = 1) (bq : 1 ≤ P.bytesOf q) (be : 1 ≤ P.bytesOf e)
    (h : DataW.trod enc P w base spare held fuel t [v] = some x) (hw : ∀ n ∈ x.1.weights P t, n ≤ reachBytes) : ∃ g : List (List Int), Rows w v g ∧ ∀ l ∈ g, ∀ n ∈ l, In64 n := by
  obtain ⟨vs, hs, hel⟩ := read_sl ht cq bq h hw
  obtain ⟨g, hg1, hg2, hg3⟩ := vals_rows (w := w) vs fun i u hu => by
    obtain ⟨n, d, p, hd, hb⟩ := hel i u hu
    exact read_ints hq he ce be hd hb
  exact ⟨g, ⟨vs, hs, hg1, hg2⟩, hg3⟩
end
/-- Of an argument in the list of all: how heavy it may be. -/
theorem weigh {H : Type} {P : Program} {ts : List TypeId} {ds : List (DataW H)} (h : (DataW.weightsEach P ts ds).all (· ≤ reachBytes) = true) {j : Nat} {t : TypeId} {d : DataW H} (ht : ts[j]? = some t) (hd : ds[j]? = some d) : ∀ n ∈ d.weights P t, n ≤ reachBytes := fun n hn => by
  have := List.all_eq_true.1 h n (DataW.weights_mem_each ht hd n hn)
  simpa using this
end Go.Proofs.YtifbgpkjbciblaaDoor.Sal
end
section
/- Core9: rows built by append, copies of one's own, parameters in boxes. -/
set_option maxRecDepth 100000
namespace Go.Proofs.YtifbgpkjbciblaaDoor.Sal
set_option linter.all false
open Go.RowKit

section ops
variable {r : Option Nat} {P : Program} {ops : Array Oper} {Q : Exit → Act → World → Prop} {N : Nat} {σ : Nat → Value} {ds : List Deferred} {w : World} {rest : List Oper}
variable {d d1 d2 : Nat} {ty ty2 : TypeId} {pos pos2 : String} {after after2 : Array Edge} {T E T' : TypeId} {x i y : Operand}
theorem s_mk0 {ti : TypeInfo} {z : Value} {n : Nat} (hT : SlT P T E) (hi : P.info? E = some ti) (hz : ti.zero = some z) (hs : ti.size = 1) (hzc : z.cells = #[z]) (hb : ti.bytes ≤ 64) (h0 : ev N σ x = .int .i64 0) (hx : ev N σ y = .int .i64 (n : Int)) (hn : n ≤ 1000000)
    (h : ∀ b w', b = w.heap.size → Rw w' E (.slice (some ⟨b, 0, none⟩) 0 n) [] → Ex w w' → w'.heap.size = b + 1 → WL r P ops Q rest (mk N (upd σ d (.slice (some ⟨b, 0, none⟩) 0 n)) ds) w') :
    WL r P ops Q (⟨some d, .makeSlice T x y, ty, pos, after, none⟩ :: rest) (mk N σ ds) w := by
  have hbytes : (ti.bytes : Int) * (n : Int) ≤ 281474976710656 := by
    have h1 : ti.bytes * n ≤ 64 * 1000000 := Nat.mul_le_mul hb hn
    have h2 : ((ti.bytes * n : Nat) : Int) ≤ 64000000 := by omega
    rw [Int.natCast_mul] at h2; omega
  have hr := run_make (P := P) w T E ti z hT hi hz .i64 .i64 0 n (by omega) (by omega) hbytes (by omega)
  have hm : madeCells z.cells ((n : Int).toNat * ti.size) = (List.replicate n z).toArray := by
    rw [hs, hzc]; simp [madeCells]
    apply Array.ext
    · simp
    · intro j h1 h2; simp [Nat.mod_one]
  rw [hm] at hr
  simp only [Int.toNat_natCast] at hr
  have hA := at_new w (List.replicate n z) E
  have hR := hA.rw (n := 0) (c := n) (by simp) (Nat.zero_le _) (by omega)
  refine l_val (w' := w.alloc (.cells (List.replicate n z).toArray E)) (by intro c e; cases e) ?_ (h _ _ rfl (by simpa using hR) (Ex.alloc w _) (size_new w _))
  simp [execOp, h0, hx, hr]
/-- A load of what lies in a block, told of in an older world. -/
theorem s_ldO {w0 : World} {b n : Nat} {B : TypeId} {cs : List Value} {u : Value} (hE : Ty1 P E) (hA : At w0 b B cs) (hw : Ex w0 w) (hx : ev N σ x = .pointer (some ⟨b, n, none⟩)) (hc : cs[n]? = some u) (h : WL r P ops Q rest (mk N (upd σ d u) ds) w) :
    WL r P ops Q (⟨some d, .load E x, ty, pos, after, none⟩ :: rest) (mk N σ ds) w := s_ldA hE hx (hA.ex hw) hc h
theorem s_iaI {v : Value} {l : List Int} {k : IntKind} {n : Nat} (hT : SlT P T E) (hE : Ty1 P E) (hx : ev N σ x = v) (hi : ev N σ i = .int k (n : Int)) (hs : Ints w v l) (hn : n < l.length)
    (h : ∀ ad, w.cell? ad = some (.int .i64 (l.getD n 0)) → WL r P ops Q rest (mk N (upd σ d (.pointer (some ad))) ds) w) : WL r P ops Q (⟨some d, .indexAddr T x i, ty, pos, after, none⟩ :: rest) (mk N σ ds) w :=
  s_ia hT hE hx hi hs (by simp [hn]) h
theorem s_iaR {w0 : World} {v : Value} {g : List (List Int)} {k : IntKind} {n : Nat} (hT : SlT P T E) (hE : Ty1 P E) (hs : Rows w0 v g) (hw : Ex w0 w) (hx : ev N σ x = v) (hi : ev N σ i = .int k (n : Int)) (hn : n < g.length)
    (h : ∀ ad u, w.cell? ad = some u → Ints w u (g.getD n []) → WL r P ops Q rest (mk N (upd σ d (.pointer (some ad))) ds) w) : WL r P ops Q (⟨some d, .indexAddr T x i, ty, pos, after, none⟩ :: rest) (mk N σ ds) w := by
  obtain ⟨vs, u, hs', hu, hI⟩ := hs.row hn
  exact s_ia hT hE hx hi (hs'.ex hw) hu fun ad hc => h ad u hc (hI.ex hw)
end ops

section draws
variable {r : Option Nat} {P : Program} {ops : Array Oper} {Q : Exit → Act → World → Prop} {N : Nat} {σ : Nat → Value} {ds : List Deferred} {w : World} {J : World → Prop} {z i d : Nat} {gd : Option (Nat × Bool)} {π : List (Nat × Bool)} {ty : TypeId} {pos : String} {after : Array Edge} {x y : Operand}
theorem d_max {a c : Int} {k : IntKind} {ats : Array TypeId} (hi : ops[i]? = some ⟨some d, .call { callee := .builtin .max, args := #[x, y], argTypes := ats }, ty, pos, after, gd⟩) (hx : ev N σ x = .int k a) (hy : ev N σ y = .int k c) (h : WJ r P ops J z Q π (mk N (upd σ d (.int k (if a < c then c else a))) ds) w)
    (hgd : GOK ops (ev N σ) gd := by first | exact trivial | exact ⟨_, rfl, rfl⟩) : WJ r P ops J z Q ((i, true) :: π) (mk N σ ds) w :=
  d_val hi (fun w' _ => by simp [execOp, resolve, invoke, builtin, hx, hy, Go.run_max_int2]) h hgd
end draws

theorem Sl.kept {w w' : World} {v : Value} {vs : List Value} {o : Option Nat} (h : Sl w v vs) (hg : w.grownBy w' o) (hne : vs = [] ∨ v.ownBlock ≠ o) : Sl w' v vs := by
  obtain ⟨hm, a, n, c, rfl, hn, hnc, hc⟩ := h
  refine ⟨hm, a, n, c, rfl, hn, hnc, fun i u hi => ?_⟩
  obtain ⟨ad, rfl, hcell⟩ := hc i u hi
  have hne' : some ad.block ≠ o := by
    rcases hne with rfl | h
    · simp at hi
    · exact h
  refine ⟨ad, rfl, ?_⟩
  have hb : (ad.add i).block = ad.block := by unfold Addr.add; split <;> rfl
  have hlt := block_lt_of_cell hcell
  have := hg.block (ad.add i).block hlt (by rw [hb]; exact hne')
  unfold World.cell? at hcell ⊢
  rw [this]; exact hcell
theorem Ints.kept {w w' : World} {v : Value} {l : List Int} {o : Option Nat} (h : Ints w v l) (hg : w.grownBy w' o) (hne : l = [] ∨ v.ownBlock ≠ o) : Ints w' v l := Sl.kept h hg (hne.imp (by rintro rfl; rfl) id)
theorem Sl.block {w : World} {v : Value} {vs : List Value} (h : Sl w v vs) : vs = [] ∨ ∃ b, v.ownBlock = some b ∧ b < w.heap.size := by
  obtain ⟨_, a, n, c, rfl, hn, hnc, hc⟩ := h
  cases vs with
  | nil => exact .inl rfl
  | cons u vs =>
    obtain ⟨ad, rfl, hcell⟩ := hc 0 u rfl
    exact .inr ⟨ad.block, rfl, block_lt_of_cell hcell⟩
theorem Ints.block {w : World} {v : Value} {l : List Int} (h : Ints w v l) : l = [] ∨ ∃ b, v.ownBlock = some b ∧ b < w.heap.size := by
  rcases Sl.block h with h | h
  · exact .inl (by simpa using h)
  · exact .inr h

theorem Rows.rowlen {w : World} {v : Value} {g : List (List Int)} (h : Rows w v g) (i : Nat) : (g.getD i []).length ≤ 140737488355328 := by
  by_cases hi : i < g.length
  · obtain ⟨vs, u, _, _, hI⟩ := h.row hi
    exact hI.len
  · simp [hi]
/-- Rows that are being put together by append; E the type of a row. -/
def Bld (w : World) (E : TypeId) (v : Value) (g : List (List Int)) : Prop :=
  ∃ vs, Rw w E v vs ∧ vs.length = g.length ∧ (∀ u ∈ vs, u.oneCell' = true) ∧ ∀ (i : Nat) (u : Value) (l : List Int), vs[i]? = some u → g[i]? = some l → Ints w u l ∧ (l = [] ∨ u.ownBlock ≠ v.ownBlock)
theorem Bld.nil (w : World) (E : TypeId) : Bld w E (.slice none 0 0) [] := ⟨[], Rw.nil w E, rfl, by simp, fun i u l h => by simp at h⟩
theorem Bld.ex {w w' : World} {E : TypeId} {v : Value} {g : List (List Int)} (h : Bld w E v g) (hx : Ex w w') : Bld w' E v g := by
  obtain ⟨vs, h1, h2, h3, h4⟩ := h
  exact ⟨vs, h1.ex hx, h2, h3, fun i u l hu hl => ⟨(h4 i u l hu hl).1.ex hx, (h4 i u l hu hl).2⟩⟩
theorem Bld.lt {w : World} {E : TypeId} {v : Value} {g : List (List Int)} (h : Bld w E v g) : ∀ k, v.ownBlock = some k → k < w.heap.size := by
  obtain ⟨vs, h1, _⟩ := h; exact h1.lt
theorem Bld.rows {w : World} {E : TypeId} {v : Value} {g : List (List Int)} (h : Bld w E v g) (hm : g.length ≤ 140737488355328) : Rows w v g := by
  obtain ⟨vs, h1, h2, h3, h4⟩ := h
  exact ⟨vs, h1.sl (by omega), h2, fun i u l hu hl => (h4 i u l hu hl).1⟩
theorem Ints.one {w : World} {v : Value} {l : List Int} (h : Ints w v l) : v.oneCell' = true := by
  obtain ⟨a, c, rfl⟩ := h.form; rfl
section ops2
variable {r : Option Nat} {P : Program} {ops : Array Oper} {Q : Exit → Act → World → Prop} {N : Nat} {σ : Nat → Value} {ds : List Deferred} {w : World} {rest : List Oper}
variable {d d1 d2 : Nat} {ty ty2 : TypeId} {pos pos2 : String} {after after2 : Array Edge} {T E T' : TypeId} {x i y : Operand}
end ops2

/-! ### Copies of one's own -/
abbrev sv (b n c : Nat) : Value := .slice (some ⟨b, 0, none⟩) n c
/-- A list of numbers in a block of its own. -/
def OwnI (w : World) (E : TypeId) (b c : Nat) (l : List Int) : Prop := ∃ sp, At w b E (l.map (Value.int .i64) ++ sp) ∧ l.length ≤ c ∧ l.length ≤ 100000
theorem OwnI.ints {w : World} {E : TypeId} {b c : Nat} {l : List Int} (h : OwnI w E b c l) : Ints w (sv b l.length c) l := by
  obtain ⟨sp, hA, hc, hm⟩ := h
  have := hA.sl (n := l.length) (c := c) (by simp) (by omega) hc
  rwa [List.take_left' (by simp)] at this
theorem OwnI.ex {w w' : World} {E : TypeId} {b c : Nat} {l : List Int} (h : OwnI w E b c l) (hx : Ex w w') : OwnI w' E b c l := by
  obtain ⟨sp, hA, hc⟩ := h; exact ⟨sp, hA.ex hx, hc⟩
theorem OwnI.grown {w w' : World} {E : TypeId} {b c : Nat} {l : List Int} {o : Option Nat} (h : OwnI w E b c l) (hg : w.grownBy w' o) (hne : o ≠ some b) : OwnI w' E b c l := by
  obtain ⟨sp, hA, hc⟩ := h; exact ⟨sp, hA.grown hg hne, hc⟩
theorem OwnI.lt {w : World} {E : TypeId} {b c : Nat} {l : List Int} (h : OwnI w E b c l) : b < w.heap.size := by
  obtain ⟨sp, hA, hc⟩ := h; exact hA.lt
section ops3
variable {r : Option Nat} {P : Program} {ops : Array Oper} {Q : Exit → Act → World → Prop} {N : Nat} {σ : Nat → Value} {ds : List Deferred} {w : World} {rest : List Oper}
variable {d d1 d2 : Nat} {ty ty2 : TypeId} {pos pos2 : String} {after after2 : Array Edge} {T E T' : TypeId} {x i y : Operand}
theorem s_stO {b n c : Nat} {B : TypeId} {l : List Int} {q : Int} (hE : Ty1 P E) (hx : ev N σ x = .pointer (some ⟨b, n, none⟩)) (hy : ev N σ y = .int .i64 q) (hO : OwnI w B b c l) (hn : n < l.length)
    (h : ∀ w', OwnI w' B b c (l.set n q) → w.grownBy w' (some b) → WL r P ops Q rest (mk N σ ds) w') :
    WL r P ops Q (⟨none, .store E x y, ty, pos, after, none⟩ :: rest) (mk N σ ds) w := by
  obtain ⟨sp, hA, hc, hm⟩ := hO
  refine s_stA hE hx hy rfl hA (by simp; omega) ?_
  intro w' hA' hg
  refine h w' ⟨sp, ?_, by simpa using hc, by simpa using hm⟩ hg
  rw [List.set_append_left _ _ (by simpa using hn), ← List.map_set] at hA'
  exact hA'
end ops3
/-- Lists of numbers, each and all in blocks of their own. -/
def Mat (w : World) (T E : TypeId) (b c : Nat) (rb rc : Nat → Nat) (g : List (List Int)) : Prop :=
  (∃ sp, At w b T ((List.range g.length).map (fun i => sv (rb i) (g.getD i []).length (rc i)) ++ sp)) ∧ g.length ≤ c ∧ g.length ≤ 100000 ∧ (∀ i, i < g.length → OwnI w E (rb i) (rc i) (g.getD i []) ∧ rb i ≠ b) ∧ ∀ i j, i < j → j < g.length → rb i < rb j
theorem Mat.ex {w w' : World} {T E : TypeId} {b c : Nat} {rb rc : Nat → Nat} {g : List (List Int)} (h : Mat w T E b c rb rc g) (hx : Ex w w') : Mat w' T E b c rb rc g := by
  obtain ⟨⟨sp, h1⟩, h2, h3, h4, h5⟩ := h
  exact ⟨⟨sp, h1.ex hx⟩, h2, h3, fun i hi => ⟨(h4 i hi).1.ex hx, (h4 i hi).2⟩, h5⟩
theorem Mat.rows {w : World} {T E : TypeId} {b c : Nat} {rb rc : Nat → Nat} {g : List (List Int)} (h : Mat w T E b c rb rc g) : Rows w (sv b g.length c) g := by
  obtain ⟨⟨sp, h1⟩, h2, h3, h4, h5⟩ := h
  have hs := h1.sl (n := g.length) (c := c) (by simp) (by omega) h2
  rw [List.take_left' (by simp)] at hs
  refine ⟨_, hs, by simp, fun i u l hu hl => ?_⟩
  have hi := (List.getElem?_eq_some_iff.1 hl).1
  have e : g.getD i [] = l := by simp [hl]
  have hu' : u = sv (rb i) (g.getD i []).length (rc i) := by
    rw [List.getElem?_map, List.getElem?_range hi] at hu
    exact (Option.some.inj hu).symm
  rw [e] at hu'
  subst hu'
  have := (h4 i hi).1.ints
  rwa [e] at this
theorem Mat.cell {w : World} {T E : TypeId} {b c : Nat} {rb rc : Nat → Nat} {g : List (List Int)} (h : Mat w T E b c rb rc g) {i : Nat} (hi : i < g.length) : ∃ cs, At w b T cs ∧ cs[i]? = some (sv (rb i) (g.getD i []).length (rc i)) := by
  obtain ⟨⟨sp, h1⟩, _⟩ := h
  refine ⟨_, h1, ?_⟩
  rw [List.getElem?_append_left (by simpa using hi)]; simp [hi]
theorem Mat.own {w : World} {T E : TypeId} {b c : Nat} {rb rc : Nat → Nat} {g : List (List Int)} (h : Mat w T E b c rb rc g) {i : Nat} (hi : i < g.length) : OwnI w E (rb i) (rc i) (g.getD i []) := (h.2.2.2.1 i hi).1
theorem Mat.put {w w' : World} {T E : TypeId} {b c : Nat} {rb rc : Nat → Nat} {g : List (List Int)} {i : Nat} {l : List Int} (h : Mat w T E b c rb rc g) (hi : i < g.length) (hl : l.length = (g.getD i []).length) (hO : OwnI w' E (rb i) (rc i) l) (hg : w.grownBy w' (some (rb i))) : Mat w' T E b c rb rc (g.set i l) := by
  obtain ⟨⟨sp, h1⟩, h2, h3, h4, h5⟩ := h
  have hget : ∀ j, (g.set i l).getD j [] = if j = i then l else g.getD j [] := by
    intro j
    simp only [List.getD_eq_getElem?_getD, List.getElem?_set]
    by_cases hj : i = j
    · subst hj; simp [hi]
    · have : ¬ j = i := fun e => hj e.symm
      simp [hj, this]
  refine ⟨⟨sp, ?_⟩, by simpa using h2, by simpa using h3, fun j hj => ?_, fun a j h6 h7 => h5 a j h6 (by simpa using h7)⟩
  · have e : (List.range (g.set i l).length).map (fun j => sv (rb j) ((g.set i l).getD j []).length (rc j)) = (List.range g.length).map (fun j => sv (rb j) (g.getD j []).length (rc j)) := by
      rw [List.length_set]
      apply List.map_congr_left
      intro j _
      rw [hget j]
      by_cases hj : j = i
      · subst hj; rw [if_pos rfl, hl]
      · rw [if_neg hj]
    rw [e]
    exact h1.grown hg (fun e => (h4 i hi).2 (Option.some.inj e))
  · have hj' : j < g.length := by simpa using hj
    rw [hget j]
    refine ⟨?_, (h4 j hj').2⟩
    by_cases hji : j = i
    · subst hji; rw [if_pos rfl]; exact hO
    · rw [if_neg hji]
      refine (h4 j hj').1.grown hg (fun e => ?_)
      have e' := Option.some.inj e
      rcases Nat.lt_or_gt_of_ne hji with h6 | h6
      · have := h5 j i h6 hi; omega
      · have := h5 i j h6 hj'; omega
theorem Rw.pos {w : World} {E : TypeId} {v : Value} {vs : List Value} (h : Rw w E v vs) (hn : 0 < vs.length) : ∃ b cap sp, v = sv b vs.length cap ∧ At w b E (vs ++ sp) ∧ vs.length ≤ cap := by
  rcases h.form with ⟨_, rfl⟩ | h
  · simp at hn
  · exact h
end Go.Proofs.YtifbgpkjbciblaaDoor.Sal
end
section
/- Core10: lists and rows that a call builds for itself; slices in drawn regions. -/
set_option maxRecDepth 100000
namespace Go.Proofs.YtifbgpkjbciblaaDoor.Sal
set_option linter.all false
open Go.RowKit

/-! ### Loops over two or three things -/
section loops
variable {r : Option Nat} {P : Program} {Q : Exit → Act → World → Prop} {w : World} {γ δ ε : Type}
def LoopEnd2 (N : Nat) (ds : List Deferred) (M : Nat) (σ : Nat → Value) (vals : γ → δ → List (Nat × Value)) (Inv : γ → δ → World → Prop) (μ : γ → δ → Nat) (x : γ) (y : δ) (a' : Act) (w' : World) : Prop :=
  LoopEnd (γ := γ × δ) N ds M σ (fun p => vals p.1 p.2) (fun p => Inv p.1 p.2) (fun p => μ p.1 p.2) (x, y) a' w'
theorem loop_end2 {N : Nat} {ds : List Deferred} {M : Nat} {σ σ' : Nat → Value} {vals : γ → δ → List (Nat × Value)} {Inv : γ → δ → World → Prop} {μ : γ → δ → Nat} {x : γ} {y : δ} {w' : World} (x' : γ) (y' : δ)
    (ha : Agree M σ' σ) (hv : Has σ' (vals x' y')) (hi : Inv x' y' w') (hm : μ x' y' < μ x y) : LoopEnd2 N ds M σ vals Inv μ x y (mk N σ' ds) w' := ⟨(x', y'), σ', rfl, ha, hv, hi, hm⟩
theorem c_loop2 (M : Nat) (vals : γ → δ → List (Nat × Value)) (Inv : γ → δ → World → Prop) (μ : γ → δ → Nat) {N : Nat} {σ : Nat → Value} {ds : List Deferred} {c : Code} (x₀ : γ) (y₀ : δ)
    (h₀ : Has σ (vals x₀ y₀)) (hI : Inv x₀ y₀ w)
    (round : ∀ (x : γ) (y : δ) (ρ : Nat → Value) (w : World), Inv x y w → CW r P c (Exit.then (LoopEnd2 N ds M σ vals Inv μ x y) Q) (mk N (ext (vals x y) (mask M ρ σ)) ds) w) : CW r P (.loop c) Q (mk N σ ds) w :=
  c_loop (γ := γ × δ) M (fun p => vals p.1 p.2) (fun p => Inv p.1 p.2) (fun p => μ p.1 p.2) (x₀, y₀) h₀ hI (fun p ρ w hi => round p.1 p.2 ρ w hi)
end loops

/-- A list of numbers that a call builds by append: all its memory was laid since w0. -/
def LI (w0 w : World) (E : TypeId) (v : Value) (l : List Int) : Prop := Rw w E v (l.map (Value.int .i64)) ∧ ∀ b, v.ownBlock = some b → w0.heap.size ≤ b
theorem LI.nil (w0 w : World) (E : TypeId) : LI w0 w E (.slice none 0 0) [] := ⟨Rw.nil w E, fun b h => by cases h⟩
theorem LI.ex {w0 w w' : World} {E : TypeId} {v : Value} {l : List Int} (h : LI w0 w E v l) (hx : Ex w w') : LI w0 w' E v l := ⟨h.1.ex hx, h.2⟩
theorem LI.ints {w0 w : World} {E : TypeId} {v : Value} {l : List Int} (h : LI w0 w E v l) (hm : l.length ≤ 1000000) : Ints w v l := h.1.ints (by omega)
theorem LI.low {w0 w1 w : World} {E : TypeId} {v : Value} {l : List Int} (h : LI w1 w E v l) (hs : w0.heap.size ≤ w1.heap.size) : LI w0 w E v l := ⟨h.1, fun b hb => Nat.le_trans hs (h.2 b hb)⟩
theorem LI.lt {w0 w : World} {E : TypeId} {v : Value} {l : List Int} (h : LI w0 w E v l) : ∀ b, v.ownBlock = some b → b < w.heap.size := h.1.lt
theorem LI.one {w0 w : World} {E : TypeId} {v : Value} {l : List Int} (h : LI w0 w E v l) : v.oneCell' = true := by
  obtain ⟨a, c, rfl⟩ := h.1.slen; rfl
theorem LI.form {w0 w : World} {E : TypeId} {v : Value} {l : List Int} (h : LI w0 w E v l) : ∃ a c, v = .slice a l.length c := by
  obtain ⟨a, c, hv⟩ := h.1.slen; exact ⟨a, c, by simpa using hv⟩
theorem LI.kept {w0 w w' : World} {E : TypeId} {v : Value} {l : List Int} {o : Option Nat} (h : LI w0 w E v l) (hg : w.grownBy w' o) (hne : v.ownBlock = none ∨ v.ownBlock ≠ o) : LI w0 w' E v l := ⟨h.1.kept hg hne, h.2⟩
theorem LI.own {w0 w : World} {E : TypeId} {v : Value} {l : List Int} (h : LI w0 w E v l) (hn : l ≠ []) (hm : l.length ≤ 100000) : ∃ b c, v = sv b l.length c ∧ OwnI w E b c l ∧ w0.heap.size ≤ b := by
  have hp : 0 < (l.map (Value.int .i64)).length := by simp; exact List.length_pos_iff.2 hn
  obtain ⟨b, cap, sp, hv, hA, hc⟩ := h.1.pos hp
  refine ⟨b, cap, by rw [hv]; simp, ⟨sp, hA, by simpa using hc, hm⟩, h.2 b (by rw [hv]; rfl)⟩

/-- Rows that a call builds by append. -/
def BD (w0 w : World) (E : TypeId) (v : Value) (g : List (List Int)) : Prop := Bld w E v g ∧ ∀ b, v.ownBlock = some b → w0.heap.size ≤ b
theorem BD.nil (w0 w : World) (E : TypeId) : BD w0 w E (.slice none 0 0) [] := ⟨Bld.nil w E, fun b h => by cases h⟩
theorem BD.ex {w0 w w' : World} {E : TypeId} {v : Value} {g : List (List Int)} (h : BD w0 w E v g) (hx : Ex w w') : BD w0 w' E v g := ⟨h.1.ex hx, h.2⟩
theorem BD.rows {w0 w : World} {E : TypeId} {v : Value} {g : List (List Int)} (h : BD w0 w E v g) (hm : g.length ≤ 1000000) : Rows w v g := h.1.rows (by omega)
theorem BD.lt {w0 w : World} {E : TypeId} {v : Value} {g : List (List Int)} (h : BD w0 w E v g) : ∀ b, v.ownBlock = some b → b < w.heap.size := h.1.lt

section ops
variable {r : Option Nat} {P : Program} {ops : Array Oper} {Q : Exit → Act → World → Prop} {N : Nat} {σ : Nat → Value} {ds : List Deferred} {w : World} {rest : List Oper}
variable {d d1 d2 : Nat} {ty ty2 : TypeId} {pos pos2 : String} {after after2 : Array Edge} {T E T' : TypeId} {x i y : Operand}
theorem map_one (l : List Int) : ∀ u ∈ l.map (Value.int .i64), u.oneCell' = true := by
  intro u hu; obtain ⟨q, _, rfl⟩ := List.mem_map.1 hu; rfl
/-- append(l, x...) of numbers. -/
theorem s_lapp {w0 : World} {z v xv : Value} {l news : List Int} (hT : SlT P T E) (hi : InfoOf P E z) (hL : LI w0 w E v l) (hS : Ints w xv news) (hv : ev N σ x = v) (hxv : ev N σ y = xv) (hlen : l.length + news.length ≤ 100000) (hw : Ex w0 w)
    (h : ∀ v' w', LI w0 w' E v' (l ++ news) → Ex w0 w' → WL r P ops Q rest (mk N (upd σ d v') ds) w') :
    WL r P ops Q (⟨some d, .call { callee := .builtin .append, args := #[x, y], argTypes := #[T, T] }, ty, pos, after, none⟩ :: rest) (mk N σ ds) w := by
  refine s_app hT hi hL.1 hS hv hxv (map_one news) (by simp; omega) ?_
  intro v' w' hR hg hf
  refine h v' w' ⟨by rw [List.map_append]; exact hR, fun b hb => ?_⟩ (hw.storeo hg hL.2)
  rcases hf with he | hf
  · exact hL.2 b (he ▸ hb)
  · exact Nat.le_trans hw.size (hf b hb)
/-- append(l, q): the literal and the append. -/
theorem s_li {w0 : World} {v : Value} {l : List Int} {q : Int} (hT : SlT P T E) (hi : InfoOf P E (.int .i64 0)) (hd : Nat.blt d1 N = true) (hL : LI w0 w E v l) (hv : ev N σ x = v) (hq : ev N σ y = .int .i64 q) (hx1 : ∀ s, ev N (upd σ d1 s) x = v) (hlen : l.length ≤ 10000) (hw : Ex w0 w)
    (h : ∀ v' w' sl, LI w0 w' E v' (l ++ [q]) → Ex w0 w' → WL r P ops Q rest (mk N (upd (upd σ d1 sl) d2 v') ds) w') :
    WL r P ops Q (⟨some d1, .buildSlice T 1 #[(0, y)], ty, pos, after, none⟩ :: ⟨some d2, .call { callee := .builtin .append, args := #[x, .tmp d1], argTypes := #[T, T] }, ty2, pos2, after2, none⟩ :: rest) (mk N σ ds) w := by
  refine s_bs1 hT hi hq rfl ?_
  intro b1 w1 hb1 hA hx2 hs1
  have hS : Ints w1 (.slice (some ⟨b1, 0, none⟩) 1 1) [q] := hA.sl (n := 1) (c := 1) (Nat.le_refl _) (by omega) (Nat.le_refl _)
  exact s_lapp hT hi (hL.ex hx2) hS (hx1 _) (tmp_upd hd) (by simp; omega) (hw.trans hx2) (fun v' w' h1 h2 => h v' w' _ h1 h2)
/-- append(rows, x...) where x holds rows whose memory differs from that of the rows. -/
theorem s_bapps {w0 w1 : World} {z v xv : Value} {g g2 : List (List Int)} (hT : SlT P T E) (hi : InfoOf P E z) (hB : BD w0 w1 E v g) (hw : Ex w0 w1) (hw1 : Ex w1 w) (hS : ∃ vs, Sl w xv vs ∧ vs.length = g2.length ∧ ∀ (i : Nat) (u : Value) (l : List Int), vs[i]? = some u → g2[i]? = some l → Ints w u l ∧ (l = [] ∨ u.ownBlock ≠ v.ownBlock))
    (hv : ev N σ x = v) (hxv : ev N σ y = xv) (hlen : g.length + g2.length ≤ 100000)
    (h : ∀ v' w', BD w0 w' E v' (g ++ g2) → Ex w0 w' → WL r P ops Q rest (mk N (upd σ d v') ds) w') :
    WL r P ops Q (⟨some d, .call { callee := .builtin .append, args := #[x, y], argTypes := #[T, T] }, ty, pos, after, none⟩ :: rest) (mk N σ ds) w := by
  obtain ⟨news, hS1, hS2, hS3⟩ := hS
  obtain ⟨vs, h1, h2, h3, h4⟩ := (hB.ex hw1).1
  have hone : ∀ u ∈ news, u.oneCell' = true := by
    intro u hu
    obtain ⟨i, hi⟩ := List.mem_iff_getElem?.1 hu
    have hil := (List.getElem?_eq_some_iff.1 hi).1
    exact (hS3 i u (g2[i]'(by omega)) hi (by simp)).1.one
  refine s_app hT hi h1 hS1 hv hxv hone (by omega) ?_
  intro v' w' hR hg hf
  have key : ∀ (u' : Value) (l' : List Int), Ints w u' l' → (l' = [] ∨ u'.ownBlock ≠ v.ownBlock) → Ints w' u' l' ∧ (l' = [] ∨ u'.ownBlock ≠ v'.ownBlock) := by
    intro u' l' hI' hne'
    refine ⟨hI'.kept hg hne', ?_⟩
    rcases hf with he | hf
    · rw [he]; exact hne'
    · rcases hI'.block with h0 | ⟨b, hb, hlt⟩
      · exact .inl h0
      · refine .inr (fun e => ?_)
        have := hf b (e ▸ hb); omega
  refine h v' w' ⟨⟨vs ++ news, hR, by simp [h2, hS2], ?_, ?_⟩, ?_⟩ ((hw.trans hw1).storeo hg hB.2)
  · intro q hq
    rcases List.mem_append.1 hq with hq | hq
    · exact h3 q hq
    · exact hone q hq
  · intro i q l' hq hl'
    rw [List.getElem?_append] at hq hl'
    rw [← h2] at hl'
    by_cases hi' : i < vs.length
    · rw [if_pos hi'] at hq hl'
      exact key q l' (h4 i q l' hq hl').1 (h4 i q l' hq hl').2
    · rw [if_neg hi'] at hq hl'
      exact key q l' (hS3 _ q l' hq hl').1 (hS3 _ q l' hq hl').2
  · intro b hb
    rcases hf with he | hf
    · exact hB.2 b (he ▸ hb)
    · have := hf b hb; have := hw.size; have := hw1.size; omega
/-- The append of one row, laid in a literal ahead of it. -/
theorem s_bapp {w0 w1 : World} {z v u : Value} {b1 : Nat} {g : List (List Int)} {l : List Int} (hT : SlT P T E) (hi : InfoOf P E z) (hB : BD w0 w1 E v g) (hw : Ex w0 w1) (hw1 : Ex w1 w) (hA : At w b1 E [u]) (hI : Ints w u l) (hne : l = [] ∨ u.ownBlock ≠ v.ownBlock)
    (hv : ev N σ x = v) (hxv : ev N σ y = .slice (some ⟨b1, 0, none⟩) 1 1) (hlen : g.length ≤ 10000)
    (h : ∀ v' w', BD w0 w' E v' (g ++ [l]) → Ex w0 w' → WL r P ops Q rest (mk N (upd σ d v') ds) w') :
    WL r P ops Q (⟨some d, .call { callee := .builtin .append, args := #[x, y], argTypes := #[T, T] }, ty, pos, after, none⟩ :: rest) (mk N σ ds) w :=
  s_bapps (g2 := [l]) hT hi hB hw hw1 ⟨[u], hA.sl (Nat.le_refl _) (by simp) (by simp), rfl, fun i q l' hq hl' => by
    have h0 : i = 0 := by have := (List.getElem?_eq_some_iff.1 hq).1; simp at this; omega
    subst h0
    simp at hq hl'
    subst hq; subst hl'
    exact ⟨hI, hne⟩⟩ hv hxv (by simp; omega) h
/-- The head of the rows: those that came in. -/
theorem Rows.news {w0 w : World} {v xv : Value} {g : List (List Int)} (hR : Rows w0 xv g) (hx : Ex w0 w) (hv : ∀ b, v.ownBlock = some b → w0.heap.size ≤ b) :
    ∃ vs, Sl w xv vs ∧ vs.length = g.length ∧ ∀ (i : Nat) (u : Value) (l : List Int), vs[i]? = some u → g[i]? = some l → Ints w u l ∧ (l = [] ∨ u.ownBlock ≠ v.ownBlock) := by
  obtain ⟨vs, h1, h2, h3⟩ := hR
  refine ⟨vs, h1.ex hx, h2, fun i u l hu hl => ⟨(h3 i u l hu hl).ex hx, ?_⟩⟩
  rcases (h3 i u l hu hl).block with h0 | ⟨b, hb, hlt⟩
  · exact .inl h0
  · exact .inr fun e => by have := hv b (e ▸ hb); omega
theorem Ints.old {w0 w : World} {u v : Value} {l : List Int} (hI : Ints w0 u l) (hv : ∀ b, v.ownBlock = some b → w0.heap.size ≤ b) : l = [] ∨ u.ownBlock ≠ v.ownBlock := by
  rcases hI.block with h0 | ⟨b, hb, hlt⟩
  · exact .inl h0
  · exact .inr fun e => by have := hv b (e ▸ hb); omega
theorem Ints.fresh {w0 w1 w : World} {u v : Value} {l : List Int} {g : List (List Int)} {E : TypeId} (hI : Ints w u l) (hu1 : ∀ b, u.ownBlock = some b → w1.heap.size ≤ b) (hB : BD w0 w1 E v g) : l = [] ∨ u.ownBlock ≠ v.ownBlock := by
  rcases hI.block with h0 | ⟨b, hb, hlt⟩
  · exact .inl h0
  · refine .inr fun e => ?_
    have h1 := hu1 b hb
    have h2 := hB.lt b (e ▸ hb)
    omega
theorem At.one {w : World} {b : Nat} {E : TypeId} {q : Int} (h : At w b E [.int .i64 q]) : Ints w (.slice (some ⟨b, 0, none⟩) 1 1) [q] := h.sl (n := 1) (c := 1) (Nat.le_refl _) (by omega) (Nat.le_refl _)
end ops

/-! ### Rows with the blocks that they take -/
def BF (F : Nat → Prop) (w : World) (E : TypeId) (v : Value) (g : List (List Int)) : Prop :=
  ∃ vs, Rw w E v vs ∧ vs.length = g.length ∧ (∀ u ∈ vs, u.oneCell' = true) ∧ (∀ b, v.ownBlock = some b → F b) ∧ (∀ b, F b → b < w.heap.size) ∧
    ∀ (i : Nat) (u : Value) (l : List Int), vs[i]? = some u → g[i]? = some l → Ints w u l ∧ (l = [] ∨ (u.ownBlock ≠ v.ownBlock ∧ ∃ b, u.ownBlock = some b ∧ F b))
theorem BF.nil (w : World) (E : TypeId) : BF (fun _ => False) w E (.slice none 0 0) [] := ⟨[], Rw.nil w E, rfl, by simp, fun b h => (by cases h), fun b (h : False) => h.elim, fun i u l h => (by simp at h)⟩
theorem BF.kept {F : Nat → Prop} {w w' : World} {E : TypeId} {v : Value} {g : List (List Int)} {o : Option Nat} (h : BF F w E v g) (hg : w.grownBy w' o) (ho : ∀ b, o = some b → ¬ F b) : BF F w' E v g := by
  obtain ⟨vs, h1, h2, h3, h4, h5, h6⟩ := h
  refine ⟨vs, h1.kept hg ?_, h2, h3, h4, fun b hb => Nat.lt_of_lt_of_le (h5 b hb) hg.size, fun i u l hu hl => ?_⟩
  · cases hv : v.ownBlock with
    | none => exact .inl rfl
    | some b => exact .inr fun e => ho b e.symm (h4 b hv)
  · obtain ⟨a, b⟩ := h6 i u l hu hl
    refine ⟨a.kept hg ?_, b⟩
    rcases b with b | ⟨_, q, hq, hF⟩
    · exact .inl b
    · exact .inr fun e => ho q (by rw [← e, hq]) hF
theorem BF.ex {F : Nat → Prop} {w w' : World} {E : TypeId} {v : Value} {g : List (List Int)} (h : BF F w E v g) (hx : Ex w w') : BF F w' E v g := h.kept hx.grown (fun b e => by cases e)
theorem BF.rows {F : Nat → Prop} {w : World} {E : TypeId} {v : Value} {g : List (List Int)} (h : BF F w E v g) (hm : g.length ≤ 1000000) : Rows w v g := by
  obtain ⟨vs, h1, h2, h3, h4, h5, h6⟩ := h
  exact ⟨vs, h1.sl (by omega), h2, fun i u l hu hl => (h6 i u l hu hl).1⟩
theorem BF.own {F : Nat → Prop} {w : World} {E : TypeId} {v : Value} {g : List (List Int)} (h : BF F w E v g) : ∀ b, v.ownBlock = some b → F b := by
  obtain ⟨vs, h1, h2, h3, h4, h5, h6⟩ := h; exact h4
theorem BF.lt {F : Nat → Prop} {w : World} {E : TypeId} {v : Value} {g : List (List Int)} (h : BF F w E v g) : ∀ b, F b → b < w.heap.size := by
  obtain ⟨vs, h1, h2, h3, h4, h5, h6⟩ := h; exact h5
section
variable {r : Option Nat} {P : Program} {ops : Array Oper} {Q : Exit → Act → World → Prop} {N : Nat} {σ : Nat → Value} {ds : List Deferred} {w : World} {rest : List Oper}
variable {d d1 d2 : Nat} {ty ty2 : TypeId} {pos pos2 : String} {after after2 : Array Edge} {T E T' : TypeId} {x i y : Operand}
end

section draw
/-- A region whose order Go leaves open, walked with what is known of an older world. -/
theorem c_drawO {r : Option Nat} {P : Program} {Q : Exit → Act → World → Prop} {N : Nat} {σ : Nat → Value} {ds : List Deferred} {w w0 : World} {id : Nat} {l : List Oper} (hw : Ex w0 w) (z k : Nat) (π : List (Nat × Bool)) (hm : P.follows .mixedOrders = true) (hok : regionOK l.toArray z k π = true)
    (h : WJ r P l.toArray (Ex w0) z Q π (mk N σ ds) w.drew) : CW r P (.region id l.toArray true) Q (mk N σ ds) w := by
  simp only [regionOK, Bool.and_eq_true] at hok
  obtain ⟨⟨⟨h1, h2⟩, h3⟩, h4⟩ := hok
  refine wpIn_region_any hm (wpAny_of_RAJ _ _ _ _ (raj_of_wj (J := Ex w0) (fun j o ho => ?_) h2 π _ _ _ _ h3 ?_ (.inr (hw.trans (Ex.drew w))) (Nat.le_of_ble_eq_true h4) h))
  · exact (Array.all_eq_true_iff_forall_mem.1 h1) o (Array.mem_of_getElem? ho)
  · intro k hk
    exfalso
    by_cases hlt : k < l.toArray.size
    · simp at hlt; simp [hlt] at hk
    · simp at hlt; simp [Nat.not_lt.2 hlt] at hk
variable {r : Option Nat} {P : Program} {J : World → Prop} {z : Nat} {Q : Exit → Act → World → Prop} {N : Nat} {σ : Nat → Value} {ds : List Deferred} {w : World}
variable {gd : Option (Nat × Bool)} {ops : Array Oper} {i d : Nat} {π : List (Nat × Bool)} {ty : TypeId} {pos : String} {after : Array Edge} {T E : TypeId} {x : Operand}
/-- What makes memory, calls or stores: the operation is read off at once. -/
theorem d_ch {a : Act} {dst : Option Tmp} {op : Op} (hop : ops[i]? = some ⟨dst, op, ty, pos, after, gd⟩) (h : WL r P ops (fun e a' w' => e = .normal ∧ (i = z ∨ J w') ∧ WJ r P ops J z Q π a' w') [⟨dst, op, ty, pos, after, gd⟩] a w) : WJ r P ops J z Q ((i, false) :: π) a w := d_chain hop h
end draw
end Go.Proofs.YtifbgpkjbciblaaDoor.Sal
end
section
/- Core12: a region whose order Go leaves open, where at one point two operations that make memory are ready: both orders. -/
set_option maxRecDepth 100000
namespace Go.Proofs.YtifbgpkjbciblaaDoor.Sal
set_option linter.all false
open Go.RowKit
section fork
variable {r : Option Nat} {P : Program} {ops : Array Oper} {J : World → Prop} {Q : Exit → Act → World → Prop} {z : Nat}
def chkF (ops : Array Oper) (z i : Nat) (π2 : List (Nat × Bool)) (j : Nat) (π3 : List (Nat × Bool)) : List (Nat × Bool) → Array Bool → Bool
  | [], listed => (Region.ready .any ops listed == [i, j]) && !(i == z) && !(j == z) && chk ops z π2 (listed.setIfInBounds i true) && chk ops z π3 (listed.setIfInBounds j true)
  | (x, true) :: π, listed => (Region.ready .any ops listed).contains x && apartOK ops x && !(x == z) && chkF ops z i π2 j π3 π (listed.setIfInBounds x true)
  | (_, false) :: _, _ => false
def ForkEnd (r : Option Nat) (P : Program) (ops : Array Oper) (J : World → Prop) (z : Nat) (Q : Exit → Act → World → Prop) (i : Nat) (π2 : List (Nat × Bool)) (j : Nat) (π3 : List (Nat × Bool)) : Exit → Act → World → Prop :=
  fun _ a w => WJ r P ops J z Q ((i, false) :: π2) a w ∧ WJ r P ops J z Q ((j, false) :: π3) a w
theorem raj_of_wjF {k i j : Nat} {π2 π3 : List (Nat × Bool)} (hpl : ∀ (j : Nat) (o : Oper), ops[j]? = some o → plainOp o = true) (hs : sinkOK ops z k = true) :
    ∀ (π : List (Nat × Bool)) (fuel : Nat) (listed : Array Bool) (a : Act) (w : World), chkF ops z i π2 j π3 π listed = true → Closed ops listed → J w → π.length + 1 + π2.length ≤ fuel → π.length + 1 + π3.length ≤ fuel →
      WJ r P ops J z (ForkEnd r P ops J z Q i π2 j π3) π a w → RAJ r P ops J z Q fuel listed a w := by
  intro π
  induction π with
  | nil =>
    intro fuel listed a w hk hc hJ hf1 hf2 h
    simp only [chkF, Bool.and_eq_true] at hk
    obtain ⟨⟨⟨⟨h1, h2⟩, h3⟩, h4⟩, h5⟩ := hk
    have he : Region.ready .any ops listed = [i, j] := by simpa using h1
    have h2' : i ≠ z := by simpa using h2
    have h3' : j ≠ z := by simpa using h3
    cases fuel with
    | zero => simp at hf1
    | succ f =>
      simp at hf1 hf2
      refine ⟨fun h => (by rw [he] at h; simp at h), fun x hx => ?_⟩
      have hrx := hx
      rw [he] at hx
      simp at hx
      have hW : WJ r P ops J z Q ((i, false) :: π2) a w ∧ WJ r P ops J z Q ((j, false) :: π3) a w := h
      rcases hx with rfl | rfl
      · refine wpOpIn_mono ?_ hW.1
        rintro a' w' ⟨hJ', hW'⟩
        have hJw : J w' := hJ'.resolve_left h2'
        exact ⟨.inr hJw, raj_of_wj hpl hs π2 f _ a' w' h4 (closed_set hc hrx) (.inr hJw) (by omega) hW'⟩
      · refine wpOpIn_mono ?_ hW.2
        rintro a' w' ⟨hJ', hW'⟩
        have hJw : J w' := hJ'.resolve_left h3'
        exact ⟨.inr hJw, raj_of_wj hpl hs π3 f _ a' w' h5 (closed_set hc hrx) (.inr hJw) (by omega) hW'⟩
  | cons p π ih =>
    obtain ⟨x, b⟩ := p
    intro fuel listed a w hk hc hJ hf1 hf2 h
    cases b with
    | false => simp [chkF] at hk
    | true =>
      cases fuel with
      | zero => simp at hf1
      | succ f =>
        simp only [List.length_cons] at hf1 hf2
        simp only [chkF, Bool.and_eq_true] at hk
        obtain ⟨⟨⟨h1, h2⟩, h3⟩, h4⟩ := hk
        have hr : x ∈ Region.ready .any ops listed := by simpa using h1
        obtain ⟨o, v, ho, hy, hW⟩ := h
        exact first_mover hpl hs ho h2 (by simpa using h3) f listed a w hc hr hy hJ (ih f _ _ w h4 (closed_set hc hr) hJ (by omega) (by omega) hW)
def regionOKF (ops : Array Oper) (z k : Nat) (π : List (Nat × Bool)) (i : Nat) (π2 : List (Nat × Bool)) (j : Nat) (π3 : List (Nat × Bool)) : Bool :=
  ops.all plainOp && sinkOK ops z k && chkF ops z i π2 j π3 π (Array.replicate ops.size false) && Nat.ble (π.length + 1 + π2.length) ops.size && Nat.ble (π.length + 1 + π3.length) ops.size
end fork
theorem c_drawF {r : Option Nat} {P : Program} {Q : Exit → Act → World → Prop} {N : Nat} {σ : Nat → Value} {ds : List Deferred} {w w0 : World} {id : Nat} {l : List Oper} (hw : Ex w0 w) (z k : Nat) (π : List (Nat × Bool)) (i : Nat) (π2 : List (Nat × Bool)) (j : Nat) (π3 : List (Nat × Bool)) (hm : P.follows .mixedOrders = true) (hok : regionOKF l.toArray z k π i π2 j π3 = true)
    (h : WJ r P l.toArray (Ex w0) z (ForkEnd r P l.toArray (Ex w0) z Q i π2 j π3) π (mk N σ ds) w.drew) : CW r P (.region id l.toArray true) Q (mk N σ ds) w := by
  simp only [regionOKF, Bool.and_eq_true] at hok
  obtain ⟨⟨⟨⟨h1, h2⟩, h3⟩, h4⟩, h5⟩ := hok
  refine wpIn_region_any hm (wpAny_of_RAJ _ _ _ _ (raj_of_wjF (J := Ex w0) (fun j o ho => ?_) h2 π _ _ _ _ h3 ?_ (hw.trans (Ex.drew w)) (Nat.le_of_ble_eq_true h4) (Nat.le_of_ble_eq_true h5) h))
  · exact (Array.all_eq_true_iff_forall_mem.1 h1) o (Array.mem_of_getElem? ho)
  · intro k hk
    exfalso
    by_cases hlt : k < l.toArray.size
    · simp at hlt; simp [hlt] at hk
    · simp at hlt; simp [Nat.not_lt.2 hlt] at hk
theorem d_fork {r : Option Nat} {P : Program} {ops : Array Oper} {J : World → Prop} {Q : Exit → Act → World → Prop} {z : Nat} {N : Nat} {σ : Nat → Value} {ds : List Deferred} {w : World} {i j : Nat} {π2 π3 : List (Nat × Bool)}
    (h1 : WJ r P ops J z Q ((i, false) :: π2) (mk N σ ds) w) (h2 : WJ r P ops J z Q ((j, false) :: π3) (mk N σ ds) w) : WJ r P ops J z (ForkEnd r P ops J z Q i π2 j π3) [] (mk N σ ds) w := ⟨h1, h2⟩
end Go.Proofs.YtifbgpkjbciblaaDoor.Sal
end
section
/- slices.IndexFunc, ContainsFunc at [][]int and []int; Index, Contains, Clip, Clone at []int. -/
set_option maxRecDepth 100000
namespace Go.Proofs.YtifbgpkjbciblaaDoor.Sal
open Go.RowKit
attribute [local irreducible] Go.Code.wpIn Go.wpListIn Ct Ints Rows Sl At Rw WJ
set_option linter.all false
theorem ok_ifI : CallOK Tryd.prog 76 := callOK Tryd.func76 (by kernel_rfl) rfl
theorem ok_ifR : CallOK Tryd.prog 75 := callOK Tryd.func75 (by kernel_rfl) rfl
theorem ok_cfI : CallOK Tryd.prog 55 := callOK Tryd.func55 (by kernel_rfl) rfl
theorem ok_cfR : CallOK Tryd.prog 53 := callOK Tryd.func53 (by kernel_rfl) rfl
/-- A function value that answers a bool of an int and leaves all as it was. -/
def AskI (P : Program) (g : FuncId) (caps : List Value) (w : World) (p : Int → Bool) : Prop := CallOK P g ∧ ∀ x w1, Ex w w1 → Ct P g ([Value.int .i64 x] ++ caps).toArray w1 fun v w' => v = .bool (p x) ∧ Ex w1 w'
def AskR (P : Program) (g : FuncId) (caps : List Value) (w : World) (p : List Int → Bool) : Prop := CallOK P g ∧ ∀ u l w1, Ex w w1 → Ints w1 u l → Ct P g ([u] ++ caps).toArray w1 fun v w' => v = .bool (p l) ∧ Ex w1 w'
theorem AskI.ex {P : Program} {g : FuncId} {caps : List Value} {w w' : World} {p : Int → Bool} (h : AskI P g caps w p) (hx : Ex w w') : AskI P g caps w' p := ⟨h.1, fun x w1 h1 => h.2 x w1 (hx.trans h1)⟩
theorem AskR.ex {P : Program} {g : FuncId} {caps : List Value} {w w' : World} {p : List Int → Bool} (h : AskR P g caps w p) (hx : Ex w w') : AskR P g caps w' p := ⟨h.1, fun u l w1 h1 => h.2 u l w1 (hx.trans h1)⟩
theorem any_take_succ {α : Type} (l : List α) (p : α → Bool) (k : Nat) (d : α) (hk : k < l.length) : (l.take (k + 1)).any p = ((l.take k).any p || p (l.getD k d)) := by
  rw [List.take_succ_eq_append_getElem hk, List.any_append]; simp [hk]
theorem any_of_getD {α : Type} (l : List α) (p : α → Bool) (k : Nat) (d : α) (hk : k < l.length) (h : p (l.getD k d) = true) : l.any p = true := by
  rw [List.any_eq_true]
  exact ⟨l[k], List.getElem_mem hk, by simpa [hk] using h⟩
theorem ifI_ct (v : Value) (l : List Int) (g : FuncId) (caps : List Value) (p : Int → Bool) (w : World) (hl : Ints w v l) (ha : AskI Tryd.prog g caps w p) :
    Ct Tryd.prog 76 #[v, .func (.func g) #[] caps.toArray] w fun u w' => (∃ n : Int, u = .int .i64 n ∧ (0 ≤ n ↔ l.any p = true)) ∧ Ex w w' := by
  have hlen := hl.len
  refine enter (N := 19) (vs := [v, .func (.func g) #[] caps.toArray]) Tryd.func76 rfl rfl rfl ?_
  repeat (first | (refine isO ?_; first | refine s_move ?_ | refine s_assign ?_ | (refine isCall ?_; refine s_lenI sl_ints rfl (by assumption) ?_)) | (refine isC ?_; first | refine c_sr ?_ | refine c_seq ?_ | refine c_block ?_) | (refine l_th ?_))
  refine c_loop (γ := Nat) 524080 (fun k => [(8, .int .i64 (k : Int))]) (fun k w' => k ≤ l.length ∧ (l.take k).any p = false ∧ Ex w w') (fun k => l.length - k) 0 ⟨rfl, trivial⟩ ⟨Nat.zero_le _, rfl, Ex.refl _⟩ ?_
  rintro k ρ w' ⟨hk, hno, hx⟩
  have hl' := hl.ex hx
  repeat (first | (refine isO ?_; (refine isBin ?_; refine s_lss rfl rfl ?_)) | (refine isC ?_; first | refine c_sr ?_ | refine c_seq ?_) | (refine l_th ?_))
  refine c_ifd rfl (fun h => ?_) (fun h => ?_)
  · have hk' : k < l.length := by omega
    repeat (first | (refine isO ?_; first | refine s_move ?_ | refine s_assign ?_ | (refine isIA ?_; refine s_ixI sl_ints ty_int rfl rfl rfl (by assumption) (by omega) ?_; intro _)) | (refine isC ?_; first | refine c_sr ?_ | refine c_th ?_ | refine c_seq ?_ | refine c_block ?_) | (refine l_th ?_))
    refine s_callv (by intro f e; cases e) rfl ha.1 rfl (ha.2 _ _ hx) ?_
    rintro v1 w1 ⟨rfl, hx1⟩
    cases hp : p (l.getD k 0) with
    | true =>
      repeat (first | (refine isO ?_; first | refine s_move ?_ | refine s_assign ?_) | (refine isC ?_; first | refine c_sr ?_ | refine c_ift rfl ?_ | refine c_ret ?_) | (first | refine l_th ?_ | refine th_ret ?_ | refine ib_ret ?_))
      exact ret1 rfl rfl ⟨⟨_, rfl, fun _ => any_of_getD l p k 0 hk' hp, fun _ => by omega⟩, hx.trans hx1⟩
    | false =>
      repeat (first | (refine isO ?_; first | refine s_move ?_ | (refine isBin ?_; refine s_inc rfl (by omega) ?_)) | (refine isC ?_; first | refine c_region ?_ | refine c_iff rfl ?_ | refine c_skip ?_) | (refine l_th ?_))
      refine loop_end (k + 1) (by (repeat (first | exact agree_refl _ _ | refine agree_upd rfl ?_ | refine agree_ext rfl ?_ | refine agree_mask rfl ?_))) ⟨rfl, trivial⟩ ⟨hk', ?_, hx.trans hx1⟩ (by omega)
      rw [any_take_succ l p k 0 hk', hno, hp]; rfl
  · repeat (first | (refine isO ?_; refine s_assign ?_) | (refine isC ?_; first | refine c_sr ?_ | refine c_ret ?_ | refine c_exit ?_) | (refine l_th ?_))
    refine ret1 rfl rfl ⟨⟨_, rfl, fun h0 => by omega, fun h1 => ?_⟩, hx⟩
    rw [List.take_of_length_le (by omega)] at hno
    rw [hno] at h1; cases h1
theorem ifR_ct (v : Value) (l : List (List Int)) (g : FuncId) (caps : List Value) (p : List Int → Bool) (w : World) (hl : Rows w v l) (ha : AskR Tryd.prog g caps w p) :
    Ct Tryd.prog 75 #[v, .func (.func g) #[] caps.toArray] w fun u w' => (∃ n : Int, u = .int .i64 n ∧ (0 ≤ n ↔ l.any p = true)) ∧ Ex w w' := by
  have hlen := hl.len
  refine enter (N := 19) (vs := [v, .func (.func g) #[] caps.toArray]) Tryd.func75 rfl rfl rfl ?_
  repeat (first | (refine isO ?_; first | refine s_move ?_ | refine s_assign ?_ | (refine isCall ?_; refine s_lenR sl_rows rfl (by assumption) ?_)) | (refine isC ?_; first | refine c_sr ?_ | refine c_seq ?_ | refine c_block ?_) | (refine l_th ?_))
  refine c_loop (γ := Nat) 524080 (fun k => [(8, .int .i64 (k : Int))]) (fun k w' => k ≤ l.length ∧ (l.take k).any p = false ∧ Ex w w') (fun k => l.length - k) 0 ⟨rfl, trivial⟩ ⟨Nat.zero_le _, rfl, Ex.refl _⟩ ?_
  rintro k ρ w' ⟨hk, hno, hx⟩
  have hl' := hl.ex hx
  repeat (first | (refine isO ?_; (refine isBin ?_; refine s_lss rfl rfl ?_)) | (refine isC ?_; first | refine c_sr ?_ | refine c_seq ?_) | (refine l_th ?_))
  refine c_ifd rfl (fun h => ?_) (fun h => ?_)
  · have hk' : k < l.length := by omega
    repeat (first | (refine isO ?_; first | refine s_move ?_ | refine s_assign ?_) | (refine isC ?_; first | refine c_sr ?_ | refine c_th ?_ | refine c_seq ?_ | refine c_block ?_) | (refine l_th ?_))
    refine s_ixR sl_rows ty_ints rfl rfl rfl hl' hk' ?_
    intro _ u hu
    refine s_callv (by intro f e; cases e) rfl ha.1 rfl (ha.2 _ _ _ hx hu) ?_
    rintro v1 w1 ⟨rfl, hx1⟩
    cases hp : p (l.getD k []) with
    | true =>
      repeat (first | (refine isO ?_; first | refine s_move ?_ | refine s_assign ?_) | (refine isC ?_; first | refine c_sr ?_ | refine c_ift rfl ?_ | refine c_ret ?_) | (first | refine l_th ?_ | refine th_ret ?_ | refine ib_ret ?_))
      exact ret1 rfl rfl ⟨⟨_, rfl, fun _ => any_of_getD l p k [] hk' hp, fun _ => by omega⟩, hx.trans hx1⟩
    | false =>
      repeat (first | (refine isO ?_; first | refine s_move ?_ | (refine isBin ?_; refine s_inc rfl (by omega) ?_)) | (refine isC ?_; first | refine c_region ?_ | refine c_iff rfl ?_ | refine c_skip ?_) | (refine l_th ?_))
      refine loop_end (k + 1) (by (repeat (first | exact agree_refl _ _ | refine agree_upd rfl ?_ | refine agree_ext rfl ?_ | refine agree_mask rfl ?_))) ⟨rfl, trivial⟩ ⟨hk', ?_, hx.trans hx1⟩ (by omega)
      rw [any_take_succ l p k [] hk', hno, hp]; rfl
  · repeat (first | (refine isO ?_; refine s_assign ?_) | (refine isC ?_; first | refine c_sr ?_ | refine c_ret ?_ | refine c_exit ?_) | (refine l_th ?_))
    refine ret1 rfl rfl ⟨⟨_, rfl, fun h0 => by omega, fun h1 => ?_⟩, hx⟩
    rw [List.take_of_length_le (by omega)] at hno
    rw [hno] at h1; cases h1
theorem dec_bool {p : Prop} [Decidable p] {b : Bool} (h : p ↔ b = true) : decide p = b := by
  cases b with
  | true => exact decide_eq_true (h.2 rfl)
  | false => exact decide_eq_false (fun hp => by have := h.1 hp; cases this)
theorem cfI_ct (v : Value) (l : List Int) (g : FuncId) (caps : List Value) (p : Int → Bool) (w : World) (hl : Ints w v l) (ha : AskI Tryd.prog g caps w p) :
    Ct Tryd.prog 55 #[v, .func (.func g) #[] caps.toArray] w fun u w' => u = .bool (l.any p) ∧ Ex w w' := by
  refine enter (N := 9) (vs := [v, .func (.func g) #[] caps.toArray]) Tryd.func55 rfl rfl rfl ?_
  repeat (first | (refine isO ?_; first | refine s_move ?_ | refine s_assign ?_) | (refine isC ?_; refine c_sr ?_) | (refine l_th ?_))
  refine s_call ok_ifI rfl (ifI_ct v l g caps p w hl ha) ?_
  rintro u w' ⟨⟨n, rfl, hn⟩, hx⟩
  refine s_geq rfl rfl ?_
  repeat (first | (refine isO ?_; refine s_assign ?_) | (refine isC ?_; refine c_ret ?_) | (refine l_th ?_))
  exact ret1 rfl rfl ⟨vbool (dec_bool hn), hx⟩
theorem cfR_ct (v : Value) (l : List (List Int)) (g : FuncId) (caps : List Value) (p : List Int → Bool) (w : World) (hl : Rows w v l) (ha : AskR Tryd.prog g caps w p) :
    Ct Tryd.prog 53 #[v, .func (.func g) #[] caps.toArray] w fun u w' => u = .bool (l.any p) ∧ Ex w w' := by
  refine enter (N := 9) (vs := [v, .func (.func g) #[] caps.toArray]) Tryd.func53 rfl rfl rfl ?_
  repeat (first | (refine isO ?_; first | refine s_move ?_ | refine s_assign ?_) | (refine isC ?_; refine c_sr ?_) | (refine l_th ?_))
  refine s_call ok_ifR rfl (ifR_ct v l g caps p w hl ha) ?_
  rintro u w' ⟨⟨n, rfl, hn⟩, hx⟩
  refine s_geq rfl rfl ?_
  repeat (first | (refine isO ?_; refine s_assign ?_) | (refine isC ?_; refine c_ret ?_) | (refine l_th ?_))
  exact ret1 rfl rfl ⟨vbool (dec_bool hn), hx⟩
end Go.Proofs.YtifbgpkjbciblaaDoor.Sal
end
section
/- salesroomlaw01: SameInts, TwinInts, TwinIntLists; for the graphs. -/
set_option maxRecDepth 100000
namespace Go.Proofs.YtifbgpkjbciblaaDoor.Sal
open Go.RowKit
attribute [local irreducible] Go.Code.wpIn Go.wpListIn Ct Ints Rows Sl At Rw WJ
set_option linter.all false
theorem one_int (n : Int) : ∀ u ∈ [Value.int .i64 n], u.oneCell' = true := by
  intro u hu; simp at hu; subst hu; rfl
theorem in_int' : ∃ ti, Tryd.prog.info? 3 = some ti ∧ ti.zero = some (.int .i64 0) ∧ ti.size = 1 ∧ ti.bytes ≤ 64 := in_int.ex
theorem ty_rows : Ty1 Tryd.prog 22 := ⟨let ⟨i, h, _, hs, _⟩ := info_parts (show (Tryd.prog.info? 22).map (fun i => (i.zero, i.size, i.bytes)) = some (some (.slice none 0 0), 1, 24) by kernel_rfl); ⟨i, h, hs⟩, _, Tryd.underlying22, rfl⟩
theorem ok_SameInts : CallOK Tryd.prog 10 := callOK Tryd.func10 (by kernel_rfl) rfl
theorem same_step {a b : List Int} {k : Nat} (ha : k < a.length) (hl : a.length = b.length) (h : a.take k = b.take k) (he : a.getD k 0 = b.getD k 0) : a.take (k + 1) = b.take (k + 1) := by
  have hb : k < b.length := by omega
  rw [List.take_succ_eq_append_getElem ha, List.take_succ_eq_append_getElem hb, h]
  simp [ha, hb] at he
  rw [he]
theorem same_diff {a b : List Int} {k : Nat} (he : a.getD k 0 ≠ b.getD k 0) : a ≠ b := fun h => he (by rw [h])
theorem SameInts_ct (u v : Value) (a b : List Int) (w : World) (ha : Ints w u a) (hb : Ints w v b) :
    Ct Tryd.prog 10 #[u, v] w fun x w' => x = .bool (decide (a = b)) ∧ Ex w w' := by
  have hla := ha.len
  have hlb := hb.len
  refine enter (N := 26) (vs := [u, v]) Tryd.func10 rfl rfl rfl ?_
  by_cases hl : a.length = b.length
  · repeat (first | (refine isO ?_; first | refine s_move ?_ | refine s_assign ?_ | (refine isBin ?_; refine s_neqF rfl rfl (by omega) ?_) | (refine isCall ?_; refine s_lenI sl_ints rfl (by assumption) ?_)) | (refine isC ?_; first | refine c_sr ?_ | refine c_th ?_ | refine c_seq ?_ | refine c_iff rfl ?_ | refine c_block ?_) | (refine l_th ?_))
    refine c_loop (γ := Nat) 67106864 (fun k => [(5, .int .i64 (k : Int))]) (fun k w' => k ≤ a.length ∧ a.take k = b.take k ∧ Ex w w') (fun k => a.length - k) 0 ⟨rfl, trivial⟩ ⟨Nat.zero_le _, rfl, Ex.refl _⟩ ?_
    rintro k ρ w1 ⟨hk, htk, hx⟩
    have ha1 := ha.ex hx
    have hb1 := hb.ex hx
    repeat (first | (refine isO ?_; first | refine s_move ?_ | (refine isBin ?_; refine s_lss rfl rfl ?_) | (refine isCall ?_; refine s_lenI sl_ints rfl (by assumption) ?_)) | (refine isC ?_; first | refine c_sr ?_ | refine c_seq ?_) | (refine l_th ?_))
    refine c_ifd rfl (fun h => ?_) (fun h => ?_)
    · have hk' : k < a.length := by omega
      repeat ((refine isC ?_; first | refine c_th ?_ | refine c_seq ?_ | refine c_block ?_))
      refine c_draw 9 8 [(0, true), (1, true), (2, true), (3, true), (4, true), (5, true), (6, true), (7, true), (8, true)] mixed (by kernel_rfl) ?_
      have ha2 := ha1.ex (Ex.drew w1)
      have hb2 := hb1.ex (Ex.drew w1)
      refine d_move rfl ?_
      refine d_move rfl ?_
      refine d_iaI rfl sl_ints ty_int rfl rfl ha2 hk' ?_
      intro ad1 hc1
      refine d_ld rfl ty_int rfl hc1 ?_
      refine d_move rfl ?_
      refine d_move rfl ?_
      refine d_iaI rfl sl_ints ty_int rfl rfl hb2 (by omega) ?_
      intro ad2 hc2
      refine d_ld rfl ty_int rfl hc2 ?_
      refine d_neq rfl rfl rfl ?_
      refine d_nil ?_
      have hx2 : Ex w w1.drew := hx.trans (Ex.drew w1)
      refine c_ifd rfl (fun h2 => ?_) (fun h2 => ?_)
      · repeat (first | (refine isO ?_; refine s_assign ?_) | (refine isC ?_; first | refine c_sr ?_ | refine c_ret ?_) | (first | refine l_th ?_ | refine th_ret ?_ | refine ib_ret ?_))
        exact ret1 rfl rfl ⟨vbool (decide_eq_false (same_diff h2)).symm, hx2⟩
      · repeat (first | (refine isO ?_; first | refine s_move ?_ | refine s_assign ?_ | (refine isBin ?_; refine s_inc rfl (by omega) ?_)) | (refine isC ?_; first | refine c_region ?_ | refine c_skip ?_) | (refine l_th ?_))
        refine loop_end (k + 1) (by (repeat (first | exact agree_refl _ _ | refine agree_upd rfl ?_ | refine agree_ext rfl ?_ | refine agree_mask rfl ?_))) ⟨rfl, trivial⟩ ⟨hk', same_step hk' hl htk (Decidable.of_not_not h2), hx2⟩ (by omega)
    · repeat (first | (refine isO ?_; refine s_assign ?_) | (refine isC ?_; first | refine c_sr ?_ | refine c_ret ?_ | refine c_exit ?_) | (refine l_th ?_))
      refine ret1 rfl rfl ⟨vbool (decide_eq_true ?_).symm, hx⟩
      rw [List.take_of_length_le (by omega), List.take_of_length_le (by omega)] at htk
      exact htk
  · repeat (first | (refine isO ?_; first | refine s_move ?_ | refine s_assign ?_ | (refine isBin ?_; refine s_neqT rfl rfl (by omega) ?_) | (refine isCall ?_; refine s_lenI sl_ints rfl (by assumption) ?_)) | (refine isC ?_; first | refine c_sr ?_ | refine c_seq ?_ | refine c_ift rfl ?_ | refine c_ret ?_) | (first | refine l_th ?_ | refine th_ret ?_))
    exact ret1 rfl rfl ⟨vbool (decide_eq_false (fun h => hl (by rw [h]))).symm, Ex.refl _⟩

theorem ok_TwinInts : CallOK Tryd.prog 16 := callOK Tryd.func16 (by kernel_rfl) rfl
theorem ok_TwinIntLists : CallOK Tryd.prog 5 := callOK Tryd.func5 (by kernel_rfl) rfl
theorem take_map_succ {l : List Int} {k : Nat} (h : k < l.length) : (l.take (k + 1)).map (Value.int .i64) = (l.take k).map (Value.int .i64) ++ [.int .i64 (l.getD k 0)] := by
  rw [List.take_succ_eq_append_getElem h, List.map_append]; simp [h]
def updN (f : Nat → Nat) (i x : Nat) : Nat → Nat := fun j => if j = i then x else f j
end Go.Proofs.YtifbgpkjbciblaaDoor.Sal
end
section
/- weights.each; slices.IndexFunc, ContainsFunc at [][]int and []int; weights.check. -/
set_option maxRecDepth 100000
namespace Go.Proofs.YtifbgpkjbciblaaDoor.Sal
open Go.RowKit
attribute [local irreducible] Go.Code.wpIn Go.wpListIn Ct Ints Rows Sl At Rw
set_option linter.all false

def upto (n : Nat) : List Int := (List.range n).map (fun k : Nat => (k : Int))
theorem upto_succ (n : Nat) : upto (n + 1) = upto n ++ [(n : Int)] := by simp [upto, List.range_succ]
theorem upto_len (n : Nat) : (upto n).length = n := by simp [upto]
theorem all_one_ints (l : List Int) : ∀ u ∈ l.map (Value.int .i64), u.oneCell' = true := by
  intro u hu; obtain ⟨x, _, rfl⟩ := List.mem_map.1 hu; rfl
theorem ok_each : CallOK Tryd.prog 19 := callOK Tryd.func19 (by kernel_rfl) rfl
theorem each_ct (n : Nat) (mv : Value) (ml : List Int) (w : World) (hm : Ints w mv ml) (hn : n ≤ 1000) (hml : ml.length ≤ 1000) :
    Ct Tryd.prog 19 #[.int .i64 (n : Int), mv] w fun v w' => Ints w' v (upto n ++ ml) ∧ Ex w w' := by
  refine enter (N := 19) (vs := [.int .i64 (n : Int), mv]) Tryd.func19 rfl rfl rfl ?_
  repeat (first | (refine isO ?_; first | refine s_move ?_ | refine s_assign ?_) | (refine isC ?_; first | refine c_sr ?_ | refine c_seq ?_ | refine c_block ?_) | (refine l_th ?_))
  refine c_loop (γ := Nat × Value) 65376 (fun x => [(8, .int .i64 (x.1 : Int)), (5, x.2)])
    (fun x w' => x.1 ≤ n ∧ Rw w' 3 x.2 ((upto x.1).map (Value.int .i64)) ∧ Ex w w' ∧ ∀ b, x.2.ownBlock = some b → w.heap.size ≤ b) (fun x => n - x.1) (0, .slice none 0 0) ⟨rfl, rfl, trivial⟩
    ⟨Nat.zero_le _, Rw.nil _ _, Ex.refl _, fun b h => by cases h⟩ ?_
  rintro ⟨k, v⟩ ρ w' ⟨hk, hv, hx, hb⟩
  dsimp only at hk hv hx hb ⊢
  repeat (first | (refine isO ?_; (refine isBin ?_; refine s_lss rfl rfl ?_)) | (refine isC ?_; first | refine c_sr ?_ | refine c_seq ?_) | (refine l_th ?_))
  refine c_ifd rfl (fun h => ?_) (fun h => ?_)
  · have hk' : k < n := by omega
    repeat (first | (refine isO ?_; first | refine s_move ?_ | refine s_assign ?_) | (refine isC ?_; first | refine c_sr ?_ | refine c_th ?_ | refine c_seq ?_ | refine c_region ?_ | refine c_block ?_) | (refine l_th ?_))
    refine s_bs1 (u := .int .i64 (k : Int)) sl_ints in_int rfl rfl ?_
    intro b1 w1 hb1 hA hx1 hs1
    refine s_app (news := [.int .i64 (k : Int)]) sl_ints in_int (hv.ex hx1) (hA.sl (Nat.le_refl _) (by simp) (by simp)) rfl rfl (one_int _) (by simp [upto_len]; omega) ?_
    intro v' w2 hv' hg hown
    repeat (first | (refine isO ?_; first | refine s_move ?_ | refine s_assign ?_ | (refine isBin ?_; refine s_inc rfl (by omega) ?_)) | (refine isC ?_; refine c_region ?_) | (first | refine l_th ?_ | refine l_nil ?_))
    refine loop_end (k + 1, v') (by (repeat (first | exact agree_refl _ _ | refine agree_upd rfl ?_ | refine agree_ext rfl ?_ | refine agree_mask rfl ?_))) ⟨rfl, rfl, trivial⟩ ⟨hk', ?_, ?_, ?_⟩ (by dsimp only; omega)
    · dsimp only; rw [upto_succ, List.map_append]; exact hv'
    · exact (hx.trans hx1).storeo hg hb
    · intro b hb'
      rcases hown with h1 | h1
      · exact hb b (h1.symm.trans hb')
      · have := h1 b hb'; have := hx.size; have := hx1.size; omega
  · have hkn : k = n := by omega
    subst hkn
    repeat (first | (refine isO ?_; refine s_move ?_) | (refine isC ?_; first | refine c_sr ?_ | refine c_exit ?_))
    refine s_app sl_ints in_int hv (hm.sl.ex hx) rfl rfl (all_one_ints ml) (by simp [upto_len]; omega) ?_
    intro v' w2 hv' hg hown
    repeat (first | (refine isO ?_; refine s_assign ?_) | (refine isC ?_; refine c_ret ?_) | (refine l_th ?_))
    refine ret1 rfl rfl ⟨?_, hx.storeo hg hb⟩
    exact Rw.ints (by rw [List.map_append]; exact hv') (by simp [upto_len]; omega)
end Go.Proofs.YtifbgpkjbciblaaDoor.Sal
end
section
/- weights.check. -/
set_option maxRecDepth 100000
namespace Go.Proofs.YtifbgpkjbciblaaDoor.Sal
open Go.RowKit
attribute [local irreducible] Go.Code.wpIn Go.wpListIn Ct Ints Rows Sl At Rw
set_option linter.all false

def badN (n : Int) : Bool := decide (n < -1000000) || decide (1000000 < n)
def badL (items : Int) (l : List Int) : Bool := decide ((l.length : Int) ≠ items) || l.any badN
def checkG (g : List (List Int)) (items : Int) : Bool := decide (1 ≤ items) && decide (items ≤ 8) && decide ((g.length : Int) ≤ 8) && !(g.any (badL items))

theorem ok_c11 : CallOK Tryd.prog 56 := callOK Tryd.func56 (by kernel_rfl) rfl
theorem ok_c1 : CallOK Tryd.prog 54 := callOK Tryd.func54 (by kernel_rfl) rfl
theorem ok_check : CallOK Tryd.prog 17 := callOK Tryd.func17 (by kernel_rfl) rfl
theorem c11_ct (x : Int) (w : World) : Ct Tryd.prog 56 #[.int .i64 x] w fun v w' => v = .bool (badN x) ∧ Ex w w' := by
  refine enter (N := 9) (vs := [.int .i64 x]) Tryd.func56 rfl rfl rfl ?_
  by_cases h1 : x < -1000000
  · repeat (first | (refine isO ?_; first | refine s_move ?_ | refine s_assign ?_ | (refine isG ?_; refine g_no rfl rfl rfl ?_) | (refine isBin ?_; refine s_lssT rfl rfl (by omega) ?_) | (refine isPick ?_; refine s_pickt rfl rfl ?_)) | (refine isC ?_; first | refine c_sr ?_ | refine c_ret ?_) | (refine l_th ?_))
    exact ret1 rfl rfl ⟨vbool (by simp [badN, h1]), Ex.refl _⟩
  · by_cases h2 : 1000000 < x
    · repeat (first | (refine isO ?_; first | refine s_move ?_ | refine s_assign ?_ | (refine isG ?_; refine g_yes rfl rfl ?_) | (refine isBin ?_; first | refine s_lssF rfl rfl (by omega) ?_ | refine s_gtrT rfl rfl (by omega) ?_) | (refine isPick ?_; refine s_pickf rfl rfl ?_)) | (refine isC ?_; first | refine c_sr ?_ | refine c_ret ?_) | (refine l_th ?_))
      exact ret1 rfl rfl ⟨vbool (by simp [badN, h2]), Ex.refl _⟩
    · repeat (first | (refine isO ?_; first | refine s_move ?_ | refine s_assign ?_ | (refine isG ?_; refine g_yes rfl rfl ?_) | (refine isBin ?_; first | refine s_lssF rfl rfl (by omega) ?_ | refine s_gtrF rfl rfl (by omega) ?_) | (refine isPick ?_; refine s_pickf rfl rfl ?_)) | (refine isC ?_; first | refine c_sr ?_ | refine c_ret ?_) | (refine l_th ?_))
      exact ret1 rfl rfl ⟨vbool (by simp [badN, h1, h2]), Ex.refl _⟩
theorem ask_c11 (w : World) : AskI Tryd.prog 56 [] w badN := ⟨ok_c11, fun x w1 _ => c11_ct x w1⟩
theorem c1_ct (u : Value) (l : List Int) (b : Nat) (items : Int) (w : World) (hl : Ints w u l) (hb : At w b 3 [.int .i64 items]) :
    Ct Tryd.prog 54 #[u, .pointer (some ⟨b, 0, none⟩)] w fun v w' => v = .bool (badL items l) ∧ Ex w w' := by
  refine enter (N := 12) (vs := [u, .pointer (some ⟨b, 0, none⟩)]) Tryd.func54 rfl rfl rfl ?_
  by_cases h1 : (l.length : Int) = items
  · repeat (first | (refine isO ?_; first | refine s_move ?_ | refine s_assign ?_ | (refine isG ?_; refine g_yes rfl rfl ?_) | (refine isBin ?_; refine s_neqF rfl rfl (by omega) ?_) | (refine isCall ?_; refine s_lenI sl_ints rfl (by assumption) ?_) | (refine isLD ?_; refine s_ldA ty_int rfl (by assumption) rfl ?_)) | (refine isC ?_; refine c_sr ?_) | (refine l_th ?_))
    refine s_call ok_cfI rfl (cfI_ct u l 56 [] badN w hl (ask_c11 w)) ?_
    rintro v w' ⟨rfl, hx⟩
    repeat (first | (refine isO ?_; first | refine s_assign ?_ | (refine isPick ?_; refine s_pickf rfl rfl ?_)) | (refine isC ?_; refine c_ret ?_) | (refine l_th ?_))
    exact ret1 rfl rfl ⟨vbool (by simp [badL, h1]), hx⟩
  · repeat (first | (refine isO ?_; first | refine s_move ?_ | refine s_assign ?_ | (refine isG ?_; refine g_no rfl rfl rfl ?_) | (refine isBin ?_; refine s_neqT rfl rfl (by omega) ?_) | (refine isCall ?_; refine s_lenI sl_ints rfl (by assumption) ?_) | (refine isPick ?_; refine s_pickt rfl rfl ?_) | (refine isLD ?_; refine s_ldA ty_int rfl (by assumption) rfl ?_)) | (refine isC ?_; first | refine c_sr ?_ | refine c_ret ?_) | (refine l_th ?_))
    exact ret1 rfl rfl ⟨vbool (by simp [badL, h1]), Ex.refl _⟩
theorem check_ct (v : Value) (g : List (List Int)) (items : Int) (w : World) (hg : Rows w v g) :
    Ct Tryd.prog 17 #[v, .int .i64 items] w fun u w' => u = .bool (checkG g items) ∧ Ex w w' := by
  refine enter (N := 22) (vs := [v, .int .i64 items]) Tryd.func17 rfl rfl rfl ?_
  repeat ((refine isC ?_; refine c_sr ?_))
  refine s_box (cs := [.int .i64 items]) rfl rfl ?_
  intro b w1 hb hA hx hs
  have hg1 := hg.ex hx
  by_cases h1 : 1 ≤ items
  · by_cases h2 : items ≤ 8
    · by_cases h3 : (g.length : Int) ≤ 8
      · repeat (first | (refine isO ?_; first | refine s_move ?_ | refine s_assign ?_ | (refine isG ?_; refine g_yes rfl rfl ?_) | (refine isBin ?_; first | refine s_leqT rfl rfl (by omega) ?_ | refine s_geqT rfl rfl (by omega) ?_) | (refine isCall ?_; refine s_lenR sl_rows rfl (by assumption) ?_) | (refine isPick ?_; refine s_pickt rfl rfl ?_) | (refine isLD ?_; refine s_ldA ty_int rfl (by assumption) rfl ?_)) | (refine isC ?_; refine c_sr ?_) | (refine l_th ?_))
        refine s_mkfn (vs := [.pointer (some ⟨b, 0, none⟩)]) rfl ?_
        repeat ((refine isO ?_; (refine isG ?_; refine g_yes rfl rfl ?_)))
        refine s_call ok_cfR rfl (cfR_ct v g 54 [.pointer (some ⟨b, 0, none⟩)] (badL items) w1 hg1 ⟨ok_c1, fun u l w2 h2 hu => c1_ct u l _ items w2 hu (hA.ex h2)⟩) ?_
        rintro u w2 ⟨rfl, hx2⟩
        repeat (first | (refine isO ?_; first | refine s_assign ?_ | (refine isG ?_; refine g_yes rfl rfl ?_) | (refine isPick ?_; refine s_pickt rfl rfl ?_) | refine s_not rfl ?_) | (refine isC ?_; refine c_ret ?_) | (refine l_th ?_))
        exact ret1 rfl rfl ⟨vbool (by simp [checkG, h1, h2, h3]), hx.trans hx2⟩
      · repeat (first | (refine isO ?_; first | refine s_move ?_ | refine s_assign ?_ | (refine isG ?_; first | refine g_yes rfl rfl ?_ | refine g_no rfl rfl rfl ?_) | (refine isBin ?_; first | refine s_leqT rfl rfl (by omega) ?_ | refine s_leqF rfl rfl (by omega) ?_ | refine s_geqT rfl rfl (by omega) ?_) | (refine isCall ?_; refine s_lenR sl_rows rfl (by assumption) ?_) | (refine isPick ?_; first | refine s_pickt rfl rfl ?_ | refine s_pickf rfl rfl ?_) | (refine isLD ?_; refine s_ldA ty_int rfl (by assumption) rfl ?_)) | (refine isC ?_; first | refine c_sr ?_ | refine c_ret ?_) | (refine l_th ?_))
        exact ret1 rfl rfl ⟨vbool (by simp [checkG, h3]), hx⟩
    · repeat (first | (refine isO ?_; first | refine s_move ?_ | refine s_assign ?_ | (refine isG ?_; first | refine g_yes rfl rfl ?_ | refine g_no rfl rfl rfl ?_) | (refine isBin ?_; first | refine s_leqF rfl rfl (by omega) ?_ | refine s_geqT rfl rfl (by omega) ?_) | (refine isPick ?_; first | refine s_pickt rfl rfl ?_ | refine s_pickf rfl rfl ?_) | (refine isLD ?_; refine s_ldA ty_int rfl (by assumption) rfl ?_)) | (refine isC ?_; first | refine c_sr ?_ | refine c_ret ?_) | (refine l_th ?_))
      exact ret1 rfl rfl ⟨vbool (by simp [checkG, h2]), hx⟩
  · repeat (first | (refine isO ?_; first | refine s_move ?_ | refine s_assign ?_ | (refine isG ?_; refine g_no rfl rfl rfl ?_) | (refine isBin ?_; refine s_geqF rfl rfl (by omega) ?_) | (refine isPick ?_; refine s_pickf rfl rfl ?_) | (refine isLD ?_; refine s_ldA ty_int rfl (by assumption) rfl ?_)) | (refine isC ?_; first | refine c_sr ?_ | refine c_ret ?_) | (refine l_th ?_))
    exact ret1 rfl rfl ⟨vbool (by simp [checkG, h1]), hx⟩
end Go.Proofs.YtifbgpkjbciblaaDoor.Sal
end
section
/- What weights.best works out, item by item, over sets of bidders by their bits: plain. -/
set_option maxRecDepth 100000
namespace Go.Proofs.YtifbgpkjbciblaaDoor.Sal
set_option linter.all false
def gain (g : List (List Int)) (i k : Nat) : Int := (g.getD i []).getD k 0
def max' (a b : Int) : Int := if a < b then b else a
/-- The most for the bidders in `who`, with one item more, item k, when the first n bidders were asked. -/
def inner (g : List (List Int)) (k : Nat) (f : Nat → Int) (who : Nat) : Nat → Int
  | 0 => f who
  | i + 1 => if who.testBit i = true ∧ 0 ≤ gain g i k then max' (inner g k f who i) (f (who - 2 ^ i) + gain g i k) else inner g k f who i
def stepH (g : List (List Int)) (k : Nat) (f : Nat → Int) (who : Nat) : Int := if who < 2 ^ g.length then inner g k f who g.length else f who
def bestH (g : List (List Int)) : List Nat → (Nat → Int) → Nat → Int
  | [], f => f
  | k :: ks, f => bestH g ks (stepH g k f)
def Bnd (f : Nat → Int) (M : Int) : Prop := ∀ x, 0 ≤ f x ∧ f x ≤ M
theorem max'_bnd {a b M : Int} (ha : 0 ≤ a ∧ a ≤ M) (hb : 0 ≤ b ∧ b ≤ M) : 0 ≤ max' a b ∧ max' a b ≤ M := by unfold max'; split <;> assumption
theorem inner_bnd {g : List (List Int)} {k : Nat} {f : Nat → Int} {M : Int} (hf : Bnd f M) (hg : ∀ i, gain g i k ≤ 1000000) (who : Nat) : ∀ n, 0 ≤ inner g k f who n ∧ inner g k f who n ≤ M + 1000000
  | 0 => by have := hf who; unfold inner; omega
  | n + 1 => by
    unfold inner
    split
    · rename_i h
      have := hf (who - 2 ^ n)
      have := hg n
      exact max'_bnd (inner_bnd hf hg who n) (by omega)
    · exact inner_bnd hf hg who n
theorem stepH_bnd {g : List (List Int)} {k : Nat} {f : Nat → Int} {M : Int} (hf : Bnd f M) (hg : ∀ i, gain g i k ≤ 1000000) : Bnd (stepH g k f) (M + 1000000) := by
  intro x
  unfold stepH
  split
  · exact inner_bnd hf hg x _
  · have := hf x; omega
theorem bestH_snoc (g : List (List Int)) (ks : List Nat) (k : Nat) (f : Nat → Int) : bestH g (ks ++ [k]) f = stepH g k (bestH g ks f) := by
  induction ks generalizing f with
  | nil => rfl
  | cons a ks ih => exact ih _
theorem bestH_bnd {g : List (List Int)} (hg : ∀ i k, gain g i k ≤ 1000000) : ∀ (ks : List Nat) (f : Nat → Int) (M : Int), Bnd f M → Bnd (bestH g ks f) (M + 1000000 * ks.length)
  | [], f, M, h => by simpa [bestH] using h
  | k :: ks, f, M, h => by
    have := bestH_bnd hg ks _ _ (stepH_bnd h (fun i => hg i k))
    intro x
    have h2 := this x
    simp only [List.length_cons, bestH]
    have e : ((ks.length + 1 : Nat) : Int) = (ks.length : Int) + 1 := by omega
    rw [e]; omega
def zeroF : Nat → Int := fun _ => 0
theorem zero_bnd : Bnd zeroF 0 := fun _ => ⟨Int.le_refl _, Int.le_refl _⟩
end Go.Proofs.YtifbgpkjbciblaaDoor.Sal
end
section
/- weights.best. -/
set_option maxRecDepth 100000
namespace Go.Proofs.YtifbgpkjbciblaaDoor.Sal
open Go.RowKit
attribute [local irreducible] Go.Code.wpIn Go.wpListIn Ct Ints Rows Sl At Rw WJ
set_option linter.all false

/-- A table of 256 numbers. -/
def tab (f : Nat → Int) : List Value := (List.range 256).map (fun x => Value.int .i64 (f x))
theorem tab_len (f : Nat → Int) : (tab f).length = 256 := by simp [tab]
theorem tab_get (f : Nat → Int) {x : Nat} (h : x < 256) : (tab f)[x]? = some (.int .i64 (f x)) := by simp [tab, h]
def updF (f : Nat → Int) (x : Nat) (y : Int) : Nat → Int := fun z => if z = x then y else f z
theorem tab_set (f : Nat → Int) {x : Nat} (y : Int) (h : x < 256) : (tab f).set x (.int .i64 y) = tab (updF f x y) := by
  apply List.ext_getElem
  · simp [tab]
  · intro i h1 h2
    rw [List.getElem_set]
    simp only [tab, List.getElem_map, List.getElem_range, updF]
    by_cases hi : i = x
    · subst hi; simp
    · have : ¬ x = i := fun e => hi e.symm
      simp [this, hi]
theorem rep_tab (n : Nat) : List.replicate n (Value.int .i64 0) = (List.range n).map (fun x => Value.int .i64 (zeroF x)) := by
  apply List.ext_getElem
  · simp
  · intro i h1 h2; simp [zeroF]
theorem tab_zero : List.replicate 256 (Value.int .i64 0) = tab zeroF := rep_tab 256
theorem tab_one (f : Nat → Int) : (tab f).all (·.oneCell') = true := by
  rw [List.all_eq_true]; intro v hv; obtain ⟨x, _, rfl⟩ := List.mem_map.1 hv; rfl
theorem tab_ints (f : Nat → Int) : tab f = ((List.range 256).map f).map (Value.int .i64) := by simp [tab]
theorem tab_congr {f g : Nat → Int} (h : ∀ x, x < 256 → f x = g x) : tab f = tab g := by
  unfold tab; apply List.map_congr_left; intro x hx; rw [h x (List.mem_range.1 hx)]
theorem u_arr : Tryd.prog.underlying 62 = some (.array 256 3) := Tryd.underlying62
theorem sz_arr : (Tryd.prog.info? 62).map (·.size) = some 256 := by kernel_rfl
theorem z_arr : (Tryd.prog.info? 62).map (·.zero) = some (some (.agg (List.replicate 256 (Value.int .i64 0)).toArray)) := by kernel_rfl
theorem in_arr : ∃ ti, Tryd.prog.info? 62 = some ti ∧ ti.zero = some (.agg (List.replicate 256 (Value.int .i64 0)).toArray) := by
  have h := z_arr
  cases hq : Tryd.prog.info? 62 with
  | none => rw [hq] at h; cases h
  | some ti => rw [hq] at h; exact ⟨ti, rfl, Option.some.inj h⟩

structure Good (g : List (List Int)) (items : Nat) : Prop where
  few : g.length ≤ 8
  len : ∀ i, i < g.length → (g.getD i []).length = items
  bnd : ∀ i k, -1000000 ≤ gain g i k ∧ gain g i k ≤ 1000000
def natl (ks : List Nat) : List Int := ks.map (fun k : Nat => (k : Int))
theorem natl_getD (ks : List Nat) {j : Nat} (h : j < ks.length) : (natl ks).getD j 0 = ((ks.getD j 0 : Nat) : Int) := by simp [natl, h]
theorem natl_len (ks : List Nat) : (natl ks).length = ks.length := by simp [natl]
theorem take_snocN (l : List Nat) (k : Nat) (h : k < l.length) : l.take (k + 1) = l.take k ++ [l.getD k 0] := by
  rw [List.take_succ_eq_append_getElem h]; simp [h]
def bestF (g : List (List Int)) (ks : List Nat) : Int := maxL 0 ((List.range 256).map (bestH g ks zeroF))
/-- Half way through a table: sets below who are done, who itself as far as v. -/
def half (f h : Nat → Int) (who : Nat) (v : Int) : Nat → Int := fun x => if x < who then h x else if x = who then v else f x

theorem ok_best : CallOK Tryd.prog 18 := callOK Tryd.func18 (by kernel_rfl) rfl
theorem pow_le_256 {n : Nat} (h : n ≤ 8) : 2 ^ n ≤ 256 := by
  have := Nat.pow_le_pow_right (n := 2) (by omega) h; simpa using this
theorem one_pow_lt {i n : Nat} (h : i < n) (h8 : n ≤ 8) : 1 * 2 ^ i ≤ 256 := by rw [Nat.one_mul]; exact pow_le_256 (by omega)

set_option maxHeartbeats 1000000 in
theorem best_ct (gv kv : Value) (g : List (List Int)) (items : Nat) (ks : List Nat) (w : World) (hg : Rows w gv g) (hk : Ints w kv (natl ks)) (hG : Good g items) (hks : ∀ j, j < ks.length → ks.getD j 0 < items) (hkl : ks.length ≤ 100) :
    Ct Tryd.prog 18 #[gv, kv] w fun u w' => u = .int .i64 (bestF g ks) ∧ Ex w w' := by
  obtain ⟨hfew, hlen, hbnd⟩ := hG
  obtain ⟨ti, hi1, hi2⟩ := in_arr
  have hpow := pow_le_256 hfew
  refine enter (N := 67) (vs := [gv, kv]) Tryd.func18 rfl rfl rfl ?_
  repeat (first | (refine isO ?_; refine s_assign ?_) | (refine isC ?_; refine c_sr ?_) | (refine l_th ?_))
  refine s_alloc (cs := List.replicate 256 (Value.int .i64 0)) hi1 hi2 rfl ?_
  intro bA w1 hbA hA hx1 hs1
  rw [tab_zero] at hA
  have hk1 := hk.ex hx1
  repeat (first | (refine isO ?_; first | refine s_move ?_ | (refine isCall ?_; refine s_lenI sl_ints rfl (by assumption) ?_)) | (refine isC ?_; first | refine c_sr ?_ | refine c_seq ?_ | refine c_block ?_) | (refine l_th ?_))
  refine c_loop (γ := Nat) 36893488147419090816 (fun j => [(14, .int .i64 (j : Int))])
    (fun j w' => j ≤ ks.length ∧ At w' bA 62 (tab (bestH g (ks.take j) zeroF)) ∧ Ex w w') (fun j => ks.length - j) 0 ⟨rfl, trivial⟩
    ⟨Nat.zero_le _, by simpa [bestH] using hA, hx1⟩ ?_
  rintro j ρ w2 ⟨hj, hA2, hx2⟩
  have hg2 := hg.ex hx2
  have hkl2 := natl_len ks
  repeat (first | (refine isO ?_; (refine isBin ?_; refine s_lss rfl rfl ?_)) | (refine isC ?_; first | refine c_sr ?_ | refine c_seq ?_) | (refine l_th ?_))
  refine c_ifd rfl (fun h => ?_) (fun h => ?_)
  · have hj' : j < ks.length := by omega
    have hkj := hks j hj'
    have hfb := bestH_bnd (fun i k => (hbnd i k).2) (ks.take j) zeroF 0 zero_bnd
    have hfl : ((ks.take j).length : Int) ≤ 100 := by simp; omega
    generalize hfd : bestH g (ks.take j) zeroF = f at hA2 hfb
    obtain ⟨k, hkd⟩ : ∃ k, ks.getD j 0 = k := ⟨_, rfl⟩
    rw [hkd] at hkj
    repeat ((refine isC ?_; first | refine c_sr ?_ | refine c_th ?_ | refine c_seq ?_ | refine c_block ?_))
    refine s_ixI (n := j) sl_ints ty_int rfl rfl rfl (hk.ex hx2) (by omega) ?_
    intro _
    refine s_re (v' := .int .i64 (k : Int)) (vint (by rw [natl_getD ks hj', hkd])) ?_
    repeat (first | (refine isO ?_; refine s_assign ?_) | (refine isC ?_; refine c_sr ?_) | (refine l_th ?_))
    refine s_ldV (cs := tab f) u_arr rfl (by rw [tab_len]; exact sz_arr) rfl hA2 ?_
    refine s_alloc (cs := List.replicate 256 (Value.int .i64 0)) hi1 hi2 rfl ?_
    intro bB w3 hbB hB hx3 hs3
    have hA3 := hA2.ex hx3
    have hne : bB ≠ bA := by have := hA2.lt; omega
    refine s_stV (cs := tab f) (by rw [tab_len]; exact sz_arr) rfl rfl hB (by simp [tab_len]) (tab_one f) ?_
    intro w4 hB4 hg4 hs4
    have hA4 := hA3.grown hg4 (fun e => hne (Option.some.inj e))
    have hx4 : Ex w w4 := (hx2.trans hx3).store hg4 (by have := hx2.size; omega)
    have hg4' := hg.ex hx4
    repeat (first | (refine isO ?_; first | refine s_move ?_ | (refine isCall ?_; refine s_lenR sl_rows rfl (by assumption) ?_)) | (refine isC ?_; refine c_sr ?_) | (refine l_th ?_))
    refine s_shl (m := 1) (n := g.length) rfl rfl (by simp [IntKind.bits]; omega) (by rw [Nat.one_mul]; simp only [top]; omega) ?_
    refine s_re (vint (congrArg Nat.cast (Nat.one_mul _))) ?_
    repeat (first | (refine isO ?_; refine s_move ?_) | (refine isC ?_; refine c_block ?_) | (refine l_th ?_))
    -- the sets
    refine c_loop (γ := Nat) 18446744073705360896 (fun who => [(22, .int .i64 (who : Int))])
      (fun who w' => who ≤ 2 ^ g.length ∧ At w' bA 62 (tab (half f (stepH g k f) who (f who))) ∧ At w' bB 62 (tab f) ∧ Ex w w') (fun who => 2 ^ g.length - who) 0 ⟨rfl, trivial⟩
      ⟨Nat.zero_le _, ?_, hB4, hx4⟩ ?_
    · rw [tab_congr (g := f)]
      · exact hA4
      · intro x _; unfold half; split
        · omega
        · split
          · rename_i h2; rw [h2]
          · rfl
    rintro who ρ2 w5 ⟨hwho, hA5, hB5, hx5⟩
    have hg5 := hg.ex hx5
    repeat (first | (refine isO ?_; (refine isBin ?_; refine s_lss rfl rfl ?_)) | (refine isC ?_; first | refine c_sr ?_ | refine c_seq ?_) | (refine l_th ?_))
    refine c_ifd rfl (fun h2 => ?_) (fun h2 => ?_)
    · have hwho' : who < 2 ^ g.length := by omega
      have hw256 : who < 256 := by omega
      repeat (first | (refine isO ?_; first | refine s_move ?_ | refine s_assign ?_ | (refine isCall ?_; refine s_lenR sl_rows rfl (by assumption) ?_)) | (refine isC ?_; first | refine c_sr ?_ | refine c_th ?_ | refine c_seq ?_ | refine c_block ?_) | (refine l_th ?_))
      -- the bidders
      refine c_loop (γ := Nat) 9223372036720561152 (fun i => [(27, .int .i64 (i : Int))])
        (fun i w' => i ≤ g.length ∧ At w' bA 62 (tab (half f (stepH g k f) who (inner g k f who i))) ∧ At w' bB 62 (tab f) ∧ Ex w w') (fun i => g.length - i) 0 ⟨rfl, trivial⟩
        ⟨Nat.zero_le _, hA5, hB5, hx5⟩ ?_
      rintro i ρ3 w6 ⟨hi, hA6, hB6, hx6⟩
      have hg6 := hg.ex hx6
      repeat (first | (refine isO ?_; (refine isBin ?_; refine s_lss rfl rfl ?_)) | (refine isC ?_; first | refine c_sr ?_ | refine c_seq ?_) | (refine l_th ?_))
      refine c_ifd rfl (fun h3 => ?_) (fun h3 => ?_)
      · have hi' : i < g.length := by omega
        have hli := hlen i hi'
        have hbi := hbnd i k
        have hnext : ∀ {W : World}, Ex w W → At W bB 62 (tab f) → At W bA 62 (tab (half f (stepH g k f) who (inner g k f who (i + 1)))) → i + 1 ≤ g.length ∧ At W bA 62 (tab (half f (stepH g k f) who (inner g k f who (i + 1)))) ∧ At W bB 62 (tab f) ∧ Ex w W :=
          fun a b c => ⟨hi', c, b, a⟩
        repeat (first | (refine isO ?_; refine s_move ?_) | (refine isC ?_; first | refine c_sr ?_ | refine c_th ?_ | refine c_seq ?_ | refine c_block ?_))
        refine s_ixR sl_rows ty_ints rfl rfl rfl hg6 hi' ?_
        intro _ lu hlu
        by_cases hb1 : who.testBit i = true
        · have hb1' := (bit_asked who i).2 hb1
          by_cases hb2 : 0 ≤ gain g i k
          · have hb2' : 0 ≤ (g.getD i []).getD k 0 := hb2
            repeat (first | (refine isO ?_; first | refine s_move ?_ | refine s_assign ?_) | (refine isC ?_; refine c_sr ?_) | (refine l_th ?_))
            refine s_shr (m := who) (n := i) rfl rfl (by simp [IntKind.bits]; omega) ?_
            refine s_and (m := who / 2 ^ i) (n := 1) rfl rfl (Nat.le_trans (Nat.div_le_self _ _) (by simp only [top]; omega)) (by simp [top]) ?_
            refine s_eqlT rfl rfl hb1' ?_
            repeat ((refine isO ?_; first | refine s_move ?_ | (refine isG ?_; refine g_yes rfl rfl ?_)))
            refine s_ixIg (n := k) sl_ints ty_int rfl rfl rfl rfl rfl rfl hlu (by omega) ?_
            intro _
            repeat (first | (refine isO ?_; first | (refine isG ?_; refine g_yes rfl rfl ?_) | (refine isBin ?_; refine s_geqT rfl rfl (by omega) ?_) | (refine isPick ?_; refine s_pickt rfl rfl ?_)) | (refine isC ?_; refine c_ift rfl ?_) | (refine l_th ?_))
            refine c_draw 18 8 [(0, true), (1, true), (2, true), (3, true), (4, true), (5, true), (6, true), (7, true), (8, true), (9, true), (10, true), (11, true), (12, true), (13, true), (14, true), (15, false), (16, false), (17, true), (18, false)] mixed (by kernel_rfl) ?_
            have hA6d : At w6.drew bA 62 (tab (half f (stepH g k f) who (inner g k f who i))) := hA6.ex (Ex.drew _)
            have hB6d : At w6.drew bB 62 (tab f) := hB6.ex (Ex.drew _)
            have hlud := hlu.ex (Ex.drew w6)
            have hx6d : Ex w w6.drew := hx6.trans (Ex.drew _)
            have hfx := hfb (who - 2 ^ i)
            have hclr := clr_two hb1
            have hsub : who - 2 ^ i < 256 := by have := Nat.sub_le who (2 ^ i); omega
            refine d_move rfl ?_
            refine d_move rfl ?_
            refine d_iaV (n := who) rfl u_arr ty_int rfl rfl hw256 ?_
            refine d_ldA (cs := tab (half f (stepH g k f) who (inner g k f who i))) (u := .int .i64 (inner g k f who i)) rfl ty_int rfl hA6d (by rw [tab_get _ hw256]; simp [half]) ?_
            refine d_move rfl ?_
            refine d_move rfl ?_
            refine d_shl (m := 1) (n := i) rfl rfl rfl (by simp [IntKind.bits]; omega) (Nat.le_trans (one_pow_lt hi' hfew) (by simp [top])) ?_
            refine d_andNot (m := who) (n := 1 * 2 ^ i) rfl rfl rfl (by simp only [top]; omega) (Nat.le_trans (one_pow_lt hi' hfew) (by simp [top])) ?_
            refine d_re (vint (congrArg Nat.cast hclr)) ?_
            refine d_iaV (n := who - 2 ^ i) rfl u_arr ty_int rfl rfl hsub ?_
            refine d_ldA (cs := tab f) (u := .int .i64 (f (who - 2 ^ i))) rfl ty_int rfl hB6d (tab_get _ hsub) ?_
            refine d_move rfl ?_
            refine d_move rfl ?_
            refine d_iaI (n := k) rfl sl_ints ty_int rfl rfl hlud (by omega) ?_
            intro ad had
            refine d_ld rfl ty_int rfl had ?_
            refine d_add (a := f (who - 2 ^ i)) (b := gain g i k) rfl rfl rfl ⟨by omega, by omega⟩ ?_
            refine d_chain rfl ?_
            refine s_bs1 (u := .int .i64 (f (who - 2 ^ i) + gain g i k)) sl_ints in_int rfl rfl ?_
            intro bC w7 hbC hC hx7 hs7
            refine l_nil ⟨rfl, .inr hx7, ?_⟩
            refine d_chain rfl ?_
            have hC' : Ints w7 (.slice (some ⟨bC, 0, none⟩) 1 1) [f (who - 2 ^ i) + gain g i k] := hC.ints (l := [f (who - 2 ^ i) + gain g i k]) (by simp) (by simp)
            refine s_call ok_most rfl (most_ct (inner g k f who i) _ _ w7 hC') ?_
            rintro u w8 ⟨rfl, rfl⟩
            refine l_nil ⟨rfl, .inr hx7, ?_⟩
            refine d_iaV (n := who) rfl u_arr ty_int rfl rfl hw256 ?_
            refine d_chain rfl ?_
            have hA7 := hA6d.ex hx7
            refine s_stA (n := who) (u := .int .i64 (maxL (inner g k f who i) [f (who - 2 ^ i) + gain g i k])) ty_int rfl rfl rfl hA7 (by rw [tab_len]; exact hw256) ?_
            intro w9 hA9 hg9
            refine l_nil ⟨rfl, .inl rfl, ?_⟩
            refine d_nil ?_
            have hA9' : At w9 bA 62 (tab (half f (stepH g k f) who (inner g k f who (i + 1)))) := by
              rw [tab_set _ _ hw256] at hA9
              rw [tab_congr] at hA9
              · exact hA9
              · intro x _
                unfold updF half
                by_cases hxw : x = who
                · subst hxw
                  simp only [if_true, Nat.lt_irrefl, if_false]
                  show maxL _ _ = inner g k f x (i + 1)
                  rw [inner, if_pos ⟨hb1, hb2⟩]; rfl
                · simp [hxw]
            have hB9 : At w9 bB 62 (tab f) := (hB6d.ex hx7).grown hg9 (fun e => hne (Option.some.inj e).symm)
            have hx9 : Ex w w9 := (hx6d.trans hx7).store hg9 (by omega)
            repeat (first | (refine isO ?_; first | refine s_move ?_ | (refine isBin ?_; refine s_inc rfl (by omega) ?_)) | (refine isC ?_; refine c_region ?_) | (refine l_th ?_))
            exact loop_end (i + 1) (by (repeat (first | exact agree_refl _ _ | refine agree_upd rfl ?_ | refine agree_ext rfl ?_ | refine agree_mask rfl ?_))) ⟨rfl, trivial⟩ (hnext hx9 hB9 hA9') (by omega)
          · have hb2' : ¬ 0 ≤ (g.getD i []).getD k 0 := hb2
            have hst : inner g k f who (i + 1) = inner g k f who i := by rw [inner, if_neg (fun h => hb2 h.2)]
            rw [hst] at hnext
            repeat (first | (refine isO ?_; first | refine s_move ?_ | refine s_assign ?_) | (refine isC ?_; refine c_sr ?_) | (refine l_th ?_))
            refine s_shr (m := who) (n := i) rfl rfl (by simp [IntKind.bits]; omega) ?_
            refine s_and (m := who / 2 ^ i) (n := 1) rfl rfl (Nat.le_trans (Nat.div_le_self _ _) (by simp only [top]; omega)) (by simp [top]) ?_
            refine s_eqlT rfl rfl hb1' ?_
            repeat ((refine isO ?_; first | refine s_move ?_ | (refine isG ?_; refine g_yes rfl rfl ?_)))
            refine s_ixIg (n := k) sl_ints ty_int rfl rfl rfl rfl rfl rfl hlu (by omega) ?_
            intro _
            repeat (first | (refine isO ?_; first | refine s_move ?_ | (refine isG ?_; refine g_yes rfl rfl ?_) | (refine isBin ?_; first | refine s_inc rfl (by omega) ?_ | refine s_geqF rfl rfl (by omega) ?_) | (refine isPick ?_; refine s_pickt rfl rfl ?_)) | (refine isC ?_; first | refine c_region ?_ | refine c_iff rfl ?_ | refine c_skip ?_) | (refine l_th ?_))
            exact loop_end (i + 1) (by (repeat (first | exact agree_refl _ _ | refine agree_upd rfl ?_ | refine agree_ext rfl ?_ | refine agree_mask rfl ?_))) ⟨rfl, trivial⟩ (by rw [hst]; exact hnext hx6 hB6 hA6) (by omega)
        · have hb1' : ¬ ((who / 2 ^ i &&& 1 : Nat) : Int) = 1 := fun h => hb1 ((bit_asked who i).1 h)
          have hst : inner g k f who (i + 1) = inner g k f who i := by rw [inner, if_neg (fun h => hb1 h.1)]
          rw [hst] at hnext
          repeat (first | (refine isO ?_; first | refine s_move ?_ | refine s_assign ?_) | (refine isC ?_; refine c_sr ?_) | (refine l_th ?_))
          refine s_shr (m := who) (n := i) rfl rfl (by simp [IntKind.bits]; omega) ?_
          refine s_and (m := who / 2 ^ i) (n := 1) rfl rfl (Nat.le_trans (Nat.div_le_self _ _) (by simp only [top]; omega)) (by simp [top]) ?_
          refine s_eqlF rfl rfl hb1' ?_
          repeat (first | (refine isO ?_; first | refine s_move ?_ | (refine isG ?_; refine g_no rfl rfl rfl ?_) | (refine isBin ?_; refine s_inc rfl (by omega) ?_) | (refine isPick ?_; refine s_pickf rfl rfl ?_)) | (refine isC ?_; first | refine c_region ?_ | refine c_iff rfl ?_ | refine c_skip ?_) | (refine l_th ?_))
          exact loop_end (i + 1) (by (repeat (first | exact agree_refl _ _ | refine agree_upd rfl ?_ | refine agree_ext rfl ?_ | refine agree_mask rfl ?_))) ⟨rfl, trivial⟩ (by rw [hst]; exact hnext hx6 hB6 hA6) (by omega)
      · have hin : i = g.length := by omega
        subst hin
        repeat (first | (refine isO ?_; first | refine s_move ?_ | (refine isBin ?_; refine s_inc rfl (by omega) ?_)) | (refine isC ?_; first | refine c_region ?_ | refine c_exit ?_) | (refine l_th ?_))
        refine loop_end (who + 1) (by (repeat (first | exact agree_refl _ _ | refine agree_upd rfl ?_ | refine agree_ext rfl ?_ | refine agree_mask rfl ?_))) ⟨rfl, trivial⟩ ⟨by omega, ?_, hB6, hx6⟩ (by omega)
        rw [tab_congr] at hA6
        · exact hA6
        · intro x _
          unfold half
          by_cases h5 : x < who
          · simp [h5, Nat.lt_succ_of_lt h5]
          · by_cases h6 : x = who
            · subst h6; simp [stepH, hwho']
            · have h7 : ¬ x < who + 1 := by omega
              simp only [h5, h6, h7, if_false]
              by_cases h8 : x = who + 1
              · simp [h8]
              · simp [h8]
    · have hwn : who = 2 ^ g.length := by omega
      subst hwn
      repeat (first | (refine isO ?_; first | refine s_move ?_ | (refine isBin ?_; refine s_inc rfl (by omega) ?_)) | (refine isC ?_; first | refine c_region ?_ | refine c_exit ?_) | (refine l_th ?_))
      refine loop_end (j + 1) (by (repeat (first | exact agree_refl _ _ | refine agree_upd rfl ?_ | refine agree_ext rfl ?_ | refine agree_mask rfl ?_))) ⟨rfl, trivial⟩ ⟨hj', ?_, hx5⟩ (by omega)
      rw [take_snocN ks j hj', bestH_snoc, hfd, hkd]
      rw [tab_congr] at hA5
      · exact hA5
      · intro x _
        unfold half stepH
        by_cases h5 : x < 2 ^ g.length
        · simp [h5]
        · simp only [h5, if_false]
          by_cases h6 : x = 2 ^ g.length
          · simp [h6]
          · simp [h6]
  · have hjn : j = ks.length := by omega
    subst hjn
    rw [List.take_length] at hA2
    repeat ((refine isC ?_; first | refine c_sr ?_ | refine c_exit ?_))
    refine s_arr u_arr ty_int rfl ?_
    have hI : Ints w2 (.slice (some ⟨bA, 0, none⟩) 256 256) ((List.range 256).map (bestH g ks zeroF)) := by
      rw [tab_ints] at hA2
      have := hA2.ints (c := 256) (by simp) (by simp)
      simpa using this
    refine s_call ok_most rfl (most_ct 0 _ _ w2 hI) ?_
    rintro u w3 ⟨rfl, rfl⟩
    repeat (first | (refine isO ?_; refine s_assign ?_) | (refine isC ?_; refine c_ret ?_) | (refine l_th ?_))
    exact ret1 rfl rfl ⟨rfl, hx2⟩
end Go.Proofs.YtifbgpkjbciblaaDoor.Sal
end
