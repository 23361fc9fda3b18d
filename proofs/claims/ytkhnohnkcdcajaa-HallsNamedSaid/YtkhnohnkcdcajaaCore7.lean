/- Core7: bits, remainders, conversions of numbers that are 0 at least. -/
import Derived.Test.YtkhnohnkcdcajaaCore6
namespace Go.Proofs.Ytkhnohnkcdcajaa.Sal
set_option linter.all false
open Go.RowKit

/-- The greatest number of a kind, and the least. -/
def top : IntKind → Nat
  | .i8 => 127 | .i16 => 32767 | .i32 => 2147483647 | .i64 => 9223372036854775807
  | .u8 => 255 | .u16 => 65535 | .u32 => 4294967295 | .u64 => 18446744073709551615
theorem wrap_nat {k : IntKind} {n : Nat} (h : n ≤ top k) : k.wrap (n : Int) = n := by
  cases k <;> simp only [top] at h <;> simp [IntKind.wrap, IntKind.bits, IntKind.signed] <;> omega
theorem top_lt (k : IntKind) : top k < 2 ^ k.bits := by cases k <;> decide
theorem ofInt_nat (k : IntKind) (n : Nat) : BitVec.ofInt k.bits (n : Int) = BitVec.ofNat k.bits n := by simp
section runs
variable {P : Program} {w : World} {t : TypeId} {k k' : IntKind} {m n : Nat}
theorem r_and (hm : m ≤ top k) (hn : n ≤ top k) : (binOp .and t (.int k (m : Int)) (.int k (n : Int))).run P w = .ok (.int k ((m &&& n : Nat) : Int)) w := by
  have h1 : m &&& n ≤ top k := Nat.le_trans Nat.and_le_left hm
  have l1 := Nat.lt_of_le_of_lt hm (top_lt k)
  have l2 := Nat.lt_of_le_of_lt hn (top_lt k)
  simp only [binOp, ne_eq, not_true, if_false]
  unfold Op.intBits
  simp only [ofInt_nat]
  have e : (BitVec.ofNat k.bits m &&& BitVec.ofNat k.bits n).toNat = m &&& n := by
    rw [BitVec.toNat_and, BitVec.toNat_ofNat, BitVec.toNat_ofNat, Nat.mod_eq_of_lt l1, Nat.mod_eq_of_lt l2]
  rw [e, wrap_nat h1]; rfl
theorem r_or (hm : m ≤ top k) (hn : n ≤ top k) (h1 : m ||| n ≤ top k) : (binOp .or t (.int k (m : Int)) (.int k (n : Int))).run P w = .ok (.int k ((m ||| n : Nat) : Int)) w := by
  have l1 := Nat.lt_of_le_of_lt hm (top_lt k)
  have l2 := Nat.lt_of_le_of_lt hn (top_lt k)
  simp only [binOp, ne_eq, not_true, if_false]
  unfold Op.intBits
  simp only [ofInt_nat]
  have e : (BitVec.ofNat k.bits m ||| BitVec.ofNat k.bits n).toNat = m ||| n := by
    rw [BitVec.toNat_or, BitVec.toNat_ofNat, BitVec.toNat_ofNat, Nat.mod_eq_of_lt l1, Nat.mod_eq_of_lt l2]
  rw [e, wrap_nat h1]; rfl
theorem r_xor (hm : m ≤ top k) (hn : n ≤ top k) (h1 : m ^^^ n ≤ top k) : (binOp .xor t (.int k (m : Int)) (.int k (n : Int))).run P w = .ok (.int k ((m ^^^ n : Nat) : Int)) w := by
  have l1 := Nat.lt_of_le_of_lt hm (top_lt k)
  have l2 := Nat.lt_of_le_of_lt hn (top_lt k)
  simp only [binOp, ne_eq, not_true, if_false]
  unfold Op.intBits
  simp only [ofInt_nat]
  have e : (BitVec.ofNat k.bits m ^^^ BitVec.ofNat k.bits n).toNat = m ^^^ n := by
    rw [BitVec.toNat_xor, BitVec.toNat_ofNat, BitVec.toNat_ofNat, Nat.mod_eq_of_lt l1, Nat.mod_eq_of_lt l2]
  rw [e, wrap_nat h1]; rfl
/-- m without the bits of n. -/
def clr (m n : Nat) : Nat := m ^^^ (m &&& n)
theorem clr_bit (m n i : Nat) : (clr m n).testBit i = (m.testBit i && !n.testBit i) := by
  simp only [clr, Nat.testBit_xor, Nat.testBit_and]
  cases m.testBit i <;> cases n.testBit i <;> rfl
theorem clr_le (m n : Nat) : clr m n ≤ m := by
  have : clr m n = m &&& clr m n := by
    apply Nat.eq_of_testBit_eq
    intro i
    rw [Nat.testBit_and, clr_bit]
    cases m.testBit i <;> simp
  rw [this]; exact Nat.and_le_left
theorem r_andNot (hm : m ≤ top k) (hn : n ≤ top k) : (binOp .andNot t (.int k (m : Int)) (.int k (n : Int))).run P w = .ok (.int k ((clr m n : Nat) : Int)) w := by
  have l1 := Nat.lt_of_le_of_lt hm (top_lt k)
  have l2 := Nat.lt_of_le_of_lt hn (top_lt k)
  simp only [binOp, ne_eq, not_true, if_false]
  unfold Op.intBits
  simp only [ofInt_nat]
  have e : (BitVec.ofNat k.bits m &&& ~~~BitVec.ofNat k.bits n).toNat = clr m n := by
    apply Nat.eq_of_testBit_eq
    intro i
    rw [clr_bit]
    by_cases hi : i < k.bits
    · simp [BitVec.testBit_toNat, BitVec.getLsbD_and, hi]
      rw [Nat.mod_eq_of_lt l2, Nat.sub_sub, Nat.add_comm 1 n, Nat.testBit_two_pow_sub_succ l2]; simp [hi]
    · have h1 : m.testBit i = false := Nat.testBit_lt_two_pow (Nat.lt_of_lt_of_le l1 (Nat.pow_le_pow_right (by omega) (by omega)))
      have h2 : (BitVec.ofNat k.bits m &&& ~~~BitVec.ofNat k.bits n).toNat.testBit i = false := Nat.testBit_lt_two_pow (Nat.lt_of_lt_of_le (BitVec.isLt _) (Nat.pow_le_pow_right (by omega) (by omega)))
      rw [h2, h1]; rfl
  rw [e, wrap_nat (Nat.le_trans (clr_le m n) hm)]; rfl
theorem r_shl (hn : n ≤ k.bits) (hr : m * 2 ^ n ≤ top k) : (binOp .shl t (.int k (m : Int)) (.int k' (n : Int))).run P w = .ok (.int k ((m * 2 ^ n : Nat) : Int)) w := by
  simp only [binOp]
  unfold Op.shift
  have h0 : ¬ ((n : Int) < 0) := by omega
  have h1 : min ((n : Int)).toNat k.bits = n := by simp; omega
  simp only [h0, if_false, h1]
  have e : ((m : Int) * 2 ^ n) = ((m * 2 ^ n : Nat) : Int) := by simp
  rw [e, wrap_nat hr]; rfl
theorem r_shr (hn : n ≤ k.bits) : (binOp .shr t (.int k (m : Int)) (.int k' (n : Int))).run P w = .ok (.int k ((m / 2 ^ n : Nat) : Int)) w := by
  simp only [binOp]
  unfold Op.shift
  have h0 : ¬ ((n : Int) < 0) := by omega
  have h1 : min ((n : Int)).toNat k.bits = n := by simp; omega
  simp only [h0, if_false, h1]
  have e : ((m : Int).fdiv (2 ^ n)) = ((m / 2 ^ n : Nat) : Int) := by
    rw [Int.fdiv_eq_ediv_of_nonneg _ (by exact Int.pow_nonneg (by omega))]
    simp
  rw [e]; rfl
theorem r_rem (hn : 0 < n) : (binOp .rem t (.int k (m : Int)) (.int k (n : Int))).run P w = .ok (.int k ((m % n : Nat) : Int)) w := by
  simp only [binOp, ne_eq, not_true, if_false]
  unfold Op.intDiv
  have h0 : ¬ ((n : Int) = 0) := by omega
  simp only [h0, if_false]
  have e : ((m : Int).tmod (n : Int)) = ((m % n : Nat) : Int) := by
    rw [Int.ofNat_tmod]
  rw [e]; rfl
theorem r_quo (hn : 0 < n) (hm : m ≤ top k) : (binOp .quo t (.int k (m : Int)) (.int k (n : Int))).run P w = .ok (.int k ((m / n : Nat) : Int)) w := by
  simp only [binOp, ne_eq, not_true, if_false]
  unfold Op.intDiv
  have h0 : ¬ ((n : Int) = 0) := by omega
  simp only [h0, if_false]
  have e : ((m : Int).tdiv (n : Int)) = ((m / n : Nat) : Int) := by
    rw [Int.ofNat_tdiv]
  rw [e, wrap_nat (Nat.le_trans (Nat.div_le_self m n) hm)]; rfl
theorem r_conv {src dst : TypeId} (hs : (P.underlying src).isSome = true) (hd : P.underlying dst = some (.int k')) (hn : n ≤ top k') : (convert src dst (.int k (n : Int))).run P w = .ok (.int k' (n : Int)) w := by
  obtain ⟨sd, hs'⟩ := Option.isSome_iff_exists.1 hs
  unfold convert
  simp only [Sem.run_bind, run_underlying hs', run_underlying hd, Result.andThen_ok]
  have : (Conv.intToInt k' (n : Int)).run P w = .ok (.int k' (n : Int)) w := by unfold Conv.intToInt; rw [wrap_nat hn]; rfl
  exact this
end runs
/-- A bit asked for: x>>i&1 == 1. -/
theorem bit_asked (m n : Nat) : (((m / 2 ^ n &&& 1 : Nat) : Int) = 1) ↔ m.testBit n = true := by
  rw [Nat.and_one_is_mod, Nat.testBit_eq_decide_div_mod_eq]
  generalize m / 2 ^ n = q
  simp only [decide_eq_true_eq]; omega
theorem xor_two : ∀ (i m : Nat), m.testBit i = true → (m ^^^ 2 ^ i) + 2 ^ i = m
  | 0, m, h => by
    have h1 : m % 2 = 1 := by simpa [Nat.testBit_zero] using h
    have a := Nat.xor_div_two (a := m) (b := 2 ^ 0)
    have b := Nat.xor_mod_two_eq_one (a := m) (b := 2 ^ 0)
    have c : (m ^^^ 2 ^ 0) % 2 = 0 := by
      have : ¬ ((m ^^^ 2 ^ 0) % 2 = 1) := fun hh => by rw [b] at hh; simp [h1] at hh
      omega
    simp at a c ⊢
    omega
  | i + 1, m, h => by
    rw [Nat.testBit_succ] at h
    have ih := xor_two i (m / 2) h
    have a := Nat.xor_div_two (a := m) (b := 2 ^ (i + 1))
    have b := Nat.xor_mod_two_eq_one (a := m) (b := 2 ^ (i + 1))
    have e : 2 ^ (i + 1) / 2 = 2 ^ i := by rw [Nat.pow_succ]; omega
    have e2 : 2 ^ (i + 1) % 2 = 0 := by rw [Nat.pow_succ]; omega
    rw [e] at a
    have e3 : 2 ^ (i + 1) = 2 * 2 ^ i := by rw [Nat.pow_succ]; omega
    have c : (m ^^^ 2 ^ (i + 1)) % 2 = m % 2 := by
      rcases Nat.mod_two_eq_zero_or_one m with h1 | h1
      · have : ¬ ((m ^^^ 2 ^ (i + 1)) % 2 = 1) := fun hh => by rw [b] at hh; omega
        omega
      · have : ((m ^^^ 2 ^ (i + 1)) % 2 = 1) := by rw [b]; omega
        omega
    omega
theorem clr_two {m i : Nat} (h : m.testBit i = true) : clr m (1 * 2 ^ i) = m - 2 ^ i := by
  have h1 : m &&& 2 ^ i = 2 ^ i := by
    apply Nat.eq_of_testBit_eq
    intro j
    rw [Nat.testBit_and, Nat.testBit_two_pow]
    by_cases hj : i = j
    · subst hj; simp [h]
    · simp [hj]
  have := xor_two i m h
  unfold clr
  rw [Nat.one_mul, h1]
  omega

section ops
variable {r : Option Nat} {P : Program} {ops : Array Oper} {Q : Exit → Act → World → Prop} {N : Nat} {σ : Nat → Value} {ds : List Deferred} {w : World} {rest : List Oper}
variable {gd : Option (Nat × Bool)} {d : Nat} {ty : TypeId} {pos : String} {after : Array Edge} {t t' : TypeId} {x y : Operand} {k k' : IntKind} {m n : Nat} {J : World → Prop} {z i : Nat} {π : List (Nat × Bool)}
theorem s_and (hx : ev N σ x = .int k (m : Int)) (hy : ev N σ y = .int k (n : Int)) (hm : m ≤ top k) (hn : n ≤ top k) (h : WL r P ops Q rest (mk N (upd σ d (.int k ((m &&& n : Nat) : Int))) ds) w) : WL r P ops Q (⟨some d, .binOp .and t x y t', ty, pos, after, none⟩ :: rest) (mk N σ ds) w :=
  l_val (by intro c e; cases e) (bin_run hx hy rfl (r_and hm hn)) h
theorem s_xor (hx : ev N σ x = .int k (m : Int)) (hy : ev N σ y = .int k (n : Int)) (hm : m ≤ top k) (hn : n ≤ top k) (h1 : m ^^^ n ≤ top k) (h : WL r P ops Q rest (mk N (upd σ d (.int k ((m ^^^ n : Nat) : Int))) ds) w) : WL r P ops Q (⟨some d, .binOp .xor t x y t', ty, pos, after, none⟩ :: rest) (mk N σ ds) w :=
  l_val (by intro c e; cases e) (bin_run hx hy rfl (r_xor hm hn h1)) h
theorem s_andNot (hx : ev N σ x = .int k (m : Int)) (hy : ev N σ y = .int k (n : Int)) (hm : m ≤ top k) (hn : n ≤ top k) (h : WL r P ops Q rest (mk N (upd σ d (.int k ((clr m n : Nat) : Int))) ds) w) : WL r P ops Q (⟨some d, .binOp .andNot t x y t', ty, pos, after, none⟩ :: rest) (mk N σ ds) w :=
  l_val (by intro c e; cases e) (bin_run hx hy rfl (r_andNot hm hn)) h
theorem s_shl (hx : ev N σ x = .int k (m : Int)) (hy : ev N σ y = .int k' (n : Int)) (hn : n ≤ k.bits) (hr : m * 2 ^ n ≤ top k) (h : WL r P ops Q rest (mk N (upd σ d (.int k ((m * 2 ^ n : Nat) : Int))) ds) w) : WL r P ops Q (⟨some d, .binOp .shl t x y t', ty, pos, after, none⟩ :: rest) (mk N σ ds) w :=
  l_val (by intro c e; cases e) (bin_run hx hy rfl (r_shl hn hr)) h
theorem s_shr (hx : ev N σ x = .int k (m : Int)) (hy : ev N σ y = .int k' (n : Int)) (hn : n ≤ k.bits) (h : WL r P ops Q rest (mk N (upd σ d (.int k ((m / 2 ^ n : Nat) : Int))) ds) w) : WL r P ops Q (⟨some d, .binOp .shr t x y t', ty, pos, after, none⟩ :: rest) (mk N σ ds) w :=
  l_val (by intro c e; cases e) (bin_run hx hy rfl (r_shr hn)) h
theorem s_rem (hx : ev N σ x = .int k (m : Int)) (hy : ev N σ y = .int k (n : Int)) (hn : 0 < n) (h : WL r P ops Q rest (mk N (upd σ d (.int k ((m % n : Nat) : Int))) ds) w) : WL r P ops Q (⟨some d, .binOp .rem t x y t', ty, pos, after, none⟩ :: rest) (mk N σ ds) w :=
  l_val (by intro c e; cases e) (bin_run hx hy rfl (r_rem hn)) h
theorem s_quo (hx : ev N σ x = .int k (m : Int)) (hy : ev N σ y = .int k (n : Int)) (hn : 0 < n) (hm : m ≤ top k) (h : WL r P ops Q rest (mk N (upd σ d (.int k ((m / n : Nat) : Int))) ds) w) : WL r P ops Q (⟨some d, .binOp .quo t x y t', ty, pos, after, none⟩ :: rest) (mk N σ ds) w :=
  l_val (by intro c e; cases e) (bin_run hx hy rfl (r_quo hn hm)) h
theorem s_conv {src dst : TypeId} (hs : (P.underlying src).isSome = true) (hd : P.underlying dst = some (.int k')) (hx : ev N σ x = .int k (n : Int)) (hn : n ≤ top k') (h : WL r P ops Q rest (mk N (upd σ d (.int k' (n : Int))) ds) w) : WL r P ops Q (⟨some d, .convert src dst x, ty, pos, after, none⟩ :: rest) (mk N σ ds) w :=
  l_val (by intro c e; cases e) (by simp [execOp, hx, r_conv hs hd hn]) h
theorem d_andNot (hi : ops[i]? = some ⟨some d, .binOp .andNot t x y t', ty, pos, after, gd⟩) (hx : ev N σ x = .int k (m : Int)) (hy : ev N σ y = .int k (n : Int)) (hm : m ≤ top k) (hn : n ≤ top k) (h : WJ r P ops J z Q π (mk N (upd σ d (.int k ((clr m n : Nat) : Int))) ds) w) (hgd : GOK ops (ev N σ) gd := by first | exact trivial | exact ⟨_, rfl, rfl⟩) : WJ r P ops J z Q ((i, true) :: π) (mk N σ ds) w :=
  d_bin hi hx hy rfl (fun w' => r_andNot hm hn) h hgd
theorem d_and (hi : ops[i]? = some ⟨some d, .binOp .and t x y t', ty, pos, after, gd⟩) (hx : ev N σ x = .int k (m : Int)) (hy : ev N σ y = .int k (n : Int)) (hm : m ≤ top k) (hn : n ≤ top k) (h : WJ r P ops J z Q π (mk N (upd σ d (.int k ((m &&& n : Nat) : Int))) ds) w) (hgd : GOK ops (ev N σ) gd := by first | exact trivial | exact ⟨_, rfl, rfl⟩) : WJ r P ops J z Q ((i, true) :: π) (mk N σ ds) w :=
  d_bin hi hx hy rfl (fun w' => r_and hm hn) h hgd
theorem d_shl (hi : ops[i]? = some ⟨some d, .binOp .shl t x y t', ty, pos, after, gd⟩) (hx : ev N σ x = .int k (m : Int)) (hy : ev N σ y = .int k' (n : Int)) (hn : n ≤ k.bits) (hr : m * 2 ^ n ≤ top k) (h : WJ r P ops J z Q π (mk N (upd σ d (.int k ((m * 2 ^ n : Nat) : Int))) ds) w) (hgd : GOK ops (ev N σ) gd := by first | exact trivial | exact ⟨_, rfl, rfl⟩) : WJ r P ops J z Q ((i, true) :: π) (mk N σ ds) w :=
  d_bin hi hx hy rfl (fun w' => r_shl hn hr) h hgd
theorem d_shr (hi : ops[i]? = some ⟨some d, .binOp .shr t x y t', ty, pos, after, gd⟩) (hx : ev N σ x = .int k (m : Int)) (hy : ev N σ y = .int k' (n : Int)) (hn : n ≤ k.bits) (h : WJ r P ops J z Q π (mk N (upd σ d (.int k ((m / 2 ^ n : Nat) : Int))) ds) w) (hgd : GOK ops (ev N σ) gd := by first | exact trivial | exact ⟨_, rfl, rfl⟩) : WJ r P ops J z Q ((i, true) :: π) (mk N σ ds) w :=
  d_bin hi hx hy rfl (fun w' => r_shr hn) h hgd
theorem d_rem (hi : ops[i]? = some ⟨some d, .binOp .rem t x y t', ty, pos, after, gd⟩) (hx : ev N σ x = .int k (m : Int)) (hy : ev N σ y = .int k (n : Int)) (hn : 0 < n) (h : WJ r P ops J z Q π (mk N (upd σ d (.int k ((m % n : Nat) : Int))) ds) w) (hgd : GOK ops (ev N σ) gd := by first | exact trivial | exact ⟨_, rfl, rfl⟩) : WJ r P ops J z Q ((i, true) :: π) (mk N σ ds) w :=
  d_bin hi hx hy rfl (fun w' => r_rem hn) h hgd
theorem d_conv {src dst : TypeId} (hi : ops[i]? = some ⟨some d, .convert src dst x, ty, pos, after, gd⟩) (hs : (P.underlying src).isSome = true) (hd : P.underlying dst = some (.int k')) (hx : ev N σ x = .int k (n : Int)) (hn : n ≤ top k') (h : WJ r P ops J z Q π (mk N (upd σ d (.int k' (n : Int))) ds) w) (hgd : GOK ops (ev N σ) gd := by first | exact trivial | exact ⟨_, rfl, rfl⟩) : WJ r P ops J z Q ((i, true) :: π) (mk N σ ds) w :=
  d_val hi (fun w' _ => by simp [execOp, hx, r_conv hs hd hn]) h hgd
end ops
end Go.Proofs.Ytkhnohnkcdcajaa.Sal
