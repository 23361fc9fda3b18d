/- How the arguments of the laws of the weights read. -/
import Derived.Test.YtknkdnohcepmdaaW8
namespace Go.Proofs.Ytknkdnohcepmdaa.Sal
open Go.RowKit Go.Deep Go.ChangeShapes Go.WideShapes Go.ChangeAt Go.Joins
set_option linter.all false
theorem own : ownKnob Try.prog.godebug = none := by kernel_rfl
theorem laidOut : laidOutB Try.prog = true := by kernel_rfl
section
variable {H : Type} {enc : TypeId × Value → H} {w : World} {base : Nat} {spare : Nat → Bool} {held : Bool} {r : Reach} {b0 : Nat} {v : Value} {d : DataW H} {p : List MemPlace}
theorem open_gains (hv : Value.okWide Try.prog w r b0 24 v) (h : DataW.Trod enc Try.prog w base spare held 24 v d p) (hw : ∀ n ∈ d.weights Try.prog 24, n ≤ reachBytes) :
    ∃ (u : Value) (g : List (List Int)) (n : Int), v = .agg #[u, .int .i64 n] ∧ Rows w u g ∧ In64 n ∧ ∀ l ∈ g, ∀ x ∈ l, In64 x := by
  obtain ⟨v0, v1, y0, y1, m, rfl, rfl, rfl, h0, h1⟩ := open_agg2 Try.underlying24 (by kernel_rfl) (by kernel_rfl) hv h
  have hw0 : ∀ n ∈ y0.1.weights Try.prog 22, n ≤ reachBytes := fun n hn => hw n (by
    simp only [DataW.weights, Try.underlying24, List.map, DataW.weightsEach, List.mem_append]
    exact .inl hn)
  obtain ⟨g, hg, hgi⟩ := read_rows Try.underlying22 Try.underlying28 Try.underlying3 (by kernel_rfl) (by kernel_rfl) (of_decide_eq_true (by kernel_rfl)) (of_decide_eq_true (by kernel_rfl)) h0 hw0
  obtain ⟨k, hk, _, hwf⟩ := DataW.trod_int Try.underlying3 h1
  simp only [List.cons.injEq, and_true] at hk
  subst hk
  exact ⟨v0, g, k, rfl, hg, in64_of_wf hwf, hgi⟩
theorem cells_slice (a : Option Addr) (n c : Nat) : (Value.slice a n c).cells.toList = [.slice a n c] := rfl
theorem open_u32s (hv : Value.okWide Try.prog w r b0 33 v) (h : DataW.Trod enc Try.prog w base spare held 33 v d p) (hw : ∀ n ∈ d.weights Try.prog 33, n ≤ reachBytes) :
    ∃ l : List Nat, Sl w v (l.map (fun x : Nat => Value.int .u32 (x : Int))) ∧ ∀ x ∈ l, x < 4294967296 := by
  obtain ⟨a, n, c, rfl⟩ := okWide_slice Try.underlying33 hv
  obtain ⟨fuel, hf⟩ := h
  rw [cells_slice] at hf
  obtain ⟨l, hl, hwf⟩ := read_intsK Try.underlying33 Try.underlying34 (by kernel_rfl) (of_decide_eq_true (by kernel_rfl)) hf hw
  have hb : ∀ x ∈ l, 0 ≤ x ∧ x < 4294967296 := fun x hx => by
    have := hwf x hx
    simp [Lit.wf, IntKind.min, IntKind.max, IntKind.signed, IntKind.bits] at this
    omega
  refine ⟨l.map Int.toNat, ?_, fun x hx => ?_⟩
  · have e : (l.map Int.toNat).map (fun x : Nat => Value.int .u32 (x : Int)) = l.map (Value.int .u32) := by
      rw [List.map_map]
      apply List.map_congr_left
      intro x hx
      have := hb x hx
      show Value.int .u32 ((x.toNat : Nat) : Int) = _
      rw [Int.toNat_of_nonneg this.1]
    rw [e]; exact hl
  · obtain ⟨y, hy, rfl⟩ := List.mem_map.1 hx
    have := hb y hy; omega
theorem open_intl (hv : Value.okWide Try.prog w r b0 28 v) (h : DataW.Trod enc Try.prog w base spare held 28 v d p) (hw : ∀ n ∈ d.weights Try.prog 28, n ≤ reachBytes) :
    ∃ l : List Int, Ints w v l ∧ ∀ x ∈ l, In64 x := by
  obtain ⟨a, n, c, rfl⟩ := okWide_slice Try.underlying28 hv
  obtain ⟨fuel, hf⟩ := h
  rw [cells_slice] at hf
  exact read_ints Try.underlying28 Try.underlying3 (by kernel_rfl) (of_decide_eq_true (by kernel_rfl)) hf hw
theorem open_u8 (hv : Value.okWide Try.prog w r b0 5 v) (h : DataW.Trod enc Try.prog w base spare held 5 v d p) : ∃ x : Nat, v = .int .u8 (x : Int) ∧ x < 256 := by
  obtain ⟨a, rfl, _, _, hwf⟩ := open_int Try.underlying5 hv h
  simp [Lit.wf, IntKind.min, IntKind.max, IntKind.signed, IntKind.bits] at hwf
  exact ⟨a.toNat, by rw [Int.toNat_of_nonneg hwf.1], by omega⟩
theorem open_u16 (hv : Value.okWide Try.prog w r b0 39 v) (h : DataW.Trod enc Try.prog w base spare held 39 v d p) : ∃ x : Nat, v = .int .u16 (x : Int) ∧ x < 65536 := by
  obtain ⟨a, rfl, _, _, hwf⟩ := open_int Try.underlying39 hv h
  simp [Lit.wf, IntKind.min, IntKind.max, IntKind.signed, IntKind.bits] at hwf
  exact ⟨a.toNat, by rw [Int.toNat_of_nonneg hwf.1], by omega⟩
theorem open_a2 (hv : Value.okWide Try.prog w r b0 43 v) (h : DataW.Trod enc Try.prog w base spare held 43 v d p) : ∃ x y : Nat, v = .agg #[.int .u8 (x : Int), .int .u8 (y : Int)] ∧ x < 256 ∧ y < 256 := by
  have hc : Try.prog.cellsOf 43 = 2 := by kernel_rfl
  have hc1 : Try.prog.cellsOf 5 = 1 := by kernel_rfl
  have hv' : ∃ cs, v = .agg cs ∧ cs.size = Try.prog.cellsOf 43 := by
    simp only [Value.okWide, Try.underlying43] at hv
    obtain ⟨cs, h1, h2, _⟩ := hv
    exact ⟨cs, h1, h2⟩
  obtain ⟨cs, rfl, hsz⟩ := hv'
  obtain ⟨c0, c1, rfl⟩ := array2 (hsz.trans hc)
  obtain ⟨fuel, hf⟩ := h
  have hcells : (Value.agg #[c0, c1]).cells.toList = [c0, c1] := rfl
  rw [hcells] at hf
  obtain ⟨xs, m, _, _, _, hl, hel⟩ := DataW.trod_array Try.underlying43 hf
  have h0 := hel 0 (by omega)
  have h1 := hel 1 (by omega)
  rw [hc1] at h0 h1
  simp only [Nat.zero_mul, List.drop_zero, List.take_succ_cons, List.take_zero, Nat.one_mul, List.drop_succ_cons] at h0 h1
  rw [List.getElem?_eq_getElem (by omega)] at h0 h1
  obtain ⟨a, ha, _, wa⟩ := DataW.trod_int Try.underlying5 h0
  obtain ⟨b, hb, _, wb⟩ := DataW.trod_int Try.underlying5 h1
  simp only [List.cons.injEq, and_true] at ha hb
  subst ha
  subst hb
  simp [Lit.wf, IntKind.min, IntKind.max, IntKind.signed, IntKind.bits] at wa wb
  exact ⟨a.toNat, b.toNat, by rw [Int.toNat_of_nonneg wa.1, Int.toNat_of_nonneg wb.1], by omega, by omega⟩
end
end Go.Proofs.Ytknkdnohcepmdaa.Sal
