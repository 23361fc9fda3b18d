/- halls.Few. -/
import Derived.Test.YtkhnohnkcdcajaaH2
namespace Go.Proofs.Ytkhnohnkcdcajaa.Sal
open Go.RowKit
/-- The first that are too few, of fewer than so many. -/
def fewTo (R : Nat → Nat → Bool) (nn : Nat) (sl : List Int) : Nat → Option (List Int)
  | 0 => none
  | k + 1 => match fewTo R nn sl k with
    | some l => some l
    | none => fewUp R nn sl k
noncomputable def fewR (R : Nat → Nat → Bool) (m nn : Nat) (sl : List Int) : Option (List Int) := if rkm (Rsome sl R) m nn = sl.length then none else fewTo R nn sl (nn + 1)
theorem fewTo_none {R : Nat → Nat → Bool} {nn : Nat} {sl : List Int} {k : Nat} (h : fewTo R nn sl k = none) (h2 : fewUp R nn sl k = none) : fewTo R nn sl (k + 1) = none := by
  simp only [fewTo, h, h2]
theorem fewTo_some {R : Nat → Nat → Bool} {nn : Nat} {sl : List Int} {k : Nat} {l : List Int} (h : fewTo R nn sl k = none) (h2 : fewUp R nn sl k = some l) : ∀ b, k < b → fewTo R nn sl b = some l
  | b + 1, hb => by
    by_cases e : b = k
    · subst e; simp only [fewTo, h, h2]
    · have := fewTo_some h h2 b (by omega)
      simp only [fewTo, this]
theorem find_none {L : List (List Int)} {p : List Int → Bool} (h : ∀ i, i < L.length → ∀ y, L[i]? = some y → p y = false) : L.find? p = none := by
  rw [List.find?_eq_none]
  intro x hx
  obtain ⟨i, hi⟩ := List.mem_iff_getElem?.1 hx
  have := h i (List.getElem?_eq_some_iff.1 hi).1 x hi
  simp [this]
theorem find_at {p : List Int → Bool} : ∀ {L : List (List Int)} {i : Nat} {x : List Int}, L[i]? = some x → p x = true → (∀ j, j < i → ∀ y, L[j]? = some y → p y = false) → L.find? p = some x
  | z :: L, 0, x, hx, hp, _ => by
    simp at hx; subst hx
    rw [List.find?_cons_of_pos hp]
  | z :: L, i + 1, x, hx, hp, h => by
    have h0 := h 0 (by omega) z rfl
    rw [List.find?_cons_of_neg (by simp [h0])]
    exact find_at (by simpa using hx) hp (fun j hj y hy => h (j + 1) (by omega) y (by simpa using hy))
theorem At.below {w w' : World} {b n : Nat} {E : TypeId} {cs : List Value} (h : At w b E cs) (hb : Below n w w') (hn : b < n) : At w' b E cs := (hb.block b hn).trans h
attribute [local irreducible] Go.Code.wpIn Go.wpListIn Ct Ints Rows Sl At Rw WJ
set_option linter.all false
theorem ty_bl : Ty1 Try.prog 4 := ⟨let ⟨i, h, _, hs, _⟩ := info_parts (show (Try.prog.info? 4).map (fun i => (i.zero, i.size, i.bytes)) = some (some (.bool false), 1, 1) by kernel_rfl); ⟨i, h, hs⟩, _, Try.underlying4, rfl⟩
theorem ty_err : Ty1 Try.prog 27 := ⟨let ⟨i, h, _, hs, _⟩ := info_parts (show (Try.prog.info? 27).map (fun i => (i.zero, i.size, i.bytes)) = some (some (.int .i64 0), 1, 8) by kernel_rfl); ⟨i, h, hs⟩, _, Try.underlying27, rfl⟩
theorem ty_fn36 : Ty1 Try.prog 36 := ⟨let ⟨i, h, _, hs, _⟩ := info_parts (show (Try.prog.info? 36).map (fun i => (i.zero, i.size, i.bytes)) = some (some .nilFunc, 1, 8) by kernel_rfl); ⟨i, h, hs⟩, _, Try.underlying36, rfl⟩
theorem in_z {E : TypeId} {z : Value} (h : (Try.prog.info? E).map (·.zero) = some (some z)) : ∃ ti, Try.prog.info? E = some ti ∧ ti.zero = some z := by
  cases hi : Try.prog.info? E with
  | none => rw [hi] at h; cases h
  | some ti => rw [hi] at h; exact ⟨ti, rfl, by simpa using h⟩
theorem in_bl : ∃ ti, Try.prog.info? 4 = some ti ∧ ti.zero = some (.bool false) := in_z (by kernel_rfl)
theorem in_err : ∃ ti, Try.prog.info? 27 = some ti ∧ ti.zero = some (.int .i64 0) := in_z (by kernel_rfl)
theorem in_fn36 : ∃ ti, Try.prog.info? 36 = some ti ∧ ti.zero = some .nilFunc := in_z (by kernel_rfl)
theorem Few_bad (gv : Value) (g : List (List Int)) (n : Int) (sv' : Value) (sl : List Int) (w : World) (hg : Rows w gv g) (hs : Ints w sv' sl) (hb : (chkG g n && risB (-1) sl (g.length : Int)) = false) :
    Ct Try.prog 35 #[gv, .int .i64 n, sv'] w fun u w' => u = .tuple #[.slice none 0 0, .bool false, .int .i64 1] ∧ Ex w w' := by
  obtain ⟨ga, gc, rfl⟩ := hg.form
  obtain ⟨sa, sc, rfl⟩ := hs.form
  refine Exists.elim in_ints' fun ti hti => ?_
  refine Exists.elim in_bl fun tb htb => ?_
  refine Exists.elim in_err fun te hte => ?_
  refine enter (N := 46) (vs := [.slice ga g.length gc, .int .i64 n, .slice sa sl.length sc]) Try.func35 rfl rfl rfl ?_
  refine c_sr ?_
  refine s_box (cs := [.slice ga g.length gc]) rfl rfl ?_
  intro b3 w3 hb3 hA3 hx3 hs3
  refine s_box (cs := [.int .i64 n]) rfl rfl ?_
  intro b4 w4 hb4 hA4 hx4 hs4
  refine s_box (cs := [.slice sa sl.length sc]) rfl rfl ?_
  intro b5 w5 hb5 hA5 hx5 hs5
  refine s_alloc (cs := [.slice none 0 0]) hti.1 hti.2.1 rfl ?_
  intro b6 w6 hb6 hA6 hx6 hs6
  refine s_alloc (cs := [.bool false]) htb.1 htb.2 rfl ?_
  intro b7 w7 hb7 hA7 hx7 hs7
  refine s_alloc (cs := [.int .i64 0]) hte.1 hte.2 rfl ?_
  intro b8 w8 hb8 hA8 hx8 hs8
  have hx48 := hx5.trans (hx6.trans (hx7.trans hx8))
  have hx08 := hx3.trans (hx4.trans hx48)
  have hA38 := hA3.ex (hx4.trans hx48)
  have hA48 := hA4.ex hx48
  have hA58 := hA5.ex (hx6.trans (hx7.trans hx8))
  have z3 := hx3.size
  have z48 := hx48.size
  repeat (first | (refine isO ?_; first | refine s_move ?_ | refine s_assign ?_ | (refine isG ?_; first | refine g_yes rfl rfl ?_ | refine g_no rfl rfl rfl ?_ | refine g_un rfl rfl ?_) | (refine isBin ?_; first | refine s_inc rfl (by omega) ?_ | refine s_lssT rfl rfl (by omega) ?_ | refine s_lssF rfl rfl (by omega) ?_ | refine s_lss rfl rfl ?_ | refine s_eqlT rfl rfl (by omega) ?_ | refine s_eqlF rfl rfl (by omega) ?_ | refine s_eql rfl rfl ?_ | refine s_neqT rfl rfl (by omega) ?_ | refine s_neqF rfl rfl (by omega) ?_ | refine s_neq rfl rfl ?_ | refine s_leqT rfl rfl (by omega) ?_ | refine s_leqF rfl rfl (by omega) ?_ | refine s_leq rfl rfl ?_ | refine s_gtrT rfl rfl (by omega) ?_ | refine s_gtrF rfl rfl (by omega) ?_ | refine s_gtr rfl rfl ?_ | refine s_geqT rfl rfl (by omega) ?_ | refine s_geqF rfl rfl (by omega) ?_ | refine s_geq rfl rfl ?_ | refine s_add rfl rfl ⟨by omega, by omega⟩ ?_ | refine s_sub rfl rfl ⟨by omega, by omega⟩ ?_) | (refine isCall ?_; first | refine s_lenI sl_ints rfl (by assumption) ?_ | refine s_lenR sl_rows rfl (by assumption) ?_ | refine s_len sl_ints rfl ?_ | refine s_len sl_rows rfl ?_) | (refine isIA ?_; refine s_ixI sl_ints ty_int rfl rfl rfl (by assumption) (by omega) ?_; intro _) | (refine isPick ?_; first | refine s_pickt rfl rfl ?_ | refine s_pickf rfl rfl ?_) | (refine isLD ?_; first | refine s_ldA ty_int rfl (by assumption) rfl ?_ | refine s_ldA ty_ints rfl (by assumption) rfl ?_) | refine s_extract rfl rfl ?_ | refine s_not rfl ?_) | (refine isC ?_; first | refine c_sr ?_ | refine c_th ?_ | refine c_seq ?_ | refine c_region ?_ | refine c_ift rfl ?_ | refine c_iff rfl ?_ | refine c_block ?_ | refine c_ret ?_ | refine c_exit ?_ | refine c_skip ?_) | (first | refine l_th ?_ | refine th_norm ?_ | refine ib_norm ?_ | refine l_nil ?_ | refine th_ret ?_ | refine ib_ret ?_ | refine ib_exit ?_ | refine th_exit ?_ | refine ib_pass rfl ?_))
  refine s_ldA ty_rows rfl hA38 rfl ?_
  repeat (first | (refine isO ?_; first | refine s_move ?_ | refine s_assign ?_ | (refine isG ?_; first | refine g_yes rfl rfl ?_ | refine g_no rfl rfl rfl ?_ | refine g_un rfl rfl ?_) | (refine isBin ?_; first | refine s_inc rfl (by omega) ?_ | refine s_lssT rfl rfl (by omega) ?_ | refine s_lssF rfl rfl (by omega) ?_ | refine s_lss rfl rfl ?_ | refine s_eqlT rfl rfl (by omega) ?_ | refine s_eqlF rfl rfl (by omega) ?_ | refine s_eql rfl rfl ?_ | refine s_neqT rfl rfl (by omega) ?_ | refine s_neqF rfl rfl (by omega) ?_ | refine s_neq rfl rfl ?_ | refine s_leqT rfl rfl (by omega) ?_ | refine s_leqF rfl rfl (by omega) ?_ | refine s_leq rfl rfl ?_ | refine s_gtrT rfl rfl (by omega) ?_ | refine s_gtrF rfl rfl (by omega) ?_ | refine s_gtr rfl rfl ?_ | refine s_geqT rfl rfl (by omega) ?_ | refine s_geqF rfl rfl (by omega) ?_ | refine s_geq rfl rfl ?_ | refine s_add rfl rfl ⟨by omega, by omega⟩ ?_ | refine s_sub rfl rfl ⟨by omega, by omega⟩ ?_) | (refine isCall ?_; first | refine s_lenI sl_ints rfl (by assumption) ?_ | refine s_lenR sl_rows rfl (by assumption) ?_ | refine s_len sl_ints rfl ?_ | refine s_len sl_rows rfl ?_) | (refine isIA ?_; refine s_ixI sl_ints ty_int rfl rfl rfl (by assumption) (by omega) ?_; intro _) | (refine isPick ?_; first | refine s_pickt rfl rfl ?_ | refine s_pickf rfl rfl ?_) | (refine isLD ?_; first | refine s_ldA ty_int rfl (by assumption) rfl ?_ | refine s_ldA ty_ints rfl (by assumption) rfl ?_) | refine s_extract rfl rfl ?_ | refine s_not rfl ?_) | (refine isC ?_; first | refine c_sr ?_ | refine c_th ?_ | refine c_seq ?_ | refine c_region ?_ | refine c_ift rfl ?_ | refine c_iff rfl ?_ | refine c_block ?_ | refine c_ret ?_ | refine c_exit ?_ | refine c_skip ?_) | (first | refine l_th ?_ | refine th_norm ?_ | refine ib_norm ?_ | refine l_nil ?_ | refine th_ret ?_ | refine ib_ret ?_ | refine ib_exit ?_ | refine th_exit ?_ | refine ib_pass rfl ?_))
  refine s_call ok_All rfl (All_bad _ g n _ sl w8 (hg.ex hx08) (hs.ex hx08) hb) ?_
  rintro u w9 ⟨rfl, hx9⟩
  have hA69 := hA6.ex (hx7.trans (hx8.trans hx9))
  have hA79 := hA7.ex (hx8.trans hx9)
  have hA89 := hA8.ex hx9
  have hx09 := hx08.trans hx9
  repeat (first | (refine isO ?_; first | refine s_move ?_ | refine s_assign ?_ | (refine isG ?_; first | refine g_yes rfl rfl ?_ | refine g_no rfl rfl rfl ?_ | refine g_un rfl rfl ?_) | (refine isBin ?_; first | refine s_inc rfl (by omega) ?_ | refine s_lssT rfl rfl (by omega) ?_ | refine s_lssF rfl rfl (by omega) ?_ | refine s_lss rfl rfl ?_ | refine s_eqlT rfl rfl (by omega) ?_ | refine s_eqlF rfl rfl (by omega) ?_ | refine s_eql rfl rfl ?_ | refine s_neqT rfl rfl (by omega) ?_ | refine s_neqF rfl rfl (by omega) ?_ | refine s_neq rfl rfl ?_ | refine s_leqT rfl rfl (by omega) ?_ | refine s_leqF rfl rfl (by omega) ?_ | refine s_leq rfl rfl ?_ | refine s_gtrT rfl rfl (by omega) ?_ | refine s_gtrF rfl rfl (by omega) ?_ | refine s_gtr rfl rfl ?_ | refine s_geqT rfl rfl (by omega) ?_ | refine s_geqF rfl rfl (by omega) ?_ | refine s_geq rfl rfl ?_ | refine s_add rfl rfl ⟨by omega, by omega⟩ ?_ | refine s_sub rfl rfl ⟨by omega, by omega⟩ ?_) | (refine isCall ?_; first | refine s_lenI sl_ints rfl (by assumption) ?_ | refine s_lenR sl_rows rfl (by assumption) ?_ | refine s_len sl_ints rfl ?_ | refine s_len sl_rows rfl ?_) | (refine isIA ?_; refine s_ixI sl_ints ty_int rfl rfl rfl (by assumption) (by omega) ?_; intro _) | (refine isPick ?_; first | refine s_pickt rfl rfl ?_ | refine s_pickf rfl rfl ?_) | (refine isLD ?_; first | refine s_ldA ty_int rfl (by assumption) rfl ?_ | refine s_ldA ty_ints rfl (by assumption) rfl ?_) | refine s_extract rfl rfl ?_ | refine s_not rfl ?_) | (refine isC ?_; first | refine c_sr ?_ | refine c_th ?_ | refine c_seq ?_ | refine c_region ?_ | refine c_ift rfl ?_ | refine c_iff rfl ?_ | refine c_block ?_ | refine c_ret ?_ | refine c_exit ?_ | refine c_skip ?_) | (first | refine l_th ?_ | refine th_norm ?_ | refine ib_norm ?_ | refine l_nil ?_ | refine th_ret ?_ | refine ib_ret ?_ | refine ib_exit ?_ | refine th_exit ?_ | refine ib_pass rfl ?_))
  refine s_stA (n := 0) (u := .slice none 0 0) ty_ints rfl rfl rfl hA69 (by simp) ?_
  intro wa hAa hga
  refine s_stA (n := 0) (u := .bool false) ty_bl rfl rfl rfl (hA79.grown hga (fun e => by have := Option.some.inj e; omega)) (by simp) ?_
  intro wb hAb hgb
  refine s_stA (n := 0) (u := .int .i64 1) ty_err rfl rfl rfl ((hA89.grown hga (fun e => by have := Option.some.inj e; omega)).grown hgb (fun e => by have := Option.some.inj e; omega)) (by simp) ?_
  intro wc hAc hgc
  have hA6c := (hAa.grown hgb (fun e => by have := Option.some.inj e; omega)).grown hgc (fun e => by have := Option.some.inj e; omega)
  have hA7c := hAb.grown hgc (fun e => by have := Option.some.inj e; omega)
  repeat (first | (refine isO ?_; first | refine s_move ?_ | refine s_assign ?_ | (refine isG ?_; first | refine g_yes rfl rfl ?_ | refine g_no rfl rfl rfl ?_ | refine g_un rfl rfl ?_) | (refine isBin ?_; first | refine s_inc rfl (by omega) ?_ | refine s_lssT rfl rfl (by omega) ?_ | refine s_lssF rfl rfl (by omega) ?_ | refine s_lss rfl rfl ?_ | refine s_eqlT rfl rfl (by omega) ?_ | refine s_eqlF rfl rfl (by omega) ?_ | refine s_eql rfl rfl ?_ | refine s_neqT rfl rfl (by omega) ?_ | refine s_neqF rfl rfl (by omega) ?_ | refine s_neq rfl rfl ?_ | refine s_leqT rfl rfl (by omega) ?_ | refine s_leqF rfl rfl (by omega) ?_ | refine s_leq rfl rfl ?_ | refine s_gtrT rfl rfl (by omega) ?_ | refine s_gtrF rfl rfl (by omega) ?_ | refine s_gtr rfl rfl ?_ | refine s_geqT rfl rfl (by omega) ?_ | refine s_geqF rfl rfl (by omega) ?_ | refine s_geq rfl rfl ?_ | refine s_add rfl rfl ⟨by omega, by omega⟩ ?_ | refine s_sub rfl rfl ⟨by omega, by omega⟩ ?_) | (refine isCall ?_; first | refine s_lenI sl_ints rfl (by assumption) ?_ | refine s_lenR sl_rows rfl (by assumption) ?_ | refine s_len sl_ints rfl ?_ | refine s_len sl_rows rfl ?_) | (refine isIA ?_; refine s_ixI sl_ints ty_int rfl rfl rfl (by assumption) (by omega) ?_; intro _) | (refine isPick ?_; first | refine s_pickt rfl rfl ?_ | refine s_pickf rfl rfl ?_) | (refine isLD ?_; first | refine s_ldA ty_int rfl (by assumption) rfl ?_ | refine s_ldA ty_ints rfl (by assumption) rfl ?_) | refine s_extract rfl rfl ?_ | refine s_not rfl ?_) | (refine isC ?_; first | refine c_sr ?_ | refine c_th ?_ | refine c_seq ?_ | refine c_region ?_ | refine c_ift rfl ?_ | refine c_iff rfl ?_ | refine c_block ?_ | refine c_ret ?_ | refine c_exit ?_ | refine c_skip ?_) | (first | refine l_th ?_ | refine th_norm ?_ | refine ib_norm ?_ | refine l_nil ?_ | refine th_ret ?_ | refine ib_ret ?_ | refine ib_exit ?_ | refine th_exit ?_ | refine ib_pass rfl ?_))
  refine ret3d (Ds := []) (va := .slice none 0 0) (vb := .bool false) (vc := .int .i64 1) rfl rfl rfl rfl ty_ints ty_bl ty_err (by rw [hA6c.cell]; rfl) (by rw [hA7c.cell]; rfl) (by rw [hAc.cell]; rfl) List.nodup_nil (fun D hD => by simp at hD) (fun w' hp => ⟨rfl, PD.ex (((hx09.store hga (by omega)).store hgb (by omega)).store hgc (by omega)) hp (fun D hD => by simp at hD)⟩)
/-- What lies in memory where the search has found some. -/
def FJ (w W0 Wr W' : World) (L : List (List Int)) (p : List Int → Bool) (b6 b7 b8 i : Nat) : Prop :=
  (∃ x v a, L[i]? = some x ∧ p x = true ∧ At W' b6 33 [v] ∧ At W' b7 4 [.bool true] ∧ At W' b8 27 [.int .i64 0] ∧ v = .slice a x.length x.length ∧ (∀ b, v.ownBlock = some b → w.heap.size ≤ b) ∧ Ints W' v x ∧ Ex w W') ∧ Kb W0.heap.size Wr W'
theorem FJ.go {w W0 Wr W W' : World} {L : List (List Int)} {p : List Int → Bool} {b6 b7 b8 i : Nat} (h : FJ w W0 Wr W L p b6 b7 b8 i) (hb : Below Wr.heap.size W W') (hk : KC W W') (h6 : b6 < Wr.heap.size) (h7 : b7 < Wr.heap.size) (h8 : b8 < Wr.heap.size) (hw : w.heap.size ≤ Wr.heap.size) : FJ w W0 Wr W' L p b6 b7 b8 i := by
  obtain ⟨⟨x, v, a, h1, h2, h3, h4, h5, h9, h10, h11, h12⟩, h13⟩ := h
  exact ⟨⟨x, v, a, h1, h2, h3.below hb h6, h4.below hb h7, h5.below hb h8, h9, h10, hk.ints h11, Below.trans h12 (Below.mono hb hw)⟩, Kb.below h13 hb⟩
set_option maxRecDepth 8000 in
set_option maxHeartbeats 4000000 in
theorem Few_ok {R : Nat → Nat → Bool} {m nn : Nat} (hm : m ≤ 8) (hn : nn ≤ 8) (gv : Value) (sv' : Value) (sl : List Int) (w : World) (hg : Rows w gv (gL R m nn)) (hs : Ints w sv' sl) (hris : risB (-1) sl (m : Int) = true) :
    Ct Try.prog 35 #[gv, .int .i64 (nn : Int), sv'] w fun u w' => Ex w w' ∧ ((fewR R m nn sl = none ∧ u = .tuple #[.slice none 0 0, .bool false, .int .i64 0]) ∨
      ∃ l v a, fewR R m nn sl = some l ∧ u = .tuple #[v, .bool true, .int .i64 0] ∧ v = .slice a l.length l.length ∧ (∀ b, v.ownBlock = some b → w.heap.size ≤ b) ∧ Ints w' v l) := by
  have hgl := gL_len R m nn
  refine Exists.elim hg.form fun ga hga => Exists.elim hga fun gc hgc => ?_
  subst hgc
  refine Exists.elim hs.form fun sa hsa => Exists.elim hsa fun sc hsc => ?_
  subst hsc
  refine Exists.elim in_int' fun ti1 hti1 => ?_
  refine Exists.elim in_ints' fun ti hti => ?_
  refine Exists.elim in_bl fun tb htb => ?_
  refine Exists.elim in_err fun te hte => ?_
  refine Exists.elim in_fn36 fun tf36 htf => ?_
  refine enter (N := 46) (vs := [.slice ga (gL R m nn).length gc, .int .i64 (nn : Int), .slice sa sl.length sc]) Try.func35 rfl rfl rfl ?_
  refine c_sr ?_
  refine s_box (cs := [.slice ga (gL R m nn).length gc]) rfl rfl ?_
  intro b3 w3 hb3 hA3 hx3 hs3
  refine s_box (cs := [.int .i64 (nn : Int)]) rfl rfl ?_
  intro b4 w4 hb4 hA4 hx4 hs4
  refine s_box (cs := [.slice sa sl.length sc]) rfl rfl ?_
  intro b5 w5 hb5 hA5 hx5 hs5
  refine s_alloc (cs := [.slice none 0 0]) hti.1 hti.2.1 rfl ?_
  intro b6 w6 hb6 hA6 hx6 hs6
  refine s_alloc (cs := [.bool false]) htb.1 htb.2 rfl ?_
  intro b7 w7 hb7 hA7 hx7 hs7
  refine s_alloc (cs := [.int .i64 0]) hte.1 hte.2 rfl ?_
  intro b8 w8 hb8 hA8 hx8 hs8
  have hx48 := hx5.trans (hx6.trans (hx7.trans hx8))
  have hx08 := hx3.trans (hx4.trans hx48)
  have hA38 := hA3.ex (hx4.trans hx48)
  have hA48 := hA4.ex hx48
  have hA58 := hA5.ex (hx6.trans (hx7.trans hx8))
  have z3 := hx3.size
  have z48 := hx48.size
  repeat (first | (refine isO ?_; first | refine s_move ?_ | refine s_assign ?_ | (refine isG ?_; first | refine g_yes rfl rfl ?_ | refine g_no rfl rfl rfl ?_ | refine g_un rfl rfl ?_) | (refine isBin ?_; first | refine s_inc rfl (by omega) ?_ | refine s_lssT rfl rfl (by omega) ?_ | refine s_lssF rfl rfl (by omega) ?_ | refine s_lss rfl rfl ?_ | refine s_eqlT rfl rfl (by omega) ?_ | refine s_eqlF rfl rfl (by omega) ?_ | refine s_eql rfl rfl ?_ | refine s_neqT rfl rfl (by omega) ?_ | refine s_neqF rfl rfl (by omega) ?_ | refine s_neq rfl rfl ?_ | refine s_leqT rfl rfl (by omega) ?_ | refine s_leqF rfl rfl (by omega) ?_ | refine s_leq rfl rfl ?_ | refine s_gtrT rfl rfl (by omega) ?_ | refine s_gtrF rfl rfl (by omega) ?_ | refine s_gtr rfl rfl ?_ | refine s_geqT rfl rfl (by omega) ?_ | refine s_geqF rfl rfl (by omega) ?_ | refine s_geq rfl rfl ?_ | refine s_add rfl rfl ⟨by omega, by omega⟩ ?_ | refine s_sub rfl rfl ⟨by omega, by omega⟩ ?_) | (refine isCall ?_; first | refine s_lenI sl_ints rfl (by assumption) ?_ | refine s_lenR sl_rows rfl (by assumption) ?_ | refine s_len sl_ints rfl ?_ | refine s_len sl_rows rfl ?_) | (refine isIA ?_; refine s_ixI sl_ints ty_int rfl rfl rfl (by assumption) (by omega) ?_; intro _) | (refine isPick ?_; first | refine s_pickt rfl rfl ?_ | refine s_pickf rfl rfl ?_) | (refine isLD ?_; first | refine s_ldA ty_int rfl (by assumption) rfl ?_ | refine s_ldA ty_ints rfl (by assumption) rfl ?_) | refine s_extract rfl rfl ?_ | refine s_not rfl ?_) | (refine isC ?_; first | refine c_sr ?_ | refine c_th ?_ | refine c_seq ?_ | refine c_region ?_ | refine c_ift rfl ?_ | refine c_iff rfl ?_ | refine c_block ?_ | refine c_ret ?_ | refine c_exit ?_ | refine c_skip ?_) | (first | refine l_th ?_ | refine th_norm ?_ | refine ib_norm ?_ | refine l_nil ?_ | refine th_ret ?_ | refine ib_ret ?_ | refine ib_exit ?_ | refine th_exit ?_ | refine ib_pass rfl ?_))
  refine s_ldA ty_rows rfl hA38 rfl ?_
  repeat (first | (refine isO ?_; first | refine s_move ?_ | refine s_assign ?_ | (refine isG ?_; first | refine g_yes rfl rfl ?_ | refine g_no rfl rfl rfl ?_ | refine g_un rfl rfl ?_) | (refine isBin ?_; first | refine s_inc rfl (by omega) ?_ | refine s_lssT rfl rfl (by omega) ?_ | refine s_lssF rfl rfl (by omega) ?_ | refine s_lss rfl rfl ?_ | refine s_eqlT rfl rfl (by omega) ?_ | refine s_eqlF rfl rfl (by omega) ?_ | refine s_eql rfl rfl ?_ | refine s_neqT rfl rfl (by omega) ?_ | refine s_neqF rfl rfl (by omega) ?_ | refine s_neq rfl rfl ?_ | refine s_leqT rfl rfl (by omega) ?_ | refine s_leqF rfl rfl (by omega) ?_ | refine s_leq rfl rfl ?_ | refine s_gtrT rfl rfl (by omega) ?_ | refine s_gtrF rfl rfl (by omega) ?_ | refine s_gtr rfl rfl ?_ | refine s_geqT rfl rfl (by omega) ?_ | refine s_geqF rfl rfl (by omega) ?_ | refine s_geq rfl rfl ?_ | refine s_add rfl rfl ⟨by omega, by omega⟩ ?_ | refine s_sub rfl rfl ⟨by omega, by omega⟩ ?_) | (refine isCall ?_; first | refine s_lenI sl_ints rfl (by assumption) ?_ | refine s_lenR sl_rows rfl (by assumption) ?_ | refine s_len sl_ints rfl ?_ | refine s_len sl_rows rfl ?_) | (refine isIA ?_; refine s_ixI sl_ints ty_int rfl rfl rfl (by assumption) (by omega) ?_; intro _) | (refine isPick ?_; first | refine s_pickt rfl rfl ?_ | refine s_pickf rfl rfl ?_) | (refine isLD ?_; first | refine s_ldA ty_int rfl (by assumption) rfl ?_ | refine s_ldA ty_ints rfl (by assumption) rfl ?_) | refine s_extract rfl rfl ?_ | refine s_not rfl ?_) | (refine isC ?_; first | refine c_sr ?_ | refine c_th ?_ | refine c_seq ?_ | refine c_region ?_ | refine c_ift rfl ?_ | refine c_iff rfl ?_ | refine c_block ?_ | refine c_ret ?_ | refine c_exit ?_ | refine c_skip ?_) | (first | refine l_th ?_ | refine th_norm ?_ | refine ib_norm ?_ | refine l_nil ?_ | refine th_ret ?_ | refine ib_ret ?_ | refine ib_exit ?_ | refine th_exit ?_ | refine ib_pass rfl ?_))
  refine s_call ok_All rfl (All_ok hm hn _ _ sl w8 (hg.ex hx08) (hs.ex hx08) hris) ?_
  rintro u w9 ⟨rfl, hx9⟩
  have hA69 := hA6.ex (hx7.trans (hx8.trans hx9))
  have hA79 := hA7.ex (hx8.trans hx9)
  have hA89 := hA8.ex hx9
  have hx09 := hx08.trans hx9
  have z9 := hx9.size
  by_cases hall : rkm (Rsome sl R) m nn = sl.length
  · have hfr : fewR R m nn sl = none := by unfold fewR; rw [if_pos hall]
    refine s_re (v' := .tuple #[.bool true, .int .i64 0]) (congrArg (fun z : Bool => Value.tuple #[.bool z, .int .i64 0]) (decide_eq_true hall)) ?_
    repeat (first | (refine isO ?_; first | refine s_move ?_ | refine s_assign ?_ | (refine isG ?_; first | refine g_yes rfl rfl ?_ | refine g_no rfl rfl rfl ?_ | refine g_un rfl rfl ?_) | (refine isBin ?_; first | refine s_inc rfl (by omega) ?_ | refine s_lssT rfl rfl (by omega) ?_ | refine s_lssF rfl rfl (by omega) ?_ | refine s_lss rfl rfl ?_ | refine s_eqlT rfl rfl (by omega) ?_ | refine s_eqlF rfl rfl (by omega) ?_ | refine s_eql rfl rfl ?_ | refine s_neqT rfl rfl (by omega) ?_ | refine s_neqF rfl rfl (by omega) ?_ | refine s_neq rfl rfl ?_ | refine s_leqT rfl rfl (by omega) ?_ | refine s_leqF rfl rfl (by omega) ?_ | refine s_leq rfl rfl ?_ | refine s_gtrT rfl rfl (by omega) ?_ | refine s_gtrF rfl rfl (by omega) ?_ | refine s_gtr rfl rfl ?_ | refine s_geqT rfl rfl (by omega) ?_ | refine s_geqF rfl rfl (by omega) ?_ | refine s_geq rfl rfl ?_ | refine s_add rfl rfl ⟨by omega, by omega⟩ ?_ | refine s_sub rfl rfl ⟨by omega, by omega⟩ ?_) | (refine isCall ?_; first | refine s_lenI sl_ints rfl (by assumption) ?_ | refine s_lenR sl_rows rfl (by assumption) ?_ | refine s_len sl_ints rfl ?_ | refine s_len sl_rows rfl ?_) | (refine isIA ?_; refine s_ixI sl_ints ty_int rfl rfl rfl (by assumption) (by omega) ?_; intro _) | (refine isPick ?_; first | refine s_pickt rfl rfl ?_ | refine s_pickf rfl rfl ?_) | (refine isLD ?_; first | refine s_ldA ty_int rfl (by assumption) rfl ?_ | refine s_ldA ty_ints rfl (by assumption) rfl ?_) | refine s_extract rfl rfl ?_ | refine s_not rfl ?_) | (refine isC ?_; first | refine c_sr ?_ | refine c_th ?_ | refine c_seq ?_ | refine c_region ?_ | refine c_ift rfl ?_ | refine c_iff rfl ?_ | refine c_block ?_ | refine c_ret ?_ | refine c_exit ?_ | refine c_skip ?_) | (first | refine l_th ?_ | refine th_norm ?_ | refine ib_norm ?_ | refine l_nil ?_ | refine th_ret ?_ | refine ib_ret ?_ | refine ib_exit ?_ | refine th_exit ?_ | refine ib_pass rfl ?_))
    refine s_stA (n := 0) (u := .slice none 0 0) ty_ints rfl rfl rfl hA69 (by simp) ?_
    intro wa hAa hga
    refine s_stA (n := 0) (u := .bool false) ty_bl rfl rfl rfl (hA79.grown hga (fun e => by have := Option.some.inj e; omega)) (by simp) ?_
    intro wb hAb hgb
    refine s_stA (n := 0) (u := .int .i64 0) ty_err rfl rfl rfl ((hA89.grown hga (fun e => by have := Option.some.inj e; omega)).grown hgb (fun e => by have := Option.some.inj e; omega)) (by simp) ?_
    intro wc hAc hgc
    have hA6c := (hAa.grown hgb (fun e => by have := Option.some.inj e; omega)).grown hgc (fun e => by have := Option.some.inj e; omega)
    have hA7c := hAb.grown hgc (fun e => by have := Option.some.inj e; omega)
    repeat (first | (refine isO ?_; first | refine s_move ?_ | refine s_assign ?_ | (refine isG ?_; first | refine g_yes rfl rfl ?_ | refine g_no rfl rfl rfl ?_ | refine g_un rfl rfl ?_) | (refine isBin ?_; first | refine s_inc rfl (by omega) ?_ | refine s_lssT rfl rfl (by omega) ?_ | refine s_lssF rfl rfl (by omega) ?_ | refine s_lss rfl rfl ?_ | refine s_eqlT rfl rfl (by omega) ?_ | refine s_eqlF rfl rfl (by omega) ?_ | refine s_eql rfl rfl ?_ | refine s_neqT rfl rfl (by omega) ?_ | refine s_neqF rfl rfl (by omega) ?_ | refine s_neq rfl rfl ?_ | refine s_leqT rfl rfl (by omega) ?_ | refine s_leqF rfl rfl (by omega) ?_ | refine s_leq rfl rfl ?_ | refine s_gtrT rfl rfl (by omega) ?_ | refine s_gtrF rfl rfl (by omega) ?_ | refine s_gtr rfl rfl ?_ | refine s_geqT rfl rfl (by omega) ?_ | refine s_geqF rfl rfl (by omega) ?_ | refine s_geq rfl rfl ?_ | refine s_add rfl rfl ⟨by omega, by omega⟩ ?_ | refine s_sub rfl rfl ⟨by omega, by omega⟩ ?_) | (refine isCall ?_; first | refine s_lenI sl_ints rfl (by assumption) ?_ | refine s_lenR sl_rows rfl (by assumption) ?_ | refine s_len sl_ints rfl ?_ | refine s_len sl_rows rfl ?_) | (refine isIA ?_; refine s_ixI sl_ints ty_int rfl rfl rfl (by assumption) (by omega) ?_; intro _) | (refine isPick ?_; first | refine s_pickt rfl rfl ?_ | refine s_pickf rfl rfl ?_) | (refine isLD ?_; first | refine s_ldA ty_int rfl (by assumption) rfl ?_ | refine s_ldA ty_ints rfl (by assumption) rfl ?_) | refine s_extract rfl rfl ?_ | refine s_not rfl ?_) | (refine isC ?_; first | refine c_sr ?_ | refine c_th ?_ | refine c_seq ?_ | refine c_region ?_ | refine c_ift rfl ?_ | refine c_iff rfl ?_ | refine c_block ?_ | refine c_ret ?_ | refine c_exit ?_ | refine c_skip ?_) | (first | refine l_th ?_ | refine th_norm ?_ | refine ib_norm ?_ | refine l_nil ?_ | refine th_ret ?_ | refine ib_ret ?_ | refine ib_exit ?_ | refine th_exit ?_ | refine ib_pass rfl ?_))
    exact ret3d (Ds := []) (va := .slice none 0 0) (vb := .bool false) (vc := .int .i64 0) rfl rfl rfl rfl ty_ints ty_bl ty_err (by rw [hA6c.cell]; rfl) (by rw [hA7c.cell]; rfl) (by rw [hAc.cell]; rfl) List.nodup_nil (fun D hD => by simp at hD) (fun w' hp => ⟨PD.ex (((hx09.store hga (by omega)).store hgb (by omega)).store hgc (by omega)) hp (fun D hD => by simp at hD), .inl ⟨hfr, rfl⟩⟩)
  · have hfr : fewR R m nn sl = fewTo R nn sl (nn + 1) := by unfold fewR; rw [if_neg hall]
    refine s_re (v' := .tuple #[.bool false, .int .i64 0]) (congrArg (fun z : Bool => Value.tuple #[.bool z, .int .i64 0]) (decide_eq_false hall)) ?_
    repeat (first | (refine isO ?_; first | refine s_move ?_ | refine s_assign ?_ | (refine isG ?_; first | refine g_yes rfl rfl ?_ | refine g_no rfl rfl rfl ?_ | refine g_un rfl rfl ?_) | (refine isBin ?_; first | refine s_inc rfl (by omega) ?_ | refine s_lssT rfl rfl (by omega) ?_ | refine s_lssF rfl rfl (by omega) ?_ | refine s_lss rfl rfl ?_ | refine s_eqlT rfl rfl (by omega) ?_ | refine s_eqlF rfl rfl (by omega) ?_ | refine s_eql rfl rfl ?_ | refine s_neqT rfl rfl (by omega) ?_ | refine s_neqF rfl rfl (by omega) ?_ | refine s_neq rfl rfl ?_ | refine s_leqT rfl rfl (by omega) ?_ | refine s_leqF rfl rfl (by omega) ?_ | refine s_leq rfl rfl ?_ | refine s_gtrT rfl rfl (by omega) ?_ | refine s_gtrF rfl rfl (by omega) ?_ | refine s_gtr rfl rfl ?_ | refine s_geqT rfl rfl (by omega) ?_ | refine s_geqF rfl rfl (by omega) ?_ | refine s_geq rfl rfl ?_ | refine s_add rfl rfl ⟨by omega, by omega⟩ ?_ | refine s_sub rfl rfl ⟨by omega, by omega⟩ ?_) | (refine isCall ?_; first | refine s_lenI sl_ints rfl (by assumption) ?_ | refine s_lenR sl_rows rfl (by assumption) ?_ | refine s_len sl_ints rfl ?_ | refine s_len sl_rows rfl ?_) | (refine isIA ?_; refine s_ixI sl_ints ty_int rfl rfl rfl (by assumption) (by omega) ?_; intro _) | (refine isPick ?_; first | refine s_pickt rfl rfl ?_ | refine s_pickf rfl rfl ?_) | (refine isLD ?_; first | refine s_ldA ty_int rfl (by assumption) rfl ?_ | refine s_ldA ty_ints rfl (by assumption) rfl ?_) | refine s_extract rfl rfl ?_ | refine s_not rfl ?_) | (refine isC ?_; first | refine c_sr ?_ | refine c_th ?_ | refine c_seq ?_ | refine c_region ?_ | refine c_ift rfl ?_ | refine c_iff rfl ?_ | refine c_block ?_ | refine c_ret ?_ | refine c_exit ?_ | refine c_skip ?_) | (first | refine l_th ?_ | refine th_norm ?_ | refine ib_norm ?_ | refine l_nil ?_ | refine th_ret ?_ | refine ib_ret ?_ | refine ib_exit ?_ | refine th_exit ?_ | refine ib_pass rfl ?_))
    refine s_mkfn (vs := [.pointer (some ⟨b5, 0, none⟩), .pointer (some ⟨b3, 0, none⟩), .pointer (some ⟨b4, 0, none⟩)]) rfl ?_
    refine s_alloc (cs := [.nilFunc]) htf.1 htf.2 rfl ?_
    intro b11 wa hb11 hAa hxa hsa
    refine s_stA (n := 0) (u := .func (.func 50) #[] [.pointer (some ⟨b5, 0, none⟩), .pointer (some ⟨b3, 0, none⟩), .pointer (some ⟨b4, 0, none⟩)].toArray) ty_fn36 rfl rfl rfl hAa (by simp) ?_
    intro W0 hA11 hgW0
    have hx9W : Ex w9 W0 := hxa.store hgW0 (by omega)
    have hxW0 := hx09.trans hx9W
    have hxS := hx9.trans hx9W
    have hC0 : FC W0 b5 b3 b4 R m nn _ _ sl := ⟨hA58.ex hxS, hA38.ex hxS, hA48.ex hxS, hg.ex hxW0, hs.ex hxW0⟩
    have hA40 := hA48.ex hxS
    have hA60 := hA69.ex hx9W
    have hA70 := hA79.ex hx9W
    have hA80 := hA89.ex hx9W
    have hl6 := hA60.lt
    have hl7 := hA70.lt
    have hl8 := hA80.lt
    have zW0 := hxW0.size
    repeat (first | (refine isO ?_; first | refine s_move ?_ | refine s_assign ?_ | (refine isG ?_; first | refine g_yes rfl rfl ?_ | refine g_no rfl rfl rfl ?_ | refine g_un rfl rfl ?_) | (refine isBin ?_; first | refine s_inc rfl (by omega) ?_ | refine s_lssT rfl rfl (by omega) ?_ | refine s_lssF rfl rfl (by omega) ?_ | refine s_lss rfl rfl ?_ | refine s_eqlT rfl rfl (by omega) ?_ | refine s_eqlF rfl rfl (by omega) ?_ | refine s_eql rfl rfl ?_ | refine s_neqT rfl rfl (by omega) ?_ | refine s_neqF rfl rfl (by omega) ?_ | refine s_neq rfl rfl ?_ | refine s_leqT rfl rfl (by omega) ?_ | refine s_leqF rfl rfl (by omega) ?_ | refine s_leq rfl rfl ?_ | refine s_gtrT rfl rfl (by omega) ?_ | refine s_gtrF rfl rfl (by omega) ?_ | refine s_gtr rfl rfl ?_ | refine s_geqT rfl rfl (by omega) ?_ | refine s_geqF rfl rfl (by omega) ?_ | refine s_geq rfl rfl ?_ | refine s_add rfl rfl ⟨by omega, by omega⟩ ?_ | refine s_sub rfl rfl ⟨by omega, by omega⟩ ?_) | (refine isCall ?_; first | refine s_lenI sl_ints rfl (by assumption) ?_ | refine s_lenR sl_rows rfl (by assumption) ?_ | refine s_len sl_ints rfl ?_ | refine s_len sl_rows rfl ?_) | (refine isIA ?_; refine s_ixI sl_ints ty_int rfl rfl rfl (by assumption) (by omega) ?_; intro _) | (refine isPick ?_; first | refine s_pickt rfl rfl ?_ | refine s_pickf rfl rfl ?_) | (refine isLD ?_; first | refine s_ldA ty_int rfl (by assumption) rfl ?_ | refine s_ldA ty_ints rfl (by assumption) rfl ?_) | refine s_extract rfl rfl ?_ | refine s_not rfl ?_) | (refine isC ?_; first | refine c_sr ?_ | refine c_th ?_ | refine c_seq ?_ | refine c_region ?_ | refine c_ift rfl ?_ | refine c_iff rfl ?_ | refine c_block ?_ | refine c_ret ?_ | refine c_exit ?_ | refine c_skip ?_) | (first | refine l_th ?_ | refine th_norm ?_ | refine ib_norm ?_ | refine l_nil ?_ | refine th_ret ?_ | refine ib_ret ?_ | refine ib_exit ?_ | refine th_exit ?_ | refine ib_pass rfl ?_))
    refine c_loopD 70367670448128 (fun many => [(30, .int .i64 (many : Int))]) (fun many Ds W => many ≤ nn + 1 ∧ Ex W0 W ∧ fewTo R nn sl many = none ∧ Marks Ds W ∧ Ds.Nodup ∧ ∀ D ∈ Ds, W0.heap.size ≤ D ∧ D < W.heap.size) (fun many => nn + 1 - many) 0 ⟨rfl, trivial⟩
      ⟨Nat.zero_le _, Ex.refl _, rfl, fun D hD => by simp at hD, List.nodup_nil, fun D hD => by simp at hD⟩ ?_
    rintro many Ds ρ W ⟨hmany, hxW, hft, hmk, hnd, hDs⟩
    have hA4W := hA40.ex hxW
    have hA6W := hA60.ex hxW
    have hA7W := hA70.ex hxW
    have hA8W := hA80.ex hxW
    have hx0W := hxW0.trans hxW
    have zW := hxW.size
    repeat (first | (refine isO ?_; first | refine s_move ?_ | refine s_assign ?_ | (refine isG ?_; first | refine g_yes rfl rfl ?_ | refine g_no rfl rfl rfl ?_ | refine g_un rfl rfl ?_) | (refine isBin ?_; first | refine s_inc rfl (by omega) ?_ | refine s_lssT rfl rfl (by omega) ?_ | refine s_lssF rfl rfl (by omega) ?_ | refine s_lss rfl rfl ?_ | refine s_eqlT rfl rfl (by omega) ?_ | refine s_eqlF rfl rfl (by omega) ?_ | refine s_eql rfl rfl ?_ | refine s_neqT rfl rfl (by omega) ?_ | refine s_neqF rfl rfl (by omega) ?_ | refine s_neq rfl rfl ?_ | refine s_leqT rfl rfl (by omega) ?_ | refine s_leqF rfl rfl (by omega) ?_ | refine s_leq rfl rfl ?_ | refine s_gtrT rfl rfl (by omega) ?_ | refine s_gtrF rfl rfl (by omega) ?_ | refine s_gtr rfl rfl ?_ | refine s_geqT rfl rfl (by omega) ?_ | refine s_geqF rfl rfl (by omega) ?_ | refine s_geq rfl rfl ?_ | refine s_add rfl rfl ⟨by omega, by omega⟩ ?_ | refine s_sub rfl rfl ⟨by omega, by omega⟩ ?_) | (refine isCall ?_; first | refine s_lenI sl_ints rfl (by assumption) ?_ | refine s_lenR sl_rows rfl (by assumption) ?_ | refine s_len sl_ints rfl ?_ | refine s_len sl_rows rfl ?_) | (refine isIA ?_; refine s_ixI sl_ints ty_int rfl rfl rfl (by assumption) (by omega) ?_; intro _) | (refine isPick ?_; first | refine s_pickt rfl rfl ?_ | refine s_pickf rfl rfl ?_) | (refine isLD ?_; first | refine s_ldA ty_int rfl (by assumption) rfl ?_ | refine s_ldA ty_ints rfl (by assumption) rfl ?_) | refine s_extract rfl rfl ?_ | refine s_not rfl ?_) | (refine isC ?_; first | refine c_sr ?_ | refine c_th ?_ | refine c_seq ?_ | refine c_region ?_ | refine c_ift rfl ?_ | refine c_iff rfl ?_ | refine c_block ?_ | refine c_ret ?_ | refine c_exit ?_ | refine c_skip ?_) | (first | refine l_th ?_ | refine th_norm ?_ | refine ib_norm ?_ | refine l_nil ?_ | refine th_ret ?_ | refine ib_ret ?_ | refine ib_exit ?_ | refine th_exit ?_ | refine ib_pass rfl ?_))
    refine c_ifd rfl (fun h => ?_) (fun h => ?_)
    · have hmany' : many < nn + 1 := by omega
      repeat (first | (refine isO ?_; first | refine s_move ?_ | refine s_assign ?_ | (refine isG ?_; first | refine g_yes rfl rfl ?_ | refine g_no rfl rfl rfl ?_ | refine g_un rfl rfl ?_) | (refine isBin ?_; first | refine s_inc rfl (by omega) ?_ | refine s_lssT rfl rfl (by omega) ?_ | refine s_lssF rfl rfl (by omega) ?_ | refine s_lss rfl rfl ?_ | refine s_eqlT rfl rfl (by omega) ?_ | refine s_eqlF rfl rfl (by omega) ?_ | refine s_eql rfl rfl ?_ | refine s_neqT rfl rfl (by omega) ?_ | refine s_neqF rfl rfl (by omega) ?_ | refine s_neq rfl rfl ?_ | refine s_leqT rfl rfl (by omega) ?_ | refine s_leqF rfl rfl (by omega) ?_ | refine s_leq rfl rfl ?_ | refine s_gtrT rfl rfl (by omega) ?_ | refine s_gtrF rfl rfl (by omega) ?_ | refine s_gtr rfl rfl ?_ | refine s_geqT rfl rfl (by omega) ?_ | refine s_geqF rfl rfl (by omega) ?_ | refine s_geq rfl rfl ?_ | refine s_add rfl rfl ⟨by omega, by omega⟩ ?_ | refine s_sub rfl rfl ⟨by omega, by omega⟩ ?_) | (refine isCall ?_; first | refine s_lenI sl_ints rfl (by assumption) ?_ | refine s_lenR sl_rows rfl (by assumption) ?_ | refine s_len sl_ints rfl ?_ | refine s_len sl_rows rfl ?_) | (refine isIA ?_; refine s_ixI sl_ints ty_int rfl rfl rfl (by assumption) (by omega) ?_; intro _) | (refine isPick ?_; first | refine s_pickt rfl rfl ?_ | refine s_pickf rfl rfl ?_) | (refine isLD ?_; first | refine s_ldA ty_int rfl (by assumption) rfl ?_ | refine s_ldA ty_ints rfl (by assumption) rfl ?_) | refine s_extract rfl rfl ?_ | refine s_not rfl ?_) | (refine isC ?_; first | refine c_sr ?_ | refine c_th ?_ | refine c_seq ?_ | refine c_region ?_ | refine c_ift rfl ?_ | refine c_iff rfl ?_ | refine c_block ?_ | refine c_ret ?_ | refine c_exit ?_ | refine c_skip ?_) | (first | refine l_th ?_ | refine th_norm ?_ | refine ib_norm ?_ | refine l_nil ?_ | refine th_ret ?_ | refine ib_ret ?_ | refine ib_exit ?_ | refine th_exit ?_ | refine ib_pass rfl ?_))
      refine s_alloc (cs := [.int .i64 0]) hti1.1 hti1.2.1 rfl ?_
      intro b12 W1 hb12 hA12 hxW1 hsW1
      refine s_stA (n := 0) (u := .int .i64 (many : Int)) ty_int rfl rfl rfl hA12 (by simp) ?_
      intro W2 hA122 hgW2
      have hxW2 : Ex W W2 := hxW1.store hgW2 (by omega)
      have hA42 := hA4W.ex hxW2
      have hA122' : At W2 b12 3 [.int .i64 (many : Int)] := hA122
      repeat (first | (refine isO ?_; first | refine s_move ?_ | refine s_assign ?_ | (refine isG ?_; first | refine g_yes rfl rfl ?_ | refine g_no rfl rfl rfl ?_ | refine g_un rfl rfl ?_) | (refine isBin ?_; first | refine s_inc rfl (by omega) ?_ | refine s_lssT rfl rfl (by omega) ?_ | refine s_lssF rfl rfl (by omega) ?_ | refine s_lss rfl rfl ?_ | refine s_eqlT rfl rfl (by omega) ?_ | refine s_eqlF rfl rfl (by omega) ?_ | refine s_eql rfl rfl ?_ | refine s_neqT rfl rfl (by omega) ?_ | refine s_neqF rfl rfl (by omega) ?_ | refine s_neq rfl rfl ?_ | refine s_leqT rfl rfl (by omega) ?_ | refine s_leqF rfl rfl (by omega) ?_ | refine s_leq rfl rfl ?_ | refine s_gtrT rfl rfl (by omega) ?_ | refine s_gtrF rfl rfl (by omega) ?_ | refine s_gtr rfl rfl ?_ | refine s_geqT rfl rfl (by omega) ?_ | refine s_geqF rfl rfl (by omega) ?_ | refine s_geq rfl rfl ?_ | refine s_add rfl rfl ⟨by omega, by omega⟩ ?_ | refine s_sub rfl rfl ⟨by omega, by omega⟩ ?_) | (refine isCall ?_; first | refine s_lenI sl_ints rfl (by assumption) ?_ | refine s_lenR sl_rows rfl (by assumption) ?_ | refine s_len sl_ints rfl ?_ | refine s_len sl_rows rfl ?_) | (refine isIA ?_; refine s_ixI sl_ints ty_int rfl rfl rfl (by assumption) (by omega) ?_; intro _) | (refine isPick ?_; first | refine s_pickt rfl rfl ?_ | refine s_pickf rfl rfl ?_) | (refine isLD ?_; first | refine s_ldA ty_int rfl (by assumption) rfl ?_ | refine s_ldA ty_ints rfl (by assumption) rfl ?_) | refine s_extract rfl rfl ?_ | refine s_not rfl ?_) | (refine isC ?_; first | refine c_sr ?_ | refine c_th ?_ | refine c_seq ?_ | refine c_region ?_ | refine c_ift rfl ?_ | refine c_iff rfl ?_ | refine c_block ?_ | refine c_ret ?_ | refine c_exit ?_ | refine c_skip ?_) | (first | refine l_th ?_ | refine th_norm ?_ | refine ib_norm ?_ | refine l_nil ?_ | refine th_ret ?_ | refine ib_ret ?_ | refine ib_exit ?_ | refine th_exit ?_ | refine ib_pass rfl ?_))
      refine s_call (vs := [.slice none 0 0, .int .i64 ((0 : Nat) : Int), .int .i64 (nn : Int), .int .i64 (many : Int)]) ok_sets rfl (sets_ct _ [] 0 nn many W2 (Ints.nil W2)) ?_
      rintro u Wr ⟨c1, c2, c3, c4, rfl, hCr, hxr⟩
      have hit := sets_iter many [] 0 nn c1 c2 c3 c4 _ Wr hn (by omega) (by simp; omega) hCr
      have hxWr := hxW2.trans hxr
      have hx0r := hxW.trans hxWr
      have hxwr := hxW0.trans hx0r
      have zr := hx0r.size
      have hA12r := hA122'.ex hxr
      have hA11r := hA11.ex hx0r
      have hCFr := hC0.ex hx0r
      have hA6r := hA60.ex hx0r
      have hA7r := hA70.ex hx0r
      have hA8r := hA80.ex hx0r
      repeat (first | (refine isO ?_; first | refine s_move ?_ | refine s_assign ?_ | (refine isG ?_; first | refine g_yes rfl rfl ?_ | refine g_no rfl rfl rfl ?_ | refine g_un rfl rfl ?_) | (refine isBin ?_; first | refine s_inc rfl (by omega) ?_ | refine s_lssT rfl rfl (by omega) ?_ | refine s_lssF rfl rfl (by omega) ?_ | refine s_lss rfl rfl ?_ | refine s_eqlT rfl rfl (by omega) ?_ | refine s_eqlF rfl rfl (by omega) ?_ | refine s_eql rfl rfl ?_ | refine s_neqT rfl rfl (by omega) ?_ | refine s_neqF rfl rfl (by omega) ?_ | refine s_neq rfl rfl ?_ | refine s_leqT rfl rfl (by omega) ?_ | refine s_leqF rfl rfl (by omega) ?_ | refine s_leq rfl rfl ?_ | refine s_gtrT rfl rfl (by omega) ?_ | refine s_gtrF rfl rfl (by omega) ?_ | refine s_gtr rfl rfl ?_ | refine s_geqT rfl rfl (by omega) ?_ | refine s_geqF rfl rfl (by omega) ?_ | refine s_geq rfl rfl ?_ | refine s_add rfl rfl ⟨by omega, by omega⟩ ?_ | refine s_sub rfl rfl ⟨by omega, by omega⟩ ?_) | (refine isCall ?_; first | refine s_lenI sl_ints rfl (by assumption) ?_ | refine s_lenR sl_rows rfl (by assumption) ?_ | refine s_len sl_ints rfl ?_ | refine s_len sl_rows rfl ?_) | (refine isIA ?_; refine s_ixI sl_ints ty_int rfl rfl rfl (by assumption) (by omega) ?_; intro _) | (refine isPick ?_; first | refine s_pickt rfl rfl ?_ | refine s_pickf rfl rfl ?_) | (refine isLD ?_; first | refine s_ldA ty_int rfl (by assumption) rfl ?_ | refine s_ldA ty_ints rfl (by assumption) rfl ?_) | refine s_extract rfl rfl ?_ | refine s_not rfl ?_) | (refine isC ?_; first | refine c_sr ?_ | refine c_th ?_ | refine c_seq ?_ | refine c_region ?_ | refine c_ift rfl ?_ | refine c_iff rfl ?_ | refine c_block ?_ | refine c_ret ?_ | refine c_exit ?_ | refine c_skip ?_) | (first | refine l_th ?_ | refine th_norm ?_ | refine ib_norm ?_ | refine l_nil ?_ | refine th_ret ?_ | refine ib_ret ?_ | refine ib_exit ?_ | refine th_exit ?_ | refine ib_pass rfl ?_))
      refine c_rangeX (gf := 62) (lb := capsL c1 c2 c3 c4) (L := setsR many [] 0 nn) (w0 := Wr) rfl ok_sets1 hit (Ex.refl Wr) rfl (fun i => ∀ y, (setsR many [] 0 nn)[i]? = some y → fewB R nn sl y = false) (fun i W' => FJ w W0 Wr W' (setsR many [] 0 nn) (fewB R nn sl) b6 b7 b8 i)
        (fun i W' W'' hJ hb hkc => hJ.go hb hkc (by omega) (by omega) (by omega) (by omega)) (fun v σ => upd (updl [(36, v)] σ) 13 v) ?_ ?_ ?_ ?_
      · intro l' v W' K hK
        repeat (first | (refine isO ?_; first | refine s_move ?_ | refine s_assign ?_ | (refine isG ?_; first | refine g_yes rfl rfl ?_ | refine g_no rfl rfl rfl ?_ | refine g_un rfl rfl ?_) | (refine isBin ?_; first | refine s_inc rfl (by omega) ?_ | refine s_lssT rfl rfl (by omega) ?_ | refine s_lssF rfl rfl (by omega) ?_ | refine s_lss rfl rfl ?_ | refine s_eqlT rfl rfl (by omega) ?_ | refine s_eqlF rfl rfl (by omega) ?_ | refine s_eql rfl rfl ?_ | refine s_neqT rfl rfl (by omega) ?_ | refine s_neqF rfl rfl (by omega) ?_ | refine s_neq rfl rfl ?_ | refine s_leqT rfl rfl (by omega) ?_ | refine s_leqF rfl rfl (by omega) ?_ | refine s_leq rfl rfl ?_ | refine s_gtrT rfl rfl (by omega) ?_ | refine s_gtrF rfl rfl (by omega) ?_ | refine s_gtr rfl rfl ?_ | refine s_geqT rfl rfl (by omega) ?_ | refine s_geqF rfl rfl (by omega) ?_ | refine s_geq rfl rfl ?_ | refine s_add rfl rfl ⟨by omega, by omega⟩ ?_ | refine s_sub rfl rfl ⟨by omega, by omega⟩ ?_) | (refine isCall ?_; first | refine s_lenI sl_ints rfl (by assumption) ?_ | refine s_lenR sl_rows rfl (by assumption) ?_ | refine s_len sl_ints rfl ?_ | refine s_len sl_rows rfl ?_) | (refine isIA ?_; refine s_ixI sl_ints ty_int rfl rfl rfl (by assumption) (by omega) ?_; intro _) | (refine isPick ?_; first | refine s_pickt rfl rfl ?_ | refine s_pickf rfl rfl ?_) | (refine isLD ?_; first | refine s_ldA ty_int rfl (by assumption) rfl ?_ | refine s_ldA ty_ints rfl (by assumption) rfl ?_) | refine s_extract rfl rfl ?_ | refine s_not rfl ?_) | (refine isC ?_; first | refine c_sr ?_ | refine c_th ?_ | refine c_seq ?_ | refine c_region ?_ | refine c_ift rfl ?_ | refine c_iff rfl ?_ | refine c_block ?_ | refine c_ret ?_ | refine c_exit ?_ | refine c_skip ?_) | (first | refine l_th ?_ | refine th_norm ?_ | refine ib_norm ?_ | refine l_nil ?_ | refine th_ret ?_ | refine ib_ret ?_ | refine ib_exit ?_ | refine th_exit ?_ | refine ib_pass rfl ?_))
        exact hK
      · intro l' i x v W' hx hxW' hI'
        have hxl : x.length = many := by have := setsR_len many [] 0 nn x (List.mem_of_getElem? hx); simpa using this
        have hA11' := hA11r.ex hxW'
        have hA12' := hA12r.ex hxW'
        have hCF' := hCFr.ex hxW'
        repeat (first | (refine isO ?_; first | refine s_move ?_ | refine s_assign ?_ | (refine isG ?_; first | refine g_yes rfl rfl ?_ | refine g_no rfl rfl rfl ?_ | refine g_un rfl rfl ?_) | (refine isBin ?_; first | refine s_inc rfl (by omega) ?_ | refine s_lssT rfl rfl (by omega) ?_ | refine s_lssF rfl rfl (by omega) ?_ | refine s_lss rfl rfl ?_ | refine s_eqlT rfl rfl (by omega) ?_ | refine s_eqlF rfl rfl (by omega) ?_ | refine s_eql rfl rfl ?_ | refine s_neqT rfl rfl (by omega) ?_ | refine s_neqF rfl rfl (by omega) ?_ | refine s_neq rfl rfl ?_ | refine s_leqT rfl rfl (by omega) ?_ | refine s_leqF rfl rfl (by omega) ?_ | refine s_leq rfl rfl ?_ | refine s_gtrT rfl rfl (by omega) ?_ | refine s_gtrF rfl rfl (by omega) ?_ | refine s_gtr rfl rfl ?_ | refine s_geqT rfl rfl (by omega) ?_ | refine s_geqF rfl rfl (by omega) ?_ | refine s_geq rfl rfl ?_ | refine s_add rfl rfl ⟨by omega, by omega⟩ ?_ | refine s_sub rfl rfl ⟨by omega, by omega⟩ ?_) | (refine isCall ?_; first | refine s_lenI sl_ints rfl (by assumption) ?_ | refine s_lenR sl_rows rfl (by assumption) ?_ | refine s_len sl_ints rfl ?_ | refine s_len sl_rows rfl ?_) | (refine isIA ?_; refine s_ixI sl_ints ty_int rfl rfl rfl (by assumption) (by omega) ?_; intro _) | (refine isPick ?_; first | refine s_pickt rfl rfl ?_ | refine s_pickf rfl rfl ?_) | (refine isLD ?_; first | refine s_ldA ty_int rfl (by assumption) rfl ?_ | refine s_ldA ty_ints rfl (by assumption) rfl ?_) | refine s_extract rfl rfl ?_ | refine s_not rfl ?_) | (refine isC ?_; first | refine c_sr ?_ | refine c_th ?_ | refine c_seq ?_ | refine c_region ?_ | refine c_ift rfl ?_ | refine c_iff rfl ?_ | refine c_block ?_ | refine c_ret ?_ | refine c_exit ?_ | refine c_skip ?_) | (first | refine l_th ?_ | refine th_norm ?_ | refine ib_norm ?_ | refine l_nil ?_ | refine th_ret ?_ | refine ib_ret ?_ | refine ib_exit ?_ | refine th_exit ?_ | refine ib_pass rfl ?_))
        refine c_drawO (Ex.refl W') 5 5 [(0, true), (1, true), (3, true), (2, false), (4, true)] mixed (by kernel_rfl) ?_
        have hxd := Ex.drew W'
        refine d_ldA rfl ty_fn36 rfl hA11' rfl ?_
        refine d_move rfl ?_
        refine d_ldA rfl ty_int rfl hA12' rfl ?_
        refine d_ch rfl ?_
        refine s_callv (by intro f e; cases e) rfl ok_Few1 rfl (Few1_ct hm hn (hCF'.ex hxd) hris (hI'.ex hxd)) ?_
        rintro u W3 ⟨rfl, hx3⟩
        have hxd3 := hxd.trans hx3
        refine l_nil ⟨rfl, .inr hxd3, ?_⟩
        refine d_gtr rfl rfl rfl ?_
        have hfe : decide ((many : Int) < (withN R nn sl x : Int)) = fewB R nn sl x := by unfold fewB; rw [hxl, Bool.eq_iff_iff, decide_eq_true_eq, decide_eq_true_eq]; omega
        refine Or.elim (tf8 (fewB R nn sl x)) (fun hb => ?_) (fun hb => ?_)
        · refine d_re (v' := .bool true) (vbool (hfe.trans hb)) ?_
          refine d_nil ?_
          have hI3 := hI'.ex hxd3
          repeat (first | (refine isO ?_; first | refine s_move ?_ | refine s_assign ?_ | (refine isG ?_; first | refine g_yes rfl rfl ?_ | refine g_no rfl rfl rfl ?_ | refine g_un rfl rfl ?_) | (refine isBin ?_; first | refine s_inc rfl (by omega) ?_ | refine s_lssT rfl rfl (by omega) ?_ | refine s_lssF rfl rfl (by omega) ?_ | refine s_lss rfl rfl ?_ | refine s_eqlT rfl rfl (by omega) ?_ | refine s_eqlF rfl rfl (by omega) ?_ | refine s_eql rfl rfl ?_ | refine s_neqT rfl rfl (by omega) ?_ | refine s_neqF rfl rfl (by omega) ?_ | refine s_neq rfl rfl ?_ | refine s_leqT rfl rfl (by omega) ?_ | refine s_leqF rfl rfl (by omega) ?_ | refine s_leq rfl rfl ?_ | refine s_gtrT rfl rfl (by omega) ?_ | refine s_gtrF rfl rfl (by omega) ?_ | refine s_gtr rfl rfl ?_ | refine s_geqT rfl rfl (by omega) ?_ | refine s_geqF rfl rfl (by omega) ?_ | refine s_geq rfl rfl ?_ | refine s_add rfl rfl ⟨by omega, by omega⟩ ?_ | refine s_sub rfl rfl ⟨by omega, by omega⟩ ?_) | (refine isCall ?_; first | refine s_lenI sl_ints rfl (by assumption) ?_ | refine s_lenR sl_rows rfl (by assumption) ?_ | refine s_len sl_ints rfl ?_ | refine s_len sl_rows rfl ?_) | (refine isIA ?_; refine s_ixI sl_ints ty_int rfl rfl rfl (by assumption) (by omega) ?_; intro _) | (refine isPick ?_; first | refine s_pickt rfl rfl ?_ | refine s_pickf rfl rfl ?_) | (refine isLD ?_; first | refine s_ldA ty_int rfl (by assumption) rfl ?_ | refine s_ldA ty_ints rfl (by assumption) rfl ?_) | refine s_extract rfl rfl ?_ | refine s_not rfl ?_) | (refine isC ?_; first | refine c_sr ?_ | refine c_th ?_ | refine c_seq ?_ | refine c_region ?_ | refine c_ift rfl ?_ | refine c_iff rfl ?_ | refine c_block ?_ | refine c_ret ?_ | refine c_exit ?_ | refine c_skip ?_) | (first | refine l_th ?_ | refine th_norm ?_ | refine ib_norm ?_ | refine l_nil ?_ | refine th_ret ?_ | refine ib_ret ?_ | refine ib_exit ?_ | refine th_exit ?_ | refine ib_pass rfl ?_))
          refine s_call ok_Clone rfl (Clone_ct v x W3 hI3 (by omega)) ?_
          rintro v4 W4 ⟨hL4, hx4⟩
          refine s_call ok_Clip rfl (Clip_ct v4 x W4 (hL4.ints (by omega))) ?_
          rintro v5 W5 ⟨⟨a5, c5, hv4, rfl⟩, hI5, hx5⟩
          have hxW5 := hxd3.trans (hx4.trans hx5)
          have hxr5 := hxW'.trans hxW5
          have hA65 := hA6r.ex hxr5
          have hA75 := hA7r.ex hxr5
          have hA85 := hA8r.ex hxr5
          have hxw5 := hxwr.trans hxr5
          have zr5 := hxr5.size
          have zrW' := hxW'.size
          have zr3 := (hxW'.trans hxd3).size
          have hown : ∀ b, (Value.slice a5 x.length x.length).ownBlock = some b → W3.heap.size ≤ b := fun b e => hL4.2 b (by rw [hv4]; cases a5 <;> exact e)
          refine s_stA (n := 0) (u := .slice a5 x.length x.length) ty_ints rfl rfl rfl hA65 (by simp) ?_
          intro W6 hA66 hg6
          refine s_stA (n := 0) (u := .bool true) ty_bl rfl rfl rfl (hA75.grown hg6 (fun e => by have := Option.some.inj e; omega)) (by simp) ?_
          intro W7 hA77 hg7
          refine s_stA (n := 0) (u := .int .i64 0) ty_err rfl rfl rfl ((hA85.grown hg6 (fun e => by have := Option.some.inj e; omega)).grown hg7 (fun e => by have := Option.some.inj e; omega)) (by simp) ?_
          intro W8 hA88 hg8
          have hA68 := (hA66.grown hg7 (fun e => by have := Option.some.inj e; omega)).grown hg8 (fun e => by have := Option.some.inj e; omega)
          have hA78 := hA77.grown hg8 (fun e => by have := Option.some.inj e; omega)
          have hI8 : Ints W8 (.slice a5 x.length x.length) x := ((hI5.kept hg6 (.inr fun e => by have := hown _ e; omega)).kept hg7 (.inr fun e => by have := hown _ e; omega)).kept hg8 (.inr fun e => by have := hown _ e; omega)
          have hxw8 : Ex w W8 := ((hxw5.store hg6 (by omega)).store hg7 (by omega)).store hg8 (by omega)
          repeat (first | (refine isO ?_; first | refine s_move ?_ | refine s_assign ?_ | (refine isG ?_; first | refine g_yes rfl rfl ?_ | refine g_no rfl rfl rfl ?_ | refine g_un rfl rfl ?_) | (refine isBin ?_; first | refine s_inc rfl (by omega) ?_ | refine s_lssT rfl rfl (by omega) ?_ | refine s_lssF rfl rfl (by omega) ?_ | refine s_lss rfl rfl ?_ | refine s_eqlT rfl rfl (by omega) ?_ | refine s_eqlF rfl rfl (by omega) ?_ | refine s_eql rfl rfl ?_ | refine s_neqT rfl rfl (by omega) ?_ | refine s_neqF rfl rfl (by omega) ?_ | refine s_neq rfl rfl ?_ | refine s_leqT rfl rfl (by omega) ?_ | refine s_leqF rfl rfl (by omega) ?_ | refine s_leq rfl rfl ?_ | refine s_gtrT rfl rfl (by omega) ?_ | refine s_gtrF rfl rfl (by omega) ?_ | refine s_gtr rfl rfl ?_ | refine s_geqT rfl rfl (by omega) ?_ | refine s_geqF rfl rfl (by omega) ?_ | refine s_geq rfl rfl ?_ | refine s_add rfl rfl ⟨by omega, by omega⟩ ?_ | refine s_sub rfl rfl ⟨by omega, by omega⟩ ?_) | (refine isCall ?_; first | refine s_lenI sl_ints rfl (by assumption) ?_ | refine s_lenR sl_rows rfl (by assumption) ?_ | refine s_len sl_ints rfl ?_ | refine s_len sl_rows rfl ?_) | (refine isIA ?_; refine s_ixI sl_ints ty_int rfl rfl rfl (by assumption) (by omega) ?_; intro _) | (refine isPick ?_; first | refine s_pickt rfl rfl ?_ | refine s_pickf rfl rfl ?_) | (refine isLD ?_; first | refine s_ldA ty_int rfl (by assumption) rfl ?_ | refine s_ldA ty_ints rfl (by assumption) rfl ?_) | refine s_extract rfl rfl ?_ | refine s_not rfl ?_) | (refine isC ?_; first | refine c_sr ?_ | refine c_th ?_ | refine c_seq ?_ | refine c_region ?_ | refine c_ift rfl ?_ | refine c_iff rfl ?_ | refine c_block ?_ | refine c_ret ?_ | refine c_exit ?_ | refine c_skip ?_) | (first | refine l_th ?_ | refine th_norm ?_ | refine ib_norm ?_ | refine l_nil ?_ | refine th_ret ?_ | refine ib_ret ?_ | refine ib_exit ?_ | refine th_exit ?_ | refine ib_pass rfl ?_))
          refine ⟨⟨⟨x, _, a5, hx, hb, hA68, hA78, hA88, rfl, fun b e => by have := hown b e; omega, hI8, hxw8⟩, ?_⟩, ?_⟩
          · exact ((Kb.ex hxr5).trans (Kb.store hg6 (by omega))).trans ((Kb.store hg7 (by omega)).trans (Kb.store hg8 (by omega)))
          · exact ((Kb.ex hxW5).trans (Kb.store hg6 (by omega))).trans ((Kb.store hg7 (by omega)).trans (Kb.store hg8 (by omega)))
        · refine d_re (v' := .bool false) (vbool (hfe.trans hb)) ?_
          refine d_nil ?_
          repeat (first | (refine isO ?_; first | refine s_move ?_ | refine s_assign ?_ | (refine isG ?_; first | refine g_yes rfl rfl ?_ | refine g_no rfl rfl rfl ?_ | refine g_un rfl rfl ?_) | (refine isBin ?_; first | refine s_inc rfl (by omega) ?_ | refine s_lssT rfl rfl (by omega) ?_ | refine s_lssF rfl rfl (by omega) ?_ | refine s_lss rfl rfl ?_ | refine s_eqlT rfl rfl (by omega) ?_ | refine s_eqlF rfl rfl (by omega) ?_ | refine s_eql rfl rfl ?_ | refine s_neqT rfl rfl (by omega) ?_ | refine s_neqF rfl rfl (by omega) ?_ | refine s_neq rfl rfl ?_ | refine s_leqT rfl rfl (by omega) ?_ | refine s_leqF rfl rfl (by omega) ?_ | refine s_leq rfl rfl ?_ | refine s_gtrT rfl rfl (by omega) ?_ | refine s_gtrF rfl rfl (by omega) ?_ | refine s_gtr rfl rfl ?_ | refine s_geqT rfl rfl (by omega) ?_ | refine s_geqF rfl rfl (by omega) ?_ | refine s_geq rfl rfl ?_ | refine s_add rfl rfl ⟨by omega, by omega⟩ ?_ | refine s_sub rfl rfl ⟨by omega, by omega⟩ ?_) | (refine isCall ?_; first | refine s_lenI sl_ints rfl (by assumption) ?_ | refine s_lenR sl_rows rfl (by assumption) ?_ | refine s_len sl_ints rfl ?_ | refine s_len sl_rows rfl ?_) | (refine isIA ?_; refine s_ixI sl_ints ty_int rfl rfl rfl (by assumption) (by omega) ?_; intro _) | (refine isPick ?_; first | refine s_pickt rfl rfl ?_ | refine s_pickf rfl rfl ?_) | (refine isLD ?_; first | refine s_ldA ty_int rfl (by assumption) rfl ?_ | refine s_ldA ty_ints rfl (by assumption) rfl ?_) | refine s_extract rfl rfl ?_ | refine s_not rfl ?_) | (refine isC ?_; first | refine c_sr ?_ | refine c_th ?_ | refine c_seq ?_ | refine c_region ?_ | refine c_ift rfl ?_ | refine c_iff rfl ?_ | refine c_block ?_ | refine c_ret ?_ | refine c_exit ?_ | refine c_skip ?_) | (first | refine l_th ?_ | refine th_norm ?_ | refine ib_norm ?_ | refine l_nil ?_ | refine th_ret ?_ | refine ib_ret ?_ | refine ib_exit ?_ | refine th_exit ?_ | refine ib_pass rfl ?_))
          exact ⟨hxd3, fun y hy => by rw [hx] at hy; cases hy; exact hb⟩
      · intro D W6 hD hx6 hG6 hK6
        have hmk6 : Marks (D :: Ds) W6 := fun E hE => by
          rcases List.mem_cons.1 hE with rfl | hE
          · exact hK6
          · exact (hmk.ex (hxWr.trans hx6)) E hE
        have z5 := hxWr.size
        have z6 := hx6.size
        have hlt6 := (Array.getElem?_eq_some_iff.1 hK6).1
        have hfu : fewUp R nn sl many = none := find_none hG6
        have hft' := fewTo_none hft hfu
        repeat (first | (refine isO ?_; first | refine s_move ?_ | refine s_assign ?_ | (refine isG ?_; first | refine g_yes rfl rfl ?_ | refine g_no rfl rfl rfl ?_ | refine g_un rfl rfl ?_) | (refine isBin ?_; first | refine s_inc rfl (by omega) ?_ | refine s_lssT rfl rfl (by omega) ?_ | refine s_lssF rfl rfl (by omega) ?_ | refine s_lss rfl rfl ?_ | refine s_eqlT rfl rfl (by omega) ?_ | refine s_eqlF rfl rfl (by omega) ?_ | refine s_eql rfl rfl ?_ | refine s_neqT rfl rfl (by omega) ?_ | refine s_neqF rfl rfl (by omega) ?_ | refine s_neq rfl rfl ?_ | refine s_leqT rfl rfl (by omega) ?_ | refine s_leqF rfl rfl (by omega) ?_ | refine s_leq rfl rfl ?_ | refine s_gtrT rfl rfl (by omega) ?_ | refine s_gtrF rfl rfl (by omega) ?_ | refine s_gtr rfl rfl ?_ | refine s_geqT rfl rfl (by omega) ?_ | refine s_geqF rfl rfl (by omega) ?_ | refine s_geq rfl rfl ?_ | refine s_add rfl rfl ⟨by omega, by omega⟩ ?_ | refine s_sub rfl rfl ⟨by omega, by omega⟩ ?_) | (refine isCall ?_; first | refine s_lenI sl_ints rfl (by assumption) ?_ | refine s_lenR sl_rows rfl (by assumption) ?_ | refine s_len sl_ints rfl ?_ | refine s_len sl_rows rfl ?_) | (refine isIA ?_; refine s_ixI sl_ints ty_int rfl rfl rfl (by assumption) (by omega) ?_; intro _) | (refine isPick ?_; first | refine s_pickt rfl rfl ?_ | refine s_pickf rfl rfl ?_) | (refine isLD ?_; first | refine s_ldA ty_int rfl (by assumption) rfl ?_ | refine s_ldA ty_ints rfl (by assumption) rfl ?_) | refine s_extract rfl rfl ?_ | refine s_not rfl ?_) | (refine isC ?_; first | refine c_sr ?_ | refine c_th ?_ | refine c_seq ?_ | refine c_region ?_ | refine c_ift rfl ?_ | refine c_iff rfl ?_ | refine c_block ?_ | refine c_ret ?_ | refine c_exit ?_ | refine c_skip ?_) | (first | refine l_th ?_ | refine th_norm ?_ | refine ib_norm ?_ | refine l_nil ?_ | refine th_ret ?_ | refine ib_ret ?_ | refine ib_exit ?_ | refine th_exit ?_ | refine ib_pass rfl ?_))
        refine loop_endD (many + 1) (D :: Ds) (by (repeat (first | exact agree_refl _ _ | refine agree_upd rfl ?_ | refine agree_ext rfl ?_ | refine agree_mask rfl ?_))) ⟨rfl, trivial⟩ ⟨hmany', hx0r.trans hx6, hft', hmk6, List.nodup_cons.2 ⟨fun hmm => by have := (hDs D hmm).2; omega, hnd⟩, fun E hE => ?_⟩ (by omega)
        rcases List.mem_cons.1 hE with rfl | hE
        · omega
        · have := hDs E hE; omega
      · intro D i W6 hD hi hG6 hJ6 hKb hK6
        have hlt6 := (Array.getElem?_eq_some_iff.1 hK6).1
        have z5 := hxWr.size
        have hmk6 : Marks (D :: Ds) W6 := fun E hE => by
          rcases List.mem_cons.1 hE with rfl | hE
          · exact hK6
          · have h9 := hDs E hE
            exact (hJ6.2.2 E h9.1 (by omega)).trans ((hmk.ex hxWr) E hE)
        have hB6 : ∀ E ∈ D :: Ds, w.heap.size ≤ E := fun E hE => by
          rcases List.mem_cons.1 hE with rfl | hE
          · omega
          · have := (hDs E hE).1; omega
        refine Exists.elim hJ6.1 fun x hJ => Exists.elim hJ fun v hJ => Exists.elim hJ fun a hJ => ?_
        have j1 := hJ.1
        have j2 := hJ.2.1
        have j3 := hJ.2.2.1
        have j4 := hJ.2.2.2.1
        have j5 := hJ.2.2.2.2.1
        have j6 := hJ.2.2.2.2.2.1
        have j7 := hJ.2.2.2.2.2.2.1
        have j8 := hJ.2.2.2.2.2.2.2.1
        have j9 := hJ.2.2.2.2.2.2.2.2
        have hfu : fewUp R nn sl many = some x := find_at j1 j2 hG6
        have hfin := fewTo_some hft hfu (nn + 1) hmany'
        repeat (first | refine th_ret ?_ | refine ib_ret ?_)
        exact ret3d (Ds := D :: Ds) (va := v) (vb := .bool true) (vc := .int .i64 0) rfl rfl rfl rfl ty_ints ty_bl ty_err (by rw [j3.cell]; rfl) (by rw [j4.cell]; rfl) (by rw [j5.cell]; rfl) (List.nodup_cons.2 ⟨fun hmm => by have := (hDs D hmm).2; omega, hnd⟩) hmk6
          (fun w' hp => ⟨PD.ex j9 hp hB6, .inr ⟨x, v, a, hfr.trans hfin, rfl, j6, j7, hp.2.2.2.2.2.ints j8⟩⟩)
    · have hme : many = nn + 1 := by omega
      rw [hme] at hft
      repeat (first | (refine isO ?_; first | refine s_move ?_ | refine s_assign ?_ | (refine isG ?_; first | refine g_yes rfl rfl ?_ | refine g_no rfl rfl rfl ?_ | refine g_un rfl rfl ?_) | (refine isBin ?_; first | refine s_inc rfl (by omega) ?_ | refine s_lssT rfl rfl (by omega) ?_ | refine s_lssF rfl rfl (by omega) ?_ | refine s_lss rfl rfl ?_ | refine s_eqlT rfl rfl (by omega) ?_ | refine s_eqlF rfl rfl (by omega) ?_ | refine s_eql rfl rfl ?_ | refine s_neqT rfl rfl (by omega) ?_ | refine s_neqF rfl rfl (by omega) ?_ | refine s_neq rfl rfl ?_ | refine s_leqT rfl rfl (by omega) ?_ | refine s_leqF rfl rfl (by omega) ?_ | refine s_leq rfl rfl ?_ | refine s_gtrT rfl rfl (by omega) ?_ | refine s_gtrF rfl rfl (by omega) ?_ | refine s_gtr rfl rfl ?_ | refine s_geqT rfl rfl (by omega) ?_ | refine s_geqF rfl rfl (by omega) ?_ | refine s_geq rfl rfl ?_ | refine s_add rfl rfl ⟨by omega, by omega⟩ ?_ | refine s_sub rfl rfl ⟨by omega, by omega⟩ ?_) | (refine isCall ?_; first | refine s_lenI sl_ints rfl (by assumption) ?_ | refine s_lenR sl_rows rfl (by assumption) ?_ | refine s_len sl_ints rfl ?_ | refine s_len sl_rows rfl ?_) | (refine isIA ?_; refine s_ixI sl_ints ty_int rfl rfl rfl (by assumption) (by omega) ?_; intro _) | (refine isPick ?_; first | refine s_pickt rfl rfl ?_ | refine s_pickf rfl rfl ?_) | (refine isLD ?_; first | refine s_ldA ty_int rfl (by assumption) rfl ?_ | refine s_ldA ty_ints rfl (by assumption) rfl ?_) | refine s_extract rfl rfl ?_ | refine s_not rfl ?_) | (refine isC ?_; first | refine c_sr ?_ | refine c_th ?_ | refine c_seq ?_ | refine c_region ?_ | refine c_ift rfl ?_ | refine c_iff rfl ?_ | refine c_block ?_ | refine c_ret ?_ | refine c_exit ?_ | refine c_skip ?_) | (first | refine l_th ?_ | refine th_norm ?_ | refine ib_norm ?_ | refine l_nil ?_ | refine th_ret ?_ | refine ib_ret ?_ | refine ib_exit ?_ | refine th_exit ?_ | refine ib_pass rfl ?_))
      refine s_stA (n := 0) (u := .slice none 0 0) ty_ints rfl rfl rfl hA6W (by simp) ?_
      intro wa hAa hga
      refine s_stA (n := 0) (u := .bool false) ty_bl rfl rfl rfl (hA7W.grown hga (fun e => by have := Option.some.inj e; omega)) (by simp) ?_
      intro wb hAb hgb
      refine s_stA (n := 0) (u := .int .i64 0) ty_err rfl rfl rfl ((hA8W.grown hga (fun e => by have := Option.some.inj e; omega)).grown hgb (fun e => by have := Option.some.inj e; omega)) (by simp) ?_
      intro wc hAc hgc
      have hA6c := (hAa.grown hgb (fun e => by have := Option.some.inj e; omega)).grown hgc (fun e => by have := Option.some.inj e; omega)
      have hA7c := hAb.grown hgc (fun e => by have := Option.some.inj e; omega)
      have hmkc : Marks Ds wc := fun E hE => by
        have h9 := hDs E hE
        exact mark_gr (mark_gr (mark_gr (hmk E hE) hA6W hga) (hA7W.grown hga (fun e => by have := Option.some.inj e; omega)) hgb) ((hA8W.grown hga (fun e => by have := Option.some.inj e; omega)).grown hgb (fun e => by have := Option.some.inj e; omega)) hgc
      repeat (first | (refine isO ?_; first | refine s_move ?_ | refine s_assign ?_ | (refine isG ?_; first | refine g_yes rfl rfl ?_ | refine g_no rfl rfl rfl ?_ | refine g_un rfl rfl ?_) | (refine isBin ?_; first | refine s_inc rfl (by omega) ?_ | refine s_lssT rfl rfl (by omega) ?_ | refine s_lssF rfl rfl (by omega) ?_ | refine s_lss rfl rfl ?_ | refine s_eqlT rfl rfl (by omega) ?_ | refine s_eqlF rfl rfl (by omega) ?_ | refine s_eql rfl rfl ?_ | refine s_neqT rfl rfl (by omega) ?_ | refine s_neqF rfl rfl (by omega) ?_ | refine s_neq rfl rfl ?_ | refine s_leqT rfl rfl (by omega) ?_ | refine s_leqF rfl rfl (by omega) ?_ | refine s_leq rfl rfl ?_ | refine s_gtrT rfl rfl (by omega) ?_ | refine s_gtrF rfl rfl (by omega) ?_ | refine s_gtr rfl rfl ?_ | refine s_geqT rfl rfl (by omega) ?_ | refine s_geqF rfl rfl (by omega) ?_ | refine s_geq rfl rfl ?_ | refine s_add rfl rfl ⟨by omega, by omega⟩ ?_ | refine s_sub rfl rfl ⟨by omega, by omega⟩ ?_) | (refine isCall ?_; first | refine s_lenI sl_ints rfl (by assumption) ?_ | refine s_lenR sl_rows rfl (by assumption) ?_ | refine s_len sl_ints rfl ?_ | refine s_len sl_rows rfl ?_) | (refine isIA ?_; refine s_ixI sl_ints ty_int rfl rfl rfl (by assumption) (by omega) ?_; intro _) | (refine isPick ?_; first | refine s_pickt rfl rfl ?_ | refine s_pickf rfl rfl ?_) | (refine isLD ?_; first | refine s_ldA ty_int rfl (by assumption) rfl ?_ | refine s_ldA ty_ints rfl (by assumption) rfl ?_) | refine s_extract rfl rfl ?_ | refine s_not rfl ?_) | (refine isC ?_; first | refine c_sr ?_ | refine c_th ?_ | refine c_seq ?_ | refine c_region ?_ | refine c_ift rfl ?_ | refine c_iff rfl ?_ | refine c_block ?_ | refine c_ret ?_ | refine c_exit ?_ | refine c_skip ?_) | (first | refine l_th ?_ | refine th_norm ?_ | refine ib_norm ?_ | refine l_nil ?_ | refine th_ret ?_ | refine ib_ret ?_ | refine ib_exit ?_ | refine th_exit ?_ | refine ib_pass rfl ?_))
      exact ret3d (Ds := Ds) (va := .slice none 0 0) (vb := .bool false) (vc := .int .i64 0) rfl rfl rfl rfl ty_ints ty_bl ty_err (by rw [hA6c.cell]; rfl) (by rw [hA7c.cell]; rfl) (by rw [hAc.cell]; rfl) hnd hmkc (fun w' hp => ⟨PD.ex (((hx0W.store hga (by omega)).store hgb (by omega)).store hgc (by omega)) hp (fun D hD => by have := (hDs D hD).1; omega), .inl ⟨hfr.trans hft, rfl⟩⟩)
#print axioms Few_ok
end Go.Proofs.Ytkhnohnkcdcajaa.Sal
