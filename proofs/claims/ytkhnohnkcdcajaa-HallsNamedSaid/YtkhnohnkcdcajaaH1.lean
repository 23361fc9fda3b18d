/- halls.sets: its iterator hands out all sets of so many, in order. -/
import Derived.Test.YtkhnohnkcdcajaaP8
import Derived.Test.YtkhnohnkcdcajaaCore15
namespace Go.Proofs.Ytkhnohnkcdcajaa.Sal
open Go.RowKit
/-- The sets of so many of the items from some one on, in order, each behind those ahead. -/
def setsR : Nat → List Int → Nat → Nat → List (List Int)
  | 0, ahead, _, _ => [ahead]
  | many + 1, ahead, frm, items => (List.range (items - many - frm)).flatMap fun d => setsR many (ahead ++ [((frm + d : Nat) : Int)]) (frm + d + 1) items
def preL (S : Nat → List (List Int)) (d : Nat) : List (List Int) := (List.range d).flatMap S
theorem preL_zero (S : Nat → List (List Int)) : preL S 0 = [] := rfl
theorem preL_succ (S : Nat → List (List Int)) (d : Nat) : preL S (d + 1) = preL S d ++ S d := by simp [preL, List.range_succ]
theorem preL_rest (S : Nat → List (List Int)) (d : Nat) : ∀ e, ∃ rest, preL S (d + e) = preL S d ++ rest
  | 0 => ⟨[], by simp⟩
  | e + 1 => by
    obtain ⟨r, h⟩ := preL_rest S d e
    exact ⟨r ++ S (d + e), by rw [← Nat.add_assoc, preL_succ, h, List.append_assoc]⟩
theorem preL_get {S : Nat → List (List Int)} {d t i : Nat} {x : List Int} (hd : d < t) (h : (S d)[i]? = some x) : (preL S t)[(preL S d).length + i]? = some x := by
  obtain ⟨r, hr⟩ := preL_rest S (d + 1) (t - (d + 1))
  have e : d + 1 + (t - (d + 1)) = t := by omega
  rw [e] at hr
  rw [hr, preL_succ, List.append_assoc, List.getElem?_append_right (by omega), List.getElem?_append_left (by have := (List.getElem?_eq_some_iff.1 h).1; omega)]
  have e2 : (preL S d).length + i - (preL S d).length = i := by omega
  rw [e2]; exact h
theorem preL_len {S : Nat → List (List Int)} {d t : Nat} (hd : d < t) : (preL S d).length + (S d).length ≤ (preL S t).length := by
  obtain ⟨r, hr⟩ := preL_rest S (d + 1) (t - (d + 1))
  have e : d + 1 + (t - (d + 1)) = t := by omega
  rw [e] at hr
  rw [hr, preL_succ, List.length_append, List.length_append]
  omega
theorem setsR_pre (many : Nat) (ahead : List Int) (frm items : Nat) : setsR (many + 1) ahead frm items = preL (fun d => setsR many (ahead ++ [((frm + d : Nat) : Int)]) (frm + d + 1) items) (items - many - frm) := rfl
attribute [local irreducible] Go.Code.wpIn Go.wpListIn Ct Ints Rows Sl At Rw WJ
set_option linter.all false
theorem ok_sets : CallOK Try.prog 53 := callOK Try.func53 (by kernel_rfl) rfl
theorem ok_sets1 : CallOK Try.prog 62 := callOK Try.func62 (by kernel_rfl) rfl
theorem ty_yl : Ty1 Try.prog 41 := ⟨let ⟨i, h, _, hs, _⟩ := info_parts (show (Try.prog.info? 41).map (fun i => (i.zero, i.size, i.bytes)) = some (some .nilFunc, 1, 8) by kernel_rfl); ⟨i, h, hs⟩, _, Try.underlying41, rfl⟩
/-- What a sets' iterator has captured. -/
structure SC (w : World) (b1 b2 b3 b4 : Nat) (many : Nat) (ahead : List Int) (frm items : Nat) (av : Value) : Prop where
  a1 : At w b1 3 [.int .i64 (many : Int)]
  a2 : At w b2 33 [av]
  a3 : At w b3 3 [.int .i64 (frm : Int)]
  a4 : At w b4 3 [.int .i64 (items : Int)]
  al : Ints w av ahead
theorem SC.ex {w w' : World} {b1 b2 b3 b4 many frm items : Nat} {ahead : List Int} {av : Value} (h : SC w b1 b2 b3 b4 many ahead frm items av) (hx : Ex w w') : SC w' b1 b2 b3 b4 many ahead frm items av := ⟨h.a1.ex hx, h.a2.ex hx, h.a3.ex hx, h.a4.ex hx, h.al.ex hx⟩
def capsL (b1 b2 b3 b4 : Nat) : List Value := [.pointer (some ⟨b1, 0, none⟩), .pointer (some ⟨b2, 0, none⟩), .pointer (some ⟨b3, 0, none⟩), .pointer (some ⟨b4, 0, none⟩)]
theorem sets_ct (av : Value) (ahead : List Int) (frm items many : Nat) (w : World) (ha : Ints w av ahead) :
    Ct Try.prog 53 #[av, .int .i64 (frm : Int), .int .i64 (items : Int), .int .i64 (many : Int)] w fun u w' => ∃ b1 b2 b3 b4, u = .func (.func 62) #[] (capsL b1 b2 b3 b4).toArray ∧ SC w' b1 b2 b3 b4 many ahead frm items av ∧ Ex w w' := by
  obtain ⟨a, c, rfl⟩ := ha.form
  refine enter (N := 10) (vs := [.slice a ahead.length c, .int .i64 (frm : Int), .int .i64 (items : Int), .int .i64 (many : Int)]) Try.func53 rfl rfl rfl ?_
  refine c_sr ?_
  refine s_box (cs := [.slice a ahead.length c]) rfl rfl ?_
  intro b2 w1 hb2 hA2 hx1 hs1
  refine s_box (cs := [.int .i64 (frm : Int)]) rfl rfl ?_
  intro b3 w2 hb3 hA3 hx2 hs2
  refine s_box (cs := [.int .i64 (items : Int)]) rfl rfl ?_
  intro b4 w3 hb4 hA4 hx3 hs3
  refine s_box (cs := [.int .i64 (many : Int)]) rfl rfl ?_
  intro b1 w4 hb1 hA1 hx4 hs4
  have hx04 := hx1.trans (hx2.trans (hx3.trans hx4))
  repeat (first | (refine isO ?_; first | refine s_move ?_ | refine s_assign ?_ | (refine isG ?_; first | refine g_yes rfl rfl ?_ | refine g_no rfl rfl rfl ?_ | refine g_un rfl rfl ?_) | (refine isBin ?_; first | refine s_inc rfl (by omega) ?_ | refine s_lssT rfl rfl (by omega) ?_ | refine s_lssF rfl rfl (by omega) ?_ | refine s_lss rfl rfl ?_ | refine s_eqlT rfl rfl (by omega) ?_ | refine s_eqlF rfl rfl (by omega) ?_ | refine s_eql rfl rfl ?_ | refine s_neqT rfl rfl (by omega) ?_ | refine s_neqF rfl rfl (by omega) ?_ | refine s_neq rfl rfl ?_ | refine s_leqT rfl rfl (by omega) ?_ | refine s_leqF rfl rfl (by omega) ?_ | refine s_leq rfl rfl ?_ | refine s_gtrT rfl rfl (by omega) ?_ | refine s_gtrF rfl rfl (by omega) ?_ | refine s_gtr rfl rfl ?_ | refine s_geqT rfl rfl (by omega) ?_ | refine s_geqF rfl rfl (by omega) ?_ | refine s_geq rfl rfl ?_ | refine s_add rfl rfl ⟨by omega, by omega⟩ ?_ | refine s_sub rfl rfl ⟨by omega, by omega⟩ ?_) | (refine isCall ?_; first | refine s_lenI sl_ints rfl (by assumption) ?_ | refine s_lenR sl_rows rfl (by assumption) ?_ | refine s_len sl_ints rfl ?_ | refine s_len sl_rows rfl ?_) | (refine isIA ?_; refine s_ixI sl_ints ty_int rfl rfl rfl (by assumption) (by omega) ?_; intro _) | (refine isPick ?_; first | refine s_pickt rfl rfl ?_ | refine s_pickf rfl rfl ?_) | (refine isLD ?_; first | refine s_ldA ty_int rfl (by assumption) rfl ?_ | refine s_ldA ty_ints rfl (by assumption) rfl ?_) | refine s_extract rfl rfl ?_ | refine s_not rfl ?_) | (refine isC ?_; first | refine c_sr ?_ | refine c_th ?_ | refine c_seq ?_ | refine c_region ?_ | refine c_ift rfl ?_ | refine c_iff rfl ?_ | refine c_block ?_ | refine c_ret ?_ | refine c_exit ?_ | refine c_skip ?_) | (first | refine l_th ?_ | refine th_norm ?_ | refine ib_norm ?_ | refine l_nil ?_ | refine th_ret ?_ | refine ib_ret ?_ | refine ib_exit ?_ | refine th_exit ?_ | refine ib_pass rfl ?_))
  refine s_mkfn (vs := capsL b1 b2 b3 b4) rfl ?_
  repeat (first | (refine isO ?_; first | refine s_move ?_ | refine s_assign ?_ | (refine isG ?_; first | refine g_yes rfl rfl ?_ | refine g_no rfl rfl rfl ?_ | refine g_un rfl rfl ?_) | (refine isBin ?_; first | refine s_inc rfl (by omega) ?_ | refine s_lssT rfl rfl (by omega) ?_ | refine s_lssF rfl rfl (by omega) ?_ | refine s_lss rfl rfl ?_ | refine s_eqlT rfl rfl (by omega) ?_ | refine s_eqlF rfl rfl (by omega) ?_ | refine s_eql rfl rfl ?_ | refine s_neqT rfl rfl (by omega) ?_ | refine s_neqF rfl rfl (by omega) ?_ | refine s_neq rfl rfl ?_ | refine s_leqT rfl rfl (by omega) ?_ | refine s_leqF rfl rfl (by omega) ?_ | refine s_leq rfl rfl ?_ | refine s_gtrT rfl rfl (by omega) ?_ | refine s_gtrF rfl rfl (by omega) ?_ | refine s_gtr rfl rfl ?_ | refine s_geqT rfl rfl (by omega) ?_ | refine s_geqF rfl rfl (by omega) ?_ | refine s_geq rfl rfl ?_ | refine s_add rfl rfl ⟨by omega, by omega⟩ ?_ | refine s_sub rfl rfl ⟨by omega, by omega⟩ ?_) | (refine isCall ?_; first | refine s_lenI sl_ints rfl (by assumption) ?_ | refine s_lenR sl_rows rfl (by assumption) ?_ | refine s_len sl_ints rfl ?_ | refine s_len sl_rows rfl ?_) | (refine isIA ?_; refine s_ixI sl_ints ty_int rfl rfl rfl (by assumption) (by omega) ?_; intro _) | (refine isPick ?_; first | refine s_pickt rfl rfl ?_ | refine s_pickf rfl rfl ?_) | (refine isLD ?_; first | refine s_ldA ty_int rfl (by assumption) rfl ?_ | refine s_ldA ty_ints rfl (by assumption) rfl ?_) | refine s_extract rfl rfl ?_ | refine s_not rfl ?_) | (refine isC ?_; first | refine c_sr ?_ | refine c_th ?_ | refine c_seq ?_ | refine c_region ?_ | refine c_ift rfl ?_ | refine c_iff rfl ?_ | refine c_block ?_ | refine c_ret ?_ | refine c_exit ?_ | refine c_skip ?_) | (first | refine l_th ?_ | refine th_norm ?_ | refine ib_norm ?_ | refine l_nil ?_ | refine th_ret ?_ | refine ib_ret ?_ | refine ib_exit ?_ | refine th_exit ?_ | refine ib_pass rfl ?_))
  exact ret1 rfl rfl ⟨b1, b2, b3, b4, rfl, ⟨hA1, hA2.ex (hx2.trans (hx3.trans hx4)), hA3.ex (hx3.trans hx4), hA4.ex hx4, ha.ex hx04⟩, hx04⟩
set_option maxRecDepth 8000 in
set_option maxHeartbeats 4000000 in
theorem sets_iter : ∀ (many : Nat) (ahead : List Int) (frm items : Nat) (b1 b2 b3 b4 : Nat) (av : Value) (w : World), items ≤ 8 → frm ≤ 9 → ahead.length + many ≤ 100 → SC w b1 b2 b3 b4 many ahead frm items av →
    IterX Try.prog 62 (capsL b1 b2 b3 b4) (setsR many ahead frm items) w
  | 0, ahead, frm, items, b1, b2, b3, b4, av, w, hi8, hf9, hal, hC => by
    intro l G Jx W0 hw0 hJx hY
    refine enter (N := 37) (vs := .func (.yield l) #[] #[] :: capsL b1 b2 b3 b4) Try.func62 rfl rfl rfl ?_
    refine c_sr ?_
    refine s_box (cs := [.func (.yield l) #[] #[]]) rfl rfl ?_
    intro b5 W1 hb5 hA5 hx1 hs1
    have hC1 := hC.ex (hw0.trans hx1)
    have ha1 := hC1.a1
    have ha2 := hC1.a2
    repeat (first | (refine isO ?_; first | refine s_move ?_ | refine s_assign ?_ | (refine isG ?_; first | refine g_yes rfl rfl ?_ | refine g_no rfl rfl rfl ?_ | refine g_un rfl rfl ?_) | (refine isBin ?_; first | refine s_inc rfl (by omega) ?_ | refine s_lssT rfl rfl (by omega) ?_ | refine s_lssF rfl rfl (by omega) ?_ | refine s_lss rfl rfl ?_ | refine s_eqlT rfl rfl (by omega) ?_ | refine s_eqlF rfl rfl (by omega) ?_ | refine s_eql rfl rfl ?_ | refine s_neqT rfl rfl (by omega) ?_ | refine s_neqF rfl rfl (by omega) ?_ | refine s_neq rfl rfl ?_ | refine s_leqT rfl rfl (by omega) ?_ | refine s_leqF rfl rfl (by omega) ?_ | refine s_leq rfl rfl ?_ | refine s_gtrT rfl rfl (by omega) ?_ | refine s_gtrF rfl rfl (by omega) ?_ | refine s_gtr rfl rfl ?_ | refine s_geqT rfl rfl (by omega) ?_ | refine s_geqF rfl rfl (by omega) ?_ | refine s_geq rfl rfl ?_ | refine s_add rfl rfl ⟨by omega, by omega⟩ ?_ | refine s_sub rfl rfl ⟨by omega, by omega⟩ ?_) | (refine isCall ?_; first | refine s_lenI sl_ints rfl (by assumption) ?_ | refine s_lenR sl_rows rfl (by assumption) ?_ | refine s_len sl_ints rfl ?_ | refine s_len sl_rows rfl ?_) | (refine isIA ?_; refine s_ixI sl_ints ty_int rfl rfl rfl (by assumption) (by omega) ?_; intro _) | (refine isPick ?_; first | refine s_pickt rfl rfl ?_ | refine s_pickf rfl rfl ?_) | (refine isLD ?_; first | refine s_ldA ty_int rfl (by assumption) rfl ?_ | refine s_ldA ty_ints rfl (by assumption) rfl ?_) | refine s_extract rfl rfl ?_ | refine s_not rfl ?_) | (refine isC ?_; first | refine c_sr ?_ | refine c_th ?_ | refine c_seq ?_ | refine c_region ?_ | refine c_ift rfl ?_ | refine c_iff rfl ?_ | refine c_block ?_ | refine c_ret ?_ | refine c_exit ?_ | refine c_skip ?_) | (first | refine l_th ?_ | refine th_norm ?_ | refine ib_norm ?_ | refine l_nil ?_ | refine th_ret ?_ | refine ib_ret ?_ | refine ib_exit ?_ | refine th_exit ?_ | refine ib_pass rfl ?_))
    refine s_ldA ty_yl rfl hA5 rfl ?_
    repeat (first | (refine isO ?_; first | refine s_move ?_ | refine s_assign ?_ | (refine isG ?_; first | refine g_yes rfl rfl ?_ | refine g_no rfl rfl rfl ?_ | refine g_un rfl rfl ?_) | (refine isBin ?_; first | refine s_inc rfl (by omega) ?_ | refine s_lssT rfl rfl (by omega) ?_ | refine s_lssF rfl rfl (by omega) ?_ | refine s_lss rfl rfl ?_ | refine s_eqlT rfl rfl (by omega) ?_ | refine s_eqlF rfl rfl (by omega) ?_ | refine s_eql rfl rfl ?_ | refine s_neqT rfl rfl (by omega) ?_ | refine s_neqF rfl rfl (by omega) ?_ | refine s_neq rfl rfl ?_ | refine s_leqT rfl rfl (by omega) ?_ | refine s_leqF rfl rfl (by omega) ?_ | refine s_leq rfl rfl ?_ | refine s_gtrT rfl rfl (by omega) ?_ | refine s_gtrF rfl rfl (by omega) ?_ | refine s_gtr rfl rfl ?_ | refine s_geqT rfl rfl (by omega) ?_ | refine s_geqF rfl rfl (by omega) ?_ | refine s_geq rfl rfl ?_ | refine s_add rfl rfl ⟨by omega, by omega⟩ ?_ | refine s_sub rfl rfl ⟨by omega, by omega⟩ ?_) | (refine isCall ?_; first | refine s_lenI sl_ints rfl (by assumption) ?_ | refine s_lenR sl_rows rfl (by assumption) ?_ | refine s_len sl_ints rfl ?_ | refine s_len sl_rows rfl ?_) | (refine isIA ?_; refine s_ixI sl_ints ty_int rfl rfl rfl (by assumption) (by omega) ?_; intro _) | (refine isPick ?_; first | refine s_pickt rfl rfl ?_ | refine s_pickf rfl rfl ?_) | (refine isLD ?_; first | refine s_ldA ty_int rfl (by assumption) rfl ?_ | refine s_ldA ty_ints rfl (by assumption) rfl ?_) | refine s_extract rfl rfl ?_ | refine s_not rfl ?_) | (refine isC ?_; first | refine c_sr ?_ | refine c_th ?_ | refine c_seq ?_ | refine c_region ?_ | refine c_ift rfl ?_ | refine c_iff rfl ?_ | refine c_block ?_ | refine c_ret ?_ | refine c_exit ?_ | refine c_skip ?_) | (first | refine l_th ?_ | refine th_norm ?_ | refine ib_norm ?_ | refine l_nil ?_ | refine th_ret ?_ | refine ib_ret ?_ | refine ib_exit ?_ | refine th_exit ?_ | refine ib_pass rfl ?_))
    refine s_yield (vs := [av]) rfl rfl (hY 0 ahead W1 av rfl hx1 hC1.al) ?_
    rintro e W2 (⟨rfl, hx2, hG⟩ | ⟨rfl, hJ, hK⟩)
    · refine ⟨_, rfl, ?_⟩
      repeat (first | (refine isO ?_; first | refine s_move ?_ | refine s_assign ?_ | (refine isG ?_; first | refine g_yes rfl rfl ?_ | refine g_no rfl rfl rfl ?_ | refine g_un rfl rfl ?_) | (refine isBin ?_; first | refine s_inc rfl (by omega) ?_ | refine s_lssT rfl rfl (by omega) ?_ | refine s_lssF rfl rfl (by omega) ?_ | refine s_lss rfl rfl ?_ | refine s_eqlT rfl rfl (by omega) ?_ | refine s_eqlF rfl rfl (by omega) ?_ | refine s_eql rfl rfl ?_ | refine s_neqT rfl rfl (by omega) ?_ | refine s_neqF rfl rfl (by omega) ?_ | refine s_neq rfl rfl ?_ | refine s_leqT rfl rfl (by omega) ?_ | refine s_leqF rfl rfl (by omega) ?_ | refine s_leq rfl rfl ?_ | refine s_gtrT rfl rfl (by omega) ?_ | refine s_gtrF rfl rfl (by omega) ?_ | refine s_gtr rfl rfl ?_ | refine s_geqT rfl rfl (by omega) ?_ | refine s_geqF rfl rfl (by omega) ?_ | refine s_geq rfl rfl ?_ | refine s_add rfl rfl ⟨by omega, by omega⟩ ?_ | refine s_sub rfl rfl ⟨by omega, by omega⟩ ?_) | (refine isCall ?_; first | refine s_lenI sl_ints rfl (by assumption) ?_ | refine s_lenR sl_rows rfl (by assumption) ?_ | refine s_len sl_ints rfl ?_ | refine s_len sl_rows rfl ?_) | (refine isIA ?_; refine s_ixI sl_ints ty_int rfl rfl rfl (by assumption) (by omega) ?_; intro _) | (refine isPick ?_; first | refine s_pickt rfl rfl ?_ | refine s_pickf rfl rfl ?_) | (refine isLD ?_; first | refine s_ldA ty_int rfl (by assumption) rfl ?_ | refine s_ldA ty_ints rfl (by assumption) rfl ?_) | refine s_extract rfl rfl ?_ | refine s_not rfl ?_) | (refine isC ?_; first | refine c_sr ?_ | refine c_th ?_ | refine c_seq ?_ | refine c_region ?_ | refine c_ift rfl ?_ | refine c_iff rfl ?_ | refine c_block ?_ | refine c_ret ?_ | refine c_exit ?_ | refine c_skip ?_) | (first | refine l_th ?_ | refine th_norm ?_ | refine ib_norm ?_ | refine l_nil ?_ | refine th_ret ?_ | refine ib_ret ?_ | refine ib_exit ?_ | refine th_exit ?_ | refine ib_pass rfl ?_))
      refine ret0 rfl (.inl ⟨hx1.trans hx2, fun i hi => ?_⟩)
      have : i = 0 := by simp [setsR] at hi; exact hi
      rw [this]; exact hG
    · refine ⟨_, rfl, ?_⟩
      repeat (first | (refine isO ?_; first | refine s_move ?_ | refine s_assign ?_ | (refine isG ?_; first | refine g_yes rfl rfl ?_ | refine g_no rfl rfl rfl ?_ | refine g_un rfl rfl ?_) | (refine isBin ?_; first | refine s_inc rfl (by omega) ?_ | refine s_lssT rfl rfl (by omega) ?_ | refine s_lssF rfl rfl (by omega) ?_ | refine s_lss rfl rfl ?_ | refine s_eqlT rfl rfl (by omega) ?_ | refine s_eqlF rfl rfl (by omega) ?_ | refine s_eql rfl rfl ?_ | refine s_neqT rfl rfl (by omega) ?_ | refine s_neqF rfl rfl (by omega) ?_ | refine s_neq rfl rfl ?_ | refine s_leqT rfl rfl (by omega) ?_ | refine s_leqF rfl rfl (by omega) ?_ | refine s_leq rfl rfl ?_ | refine s_gtrT rfl rfl (by omega) ?_ | refine s_gtrF rfl rfl (by omega) ?_ | refine s_gtr rfl rfl ?_ | refine s_geqT rfl rfl (by omega) ?_ | refine s_geqF rfl rfl (by omega) ?_ | refine s_geq rfl rfl ?_ | refine s_add rfl rfl ⟨by omega, by omega⟩ ?_ | refine s_sub rfl rfl ⟨by omega, by omega⟩ ?_) | (refine isCall ?_; first | refine s_lenI sl_ints rfl (by assumption) ?_ | refine s_lenR sl_rows rfl (by assumption) ?_ | refine s_len sl_ints rfl ?_ | refine s_len sl_rows rfl ?_) | (refine isIA ?_; refine s_ixI sl_ints ty_int rfl rfl rfl (by assumption) (by omega) ?_; intro _) | (refine isPick ?_; first | refine s_pickt rfl rfl ?_ | refine s_pickf rfl rfl ?_) | (refine isLD ?_; first | refine s_ldA ty_int rfl (by assumption) rfl ?_ | refine s_ldA ty_ints rfl (by assumption) rfl ?_) | refine s_extract rfl rfl ?_ | refine s_not rfl ?_) | (refine isC ?_; first | refine c_sr ?_ | refine c_th ?_ | refine c_seq ?_ | refine c_region ?_ | refine c_ift rfl ?_ | refine c_iff rfl ?_ | refine c_block ?_ | refine c_ret ?_ | refine c_exit ?_ | refine c_skip ?_) | (first | refine l_th ?_ | refine th_norm ?_ | refine ib_norm ?_ | refine l_nil ?_ | refine th_ret ?_ | refine ib_ret ?_ | refine ib_exit ?_ | refine th_exit ?_ | refine ib_pass rfl ?_))
      exact ret0 rfl (.inr ⟨0, by simp [setsR], fun j hj => by omega, hJ, (Kb.ex hx1).trans hK⟩)
  | many + 1, ahead, frm, items, b1, b2, b3, b4, av, w, hi8, hf9, hal, hC => by
    intro l G Jx W0 hw0 hJx hY
    obtain ⟨S, hS⟩ : ∃ S : Nat → List (List Int), S = fun d => setsR many (ahead ++ [((frm + d : Nat) : Int)]) (frm + d + 1) items := ⟨_, rfl⟩
    have hL : setsR (many + 1) ahead frm items = preL S (items - many - frm) := by rw [hS]; exact setsR_pre _ _ _ _
    rw [hL] at hY ⊢
    refine enter (N := 37) (vs := .func (.yield l) #[] #[] :: capsL b1 b2 b3 b4) Try.func62 rfl rfl rfl ?_
    refine c_sr ?_
    refine s_box (cs := [.func (.yield l) #[] #[]]) rfl rfl ?_
    intro b5 W1 hb5 hA5 hx1 hs1
    have hC1 := hC.ex (hw0.trans hx1)
    have ha1 := hC1.a1
    have ha3 := hC1.a3
    repeat (first | (refine isO ?_; first | refine s_move ?_ | refine s_assign ?_ | (refine isG ?_; first | refine g_yes rfl rfl ?_ | refine g_no rfl rfl rfl ?_ | refine g_un rfl rfl ?_) | (refine isBin ?_; first | refine s_inc rfl (by omega) ?_ | refine s_lssT rfl rfl (by omega) ?_ | refine s_lssF rfl rfl (by omega) ?_ | refine s_lss rfl rfl ?_ | refine s_eqlT rfl rfl (by omega) ?_ | refine s_eqlF rfl rfl (by omega) ?_ | refine s_eql rfl rfl ?_ | refine s_neqT rfl rfl (by omega) ?_ | refine s_neqF rfl rfl (by omega) ?_ | refine s_neq rfl rfl ?_ | refine s_leqT rfl rfl (by omega) ?_ | refine s_leqF rfl rfl (by omega) ?_ | refine s_leq rfl rfl ?_ | refine s_gtrT rfl rfl (by omega) ?_ | refine s_gtrF rfl rfl (by omega) ?_ | refine s_gtr rfl rfl ?_ | refine s_geqT rfl rfl (by omega) ?_ | refine s_geqF rfl rfl (by omega) ?_ | refine s_geq rfl rfl ?_ | refine s_add rfl rfl ⟨by omega, by omega⟩ ?_ | refine s_sub rfl rfl ⟨by omega, by omega⟩ ?_) | (refine isCall ?_; first | refine s_lenI sl_ints rfl (by assumption) ?_ | refine s_lenR sl_rows rfl (by assumption) ?_ | refine s_len sl_ints rfl ?_ | refine s_len sl_rows rfl ?_) | (refine isIA ?_; refine s_ixI sl_ints ty_int rfl rfl rfl (by assumption) (by omega) ?_; intro _) | (refine isPick ?_; first | refine s_pickt rfl rfl ?_ | refine s_pickf rfl rfl ?_) | (refine isLD ?_; first | refine s_ldA ty_int rfl (by assumption) rfl ?_ | refine s_ldA ty_ints rfl (by assumption) rfl ?_) | refine s_extract rfl rfl ?_ | refine s_not rfl ?_) | (refine isC ?_; first | refine c_sr ?_ | refine c_th ?_ | refine c_seq ?_ | refine c_region ?_ | refine c_ift rfl ?_ | refine c_iff rfl ?_ | refine c_block ?_ | refine c_ret ?_ | refine c_exit ?_ | refine c_skip ?_) | (first | refine l_th ?_ | refine th_norm ?_ | refine ib_norm ?_ | refine l_nil ?_ | refine th_ret ?_ | refine ib_ret ?_ | refine ib_exit ?_ | refine th_exit ?_ | refine ib_pass rfl ?_))
    refine c_loopD 137438937280 (fun d => [(6, .int .i64 ((frm + d : Nat) : Int))]) (fun d Ds W => d ≤ items - many - frm ∧ Ex W1 W ∧ (∀ i, i < (preL S d).length → G i) ∧ Marks Ds W ∧ Ds.Nodup ∧ ∀ D ∈ Ds, W0.heap.size ≤ D ∧ D < W.heap.size) (fun d => items - many - frm - d) 0 ⟨vint (by simp), trivial⟩
      ⟨Nat.zero_le _, Ex.refl _, fun i hi => by simp [preL] at hi, fun D hD => by simp at hD, List.nodup_nil, fun D hD => by simp at hD⟩ ?_
    rintro d Ds ρ W ⟨hd, hxW, hGd, hmk, hnd, hDs⟩
    have hx0W := hx1.trans hxW
    have hCW := hC1.ex hxW
    have ha1W := hCW.a1
    have ha2W := hCW.a2
    have ha4W := hCW.a4
    by_cases hd' : d < items - many - frm
    · repeat (first | (refine isO ?_; first | refine s_move ?_ | refine s_assign ?_ | (refine isG ?_; first | refine g_yes rfl rfl ?_ | refine g_no rfl rfl rfl ?_ | refine g_un rfl rfl ?_) | (refine isBin ?_; first | refine s_inc rfl (by omega) ?_ | refine s_lssT rfl rfl (by omega) ?_ | refine s_lssF rfl rfl (by omega) ?_ | refine s_lss rfl rfl ?_ | refine s_eqlT rfl rfl (by omega) ?_ | refine s_eqlF rfl rfl (by omega) ?_ | refine s_eql rfl rfl ?_ | refine s_neqT rfl rfl (by omega) ?_ | refine s_neqF rfl rfl (by omega) ?_ | refine s_neq rfl rfl ?_ | refine s_leqT rfl rfl (by omega) ?_ | refine s_leqF rfl rfl (by omega) ?_ | refine s_leq rfl rfl ?_ | refine s_gtrT rfl rfl (by omega) ?_ | refine s_gtrF rfl rfl (by omega) ?_ | refine s_gtr rfl rfl ?_ | refine s_geqT rfl rfl (by omega) ?_ | refine s_geqF rfl rfl (by omega) ?_ | refine s_geq rfl rfl ?_ | refine s_add rfl rfl ⟨by omega, by omega⟩ ?_ | refine s_sub rfl rfl ⟨by omega, by omega⟩ ?_) | (refine isCall ?_; first | refine s_lenI sl_ints rfl (by assumption) ?_ | refine s_lenR sl_rows rfl (by assumption) ?_ | refine s_len sl_ints rfl ?_ | refine s_len sl_rows rfl ?_) | (refine isIA ?_; refine s_ixI sl_ints ty_int rfl rfl rfl (by assumption) (by omega) ?_; intro _) | (refine isPick ?_; first | refine s_pickt rfl rfl ?_ | refine s_pickf rfl rfl ?_) | (refine isLD ?_; first | refine s_ldA ty_int rfl (by assumption) rfl ?_ | refine s_ldA ty_ints rfl (by assumption) rfl ?_) | refine s_extract rfl rfl ?_ | refine s_not rfl ?_) | (refine isC ?_; first | refine c_sr ?_ | refine c_th ?_ | refine c_seq ?_ | refine c_region ?_ | refine c_ift rfl ?_ | refine c_iff rfl ?_ | refine c_block ?_ | refine c_ret ?_ | refine c_exit ?_ | refine c_skip ?_) | (first | refine l_th ?_ | refine th_norm ?_ | refine ib_norm ?_ | refine l_nil ?_ | refine th_ret ?_ | refine ib_ret ?_ | refine ib_exit ?_ | refine th_exit ?_ | refine ib_pass rfl ?_))
      have hlen1 : (ahead ++ [((frm + d : Nat) : Int)]).length = ahead.length + 1 := by simp
      refine c_joinK (γ := Nat × Nat × Nat × Nat) 4292870144 (fun q => [(31, .func (.func 62) #[] (capsL q.1 q.2.1 q.2.2.1 q.2.2.2).toArray)]) (fun q W' => (∃ av', SC W' q.1 q.2.1 q.2.2.1 q.2.2.2 many (ahead ++ [((frm + d : Nat) : Int)]) (frm + d + 1) items av') ∧ Ex W W') ?_ ?_
      · refine c_drawF (Ex.refl W) 11 8 [(0, true), (2, true), (5, true), (6, true), (7, true), (8, true), (9, true)] 1 [(3, false), (4, false), (10, false)] 3 [(1, false), (4, false), (10, false)] mixed (by kernel_rfl) ?_
        have hxd := Ex.drew W
        refine d_ldA rfl ty_ints rfl ha2W rfl ?_
        refine d_move rfl ?_
        refine d_move rfl ?_
        refine d_add rfl rfl rfl ⟨by omega, by omega⟩ ?_
        refine d_ldA rfl ty_int rfl ha4W rfl ?_
        refine d_ldA rfl ty_int rfl ha1W rfl ?_
        refine d_sub rfl rfl rfl ⟨by omega, by omega⟩ ?_
        refine d_re (v' := .int .i64 (many : Int)) (vint (by omega)) ?_
        refine d_fork ?_ ?_
        · refine d_ch rfl ?_
          refine s_call ok_Clone rfl (Clone_ct av ahead W.drew (hCW.al.ex hxd) (by omega)) ?_
          rintro v22 W2 ⟨hL2, hx2⟩
          have hxd2 := hxd.trans hx2
          refine l_nil ⟨rfl, .inr hxd2, ?_⟩
          refine d_ch rfl ?_
          refine s_bs1 sl_ints in_int rfl rfl ?_
          intro b3' W3 hb3' hA3 hx3 hs3
          have hxd3 := hxd2.trans hx3
          refine l_nil ⟨rfl, .inr hxd3, ?_⟩
          refine d_ch rfl ?_
          refine s_lapp (w0 := W.drew) sl_ints in_int (hL2.ex hx3) hA3.one rfl rfl (by simp; omega) (hx2.trans hx3) ?_
          intro v4 W4 hL4 hx4
          have hxd4 := hxd.trans hx4
          refine l_nil ⟨rfl, .inr hxd4, ?_⟩
          refine d_ch rfl ?_
          refine s_call (vs := [v4, .int .i64 ((frm + d + 1 : Nat) : Int), .int .i64 (items : Int), .int .i64 (many : Int)]) ok_sets rfl (sets_ct v4 _ (frm + d + 1) items many W4 (hL4.ints (by omega))) ?_
          rintro u W5 ⟨c1, c2, c3, c4, rfl, hC5, hx5⟩
          have hxd5 := hxd4.trans hx5
          refine l_nil ⟨rfl, .inr hxd5, ?_⟩
          refine d_nil ?_
          refine th_norm ?_
          exact join_end (c1, c2, c3, c4) (by (repeat (first | exact agree_refl _ _ | refine agree_upd rfl ?_ | refine agree_ext rfl ?_ | refine agree_mask rfl ?_))) ⟨rfl, trivial⟩ ⟨⟨v4, hC5⟩, hxd5⟩
        · refine d_ch rfl ?_
          refine s_bs1 sl_ints in_int rfl rfl ?_
          intro b3' W3 hb3' hA3 hx3 hs3
          have hxd3 := hxd.trans hx3
          refine l_nil ⟨rfl, .inr hxd3, ?_⟩
          refine d_ch rfl ?_
          refine s_call ok_Clone rfl (Clone_ct av ahead W3 (hCW.al.ex hxd3) (by omega)) ?_
          rintro v22 W2 ⟨hL2, hx2⟩
          have hxd2 := hxd3.trans hx2
          refine l_nil ⟨rfl, .inr hxd2, ?_⟩
          refine d_ch rfl ?_
          refine s_lapp (w0 := W3) sl_ints in_int hL2 (hA3.one.ex hx2) rfl rfl (by simp; omega) hx2 ?_
          intro v4 W4 hL4 hx4
          have hxd4 := hxd3.trans hx4
          refine l_nil ⟨rfl, .inr hxd4, ?_⟩
          refine d_ch rfl ?_
          refine s_call (vs := [v4, .int .i64 ((frm + d + 1 : Nat) : Int), .int .i64 (items : Int), .int .i64 (many : Int)]) ok_sets rfl (sets_ct v4 _ (frm + d + 1) items many W4 (hL4.ints (by omega))) ?_
          rintro u W5 ⟨c1, c2, c3, c4, rfl, hC5, hx5⟩
          have hxd5 := hxd4.trans hx5
          refine l_nil ⟨rfl, .inr hxd5, ?_⟩
          refine d_nil ?_
          refine th_norm ?_
          exact join_end (c1, c2, c3, c4) (by (repeat (first | exact agree_refl _ _ | refine agree_upd rfl ?_ | refine agree_ext rfl ?_ | refine agree_mask rfl ?_))) ⟨rfl, trivial⟩ ⟨⟨v4, hC5⟩, hxd5⟩
      · intro q ρ2 W5 hI5
        refine Exists.elim hI5.1 fun av5 hC5 => ?_
        have hx5 := hI5.2
        have hx05 := hx0W.trans hx5
        have hx15 := hxW.trans hx5
        have hlt := preL_len (S := S) hd'
        have hSd : setsR many (ahead ++ [((frm + d : Nat) : Int)]) (frm + d + 1) items = S d := by rw [hS]
        have hit := sets_iter many (ahead ++ [((frm + d : Nat) : Int)]) (frm + d + 1) items q.1 q.2.1 q.2.2.1 q.2.2.2 av5 W5 hi8 (by omega) (by omega) hC5
        rw [hSd] at hit
        have z05 := hx05.size
        refine th_norm ?_
        repeat (first | (refine isO ?_; first | refine s_move ?_ | refine s_assign ?_ | (refine isG ?_; first | refine g_yes rfl rfl ?_ | refine g_no rfl rfl rfl ?_ | refine g_un rfl rfl ?_) | (refine isBin ?_; first | refine s_inc rfl (by omega) ?_ | refine s_lssT rfl rfl (by omega) ?_ | refine s_lssF rfl rfl (by omega) ?_ | refine s_lss rfl rfl ?_ | refine s_eqlT rfl rfl (by omega) ?_ | refine s_eqlF rfl rfl (by omega) ?_ | refine s_eql rfl rfl ?_ | refine s_neqT rfl rfl (by omega) ?_ | refine s_neqF rfl rfl (by omega) ?_ | refine s_neq rfl rfl ?_ | refine s_leqT rfl rfl (by omega) ?_ | refine s_leqF rfl rfl (by omega) ?_ | refine s_leq rfl rfl ?_ | refine s_gtrT rfl rfl (by omega) ?_ | refine s_gtrF rfl rfl (by omega) ?_ | refine s_gtr rfl rfl ?_ | refine s_geqT rfl rfl (by omega) ?_ | refine s_geqF rfl rfl (by omega) ?_ | refine s_geq rfl rfl ?_ | refine s_add rfl rfl ⟨by omega, by omega⟩ ?_ | refine s_sub rfl rfl ⟨by omega, by omega⟩ ?_) | (refine isCall ?_; first | refine s_lenI sl_ints rfl (by assumption) ?_ | refine s_lenR sl_rows rfl (by assumption) ?_ | refine s_len sl_ints rfl ?_ | refine s_len sl_rows rfl ?_) | (refine isIA ?_; refine s_ixI sl_ints ty_int rfl rfl rfl (by assumption) (by omega) ?_; intro _) | (refine isPick ?_; first | refine s_pickt rfl rfl ?_ | refine s_pickf rfl rfl ?_) | (refine isLD ?_; first | refine s_ldA ty_int rfl (by assumption) rfl ?_ | refine s_ldA ty_ints rfl (by assumption) rfl ?_) | refine s_extract rfl rfl ?_ | refine s_not rfl ?_) | (refine isC ?_; first | refine c_sr ?_ | refine c_th ?_ | refine c_seq ?_ | refine c_region ?_ | refine c_ift rfl ?_ | refine c_iff rfl ?_ | refine c_block ?_ | refine c_ret ?_ | refine c_exit ?_ | refine c_skip ?_) | (first | refine l_th ?_ | refine th_norm ?_ | refine ib_norm ?_ | refine l_nil ?_ | refine th_ret ?_ | refine ib_ret ?_ | refine ib_exit ?_ | refine th_exit ?_ | refine ib_pass rfl ?_))
        refine c_rangeX (gf := 62) (lb := capsL q.1 q.2.1 q.2.2.1 q.2.2.2) (L := S d) (w0 := W5) rfl ok_sets1 hit (Ex.refl W5) rfl (fun i => G ((preL S d).length + i)) (fun i W' => Jx ((preL S d).length + i) W' ∧ Kb W0.heap.size W5 W') (fun i W' W'' hJ hb hkc => ⟨hJx _ _ _ hJ.1 (Below.mono hb z05) hkc, Kb.below hJ.2 hb⟩)
          (fun v σ => upd (updl [(32, v)] σ) 7 v) ?_ ?_ ?_ ?_
        · intro l' v W' K hK
          repeat (first | (refine isO ?_; first | refine s_move ?_ | refine s_assign ?_ | (refine isG ?_; first | refine g_yes rfl rfl ?_ | refine g_no rfl rfl rfl ?_ | refine g_un rfl rfl ?_) | (refine isBin ?_; first | refine s_inc rfl (by omega) ?_ | refine s_lssT rfl rfl (by omega) ?_ | refine s_lssF rfl rfl (by omega) ?_ | refine s_lss rfl rfl ?_ | refine s_eqlT rfl rfl (by omega) ?_ | refine s_eqlF rfl rfl (by omega) ?_ | refine s_eql rfl rfl ?_ | refine s_neqT rfl rfl (by omega) ?_ | refine s_neqF rfl rfl (by omega) ?_ | refine s_neq rfl rfl ?_ | refine s_leqT rfl rfl (by omega) ?_ | refine s_leqF rfl rfl (by omega) ?_ | refine s_leq rfl rfl ?_ | refine s_gtrT rfl rfl (by omega) ?_ | refine s_gtrF rfl rfl (by omega) ?_ | refine s_gtr rfl rfl ?_ | refine s_geqT rfl rfl (by omega) ?_ | refine s_geqF rfl rfl (by omega) ?_ | refine s_geq rfl rfl ?_ | refine s_add rfl rfl ⟨by omega, by omega⟩ ?_ | refine s_sub rfl rfl ⟨by omega, by omega⟩ ?_) | (refine isCall ?_; first | refine s_lenI sl_ints rfl (by assumption) ?_ | refine s_lenR sl_rows rfl (by assumption) ?_ | refine s_len sl_ints rfl ?_ | refine s_len sl_rows rfl ?_) | (refine isIA ?_; refine s_ixI sl_ints ty_int rfl rfl rfl (by assumption) (by omega) ?_; intro _) | (refine isPick ?_; first | refine s_pickt rfl rfl ?_ | refine s_pickf rfl rfl ?_) | (refine isLD ?_; first | refine s_ldA ty_int rfl (by assumption) rfl ?_ | refine s_ldA ty_ints rfl (by assumption) rfl ?_) | refine s_extract rfl rfl ?_ | refine s_not rfl ?_) | (refine isC ?_; first | refine c_sr ?_ | refine c_th ?_ | refine c_seq ?_ | refine c_region ?_ | refine c_ift rfl ?_ | refine c_iff rfl ?_ | refine c_block ?_ | refine c_ret ?_ | refine c_exit ?_ | refine c_skip ?_) | (first | refine l_th ?_ | refine th_norm ?_ | refine ib_norm ?_ | refine l_nil ?_ | refine th_ret ?_ | refine ib_ret ?_ | refine ib_exit ?_ | refine th_exit ?_ | refine ib_pass rfl ?_))
          exact hK
        · intro l' i x v W' hx hxW' hI'
          have hYi := hY ((preL S d).length + i) x W' v (preL_get hd' hx) (hx05.trans hxW') hI'
          have hA5' := hA5.ex (hx15.trans hxW')
          repeat (first | (refine isO ?_; first | refine s_move ?_ | refine s_assign ?_ | (refine isG ?_; first | refine g_yes rfl rfl ?_ | refine g_no rfl rfl rfl ?_ | refine g_un rfl rfl ?_) | (refine isBin ?_; first | refine s_inc rfl (by omega) ?_ | refine s_lssT rfl rfl (by omega) ?_ | refine s_lssF rfl rfl (by omega) ?_ | refine s_lss rfl rfl ?_ | refine s_eqlT rfl rfl (by omega) ?_ | refine s_eqlF rfl rfl (by omega) ?_ | refine s_eql rfl rfl ?_ | refine s_neqT rfl rfl (by omega) ?_ | refine s_neqF rfl rfl (by omega) ?_ | refine s_neq rfl rfl ?_ | refine s_leqT rfl rfl (by omega) ?_ | refine s_leqF rfl rfl (by omega) ?_ | refine s_leq rfl rfl ?_ | refine s_gtrT rfl rfl (by omega) ?_ | refine s_gtrF rfl rfl (by omega) ?_ | refine s_gtr rfl rfl ?_ | refine s_geqT rfl rfl (by omega) ?_ | refine s_geqF rfl rfl (by omega) ?_ | refine s_geq rfl rfl ?_ | refine s_add rfl rfl ⟨by omega, by omega⟩ ?_ | refine s_sub rfl rfl ⟨by omega, by omega⟩ ?_) | (refine isCall ?_; first | refine s_lenI sl_ints rfl (by assumption) ?_ | refine s_lenR sl_rows rfl (by assumption) ?_ | refine s_len sl_ints rfl ?_ | refine s_len sl_rows rfl ?_) | (refine isIA ?_; refine s_ixI sl_ints ty_int rfl rfl rfl (by assumption) (by omega) ?_; intro _) | (refine isPick ?_; first | refine s_pickt rfl rfl ?_ | refine s_pickf rfl rfl ?_) | (refine isLD ?_; first | refine s_ldA ty_int rfl (by assumption) rfl ?_ | refine s_ldA ty_ints rfl (by assumption) rfl ?_) | refine s_extract rfl rfl ?_ | refine s_not rfl ?_) | (refine isC ?_; first | refine c_sr ?_ | refine c_th ?_ | refine c_seq ?_ | refine c_region ?_ | refine c_ift rfl ?_ | refine c_iff rfl ?_ | refine c_block ?_ | refine c_ret ?_ | refine c_exit ?_ | refine c_skip ?_) | (first | refine l_th ?_ | refine th_norm ?_ | refine ib_norm ?_ | refine l_nil ?_ | refine th_ret ?_ | refine ib_ret ?_ | refine ib_exit ?_ | refine th_exit ?_ | refine ib_pass rfl ?_))
          refine s_ldA ty_yl rfl hA5' rfl ?_
          repeat (first | (refine isO ?_; first | refine s_move ?_ | refine s_assign ?_ | (refine isG ?_; first | refine g_yes rfl rfl ?_ | refine g_no rfl rfl rfl ?_ | refine g_un rfl rfl ?_) | (refine isBin ?_; first | refine s_inc rfl (by omega) ?_ | refine s_lssT rfl rfl (by omega) ?_ | refine s_lssF rfl rfl (by omega) ?_ | refine s_lss rfl rfl ?_ | refine s_eqlT rfl rfl (by omega) ?_ | refine s_eqlF rfl rfl (by omega) ?_ | refine s_eql rfl rfl ?_ | refine s_neqT rfl rfl (by omega) ?_ | refine s_neqF rfl rfl (by omega) ?_ | refine s_neq rfl rfl ?_ | refine s_leqT rfl rfl (by omega) ?_ | refine s_leqF rfl rfl (by omega) ?_ | refine s_leq rfl rfl ?_ | refine s_gtrT rfl rfl (by omega) ?_ | refine s_gtrF rfl rfl (by omega) ?_ | refine s_gtr rfl rfl ?_ | refine s_geqT rfl rfl (by omega) ?_ | refine s_geqF rfl rfl (by omega) ?_ | refine s_geq rfl rfl ?_ | refine s_add rfl rfl ⟨by omega, by omega⟩ ?_ | refine s_sub rfl rfl ⟨by omega, by omega⟩ ?_) | (refine isCall ?_; first | refine s_lenI sl_ints rfl (by assumption) ?_ | refine s_lenR sl_rows rfl (by assumption) ?_ | refine s_len sl_ints rfl ?_ | refine s_len sl_rows rfl ?_) | (refine isIA ?_; refine s_ixI sl_ints ty_int rfl rfl rfl (by assumption) (by omega) ?_; intro _) | (refine isPick ?_; first | refine s_pickt rfl rfl ?_ | refine s_pickf rfl rfl ?_) | (refine isLD ?_; first | refine s_ldA ty_int rfl (by assumption) rfl ?_ | refine s_ldA ty_ints rfl (by assumption) rfl ?_) | refine s_extract rfl rfl ?_ | refine s_not rfl ?_) | (refine isC ?_; first | refine c_sr ?_ | refine c_th ?_ | refine c_seq ?_ | refine c_region ?_ | refine c_ift rfl ?_ | refine c_iff rfl ?_ | refine c_block ?_ | refine c_ret ?_ | refine c_exit ?_ | refine c_skip ?_) | (first | refine l_th ?_ | refine th_norm ?_ | refine ib_norm ?_ | refine l_nil ?_ | refine th_ret ?_ | refine ib_ret ?_ | refine ib_exit ?_ | refine th_exit ?_ | refine ib_pass rfl ?_))
          refine s_yield (vs := [v]) rfl rfl hYi ?_
          rintro e W6 (⟨rfl, hx6, hG⟩ | ⟨rfl, hJ, hK⟩)
          · refine ⟨_, rfl, ?_⟩
            repeat (first | (refine isO ?_; first | refine s_move ?_ | refine s_assign ?_ | (refine isG ?_; first | refine g_yes rfl rfl ?_ | refine g_no rfl rfl rfl ?_ | refine g_un rfl rfl ?_) | (refine isBin ?_; first | refine s_inc rfl (by omega) ?_ | refine s_lssT rfl rfl (by omega) ?_ | refine s_lssF rfl rfl (by omega) ?_ | refine s_lss rfl rfl ?_ | refine s_eqlT rfl rfl (by omega) ?_ | refine s_eqlF rfl rfl (by omega) ?_ | refine s_eql rfl rfl ?_ | refine s_neqT rfl rfl (by omega) ?_ | refine s_neqF rfl rfl (by omega) ?_ | refine s_neq rfl rfl ?_ | refine s_leqT rfl rfl (by omega) ?_ | refine s_leqF rfl rfl (by omega) ?_ | refine s_leq rfl rfl ?_ | refine s_gtrT rfl rfl (by omega) ?_ | refine s_gtrF rfl rfl (by omega) ?_ | refine s_gtr rfl rfl ?_ | refine s_geqT rfl rfl (by omega) ?_ | refine s_geqF rfl rfl (by omega) ?_ | refine s_geq rfl rfl ?_ | refine s_add rfl rfl ⟨by omega, by omega⟩ ?_ | refine s_sub rfl rfl ⟨by omega, by omega⟩ ?_) | (refine isCall ?_; first | refine s_lenI sl_ints rfl (by assumption) ?_ | refine s_lenR sl_rows rfl (by assumption) ?_ | refine s_len sl_ints rfl ?_ | refine s_len sl_rows rfl ?_) | (refine isIA ?_; refine s_ixI sl_ints ty_int rfl rfl rfl (by assumption) (by omega) ?_; intro _) | (refine isPick ?_; first | refine s_pickt rfl rfl ?_ | refine s_pickf rfl rfl ?_) | (refine isLD ?_; first | refine s_ldA ty_int rfl (by assumption) rfl ?_ | refine s_ldA ty_ints rfl (by assumption) rfl ?_) | refine s_extract rfl rfl ?_ | refine s_not rfl ?_) | (refine isC ?_; first | refine c_sr ?_ | refine c_th ?_ | refine c_seq ?_ | refine c_region ?_ | refine c_ift rfl ?_ | refine c_iff rfl ?_ | refine c_block ?_ | refine c_ret ?_ | refine c_exit ?_ | refine c_skip ?_) | (first | refine l_th ?_ | refine th_norm ?_ | refine ib_norm ?_ | refine l_nil ?_ | refine th_ret ?_ | refine ib_ret ?_ | refine ib_exit ?_ | refine th_exit ?_ | refine ib_pass rfl ?_))
            exact ⟨hx6, hG⟩
          · refine ⟨_, rfl, ?_⟩
            repeat (first | (refine isO ?_; first | refine s_move ?_ | refine s_assign ?_ | (refine isG ?_; first | refine g_yes rfl rfl ?_ | refine g_no rfl rfl rfl ?_ | refine g_un rfl rfl ?_) | (refine isBin ?_; first | refine s_inc rfl (by omega) ?_ | refine s_lssT rfl rfl (by omega) ?_ | refine s_lssF rfl rfl (by omega) ?_ | refine s_lss rfl rfl ?_ | refine s_eqlT rfl rfl (by omega) ?_ | refine s_eqlF rfl rfl (by omega) ?_ | refine s_eql rfl rfl ?_ | refine s_neqT rfl rfl (by omega) ?_ | refine s_neqF rfl rfl (by omega) ?_ | refine s_neq rfl rfl ?_ | refine s_leqT rfl rfl (by omega) ?_ | refine s_leqF rfl rfl (by omega) ?_ | refine s_leq rfl rfl ?_ | refine s_gtrT rfl rfl (by omega) ?_ | refine s_gtrF rfl rfl (by omega) ?_ | refine s_gtr rfl rfl ?_ | refine s_geqT rfl rfl (by omega) ?_ | refine s_geqF rfl rfl (by omega) ?_ | refine s_geq rfl rfl ?_ | refine s_add rfl rfl ⟨by omega, by omega⟩ ?_ | refine s_sub rfl rfl ⟨by omega, by omega⟩ ?_) | (refine isCall ?_; first | refine s_lenI sl_ints rfl (by assumption) ?_ | refine s_lenR sl_rows rfl (by assumption) ?_ | refine s_len sl_ints rfl ?_ | refine s_len sl_rows rfl ?_) | (refine isIA ?_; refine s_ixI sl_ints ty_int rfl rfl rfl (by assumption) (by omega) ?_; intro _) | (refine isPick ?_; first | refine s_pickt rfl rfl ?_ | refine s_pickf rfl rfl ?_) | (refine isLD ?_; first | refine s_ldA ty_int rfl (by assumption) rfl ?_ | refine s_ldA ty_ints rfl (by assumption) rfl ?_) | refine s_extract rfl rfl ?_ | refine s_not rfl ?_) | (refine isC ?_; first | refine c_sr ?_ | refine c_th ?_ | refine c_seq ?_ | refine c_region ?_ | refine c_ift rfl ?_ | refine c_iff rfl ?_ | refine c_block ?_ | refine c_ret ?_ | refine c_exit ?_ | refine c_skip ?_) | (first | refine l_th ?_ | refine th_norm ?_ | refine ib_norm ?_ | refine l_nil ?_ | refine th_ret ?_ | refine ib_ret ?_ | refine ib_exit ?_ | refine th_exit ?_ | refine ib_pass rfl ?_))
            exact ⟨⟨hJ, (Kb.ex hxW').trans hK⟩, hK.mono z05⟩
        · intro D W6 hD hx6 hG6 hK6
          have hmk6 : Marks (D :: Ds) W6 := fun E hE => by
            rcases List.mem_cons.1 hE with rfl | hE
            · exact hK6
            · exact (hmk.ex (hx5.trans hx6)) E hE
          have z5 := hx5.size
          have z6 := hx6.size
          have hlt6 := (Array.getElem?_eq_some_iff.1 hK6).1
          repeat (first | (refine isO ?_; first | refine s_move ?_ | refine s_assign ?_ | (refine isG ?_; first | refine g_yes rfl rfl ?_ | refine g_no rfl rfl rfl ?_ | refine g_un rfl rfl ?_) | (refine isBin ?_; first | refine s_inc rfl (by omega) ?_ | refine s_lssT rfl rfl (by omega) ?_ | refine s_lssF rfl rfl (by omega) ?_ | refine s_lss rfl rfl ?_ | refine s_eqlT rfl rfl (by omega) ?_ | refine s_eqlF rfl rfl (by omega) ?_ | refine s_eql rfl rfl ?_ | refine s_neqT rfl rfl (by omega) ?_ | refine s_neqF rfl rfl (by omega) ?_ | refine s_neq rfl rfl ?_ | refine s_leqT rfl rfl (by omega) ?_ | refine s_leqF rfl rfl (by omega) ?_ | refine s_leq rfl rfl ?_ | refine s_gtrT rfl rfl (by omega) ?_ | refine s_gtrF rfl rfl (by omega) ?_ | refine s_gtr rfl rfl ?_ | refine s_geqT rfl rfl (by omega) ?_ | refine s_geqF rfl rfl (by omega) ?_ | refine s_geq rfl rfl ?_ | refine s_add rfl rfl ⟨by omega, by omega⟩ ?_ | refine s_sub rfl rfl ⟨by omega, by omega⟩ ?_) | (refine isCall ?_; first | refine s_lenI sl_ints rfl (by assumption) ?_ | refine s_lenR sl_rows rfl (by assumption) ?_ | refine s_len sl_ints rfl ?_ | refine s_len sl_rows rfl ?_) | (refine isIA ?_; refine s_ixI sl_ints ty_int rfl rfl rfl (by assumption) (by omega) ?_; intro _) | (refine isPick ?_; first | refine s_pickt rfl rfl ?_ | refine s_pickf rfl rfl ?_) | (refine isLD ?_; first | refine s_ldA ty_int rfl (by assumption) rfl ?_ | refine s_ldA ty_ints rfl (by assumption) rfl ?_) | refine s_extract rfl rfl ?_ | refine s_not rfl ?_) | (refine isC ?_; first | refine c_sr ?_ | refine c_th ?_ | refine c_seq ?_ | refine c_region ?_ | refine c_ift rfl ?_ | refine c_iff rfl ?_ | refine c_block ?_ | refine c_ret ?_ | refine c_exit ?_ | refine c_skip ?_) | (first | refine l_th ?_ | refine th_norm ?_ | refine ib_norm ?_ | refine l_nil ?_ | refine th_ret ?_ | refine ib_ret ?_ | refine ib_exit ?_ | refine th_exit ?_ | refine ib_pass rfl ?_))
          refine loop_endD (d + 1) (D :: Ds) (by (repeat (first | exact agree_refl _ _ | refine agree_upd rfl ?_ | refine agree_ext rfl ?_ | refine agree_mask rfl ?_))) ⟨vint (by omega), trivial⟩ ⟨hd', hx15.trans hx6, fun i hi => ?_, hmk6, List.nodup_cons.2 ⟨fun hm => by have := (hDs D hm).2; omega, hnd⟩, fun E hE => ?_⟩ (by omega)
          · rw [preL_succ, List.length_append] at hi
            by_cases hi2 : i < (preL S d).length
            · exact hGd i hi2
            · have h9 := hG6 (i - (preL S d).length) (by omega)
              have e : (preL S d).length + (i - (preL S d).length) = i := by omega
              rw [e] at h9; exact h9
          · rcases List.mem_cons.1 hE with rfl | hE
            · omega
            · have := hDs E hE; omega
        · intro D i W6 hD hi hG6 hJ6 hKb hK6
          have hlt6 := (Array.getElem?_eq_some_iff.1 hK6).1
          have z5 := hx5.size
          have hmk6 : Marks (D :: Ds) W6 := fun E hE => by
            rcases List.mem_cons.1 hE with rfl | hE
            · exact hK6
            · have h9 := hDs E hE
              exact (hJ6.2.2 E h9.1 (by omega)).trans ((hmk.ex hx5) E hE)
          have hB6 : ∀ E ∈ D :: Ds, W0.heap.size ≤ E := fun E hE => by
            rcases List.mem_cons.1 hE with rfl | hE
            · omega
            · exact (hDs E hE).1
          have z6 := hJ6.2.1
          repeat (first | refine th_ret ?_ | refine ib_ret ?_)
          refine ret0d (Ds := D :: Ds) rfl (List.nodup_cons.2 ⟨fun hm => by have := (hDs D hm).2; omega, hnd⟩) hmk6 (fun w' hp => .inr ⟨(preL S d).length + i, by omega, fun j hj => ?_, hJx _ _ _ hJ6.1 (hp.below hB6) hp.2.2.2.2.2, ?_⟩)
          · by_cases hj2 : j < (preL S d).length
            · exact hGd j hj2
            · have h9 := hG6 (j - (preL S d).length) (by omega)
              have e : (preL S d).length + (j - (preL S d).length) = j := by omega
              rw [e] at h9; exact h9
          · refine ⟨by rw [hp.2.2.2.1]; omega, fun k hB hk => ?_⟩
            omega
    · have hde : d = items - many - frm := by omega
      repeat (first | (refine isO ?_; first | refine s_move ?_ | refine s_assign ?_ | (refine isG ?_; first | refine g_yes rfl rfl ?_ | refine g_no rfl rfl rfl ?_ | refine g_un rfl rfl ?_) | (refine isBin ?_; first | refine s_inc rfl (by omega) ?_ | refine s_lssT rfl rfl (by omega) ?_ | refine s_lssF rfl rfl (by omega) ?_ | refine s_lss rfl rfl ?_ | refine s_eqlT rfl rfl (by omega) ?_ | refine s_eqlF rfl rfl (by omega) ?_ | refine s_eql rfl rfl ?_ | refine s_neqT rfl rfl (by omega) ?_ | refine s_neqF rfl rfl (by omega) ?_ | refine s_neq rfl rfl ?_ | refine s_leqT rfl rfl (by omega) ?_ | refine s_leqF rfl rfl (by omega) ?_ | refine s_leq rfl rfl ?_ | refine s_gtrT rfl rfl (by omega) ?_ | refine s_gtrF rfl rfl (by omega) ?_ | refine s_gtr rfl rfl ?_ | refine s_geqT rfl rfl (by omega) ?_ | refine s_geqF rfl rfl (by omega) ?_ | refine s_geq rfl rfl ?_ | refine s_add rfl rfl ⟨by omega, by omega⟩ ?_ | refine s_sub rfl rfl ⟨by omega, by omega⟩ ?_) | (refine isCall ?_; first | refine s_lenI sl_ints rfl (by assumption) ?_ | refine s_lenR sl_rows rfl (by assumption) ?_ | refine s_len sl_ints rfl ?_ | refine s_len sl_rows rfl ?_) | (refine isIA ?_; refine s_ixI sl_ints ty_int rfl rfl rfl (by assumption) (by omega) ?_; intro _) | (refine isPick ?_; first | refine s_pickt rfl rfl ?_ | refine s_pickf rfl rfl ?_) | (refine isLD ?_; first | refine s_ldA ty_int rfl (by assumption) rfl ?_ | refine s_ldA ty_ints rfl (by assumption) rfl ?_) | refine s_extract rfl rfl ?_ | refine s_not rfl ?_) | (refine isC ?_; first | refine c_sr ?_ | refine c_th ?_ | refine c_seq ?_ | refine c_region ?_ | refine c_ift rfl ?_ | refine c_iff rfl ?_ | refine c_block ?_ | refine c_ret ?_ | refine c_exit ?_ | refine c_skip ?_) | (first | refine l_th ?_ | refine th_norm ?_ | refine ib_norm ?_ | refine l_nil ?_ | refine th_ret ?_ | refine ib_ret ?_ | refine ib_exit ?_ | refine th_exit ?_ | refine ib_pass rfl ?_))
      exact end0d rfl hnd hmk (fun w' hp => .inl ⟨PD.ex hx0W hp (fun D hD => (hDs D hD).1), fun i hi => hGd i (by rw [hde]; exact hi)⟩)
#print axioms sets_iter
end Go.Proofs.Ytkhnohnkcdcajaa.Sal
