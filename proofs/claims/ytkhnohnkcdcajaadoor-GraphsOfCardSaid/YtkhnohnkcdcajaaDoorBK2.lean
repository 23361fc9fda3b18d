/- The Book of salesroomlaw01: keep, Ints, IntLists. -/
import Derived.Test.YtkhnohnkcdcajaaDoorBK1
set_option maxRecDepth 100000
namespace Go.Proofs.YtkhnohnkcdcajaaDoor.Sal
open Go.RowKit
attribute [local irreducible] Go.Code.wpIn Go.wpListIn Ct Ints Rows Sl At Rw WJ
attribute [local irreducible] Wd
set_option linter.all false
theorem keepIntList_ct (bk M n : Nat) (xs : List Value) (vi vl : Value) (a : Option Addr) (k c : Nat) (w : World) (hA : At w bk 49 (bkc M vl vi)) (hW : Wd w 66 3 vi n xs) (hne : ∀ b, vi.ownBlock = some b → b ≠ bk) (hM : M ≤ 100000) (hn : n ≤ 100000) :
    Ct Tryd.prog 33 #[.pointer (some ⟨bk, 0, none⟩), .slice a k c] w fun u w' => u = .tuple #[] ∧ ∃ vi', At w' bk 49 (bkc (M + 1) vl vi') ∧ Wd w' 66 3 vi' (n + 1) (xs ++ [.slice a k c, nilV, .int .i64 ((M + 1 : Nat) : Int)]) ∧ (vi'.ownBlock = vi.ownBlock ∨ ∀ b, vi'.ownBlock = some b → w.heap.size ≤ b) ∧ KtS (fun b => b = bk ∨ vi.ownBlock = some b) w w' := by
  refine enter (N := 26) (vs := [.pointer (some ⟨bk, 0, none⟩), .slice a k c]) Tryd.func33 rfl rfl rfl ?_
  repeat (first | (refine isO ?_; first | refine s_move ?_ | refine s_assign ?_ | (refine isG ?_; first | refine g_yes rfl rfl ?_ | refine g_no rfl rfl rfl ?_ | refine g_un rfl rfl ?_) | (refine isBin ?_; first | refine s_inc rfl (by omega) ?_ | refine s_lssT rfl rfl (by omega) ?_ | refine s_lssF rfl rfl (by omega) ?_ | refine s_lss rfl rfl ?_ | refine s_eqlT rfl rfl (by omega) ?_ | refine s_eqlF rfl rfl (by omega) ?_ | refine s_eql rfl rfl ?_ | refine s_neqT rfl rfl (by omega) ?_ | refine s_neqF rfl rfl (by omega) ?_ | refine s_neq rfl rfl ?_ | refine s_leqT rfl rfl (by omega) ?_ | refine s_leqF rfl rfl (by omega) ?_ | refine s_leq rfl rfl ?_ | refine s_gtrT rfl rfl (by omega) ?_ | refine s_gtrF rfl rfl (by omega) ?_ | refine s_gtr rfl rfl ?_ | refine s_geqT rfl rfl (by omega) ?_ | refine s_geqF rfl rfl (by omega) ?_ | refine s_geq rfl rfl ?_ | refine s_add rfl rfl ⟨by omega, by omega⟩ ?_ | refine s_sub rfl rfl ⟨by omega, by omega⟩ ?_) | (refine isCall ?_; first | refine s_lenI sl_ints rfl (by assumption) ?_ | refine s_lenR sl_rows rfl (by assumption) ?_ | refine s_len sl_ints rfl ?_ | refine s_len sl_rows rfl ?_) | (refine isIA ?_; refine s_ixI sl_ints ty_int rfl rfl rfl (by assumption) (by omega) ?_; intro _) | (refine isPick ?_; first | refine s_pickt rfl rfl ?_ | refine s_pickf rfl rfl ?_) | (refine isLD ?_; first | refine s_ldA ty_int rfl (by assumption) rfl ?_ | refine s_ldA ty_ints rfl (by assumption) rfl ?_) | refine s_extract rfl rfl ?_ | refine s_not rfl ?_) | (refine isC ?_; first | refine c_sr ?_ | refine c_th ?_ | refine c_seq ?_ | refine c_region ?_ | refine c_ift rfl ?_ | refine c_iff rfl ?_ | refine c_block ?_ | refine c_ret ?_ | refine c_exit ?_ | refine c_skip ?_) | (first | refine l_th ?_ | refine th_norm ?_ | refine ib_norm ?_ | refine l_nil ?_ | refine th_ret ?_ | refine ib_ret ?_ | refine ib_exit ?_ | refine th_exit ?_ | refine ib_pass rfl ?_))
  refine s_nil rfl ?_
  refine s_faN Tryd.underlying49 rfl ty_int.n rfl ?_
  refine s_ldA ty_int rfl hA rfl ?_
  repeat (first | (refine isO ?_; first | refine s_move ?_ | refine s_assign ?_ | (refine isG ?_; first | refine g_yes rfl rfl ?_ | refine g_no rfl rfl rfl ?_ | refine g_un rfl rfl ?_) | (refine isBin ?_; first | refine s_inc rfl (by omega) ?_ | refine s_lssT rfl rfl (by omega) ?_ | refine s_lssF rfl rfl (by omega) ?_ | refine s_lss rfl rfl ?_ | refine s_eqlT rfl rfl (by omega) ?_ | refine s_eqlF rfl rfl (by omega) ?_ | refine s_eql rfl rfl ?_ | refine s_neqT rfl rfl (by omega) ?_ | refine s_neqF rfl rfl (by omega) ?_ | refine s_neq rfl rfl ?_ | refine s_leqT rfl rfl (by omega) ?_ | refine s_leqF rfl rfl (by omega) ?_ | refine s_leq rfl rfl ?_ | refine s_gtrT rfl rfl (by omega) ?_ | refine s_gtrF rfl rfl (by omega) ?_ | refine s_gtr rfl rfl ?_ | refine s_geqT rfl rfl (by omega) ?_ | refine s_geqF rfl rfl (by omega) ?_ | refine s_geq rfl rfl ?_ | refine s_add rfl rfl ⟨by omega, by omega⟩ ?_ | refine s_sub rfl rfl ⟨by omega, by omega⟩ ?_) | (refine isCall ?_; first | refine s_lenI sl_ints rfl (by assumption) ?_ | refine s_lenR sl_rows rfl (by assumption) ?_ | refine s_len sl_ints rfl ?_ | refine s_len sl_rows rfl ?_) | (refine isIA ?_; refine s_ixI sl_ints ty_int rfl rfl rfl (by assumption) (by omega) ?_; intro _) | (refine isPick ?_; first | refine s_pickt rfl rfl ?_ | refine s_pickf rfl rfl ?_) | (refine isLD ?_; first | refine s_ldA ty_int rfl (by assumption) rfl ?_ | refine s_ldA ty_ints rfl (by assumption) rfl ?_) | refine s_extract rfl rfl ?_ | refine s_not rfl ?_) | (refine isC ?_; first | refine c_sr ?_ | refine c_th ?_ | refine c_seq ?_ | refine c_region ?_ | refine c_ift rfl ?_ | refine c_iff rfl ?_ | refine c_block ?_ | refine c_ret ?_ | refine c_exit ?_ | refine c_skip ?_) | (first | refine l_th ?_ | refine th_norm ?_ | refine ib_norm ?_ | refine l_nil ?_ | refine th_ret ?_ | refine ib_ret ?_ | refine ib_exit ?_ | refine th_exit ?_ | refine ib_pass rfl ?_))
  refine s_nil rfl ?_
  refine s_faN Tryd.underlying49 rfl ty_int.n rfl ?_
  refine s_stA (n := 0) (u := .int .i64 ((M + 1 : Nat) : Int)) ty_int rfl (vint (by omega)) rfl hA (by simp [bkc]) ?_
  intro w1 hA1 hg1
  have hA1' : At w1 bk 49 (bkc (M + 1) vl vi) := hA1
  have hW1 := hW.grown hg1 (fun b hb e => hne b hb (Option.some.inj e).symm)
  repeat (first | (refine isO ?_; first | refine s_move ?_ | refine s_assign ?_ | (refine isG ?_; first | refine g_yes rfl rfl ?_ | refine g_no rfl rfl rfl ?_ | refine g_un rfl rfl ?_) | (refine isBin ?_; first | refine s_inc rfl (by omega) ?_ | refine s_lssT rfl rfl (by omega) ?_ | refine s_lssF rfl rfl (by omega) ?_ | refine s_lss rfl rfl ?_ | refine s_eqlT rfl rfl (by omega) ?_ | refine s_eqlF rfl rfl (by omega) ?_ | refine s_eql rfl rfl ?_ | refine s_neqT rfl rfl (by omega) ?_ | refine s_neqF rfl rfl (by omega) ?_ | refine s_neq rfl rfl ?_ | refine s_leqT rfl rfl (by omega) ?_ | refine s_leqF rfl rfl (by omega) ?_ | refine s_leq rfl rfl ?_ | refine s_gtrT rfl rfl (by omega) ?_ | refine s_gtrF rfl rfl (by omega) ?_ | refine s_gtr rfl rfl ?_ | refine s_geqT rfl rfl (by omega) ?_ | refine s_geqF rfl rfl (by omega) ?_ | refine s_geq rfl rfl ?_ | refine s_add rfl rfl ⟨by omega, by omega⟩ ?_ | refine s_sub rfl rfl ⟨by omega, by omega⟩ ?_) | (refine isCall ?_; first | refine s_lenI sl_ints rfl (by assumption) ?_ | refine s_lenR sl_rows rfl (by assumption) ?_ | refine s_len sl_ints rfl ?_ | refine s_len sl_rows rfl ?_) | (refine isIA ?_; refine s_ixI sl_ints ty_int rfl rfl rfl (by assumption) (by omega) ?_; intro _) | (refine isPick ?_; first | refine s_pickt rfl rfl ?_ | refine s_pickf rfl rfl ?_) | (refine isLD ?_; first | refine s_ldA ty_int rfl (by assumption) rfl ?_ | refine s_ldA ty_ints rfl (by assumption) rfl ?_) | refine s_extract rfl rfl ?_ | refine s_not rfl ?_) | (refine isC ?_; first | refine c_sr ?_ | refine c_th ?_ | refine c_seq ?_ | refine c_region ?_ | refine c_ift rfl ?_ | refine c_iff rfl ?_ | refine c_block ?_ | refine c_ret ?_ | refine c_exit ?_ | refine c_skip ?_) | (first | refine l_th ?_ | refine th_norm ?_ | refine ib_norm ?_ | refine l_nil ?_ | refine th_ret ?_ | refine ib_ret ?_ | refine ib_exit ?_ | refine th_exit ?_ | refine ib_pass rfl ?_))
  refine c_drawJ (fun W' => At W' bk 49 (bkc (M + 1) vl vi)) (hA1'.ex (Ex.drew w1)) 15 8 [(0, true), (1, true), (2, true), (3, true), (4, true), (5, true), (6, true), (7, true), (8, true), (9, true), (10, false), (11, false), (12, false), (13, true), (14, true), (15, false)] mixed (by kernel_rfl) ?_
  refine d_move rfl ?_
  refine d_move rfl ?_
  refine d_nilc rfl rfl ?_
  refine d_faN rfl Tryd.underlying49 rfl ty_hl.n rfl ?_
  refine d_ldJ rfl ty_hl rfl (fun _ h => h) rfl ?_
  refine d_move rfl ?_
  refine d_move rfl ?_
  refine d_nilc rfl rfl ?_
  refine d_faN rfl Tryd.underlying49 rfl ty_int.n rfl ?_
  refine d_ldJ rfl ty_int rfl (fun _ h => h) rfl ?_
  refine d_ch rfl ?_
  refine s_bldW (cells := [.slice a k c, .slice none 0 0, .int .i64 ((M + 1 : Nat) : Int)]) (built_hl a k c _) ?_
  refine l_nil ⟨rfl, .inr (hA1'.ex (Ex.drew w1)), ?_⟩
  refine d_ch rfl ?_
  refine s_bsV3 sl_hl in_heldIntList rfl ?_
  intro b2 w2 hb2 hA2 hx2 hs2
  have hx12 := (Ex.drew w1).trans hx2
  refine l_nil ⟨rfl, .inr (hA1'.ex hx12), ?_⟩
  refine d_ch rfl ?_
  refine s_appW (n := n) (m := 1) (news := [.slice a k c, .slice none 0 0, .int .i64 ((M + 1 : Nat) : Int)]) sl_hl in_heldIntList (by omega) (hW1.ex hx12) ⟨b2, 1, rfl, [], by simpa using hA2⟩ rfl (by omega) (by intro u hu; simp at hu; rcases hu with rfl | rfl | rfl <;> rfl) (by omega) (by omega) rfl rfl ?_
  intro vi' w3 hW3 hg3 hf3'
  have hf3 : vi'.ownBlock = vi.ownBlock ∨ ∀ b, vi'.ownBlock = some b → w2.heap.size ≤ b := hf3'.imp (fun ⟨a, c, h1, h2⟩ => by rw [h1, h2]; cases a <;> rfl) (fun h => h.1)
  have hne3 : ∀ b, vi.ownBlock = some b → b ≠ bk := hne
  have hA3 := (hA1'.ex hx12).grown hg3 (fun e => hne bk e rfl)
  refine l_nil ⟨rfl, .inr hA3, ?_⟩
  refine d_nilc rfl rfl ?_
  refine d_faN rfl Tryd.underlying49 rfl ty_hl.n rfl ?_
  refine d_ch rfl ?_
  refine s_stA (n := 4) (u := vi') ty_hl rfl rfl hW3.one hA3 (by simp [bkc]) ?_
  intro w4 hA4 hg4
  refine l_nil ⟨rfl, .inl rfl, ?_⟩
  refine d_nil ?_
  have z1 := hg1.size
  have z12 := hx12.size
  have z3 := hg3.size
  have hown : vi'.ownBlock = vi.ownBlock ∨ ∀ b, vi'.ownBlock = some b → w.heap.size ≤ b := hf3.imp id (fun h b hb => by have := h b hb; omega)
  have hbk := hA.lt
  refine end0 rfl ⟨rfl, vi', hA4, hW3.grown hg4 (fun b hb e => ?_), hown, ?_⟩
  · have e' := Option.some.inj e
    rcases hown with he | hf
    · exact hne b (he ▸ hb) e'.symm
    · have := hf b hb; omega
  · have k1 : KtS (fun b => b = bk ∨ vi.ownBlock = some b) w w1 := KtS.of_grown hg1 (fun q e => .inl (Option.some.inj e).symm)
    have k2 : KtS (fun b => b = bk ∨ vi.ownBlock = some b) w1 w2 := KtS.of_ex hx12
    have k3 : KtS (fun b => b = bk ∨ vi.ownBlock = some b) w2 w3 := KtS.of_grown hg3 (fun q e => .inr e)
    have k4 : KtS (fun b => b = bk ∨ vi.ownBlock = some b) w3 w4 := KtS.of_grown hg4 (fun q e => .inl (Option.some.inj e).symm)
    exact ((k1.trans k2).trans k3).trans k4
theorem ok_bInts : CallOK Tryd.prog 22 := callOK Tryd.func22 (by kernel_rfl) rfl
theorem ok_bIntLists : CallOK Tryd.prog 21 := callOK Tryd.func21 (by kernel_rfl) rfl
/-- What a Book holds: lists by their numbers. -/
structure Bk (wB w : World) (bk M : Nat) (ns nl : List Nat) (L : Nat → Value) (vi vl : Value) : Prop where
  ex : Ex wB w
  lo : wB.heap.size ≤ bk
  hd : At w bk 49 (bkc M vi vl)
  wi : Wd w 68 3 vi ns.length (flat3 L (fun _ => nilV) ns)
  wl : Wd w 66 3 vl nl.length (flat3 L (fun _ => nilV) nl)
  oi : ∀ b, vi.ownBlock = some b → wB.heap.size ≤ b ∧ b ≠ bk ∧ vl.ownBlock ≠ some b
  ol : ∀ b, vl.ownBlock = some b → wB.heap.size ≤ b ∧ b ≠ bk
theorem Bk.exd {wB w w' : World} {bk M : Nat} {ns nl : List Nat} {L : Nat → Value} {vi vl : Value} (h : Bk wB w bk M ns nl L vi vl) (hx : Ex w w') : Bk wB w' bk M ns nl L vi vl := ⟨h.ex.trans hx, h.lo, h.hd.ex hx, h.wi.ex hx, h.wl.ex hx, h.oi, h.ol⟩
theorem bInts_ct (wB : World) (bk M : Nat) (ns nl : List Nat) (L : Nat → Value) (vi vl : Value) (a : Option Addr) (k c : Nat) (w : World) (hB : Bk wB w bk M ns nl L vi vl) (hL : L (M + 1) = .slice a k c) (hM : M ≤ 100000) (hn : ns.length ≤ 100000) :
    Ct Tryd.prog 22 #[.pointer (some ⟨bk, 0, none⟩), .slice a k c] w fun u w' => u = .tuple #[] ∧ ∃ vi', Bk wB w' bk (M + 1) (ns ++ [M + 1]) nl L vi' vl := by
  refine enter (N := 7) (vs := [.pointer (some ⟨bk, 0, none⟩), .slice a k c]) Tryd.func22 rfl rfl rfl ?_
  repeat (first | (refine isO ?_; first | refine s_move ?_ | refine s_assign ?_ | (refine isG ?_; first | refine g_yes rfl rfl ?_ | refine g_no rfl rfl rfl ?_ | refine g_un rfl rfl ?_) | (refine isBin ?_; first | refine s_inc rfl (by omega) ?_ | refine s_lssT rfl rfl (by omega) ?_ | refine s_lssF rfl rfl (by omega) ?_ | refine s_lss rfl rfl ?_ | refine s_eqlT rfl rfl (by omega) ?_ | refine s_eqlF rfl rfl (by omega) ?_ | refine s_eql rfl rfl ?_ | refine s_neqT rfl rfl (by omega) ?_ | refine s_neqF rfl rfl (by omega) ?_ | refine s_neq rfl rfl ?_ | refine s_leqT rfl rfl (by omega) ?_ | refine s_leqF rfl rfl (by omega) ?_ | refine s_leq rfl rfl ?_ | refine s_gtrT rfl rfl (by omega) ?_ | refine s_gtrF rfl rfl (by omega) ?_ | refine s_gtr rfl rfl ?_ | refine s_geqT rfl rfl (by omega) ?_ | refine s_geqF rfl rfl (by omega) ?_ | refine s_geq rfl rfl ?_ | refine s_add rfl rfl ⟨by omega, by omega⟩ ?_ | refine s_sub rfl rfl ⟨by omega, by omega⟩ ?_) | (refine isCall ?_; first | refine s_lenI sl_ints rfl (by assumption) ?_ | refine s_lenR sl_rows rfl (by assumption) ?_ | refine s_len sl_ints rfl ?_ | refine s_len sl_rows rfl ?_) | (refine isIA ?_; refine s_ixI sl_ints ty_int rfl rfl rfl (by assumption) (by omega) ?_; intro _) | (refine isPick ?_; first | refine s_pickt rfl rfl ?_ | refine s_pickf rfl rfl ?_) | (refine isLD ?_; first | refine s_ldA ty_int rfl (by assumption) rfl ?_ | refine s_ldA ty_ints rfl (by assumption) rfl ?_) | refine s_extract rfl rfl ?_ | refine s_not rfl ?_) | (refine isC ?_; first | refine c_sr ?_ | refine c_th ?_ | refine c_seq ?_ | refine c_region ?_ | refine c_ift rfl ?_ | refine c_iff rfl ?_ | refine c_block ?_ | refine c_ret ?_ | refine c_exit ?_ | refine c_skip ?_) | (first | refine l_th ?_ | refine th_norm ?_ | refine ib_norm ?_ | refine l_nil ?_ | refine th_ret ?_ | refine ib_ret ?_ | refine ib_exit ?_ | refine th_exit ?_ | refine ib_pass rfl ?_))
  refine s_call ok_keepInt rfl (keepInt_ct bk M ns.length (flat3 L (fun _ => nilV) ns) vi vl a k c w hB.hd hB.wi (fun b hb => (hB.oi b hb).2.1) hM hn) ?_
  rintro u w1 ⟨rfl, vi', hA, hW, ho, hk⟩
  repeat (first | (refine isO ?_; first | refine s_move ?_ | refine s_assign ?_ | (refine isG ?_; first | refine g_yes rfl rfl ?_ | refine g_no rfl rfl rfl ?_ | refine g_un rfl rfl ?_) | (refine isBin ?_; first | refine s_inc rfl (by omega) ?_ | refine s_lssT rfl rfl (by omega) ?_ | refine s_lssF rfl rfl (by omega) ?_ | refine s_lss rfl rfl ?_ | refine s_eqlT rfl rfl (by omega) ?_ | refine s_eqlF rfl rfl (by omega) ?_ | refine s_eql rfl rfl ?_ | refine s_neqT rfl rfl (by omega) ?_ | refine s_neqF rfl rfl (by omega) ?_ | refine s_neq rfl rfl ?_ | refine s_leqT rfl rfl (by omega) ?_ | refine s_leqF rfl rfl (by omega) ?_ | refine s_leq rfl rfl ?_ | refine s_gtrT rfl rfl (by omega) ?_ | refine s_gtrF rfl rfl (by omega) ?_ | refine s_gtr rfl rfl ?_ | refine s_geqT rfl rfl (by omega) ?_ | refine s_geqF rfl rfl (by omega) ?_ | refine s_geq rfl rfl ?_ | refine s_add rfl rfl ⟨by omega, by omega⟩ ?_ | refine s_sub rfl rfl ⟨by omega, by omega⟩ ?_) | (refine isCall ?_; first | refine s_lenI sl_ints rfl (by assumption) ?_ | refine s_lenR sl_rows rfl (by assumption) ?_ | refine s_len sl_ints rfl ?_ | refine s_len sl_rows rfl ?_) | (refine isIA ?_; refine s_ixI sl_ints ty_int rfl rfl rfl (by assumption) (by omega) ?_; intro _) | (refine isPick ?_; first | refine s_pickt rfl rfl ?_ | refine s_pickf rfl rfl ?_) | (refine isLD ?_; first | refine s_ldA ty_int rfl (by assumption) rfl ?_ | refine s_ldA ty_ints rfl (by assumption) rfl ?_) | refine s_extract rfl rfl ?_ | refine s_not rfl ?_) | (refine isC ?_; first | refine c_sr ?_ | refine c_th ?_ | refine c_seq ?_ | refine c_region ?_ | refine c_ift rfl ?_ | refine c_iff rfl ?_ | refine c_block ?_ | refine c_ret ?_ | refine c_exit ?_ | refine c_skip ?_) | (first | refine l_th ?_ | refine th_norm ?_ | refine ib_norm ?_ | refine l_nil ?_ | refine th_ret ?_ | refine ib_ret ?_ | refine ib_exit ?_ | refine th_exit ?_ | refine ib_pass rfl ?_))
  have z := hB.ex.size
  have hx : Ex wB w1 := KtS.ex hB.ex hk (fun q hq => by
    rcases hq with rfl | hq
    · exact hB.lo
    · exact (hB.oi q hq).1)
  have e : flat3 L (fun _ => nilV) ns ++ [.slice a k c, nilV, .int .i64 ((M + 1 : Nat) : Int)] = flat3 L (fun _ => nilV) (ns ++ [M + 1]) := by
    rw [flat3_app]
    simp [flat3, hL]
  rw [e] at hW
  refine end0 rfl ⟨rfl, vi', hx, hB.lo, hA, by simpa using hW, hB.wl.kt hk (fun b hb hq => ?_), fun b hb => ?_, hB.ol⟩
  · rcases hq with hq | hq
    · exact (hB.ol b hb).2 hq
    · exact (hB.oi b hq).2.2 hb
  · rcases ho with he | hf
    · exact hB.oi b (he ▸ hb)
    · have h1 := hf b hb
      refine ⟨by omega, ?_, ?_⟩
      · have := hB.hd.lt; omega
      · intro e2; have := hB.wl.lt b e2; omega
theorem keptL_ct (wB : World) (bk M : Nat) (ns nl : List Nat) (L : Nat → Value) (vi vl : Value) (a : Option Addr) (k c : Nat) (w : World) (hB : Bk wB w bk M ns nl L vi vl) (hL : L (M + 1) = .slice a k c) (hM : M ≤ 100000) (hn : nl.length ≤ 100000) :
    Ct Tryd.prog 33 #[.pointer (some ⟨bk, 0, none⟩), .slice a k c] w fun u w' => u = .tuple #[] ∧ ∃ vl', Bk wB w' bk (M + 1) ns (nl ++ [M + 1]) L vi vl' :=
  (keepIntList_ct bk M nl.length (flat3 L (fun _ => nilV) nl) vl vi a k c w hB.hd hB.wl (fun b hb => (hB.ol b hb).2) hM hn).mono fun u w1 ⟨hu, vl', hA, hW, ho, hk⟩ => by
    have z := hB.ex.size
    have hx : Ex wB w1 := KtS.ex hB.ex hk (fun q hq => by
      rcases hq with rfl | hq
      · exact hB.lo
      · exact (hB.ol q hq).1)
    have e : flat3 L (fun _ => nilV) nl ++ [.slice a k c, nilV, .int .i64 ((M + 1 : Nat) : Int)] = flat3 L (fun _ => nilV) (nl ++ [M + 1]) := by
      rw [flat3_app]
      simp [flat3, hL]
    rw [e] at hW
    refine ⟨hu, vl', hx, hB.lo, hA, hB.wi.kt hk (fun b hb hq => ?_), by simpa using hW, fun b hb => ?_, fun b hb => ?_⟩
    · rcases hq with hq | hq
      · exact (hB.oi b hb).2.1 hq
      · exact (hB.oi b hb).2.2 hq
    · refine ⟨(hB.oi b hb).1, (hB.oi b hb).2.1, fun e2 => ?_⟩
      rcases ho with he | hf
      · exact (hB.oi b hb).2.2 (he ▸ e2)
      · have h1 := hf b e2
        have := hB.wi.lt b hb; omega
    · rcases ho with he | hf
      · exact hB.ol b (he ▸ hb)
      · have h1 := hf b hb
        have := hB.hd.lt
        exact ⟨by omega, by omega⟩
def upN (M i : Nat) : List Nat := (List.range i).map (fun j => M + 1 + j)
theorem upN_succ (M i : Nat) : upN M (i + 1) = upN M i ++ [M + i + 1] := by simp [upN, List.range_succ]; omega
theorem upN_len (M i : Nat) : (upN M i).length = i := by simp [upN]
set_option maxHeartbeats 1000000 in
theorem bIntLists_ct (wB : World) (bk M : Nat) (ns nl : List Nat) (L : Nat → Value) (vi vl : Value) (vs : List Value) (v : Value) (w : World) (hB : Bk wB w bk M ns nl L vi vl) (hs : Sl wB v vs) (hvs : ∀ (i : Nat) u, vs[i]? = some u → (∃ a k c, u = .slice a k c) ∧ L (M + 1 + i) = u) (hL : L (M + vs.length + 1) = v) (hM : M + vs.length ≤ 100000) (hn : ns.length + vs.length ≤ 100000) (hn2 : nl.length ≤ 100000) :
    Ct Tryd.prog 21 #[.pointer (some ⟨bk, 0, none⟩), v] w fun u w' => u = .tuple #[] ∧ ∃ vi' vl', Bk wB w' bk (M + vs.length + 1) (ns ++ upN M vs.length) (nl ++ [M + vs.length + 1]) L vi' vl' := by
  obtain ⟨a, c, hv⟩ := hs.form
  refine enter (N := 20) (vs := [.pointer (some ⟨bk, 0, none⟩), v]) Tryd.func21 rfl rfl rfl ?_
  repeat (first | (refine isO ?_; first | refine s_move ?_ | refine s_assign ?_ | (refine isG ?_; first | refine g_yes rfl rfl ?_ | refine g_no rfl rfl rfl ?_ | refine g_un rfl rfl ?_) | (refine isBin ?_; first | refine s_inc rfl (by omega) ?_ | refine s_lssT rfl rfl (by omega) ?_ | refine s_lssF rfl rfl (by omega) ?_ | refine s_lss rfl rfl ?_ | refine s_eqlT rfl rfl (by omega) ?_ | refine s_eqlF rfl rfl (by omega) ?_ | refine s_eql rfl rfl ?_ | refine s_neqT rfl rfl (by omega) ?_ | refine s_neqF rfl rfl (by omega) ?_ | refine s_neq rfl rfl ?_ | refine s_leqT rfl rfl (by omega) ?_ | refine s_leqF rfl rfl (by omega) ?_ | refine s_leq rfl rfl ?_ | refine s_gtrT rfl rfl (by omega) ?_ | refine s_gtrF rfl rfl (by omega) ?_ | refine s_gtr rfl rfl ?_ | refine s_geqT rfl rfl (by omega) ?_ | refine s_geqF rfl rfl (by omega) ?_ | refine s_geq rfl rfl ?_ | refine s_add rfl rfl ⟨by omega, by omega⟩ ?_ | refine s_sub rfl rfl ⟨by omega, by omega⟩ ?_) | (refine isCall ?_; first | refine s_lenI sl_ints rfl (by assumption) ?_ | refine s_lenR sl_rows rfl (by assumption) ?_ | refine s_len sl_ints rfl ?_ | refine s_len sl_rows rfl ?_) | (refine isIA ?_; refine s_ixI sl_ints ty_int rfl rfl rfl (by assumption) (by omega) ?_; intro _) | (refine isPick ?_; first | refine s_pickt rfl rfl ?_ | refine s_pickf rfl rfl ?_) | (refine isLD ?_; first | refine s_ldA ty_int rfl (by assumption) rfl ?_ | refine s_ldA ty_ints rfl (by assumption) rfl ?_) | refine s_extract rfl rfl ?_ | refine s_not rfl ?_) | (refine isC ?_; first | refine c_sr ?_ | refine c_th ?_ | refine c_seq ?_ | refine c_region ?_ | refine c_ift rfl ?_ | refine c_iff rfl ?_ | refine c_block ?_ | refine c_ret ?_ | refine c_exit ?_ | refine c_skip ?_) | (first | refine l_th ?_ | refine th_norm ?_ | refine ib_norm ?_ | refine l_nil ?_ | refine th_ret ?_ | refine ib_ret ?_ | refine ib_exit ?_ | refine th_exit ?_ | refine ib_pass rfl ?_))
  refine c_loop (γ := Nat) 131056 (fun i => [(4, .int .i64 (i : Int))]) (fun i W => i ≤ vs.length ∧ ∃ vi', Bk wB W bk (M + i) (ns ++ upN M i) nl L vi' vl) (fun i => vs.length - i) 0 ⟨rfl, trivial⟩ ⟨Nat.zero_le _, vi, by simpa [upN] using hB⟩ ?_
  rintro i ρ W ⟨hi, hBe⟩
  refine Exists.elim hBe fun vi' hBW => ?_
  have hsW := hs.ex hBW.ex
  repeat (first | (refine isO ?_; first | refine s_move ?_ | refine s_assign ?_ | (refine isG ?_; first | refine g_yes rfl rfl ?_ | refine g_no rfl rfl rfl ?_ | refine g_un rfl rfl ?_) | (refine isBin ?_; first | refine s_inc rfl (by omega) ?_ | refine s_lssT rfl rfl (by omega) ?_ | refine s_lssF rfl rfl (by omega) ?_ | refine s_lss rfl rfl ?_ | refine s_eqlT rfl rfl (by omega) ?_ | refine s_eqlF rfl rfl (by omega) ?_ | refine s_eql rfl rfl ?_ | refine s_neqT rfl rfl (by omega) ?_ | refine s_neqF rfl rfl (by omega) ?_ | refine s_neq rfl rfl ?_ | refine s_leqT rfl rfl (by omega) ?_ | refine s_leqF rfl rfl (by omega) ?_ | refine s_leq rfl rfl ?_ | refine s_gtrT rfl rfl (by omega) ?_ | refine s_gtrF rfl rfl (by omega) ?_ | refine s_gtr rfl rfl ?_ | refine s_geqT rfl rfl (by omega) ?_ | refine s_geqF rfl rfl (by omega) ?_ | refine s_geq rfl rfl ?_ | refine s_add rfl rfl ⟨by omega, by omega⟩ ?_ | refine s_sub rfl rfl ⟨by omega, by omega⟩ ?_) | (refine isCall ?_; first | refine s_lenI sl_ints rfl (by assumption) ?_ | refine s_lenR sl_rows rfl (by assumption) ?_ | refine s_len sl_ints rfl ?_ | refine s_len sl_rows rfl ?_) | (refine isIA ?_; refine s_ixI sl_ints ty_int rfl rfl rfl (by assumption) (by omega) ?_; intro _) | (refine isPick ?_; first | refine s_pickt rfl rfl ?_ | refine s_pickf rfl rfl ?_) | (refine isLD ?_; first | refine s_ldA ty_int rfl (by assumption) rfl ?_ | refine s_ldA ty_ints rfl (by assumption) rfl ?_) | refine s_extract rfl rfl ?_ | refine s_not rfl ?_) | (refine isC ?_; first | refine c_sr ?_ | refine c_th ?_ | refine c_seq ?_ | refine c_region ?_ | refine c_ift rfl ?_ | refine c_iff rfl ?_ | refine c_block ?_ | refine c_ret ?_ | refine c_exit ?_ | refine c_skip ?_) | (first | refine l_th ?_ | refine th_norm ?_ | refine ib_norm ?_ | refine l_nil ?_ | refine th_ret ?_ | refine ib_ret ?_ | refine ib_exit ?_ | refine th_exit ?_ | refine ib_pass rfl ?_))
  refine s_re (v' := v) rfl ?_
  refine s_len (n := vs.length) (a := a) (c := c) sl_rows hv ?_
  repeat (first | (refine isO ?_; first | refine s_move ?_ | refine s_assign ?_ | (refine isG ?_; first | refine g_yes rfl rfl ?_ | refine g_no rfl rfl rfl ?_ | refine g_un rfl rfl ?_) | (refine isBin ?_; first | refine s_inc rfl (by omega) ?_ | refine s_lssT rfl rfl (by omega) ?_ | refine s_lssF rfl rfl (by omega) ?_ | refine s_lss rfl rfl ?_ | refine s_eqlT rfl rfl (by omega) ?_ | refine s_eqlF rfl rfl (by omega) ?_ | refine s_eql rfl rfl ?_ | refine s_neqT rfl rfl (by omega) ?_ | refine s_neqF rfl rfl (by omega) ?_ | refine s_neq rfl rfl ?_ | refine s_leqT rfl rfl (by omega) ?_ | refine s_leqF rfl rfl (by omega) ?_ | refine s_leq rfl rfl ?_ | refine s_gtrT rfl rfl (by omega) ?_ | refine s_gtrF rfl rfl (by omega) ?_ | refine s_gtr rfl rfl ?_ | refine s_geqT rfl rfl (by omega) ?_ | refine s_geqF rfl rfl (by omega) ?_ | refine s_geq rfl rfl ?_ | refine s_add rfl rfl ⟨by omega, by omega⟩ ?_ | refine s_sub rfl rfl ⟨by omega, by omega⟩ ?_) | (refine isCall ?_; first | refine s_lenI sl_ints rfl (by assumption) ?_ | refine s_lenR sl_rows rfl (by assumption) ?_ | refine s_len sl_ints rfl ?_ | refine s_len sl_rows rfl ?_) | (refine isIA ?_; refine s_ixI sl_ints ty_int rfl rfl rfl (by assumption) (by omega) ?_; intro _) | (refine isPick ?_; first | refine s_pickt rfl rfl ?_ | refine s_pickf rfl rfl ?_) | (refine isLD ?_; first | refine s_ldA ty_int rfl (by assumption) rfl ?_ | refine s_ldA ty_ints rfl (by assumption) rfl ?_) | refine s_extract rfl rfl ?_ | refine s_not rfl ?_) | (refine isC ?_; first | refine c_sr ?_ | refine c_th ?_ | refine c_seq ?_ | refine c_region ?_ | refine c_ift rfl ?_ | refine c_iff rfl ?_ | refine c_block ?_ | refine c_ret ?_ | refine c_exit ?_ | refine c_skip ?_) | (first | refine l_th ?_ | refine th_norm ?_ | refine ib_norm ?_ | refine l_nil ?_ | refine th_ret ?_ | refine ib_ret ?_ | refine ib_exit ?_ | refine th_exit ?_ | refine ib_pass rfl ?_))
  refine c_ifd rfl (fun h => ?_) (fun h => ?_)
  · have hi' : i < vs.length := by omega
    have hu := hvs i vs[i] (List.getElem?_eq_getElem hi')
    refine Exists.elim hu.1 fun ua hu1 => Exists.elim hu1 fun uk hu2 => Exists.elim hu2 fun uc hu3 => ?_
    repeat (first | (refine isO ?_; first | refine s_move ?_ | refine s_assign ?_ | (refine isG ?_; first | refine g_yes rfl rfl ?_ | refine g_no rfl rfl rfl ?_ | refine g_un rfl rfl ?_) | (refine isBin ?_; first | refine s_inc rfl (by omega) ?_ | refine s_lssT rfl rfl (by omega) ?_ | refine s_lssF rfl rfl (by omega) ?_ | refine s_lss rfl rfl ?_ | refine s_eqlT rfl rfl (by omega) ?_ | refine s_eqlF rfl rfl (by omega) ?_ | refine s_eql rfl rfl ?_ | refine s_neqT rfl rfl (by omega) ?_ | refine s_neqF rfl rfl (by omega) ?_ | refine s_neq rfl rfl ?_ | refine s_leqT rfl rfl (by omega) ?_ | refine s_leqF rfl rfl (by omega) ?_ | refine s_leq rfl rfl ?_ | refine s_gtrT rfl rfl (by omega) ?_ | refine s_gtrF rfl rfl (by omega) ?_ | refine s_gtr rfl rfl ?_ | refine s_geqT rfl rfl (by omega) ?_ | refine s_geqF rfl rfl (by omega) ?_ | refine s_geq rfl rfl ?_ | refine s_add rfl rfl ⟨by omega, by omega⟩ ?_ | refine s_sub rfl rfl ⟨by omega, by omega⟩ ?_) | (refine isCall ?_; first | refine s_lenI sl_ints rfl (by assumption) ?_ | refine s_lenR sl_rows rfl (by assumption) ?_ | refine s_len sl_ints rfl ?_ | refine s_len sl_rows rfl ?_) | (refine isIA ?_; refine s_ixI sl_ints ty_int rfl rfl rfl (by assumption) (by omega) ?_; intro _) | (refine isPick ?_; first | refine s_pickt rfl rfl ?_ | refine s_pickf rfl rfl ?_) | (refine isLD ?_; first | refine s_ldA ty_int rfl (by assumption) rfl ?_ | refine s_ldA ty_ints rfl (by assumption) rfl ?_) | refine s_extract rfl rfl ?_ | refine s_not rfl ?_) | (refine isC ?_; first | refine c_sr ?_ | refine c_th ?_ | refine c_seq ?_ | refine c_region ?_ | refine c_ift rfl ?_ | refine c_iff rfl ?_ | refine c_block ?_ | refine c_ret ?_ | refine c_exit ?_ | refine c_skip ?_) | (first | refine l_th ?_ | refine th_norm ?_ | refine ib_norm ?_ | refine l_nil ?_ | refine th_ret ?_ | refine ib_ret ?_ | refine ib_exit ?_ | refine th_exit ?_ | refine ib_pass rfl ?_))
    refine s_ix (n := i) (u := .slice ua uk uc) sl_rows ty_ints rfl rfl rfl hsW (by rw [List.getElem?_eq_getElem hi', hu3]) ?_
    intro _
    refine s_call ok_bInts rfl (bInts_ct wB bk (M + i) (ns ++ upN M i) nl L vi' vl ua uk uc W hBW (by rw [← hu3, ← hu.2]; congr 1; omega) (by omega) (by rw [List.length_append, upN_len]; omega)) ?_
    rintro u w1 ⟨rfl, hB1⟩
    repeat (first | (refine isO ?_; first | refine s_move ?_ | refine s_assign ?_ | (refine isG ?_; first | refine g_yes rfl rfl ?_ | refine g_no rfl rfl rfl ?_ | refine g_un rfl rfl ?_) | (refine isBin ?_; first | refine s_inc rfl (by omega) ?_ | refine s_lssT rfl rfl (by omega) ?_ | refine s_lssF rfl rfl (by omega) ?_ | refine s_lss rfl rfl ?_ | refine s_eqlT rfl rfl (by omega) ?_ | refine s_eqlF rfl rfl (by omega) ?_ | refine s_eql rfl rfl ?_ | refine s_neqT rfl rfl (by omega) ?_ | refine s_neqF rfl rfl (by omega) ?_ | refine s_neq rfl rfl ?_ | refine s_leqT rfl rfl (by omega) ?_ | refine s_leqF rfl rfl (by omega) ?_ | refine s_leq rfl rfl ?_ | refine s_gtrT rfl rfl (by omega) ?_ | refine s_gtrF rfl rfl (by omega) ?_ | refine s_gtr rfl rfl ?_ | refine s_geqT rfl rfl (by omega) ?_ | refine s_geqF rfl rfl (by omega) ?_ | refine s_geq rfl rfl ?_ | refine s_add rfl rfl ⟨by omega, by omega⟩ ?_ | refine s_sub rfl rfl ⟨by omega, by omega⟩ ?_) | (refine isCall ?_; first | refine s_lenI sl_ints rfl (by assumption) ?_ | refine s_lenR sl_rows rfl (by assumption) ?_ | refine s_len sl_ints rfl ?_ | refine s_len sl_rows rfl ?_) | (refine isIA ?_; refine s_ixI sl_ints ty_int rfl rfl rfl (by assumption) (by omega) ?_; intro _) | (refine isPick ?_; first | refine s_pickt rfl rfl ?_ | refine s_pickf rfl rfl ?_) | (refine isLD ?_; first | refine s_ldA ty_int rfl (by assumption) rfl ?_ | refine s_ldA ty_ints rfl (by assumption) rfl ?_) | refine s_extract rfl rfl ?_ | refine s_not rfl ?_) | (refine isC ?_; first | refine c_sr ?_ | refine c_th ?_ | refine c_seq ?_ | refine c_region ?_ | refine c_ift rfl ?_ | refine c_iff rfl ?_ | refine c_block ?_ | refine c_ret ?_ | refine c_exit ?_ | refine c_skip ?_) | (first | refine l_th ?_ | refine th_norm ?_ | refine ib_norm ?_ | refine l_nil ?_ | refine th_ret ?_ | refine ib_ret ?_ | refine ib_exit ?_ | refine th_exit ?_ | refine ib_pass rfl ?_))
    refine loop_end (i + 1) (by (repeat (first | exact agree_refl _ _ | refine agree_upd rfl ?_ | refine agree_ext rfl ?_ | refine agree_mask rfl ?_))) ⟨rfl, trivial⟩ ⟨hi', ?_⟩ (by omega)
    rw [upN_succ, ← List.append_assoc]
    exact hB1
  · have hie : i = vs.length := by omega
    subst hie
    repeat (first | (refine isO ?_; first | refine s_move ?_ | refine s_assign ?_ | (refine isG ?_; first | refine g_yes rfl rfl ?_ | refine g_no rfl rfl rfl ?_ | refine g_un rfl rfl ?_) | (refine isBin ?_; first | refine s_inc rfl (by omega) ?_ | refine s_lssT rfl rfl (by omega) ?_ | refine s_lssF rfl rfl (by omega) ?_ | refine s_lss rfl rfl ?_ | refine s_eqlT rfl rfl (by omega) ?_ | refine s_eqlF rfl rfl (by omega) ?_ | refine s_eql rfl rfl ?_ | refine s_neqT rfl rfl (by omega) ?_ | refine s_neqF rfl rfl (by omega) ?_ | refine s_neq rfl rfl ?_ | refine s_leqT rfl rfl (by omega) ?_ | refine s_leqF rfl rfl (by omega) ?_ | refine s_leq rfl rfl ?_ | refine s_gtrT rfl rfl (by omega) ?_ | refine s_gtrF rfl rfl (by omega) ?_ | refine s_gtr rfl rfl ?_ | refine s_geqT rfl rfl (by omega) ?_ | refine s_geqF rfl rfl (by omega) ?_ | refine s_geq rfl rfl ?_ | refine s_add rfl rfl ⟨by omega, by omega⟩ ?_ | refine s_sub rfl rfl ⟨by omega, by omega⟩ ?_) | (refine isCall ?_; first | refine s_lenI sl_ints rfl (by assumption) ?_ | refine s_lenR sl_rows rfl (by assumption) ?_ | refine s_len sl_ints rfl ?_ | refine s_len sl_rows rfl ?_) | (refine isIA ?_; refine s_ixI sl_ints ty_int rfl rfl rfl (by assumption) (by omega) ?_; intro _) | (refine isPick ?_; first | refine s_pickt rfl rfl ?_ | refine s_pickf rfl rfl ?_) | (refine isLD ?_; first | refine s_ldA ty_int rfl (by assumption) rfl ?_ | refine s_ldA ty_ints rfl (by assumption) rfl ?_) | refine s_extract rfl rfl ?_ | refine s_not rfl ?_) | (refine isC ?_; first | refine c_sr ?_ | refine c_th ?_ | refine c_seq ?_ | refine c_region ?_ | refine c_ift rfl ?_ | refine c_iff rfl ?_ | refine c_block ?_ | refine c_ret ?_ | refine c_exit ?_ | refine c_skip ?_) | (first | refine l_th ?_ | refine th_norm ?_ | refine ib_norm ?_ | refine l_nil ?_ | refine th_ret ?_ | refine ib_ret ?_ | refine ib_exit ?_ | refine th_exit ?_ | refine ib_pass rfl ?_))
    subst hv
    refine s_call ok_keepIntList rfl (keptL_ct wB bk (M + vs.length) _ nl L vi' vl a vs.length c W hBW hL hM hn2) ?_
    rintro u w1 ⟨rfl, hB1⟩
    repeat (first | (refine isO ?_; first | refine s_move ?_ | refine s_assign ?_ | (refine isG ?_; first | refine g_yes rfl rfl ?_ | refine g_no rfl rfl rfl ?_ | refine g_un rfl rfl ?_) | (refine isBin ?_; first | refine s_inc rfl (by omega) ?_ | refine s_lssT rfl rfl (by omega) ?_ | refine s_lssF rfl rfl (by omega) ?_ | refine s_lss rfl rfl ?_ | refine s_eqlT rfl rfl (by omega) ?_ | refine s_eqlF rfl rfl (by omega) ?_ | refine s_eql rfl rfl ?_ | refine s_neqT rfl rfl (by omega) ?_ | refine s_neqF rfl rfl (by omega) ?_ | refine s_neq rfl rfl ?_ | refine s_leqT rfl rfl (by omega) ?_ | refine s_leqF rfl rfl (by omega) ?_ | refine s_leq rfl rfl ?_ | refine s_gtrT rfl rfl (by omega) ?_ | refine s_gtrF rfl rfl (by omega) ?_ | refine s_gtr rfl rfl ?_ | refine s_geqT rfl rfl (by omega) ?_ | refine s_geqF rfl rfl (by omega) ?_ | refine s_geq rfl rfl ?_ | refine s_add rfl rfl ⟨by omega, by omega⟩ ?_ | refine s_sub rfl rfl ⟨by omega, by omega⟩ ?_) | (refine isCall ?_; first | refine s_lenI sl_ints rfl (by assumption) ?_ | refine s_lenR sl_rows rfl (by assumption) ?_ | refine s_len sl_ints rfl ?_ | refine s_len sl_rows rfl ?_) | (refine isIA ?_; refine s_ixI sl_ints ty_int rfl rfl rfl (by assumption) (by omega) ?_; intro _) | (refine isPick ?_; first | refine s_pickt rfl rfl ?_ | refine s_pickf rfl rfl ?_) | (refine isLD ?_; first | refine s_ldA ty_int rfl (by assumption) rfl ?_ | refine s_ldA ty_ints rfl (by assumption) rfl ?_) | refine s_extract rfl rfl ?_ | refine s_not rfl ?_) | (refine isC ?_; first | refine c_sr ?_ | refine c_th ?_ | refine c_seq ?_ | refine c_region ?_ | refine c_ift rfl ?_ | refine c_iff rfl ?_ | refine c_block ?_ | refine c_ret ?_ | refine c_exit ?_ | refine c_skip ?_) | (first | refine l_th ?_ | refine th_norm ?_ | refine ib_norm ?_ | refine l_nil ?_ | refine th_ret ?_ | refine ib_ret ?_ | refine ib_exit ?_ | refine th_exit ?_ | refine ib_pass rfl ?_))
    exact end0 rfl ⟨rfl, vi', hB1⟩
end Go.Proofs.YtkhnohnkcdcajaaDoor.Sal
