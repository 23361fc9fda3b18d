/- The Book of salesroomlaw01: grow. -/
import Derived.Test.YtkhnohnkcdcajaaDoorBK3
set_option maxRecDepth 100000
namespace Go.Proofs.YtkhnohnkcdcajaaDoor.Sal
open Go.RowKit
attribute [local irreducible] Go.Code.wpIn Go.wpListIn Ct Ints Rows Sl At Rw WJ
attribute [local irreducible] Wd
set_option linter.all false
theorem in_wint : InfoW Tryd.prog 3 1 (.int .i64 0) 8 := in_w inf_int rfl
theorem in_wints : InfoW Tryd.prog 25 1 (.slice none 0 0) 24 := in_w inf_ints rfl
/-- Marks stand when another list is written. -/
theorem MKi.app {lo n : Nat} {w w' : World} {q : Nat} {u v : Value} {xs : List Value} (h : MKi lo w q u) (hW : Wd w 3 1 v n xs) (hg : w.grownBy w' v.ownBlock) : MKi lo w' q u := h
theorem MKl.app {lo n : Nat} {w w' : World} {q : Nat} {u v : Value} {xs : List Value} (h : MKl lo w q u) (hW : Wd w 25 1 v n xs) (hg : w.grownBy w' v.ownBlock) : MKl lo w' q u := by
  obtain ⟨b, h1, h2, h3⟩ := h
  refine ⟨b, h1, h2, h3.grown hg (fun e => ?_)⟩
  unfold Wd at hW
  rcases hW.2 with ⟨rfl, _⟩ | ⟨b', c, sp, rfl, hA, _⟩
  · cases e
  · cases e
    unfold At at hA h3
    rw [hA] at h3
    have h4 := Option.some.inj h3
    rw [Obj.cells.injEq] at h4
    exact absurd h4.2.1 (by decide)
theorem own_case {a : Option Addr} {n n' c : Nat} : (Value.slice a n c).ownBlock = (Value.slice a n' c).ownBlock := by cases a <;> rfl
theorem ok_growInt : CallOK Tryd.prog 45 := callOK Tryd.func45 (by kernel_rfl) rfl
set_option maxHeartbeats 2000000 in
theorem growInt_ct (bk M lo : Nat) (ns : List Nat) (L G : Nat → Value) (ln : Nat → Nat) (vi vl : Value) (w : World) (hA : At w bk 49 (bkc M vi vl)) (hW : Wd w 68 3 vi ns.length (flat3 L G ns)) (hN : ns.length ≤ 100000) (hq : ∀ q ∈ ns, q ≤ 200000)
    (hL : ∀ q ∈ ns, ∃ xs, Wd w 3 1 (L q) (ln q) xs ∧ ∀ u ∈ xs, MKi lo w q u) (hln : ∀ q ∈ ns, ln q ≤ 100000) (hGone : ∀ q ∈ ns, (G q).oneCell' = true) (hnd : ns.Nodup) (hd : ∀ p ∈ ns, ∀ q ∈ ns, p ≠ q → ∀ b, (L p).ownBlock = some b → (L q).ownBlock ≠ some b) (hbk : ∀ q ∈ ns, ∀ b, (L q).ownBlock = some b → b ≠ bk ∧ vi.ownBlock ≠ some b ∧ b < lo) (hvb : ∀ b, vi.ownBlock = some b → b ≠ bk ∧ b < lo) (hlo : lo ≤ w.heap.size) :
    Ct Tryd.prog 45 #[.pointer (some ⟨bk, 0, none⟩)] w fun u w' => u = .tuple #[] ∧ KtS (fun b => (∃ q ∈ ns, (L q).ownBlock = some b) ∨ vi.ownBlock = some b) w w' ∧ ∃ G', Wd w' 68 3 vi ns.length (flat3 L G' ns) ∧ ∀ q ∈ ns, (∃ xs, Wd w' 3 1 (L q) (ln q) xs ∧ ∀ u ∈ xs, MKi lo w' q u) ∧ (∃ ys, Wd w' 3 1 (G' q) (ln q + 40) ys ∧ ∀ u ∈ ys, MKi lo w' q u) ∧ ∀ b, (G' q).ownBlock = some b → (L q).ownBlock = some b ∨ w.heap.size ≤ b := by
  obtain ⟨va, vc, hvf⟩ := hW.slen
  refine Exists.elim in_heldInt.ex fun ti hti => ?_
  have hLw : ∀ q ∈ ns, ∀ b, (L q).ownBlock = some b → b < w.heap.size := fun q h1 b h2 => by obtain ⟨xs, h3, _⟩ := hL q h1; exact h3.lt b h2
  have hLone : ∀ q ∈ ns, (L q).oneCell' = true := fun q h1 => by obtain ⟨xs, h3, _⟩ := hL q h1; exact h3.one
  have hSlo : ∀ b, ((∃ q ∈ ns, (L q).ownBlock = some b) ∨ vi.ownBlock = some b) → b < lo := fun b h => by
    rcases h with ⟨q, h1, h2⟩ | h
    · exact (hbk q h1 b h2).2.2
    · exact (hvb b h).2
  refine enter (N := 42) (vs := [.pointer (some ⟨bk, 0, none⟩)]) Tryd.func45 rfl rfl rfl ?_
  repeat (first | (refine isO ?_; first | refine s_move ?_ | refine s_assign ?_ | (refine isG ?_; first | refine g_yes rfl rfl ?_ | refine g_no rfl rfl rfl ?_ | refine g_un rfl rfl ?_) | (refine isBin ?_; first | refine s_inc rfl (by omega) ?_ | refine s_lssT rfl rfl (by omega) ?_ | refine s_lssF rfl rfl (by omega) ?_ | refine s_lss rfl rfl ?_ | refine s_eqlT rfl rfl (by omega) ?_ | refine s_eqlF rfl rfl (by omega) ?_ | refine s_eql rfl rfl ?_ | refine s_neqT rfl rfl (by omega) ?_ | refine s_neqF rfl rfl (by omega) ?_ | refine s_neq rfl rfl ?_ | refine s_leqT rfl rfl (by omega) ?_ | refine s_leqF rfl rfl (by omega) ?_ | refine s_leq rfl rfl ?_ | refine s_gtrT rfl rfl (by omega) ?_ | refine s_gtrF rfl rfl (by omega) ?_ | refine s_gtr rfl rfl ?_ | refine s_geqT rfl rfl (by omega) ?_ | refine s_geqF rfl rfl (by omega) ?_ | refine s_geq rfl rfl ?_ | refine s_add rfl rfl ⟨by omega, by omega⟩ ?_ | refine s_sub rfl rfl ⟨by omega, by omega⟩ ?_) | (refine isCall ?_; first | refine s_lenI sl_ints rfl (by assumption) ?_ | refine s_lenR sl_rows rfl (by assumption) ?_ | refine s_len sl_ints rfl ?_ | refine s_len sl_rows rfl ?_) | (refine isIA ?_; refine s_ixI sl_ints ty_int rfl rfl rfl (by assumption) (by omega) ?_; intro _) | (refine isPick ?_; first | refine s_pickt rfl rfl ?_ | refine s_pickf rfl rfl ?_) | (refine isLD ?_; first | refine s_ldA ty_int rfl (by assumption) rfl ?_ | refine s_ldA ty_ints rfl (by assumption) rfl ?_) | refine s_extract rfl rfl ?_ | refine s_not rfl ?_) | (refine isC ?_; first | refine c_sr ?_ | refine c_th ?_ | refine c_seq ?_ | refine c_region ?_ | refine c_ift rfl ?_ | refine c_iff rfl ?_ | refine c_block ?_ | refine c_ret ?_ | refine c_exit ?_ | refine c_skip ?_) | (first | refine l_th ?_ | refine th_norm ?_ | refine ib_norm ?_ | refine l_nil ?_ | refine th_ret ?_ | refine ib_ret ?_ | refine ib_exit ?_ | refine th_exit ?_ | refine ib_pass rfl ?_))
  refine c_loop (γ := Nat) 4398046511100 (fun i => [(2, .int .i64 (i : Int))]) (fun i W => i ≤ ns.length ∧ KtS (fun b => (∃ q ∈ ns, (L q).ownBlock = some b) ∨ vi.ownBlock = some b) w W ∧ ∃ G', Wd W 68 3 vi ns.length (flat3 L G' ns) ∧ (∀ q ∈ ns, (G' q).oneCell' = true) ∧ ∀ j q, ns[j]? = some q → (∃ xs, Wd W 3 1 (L q) (ln q) xs ∧ ∀ u ∈ xs, MKi lo W q u) ∧ (j < i → (∃ ys, Wd W 3 1 (G' q) (ln q + 40) ys ∧ ∀ u ∈ ys, MKi lo W q u) ∧ ∀ b, (G' q).ownBlock = some b → (L q).ownBlock = some b ∨ w.heap.size ≤ b)) (fun i => ns.length - i) 0 ⟨rfl, trivial⟩ ⟨Nat.zero_le _, KtS.refl _ _, G, hW, hGone, fun j q h => ⟨hL q (List.mem_of_getElem? h), fun h => by omega⟩⟩ ?_
  rintro i ρ W ⟨hi, hK, hGe⟩
  refine Exists.elim hGe fun G' hG => ?_
  have hWW := hG.1
  have hI := hG.2.2
  have hAW := hA.kt hK (fun h => by
    rcases h with ⟨q, h1, h2⟩ | h
    · exact (hbk q h1 bk h2).1 rfl
    · exact (hvb bk h).1 rfl)
  repeat (first | (refine isO ?_; first | refine s_move ?_ | refine s_assign ?_ | (refine isG ?_; first | refine g_yes rfl rfl ?_ | refine g_no rfl rfl rfl ?_ | refine g_un rfl rfl ?_) | (refine isBin ?_; first | refine s_inc rfl (by omega) ?_ | refine s_lssT rfl rfl (by omega) ?_ | refine s_lssF rfl rfl (by omega) ?_ | refine s_lss rfl rfl ?_ | refine s_eqlT rfl rfl (by omega) ?_ | refine s_eqlF rfl rfl (by omega) ?_ | refine s_eql rfl rfl ?_ | refine s_neqT rfl rfl (by omega) ?_ | refine s_neqF rfl rfl (by omega) ?_ | refine s_neq rfl rfl ?_ | refine s_leqT rfl rfl (by omega) ?_ | refine s_leqF rfl rfl (by omega) ?_ | refine s_leq rfl rfl ?_ | refine s_gtrT rfl rfl (by omega) ?_ | refine s_gtrF rfl rfl (by omega) ?_ | refine s_gtr rfl rfl ?_ | refine s_geqT rfl rfl (by omega) ?_ | refine s_geqF rfl rfl (by omega) ?_ | refine s_geq rfl rfl ?_ | refine s_add rfl rfl ⟨by omega, by omega⟩ ?_ | refine s_sub rfl rfl ⟨by omega, by omega⟩ ?_) | (refine isCall ?_; first | refine s_lenI sl_ints rfl (by assumption) ?_ | refine s_lenR sl_rows rfl (by assumption) ?_ | refine s_len sl_ints rfl ?_ | refine s_len sl_rows rfl ?_) | (refine isIA ?_; refine s_ixI sl_ints ty_int rfl rfl rfl (by assumption) (by omega) ?_; intro _) | (refine isPick ?_; first | refine s_pickt rfl rfl ?_ | refine s_pickf rfl rfl ?_) | (refine isLD ?_; first | refine s_ldA ty_int rfl (by assumption) rfl ?_ | refine s_ldA ty_ints rfl (by assumption) rfl ?_) | refine s_extract rfl rfl ?_ | refine s_not rfl ?_) | (refine isC ?_; first | refine c_sr ?_ | refine c_th ?_ | refine c_seq ?_ | refine c_region ?_ | refine c_ift rfl ?_ | refine c_iff rfl ?_ | refine c_block ?_ | refine c_ret ?_ | refine c_exit ?_ | refine c_skip ?_) | (first | refine l_th ?_ | refine th_norm ?_ | refine ib_norm ?_ | refine l_nil ?_ | refine th_ret ?_ | refine ib_ret ?_ | refine ib_exit ?_ | refine th_exit ?_ | refine ib_pass rfl ?_))
  refine s_nil rfl ?_
  refine s_faN Tryd.underlying49 rfl ty_hi.n rfl ?_
  refine s_ldA ty_hi rfl hAW rfl ?_
  refine s_len (n := ns.length) (a := va) (c := vc) sl_hi hvf ?_
  repeat (first | (refine isO ?_; first | refine s_move ?_ | refine s_assign ?_ | (refine isG ?_; first | refine g_yes rfl rfl ?_ | refine g_no rfl rfl rfl ?_ | refine g_un rfl rfl ?_) | (refine isBin ?_; first | refine s_inc rfl (by omega) ?_ | refine s_lssT rfl rfl (by omega) ?_ | refine s_lssF rfl rfl (by omega) ?_ | refine s_lss rfl rfl ?_ | refine s_eqlT rfl rfl (by omega) ?_ | refine s_eqlF rfl rfl (by omega) ?_ | refine s_eql rfl rfl ?_ | refine s_neqT rfl rfl (by omega) ?_ | refine s_neqF rfl rfl (by omega) ?_ | refine s_neq rfl rfl ?_ | refine s_leqT rfl rfl (by omega) ?_ | refine s_leqF rfl rfl (by omega) ?_ | refine s_leq rfl rfl ?_ | refine s_gtrT rfl rfl (by omega) ?_ | refine s_gtrF rfl rfl (by omega) ?_ | refine s_gtr rfl rfl ?_ | refine s_geqT rfl rfl (by omega) ?_ | refine s_geqF rfl rfl (by omega) ?_ | refine s_geq rfl rfl ?_ | refine s_add rfl rfl ⟨by omega, by omega⟩ ?_ | refine s_sub rfl rfl ⟨by omega, by omega⟩ ?_) | (refine isCall ?_; first | refine s_lenI sl_ints rfl (by assumption) ?_ | refine s_lenR sl_rows rfl (by assumption) ?_ | refine s_len sl_ints rfl ?_ | refine s_len sl_rows rfl ?_) | (refine isIA ?_; refine s_ixI sl_ints ty_int rfl rfl rfl (by assumption) (by omega) ?_; intro _) | (refine isPick ?_; first | refine s_pickt rfl rfl ?_ | refine s_pickf rfl rfl ?_) | (refine isLD ?_; first | refine s_ldA ty_int rfl (by assumption) rfl ?_ | refine s_ldA ty_ints rfl (by assumption) rfl ?_) | refine s_extract rfl rfl ?_ | refine s_not rfl ?_) | (refine isC ?_; first | refine c_sr ?_ | refine c_th ?_ | refine c_seq ?_ | refine c_region ?_ | refine c_ift rfl ?_ | refine c_iff rfl ?_ | refine c_block ?_ | refine c_ret ?_ | refine c_exit ?_ | refine c_skip ?_) | (first | refine l_th ?_ | refine th_norm ?_ | refine ib_norm ?_ | refine l_nil ?_ | refine th_ret ?_ | refine ib_ret ?_ | refine ib_exit ?_ | refine th_exit ?_ | refine ib_pass rfl ?_))
  refine c_ifd rfl (fun h => ?_) (fun h => ?_)
  · have hi' : i < ns.length := by omega
    have hqe : ∃ q, ns[i]? = some q := ⟨_, List.getElem?_eq_getElem hi'⟩
    refine Exists.elim hqe fun q hqi => ?_
    have hqm := List.mem_of_getElem? hqi
    refine Exists.elim (hWW.pos (by omega)) fun ib he1 => Exists.elim he1 fun ic he2 => Exists.elim he2 fun isp he3 => ?_
    have hcell : ∀ j v, [L q, G' q, Value.int .i64 (q : Int)][j]? = some v → (flat3 L G' ns ++ isp)[i * 3 + j]? = some v := fun j v hj => by
      have h1 := flat3_get L G' ns i q hqi j v hj
      rw [List.getElem?_append_left (List.getElem?_eq_some_iff.1 h1).1]; exact h1
    have hib : vi.ownBlock = some ib := by rw [he3.1]; rfl
    repeat (first | (refine isO ?_; first | refine s_move ?_ | refine s_assign ?_ | (refine isG ?_; first | refine g_yes rfl rfl ?_ | refine g_no rfl rfl rfl ?_ | refine g_un rfl rfl ?_) | (refine isBin ?_; first | refine s_inc rfl (by omega) ?_ | refine s_lssT rfl rfl (by omega) ?_ | refine s_lssF rfl rfl (by omega) ?_ | refine s_lss rfl rfl ?_ | refine s_eqlT rfl rfl (by omega) ?_ | refine s_eqlF rfl rfl (by omega) ?_ | refine s_eql rfl rfl ?_ | refine s_neqT rfl rfl (by omega) ?_ | refine s_neqF rfl rfl (by omega) ?_ | refine s_neq rfl rfl ?_ | refine s_leqT rfl rfl (by omega) ?_ | refine s_leqF rfl rfl (by omega) ?_ | refine s_leq rfl rfl ?_ | refine s_gtrT rfl rfl (by omega) ?_ | refine s_gtrF rfl rfl (by omega) ?_ | refine s_gtr rfl rfl ?_ | refine s_geqT rfl rfl (by omega) ?_ | refine s_geqF rfl rfl (by omega) ?_ | refine s_geq rfl rfl ?_ | refine s_add rfl rfl ⟨by omega, by omega⟩ ?_ | refine s_sub rfl rfl ⟨by omega, by omega⟩ ?_) | (refine isCall ?_; first | refine s_lenI sl_ints rfl (by assumption) ?_ | refine s_lenR sl_rows rfl (by assumption) ?_ | refine s_len sl_ints rfl ?_ | refine s_len sl_rows rfl ?_) | (refine isIA ?_; refine s_ixI sl_ints ty_int rfl rfl rfl (by assumption) (by omega) ?_; intro _) | (refine isPick ?_; first | refine s_pickt rfl rfl ?_ | refine s_pickf rfl rfl ?_) | (refine isLD ?_; first | refine s_ldA ty_int rfl (by assumption) rfl ?_ | refine s_ldA ty_ints rfl (by assumption) rfl ?_) | refine s_extract rfl rfl ?_ | refine s_not rfl ?_) | (refine isC ?_; first | refine c_sr ?_ | refine c_th ?_ | refine c_seq ?_ | refine c_region ?_ | refine c_ift rfl ?_ | refine c_iff rfl ?_ | refine c_block ?_ | refine c_ret ?_ | refine c_exit ?_ | refine c_skip ?_) | (first | refine l_th ?_ | refine th_norm ?_ | refine ib_norm ?_ | refine l_nil ?_ | refine th_ret ?_ | refine ib_ret ?_ | refine ib_exit ?_ | refine th_exit ?_ | refine ib_pass rfl ?_))
    refine s_nil rfl ?_
    refine s_faN Tryd.underlying49 rfl ty_hi.n rfl ?_
    refine s_ldA ty_hi rfl hAW rfl ?_
    refine s_re (v' := .slice (some ⟨ib, 0, none⟩) ns.length ic) he3.1 ?_
    repeat (first | (refine isO ?_; first | refine s_move ?_ | refine s_assign ?_ | (refine isG ?_; first | refine g_yes rfl rfl ?_ | refine g_no rfl rfl rfl ?_ | refine g_un rfl rfl ?_) | (refine isBin ?_; first | refine s_inc rfl (by omega) ?_ | refine s_lssT rfl rfl (by omega) ?_ | refine s_lssF rfl rfl (by omega) ?_ | refine s_lss rfl rfl ?_ | refine s_eqlT rfl rfl (by omega) ?_ | refine s_eqlF rfl rfl (by omega) ?_ | refine s_eql rfl rfl ?_ | refine s_neqT rfl rfl (by omega) ?_ | refine s_neqF rfl rfl (by omega) ?_ | refine s_neq rfl rfl ?_ | refine s_leqT rfl rfl (by omega) ?_ | refine s_leqF rfl rfl (by omega) ?_ | refine s_leq rfl rfl ?_ | refine s_gtrT rfl rfl (by omega) ?_ | refine s_gtrF rfl rfl (by omega) ?_ | refine s_gtr rfl rfl ?_ | refine s_geqT rfl rfl (by omega) ?_ | refine s_geqF rfl rfl (by omega) ?_ | refine s_geq rfl rfl ?_ | refine s_add rfl rfl ⟨by omega, by omega⟩ ?_ | refine s_sub rfl rfl ⟨by omega, by omega⟩ ?_) | (refine isCall ?_; first | refine s_lenI sl_ints rfl (by assumption) ?_ | refine s_lenR sl_rows rfl (by assumption) ?_ | refine s_len sl_ints rfl ?_ | refine s_len sl_rows rfl ?_) | (refine isIA ?_; refine s_ixI sl_ints ty_int rfl rfl rfl (by assumption) (by omega) ?_; intro _) | (refine isPick ?_; first | refine s_pickt rfl rfl ?_ | refine s_pickf rfl rfl ?_) | (refine isLD ?_; first | refine s_ldA ty_int rfl (by assumption) rfl ?_ | refine s_ldA ty_ints rfl (by assumption) rfl ?_) | refine s_extract rfl rfl ?_ | refine s_not rfl ?_) | (refine isC ?_; first | refine c_sr ?_ | refine c_th ?_ | refine c_seq ?_ | refine c_region ?_ | refine c_ift rfl ?_ | refine c_iff rfl ?_ | refine c_block ?_ | refine c_ret ?_ | refine c_exit ?_ | refine c_skip ?_) | (first | refine l_th ?_ | refine th_norm ?_ | refine ib_norm ?_ | refine l_nil ?_ | refine th_ret ?_ | refine ib_ret ?_ | refine ib_exit ?_ | refine th_exit ?_ | refine ib_pass rfl ?_))
    refine s_iaW (n := i) (s := 3) sl_hi ⟨ti, hti.1, hti.2.2.1⟩ rfl rfl hi' ?_
    refine s_ldM (cs := [L q, G' q, .int .i64 (q : Int)]) Tryd.underlying68 rfl (by kernel_rfl) rfl he3.2.1 hcell ?_
    refine s_alloc (cs := [.slice none 0 0, .slice none 0 0, .int .i64 0]) hti.1 hti.2.1 rfl ?_
    intro b3 w3 hb3 hA3 hx3 hs3
    refine s_stV (cs := [L q, G' q, .int .i64 (q : Int)]) (by kernel_rfl) rfl rfl hA3 rfl (by rw [List.all_cons, List.all_cons, hLone q hqm, hG.2.1 q hqm]; rfl) ?_
    intro w4 hA4 hg4 hz4
    have z3 := hx3.size
    have hK4 : KtS (fun _ => False) W w4 := (KtS.of_ex hx3).later (KtS.of_grown (S := fun b => b3 = b) hg4 (fun k e => Option.some.inj e)) (fun k e => .inr (by omega))
    have hxW4 : Ex W w4 := ⟨hK4.os, hK4.tape, hK4.output, hK4.size, fun k hk => hK4.block k hk (fun h => h)⟩
    have hLq := (hI i q hqi).1
    refine Exists.elim hLq fun cs hcs => ?_
    have hLq4 := hcs.1.ex hxW4
    have hqb := hq q hqm
    have hlq := hln q hqm
    have hb3L : ∀ b, (L q).ownBlock = some b → b ≠ b3 := fun b hb e => by have := hcs.1.lt b hb; omega
    refine Exists.elim hcs.1.slen fun la hl1 => Exists.elim hl1 fun lc hlf => ?_
    have zW := hK.size
    repeat (first | (refine isO ?_; first | refine s_move ?_ | refine s_assign ?_ | (refine isG ?_; first | refine g_yes rfl rfl ?_ | refine g_no rfl rfl rfl ?_ | refine g_un rfl rfl ?_) | (refine isBin ?_; first | refine s_inc rfl (by omega) ?_ | refine s_lssT rfl rfl (by omega) ?_ | refine s_lssF rfl rfl (by omega) ?_ | refine s_lss rfl rfl ?_ | refine s_eqlT rfl rfl (by omega) ?_ | refine s_eqlF rfl rfl (by omega) ?_ | refine s_eql rfl rfl ?_ | refine s_neqT rfl rfl (by omega) ?_ | refine s_neqF rfl rfl (by omega) ?_ | refine s_neq rfl rfl ?_ | refine s_leqT rfl rfl (by omega) ?_ | refine s_leqF rfl rfl (by omega) ?_ | refine s_leq rfl rfl ?_ | refine s_gtrT rfl rfl (by omega) ?_ | refine s_gtrF rfl rfl (by omega) ?_ | refine s_gtr rfl rfl ?_ | refine s_geqT rfl rfl (by omega) ?_ | refine s_geqF rfl rfl (by omega) ?_ | refine s_geq rfl rfl ?_ | refine s_add rfl rfl ⟨by omega, by omega⟩ ?_ | refine s_sub rfl rfl ⟨by omega, by omega⟩ ?_) | (refine isCall ?_; first | refine s_lenI sl_ints rfl (by assumption) ?_ | refine s_lenR sl_rows rfl (by assumption) ?_ | refine s_len sl_ints rfl ?_ | refine s_len sl_rows rfl ?_) | (refine isIA ?_; refine s_ixI sl_ints ty_int rfl rfl rfl (by assumption) (by omega) ?_; intro _) | (refine isPick ?_; first | refine s_pickt rfl rfl ?_ | refine s_pickf rfl rfl ?_) | (refine isLD ?_; first | refine s_ldA ty_int rfl (by assumption) rfl ?_ | refine s_ldA ty_ints rfl (by assumption) rfl ?_) | refine s_extract rfl rfl ?_ | refine s_not rfl ?_) | (refine isC ?_; first | refine c_sr ?_ | refine c_th ?_ | refine c_seq ?_ | refine c_region ?_ | refine c_ift rfl ?_ | refine c_iff rfl ?_ | refine c_block ?_ | refine c_ret ?_ | refine c_exit ?_ | refine c_skip ?_) | (first | refine l_th ?_ | refine th_norm ?_ | refine ib_norm ?_ | refine l_nil ?_ | refine th_ret ?_ | refine ib_ret ?_ | refine ib_exit ?_ | refine th_exit ?_ | refine ib_pass rfl ?_))
    refine s_faN Tryd.underlying68 rfl ty_ints.n rfl ?_
    refine s_ldA ty_ints rfl hA4 rfl ?_
    repeat (first | (refine isO ?_; first | refine s_move ?_ | refine s_assign ?_ | (refine isG ?_; first | refine g_yes rfl rfl ?_ | refine g_no rfl rfl rfl ?_ | refine g_un rfl rfl ?_) | (refine isBin ?_; first | refine s_inc rfl (by omega) ?_ | refine s_lssT rfl rfl (by omega) ?_ | refine s_lssF rfl rfl (by omega) ?_ | refine s_lss rfl rfl ?_ | refine s_eqlT rfl rfl (by omega) ?_ | refine s_eqlF rfl rfl (by omega) ?_ | refine s_eql rfl rfl ?_ | refine s_neqT rfl rfl (by omega) ?_ | refine s_neqF rfl rfl (by omega) ?_ | refine s_neq rfl rfl ?_ | refine s_leqT rfl rfl (by omega) ?_ | refine s_leqF rfl rfl (by omega) ?_ | refine s_leq rfl rfl ?_ | refine s_gtrT rfl rfl (by omega) ?_ | refine s_gtrF rfl rfl (by omega) ?_ | refine s_gtr rfl rfl ?_ | refine s_geqT rfl rfl (by omega) ?_ | refine s_geqF rfl rfl (by omega) ?_ | refine s_geq rfl rfl ?_ | refine s_add rfl rfl ⟨by omega, by omega⟩ ?_ | refine s_sub rfl rfl ⟨by omega, by omega⟩ ?_) | (refine isCall ?_; first | refine s_lenI sl_ints rfl (by assumption) ?_ | refine s_lenR sl_rows rfl (by assumption) ?_ | refine s_len sl_ints rfl ?_ | refine s_len sl_rows rfl ?_) | (refine isIA ?_; refine s_ixI sl_ints ty_int rfl rfl rfl (by assumption) (by omega) ?_; intro _) | (refine isPick ?_; first | refine s_pickt rfl rfl ?_ | refine s_pickf rfl rfl ?_) | (refine isLD ?_; first | refine s_ldA ty_int rfl (by assumption) rfl ?_ | refine s_ldA ty_ints rfl (by assumption) rfl ?_) | refine s_extract rfl rfl ?_ | refine s_not rfl ?_) | (refine isC ?_; first | refine c_sr ?_ | refine c_th ?_ | refine c_seq ?_ | refine c_region ?_ | refine c_ift rfl ?_ | refine c_iff rfl ?_ | refine c_block ?_ | refine c_ret ?_ | refine c_exit ?_ | refine c_skip ?_) | (first | refine l_th ?_ | refine th_norm ?_ | refine ib_norm ?_ | refine l_nil ?_ | refine th_ret ?_ | refine ib_ret ?_ | refine ib_exit ?_ | refine th_exit ?_ | refine ib_pass rfl ?_))
    refine c_loop2 17163092016 (fun (k : Nat) (v4 : Value) => [(5, .int .i64 (k : Int)), (4, v4)]) (fun k v4 W2 => k ≤ 40 ∧ KtS (fun b => (L q).ownBlock = some b) w4 W2 ∧ (∃ ys, Wd W2 3 1 v4 (ln q + k) ys ∧ ∀ u ∈ ys, MKi lo W2 q u) ∧ ((v4 = .slice la (ln q + k) lc) ∨ ((∀ b, v4.ownBlock = some b → w4.heap.size ≤ b) ∧ ∃ xs, Wd W2 3 1 (L q) (ln q) xs ∧ ∀ u ∈ xs, MKi lo W2 q u))) (fun k _ => 40 - k) 0 (L q) ⟨rfl, rfl, trivial⟩ ⟨Nat.zero_le _, KtS.refl _ _, ⟨cs, hLq4, fun u hu => MKi.ex (hcs.2 u hu) hxW4⟩, .inl hlf⟩ ?_
    rintro k v4 ρ2 W2 ⟨hk, hK2, hye, hcase⟩
    refine Exists.elim hye fun ys hys => ?_
    have hA5 := hA4.kt hK2 (fun e => hb3L b3 e rfl)
    have z2 := hK2.size
    have z4 := hxW4.size
    repeat (first | (refine isO ?_; first | refine s_move ?_ | refine s_assign ?_ | (refine isG ?_; first | refine g_yes rfl rfl ?_ | refine g_no rfl rfl rfl ?_ | refine g_un rfl rfl ?_) | (refine isBin ?_; first | refine s_inc rfl (by omega) ?_ | refine s_lssT rfl rfl (by omega) ?_ | refine s_lssF rfl rfl (by omega) ?_ | refine s_lss rfl rfl ?_ | refine s_eqlT rfl rfl (by omega) ?_ | refine s_eqlF rfl rfl (by omega) ?_ | refine s_eql rfl rfl ?_ | refine s_neqT rfl rfl (by omega) ?_ | refine s_neqF rfl rfl (by omega) ?_ | refine s_neq rfl rfl ?_ | refine s_leqT rfl rfl (by omega) ?_ | refine s_leqF rfl rfl (by omega) ?_ | refine s_leq rfl rfl ?_ | refine s_gtrT rfl rfl (by omega) ?_ | refine s_gtrF rfl rfl (by omega) ?_ | refine s_gtr rfl rfl ?_ | refine s_geqT rfl rfl (by omega) ?_ | refine s_geqF rfl rfl (by omega) ?_ | refine s_geq rfl rfl ?_ | refine s_add rfl rfl ⟨by omega, by omega⟩ ?_ | refine s_sub rfl rfl ⟨by omega, by omega⟩ ?_) | (refine isCall ?_; first | refine s_lenI sl_ints rfl (by assumption) ?_ | refine s_lenR sl_rows rfl (by assumption) ?_ | refine s_len sl_ints rfl ?_ | refine s_len sl_rows rfl ?_) | (refine isIA ?_; refine s_ixI sl_ints ty_int rfl rfl rfl (by assumption) (by omega) ?_; intro _) | (refine isPick ?_; first | refine s_pickt rfl rfl ?_ | refine s_pickf rfl rfl ?_) | (refine isLD ?_; first | refine s_ldA ty_int rfl (by assumption) rfl ?_ | refine s_ldA ty_ints rfl (by assumption) rfl ?_) | refine s_extract rfl rfl ?_ | refine s_not rfl ?_) | (refine isC ?_; first | refine c_sr ?_ | refine c_th ?_ | refine c_seq ?_ | refine c_region ?_ | refine c_ift rfl ?_ | refine c_iff rfl ?_ | refine c_block ?_ | refine c_ret ?_ | refine c_exit ?_ | refine c_skip ?_) | (first | refine l_th ?_ | refine th_norm ?_ | refine ib_norm ?_ | refine l_nil ?_ | refine th_ret ?_ | refine ib_ret ?_ | refine ib_exit ?_ | refine th_exit ?_ | refine ib_pass rfl ?_))
    refine c_ifd rfl (fun h2 => ?_) (fun h2 => ?_)
    · have hk' : k < 40 := by omega
      repeat (first | (refine isO ?_; first | refine s_move ?_ | refine s_assign ?_ | (refine isG ?_; first | refine g_yes rfl rfl ?_ | refine g_no rfl rfl rfl ?_ | refine g_un rfl rfl ?_) | (refine isBin ?_; first | refine s_inc rfl (by omega) ?_ | refine s_lssT rfl rfl (by omega) ?_ | refine s_lssF rfl rfl (by omega) ?_ | refine s_lss rfl rfl ?_ | refine s_eqlT rfl rfl (by omega) ?_ | refine s_eqlF rfl rfl (by omega) ?_ | refine s_eql rfl rfl ?_ | refine s_neqT rfl rfl (by omega) ?_ | refine s_neqF rfl rfl (by omega) ?_ | refine s_neq rfl rfl ?_ | refine s_leqT rfl rfl (by omega) ?_ | refine s_leqF rfl rfl (by omega) ?_ | refine s_leq rfl rfl ?_ | refine s_gtrT rfl rfl (by omega) ?_ | refine s_gtrF rfl rfl (by omega) ?_ | refine s_gtr rfl rfl ?_ | refine s_geqT rfl rfl (by omega) ?_ | refine s_geqF rfl rfl (by omega) ?_ | refine s_geq rfl rfl ?_ | refine s_add rfl rfl ⟨by omega, by omega⟩ ?_ | refine s_sub rfl rfl ⟨by omega, by omega⟩ ?_) | (refine isCall ?_; first | refine s_lenI sl_ints rfl (by assumption) ?_ | refine s_lenR sl_rows rfl (by assumption) ?_ | refine s_len sl_ints rfl ?_ | refine s_len sl_rows rfl ?_) | (refine isIA ?_; refine s_ixI sl_ints ty_int rfl rfl rfl (by assumption) (by omega) ?_; intro _) | (refine isPick ?_; first | refine s_pickt rfl rfl ?_ | refine s_pickf rfl rfl ?_) | (refine isLD ?_; first | refine s_ldA ty_int rfl (by assumption) rfl ?_ | refine s_ldA ty_ints rfl (by assumption) rfl ?_) | refine s_extract rfl rfl ?_ | refine s_not rfl ?_) | (refine isC ?_; first | refine c_sr ?_ | refine c_th ?_ | refine c_seq ?_ | refine c_region ?_ | refine c_ift rfl ?_ | refine c_iff rfl ?_ | refine c_block ?_ | refine c_ret ?_ | refine c_exit ?_ | refine c_skip ?_) | (first | refine l_th ?_ | refine th_norm ?_ | refine ib_norm ?_ | refine l_nil ?_ | refine th_ret ?_ | refine ib_ret ?_ | refine ib_exit ?_ | refine th_exit ?_ | refine ib_pass rfl ?_))
      refine s_faN Tryd.underlying68 rfl ty_int.n rfl ?_
      refine s_ldA ty_int rfl hA5 rfl ?_
      refine s_call ok_markInt rfl (markInt_ct lo q W2 hqb (by omega)) ?_
      rintro x w5 ⟨hmk, hone, hx5⟩
      refine s_bs1 (u := x) sl_ints in_int rfl hone ?_
      intro b6 w6 hb6 hA6 hx6 hs6
      have hx26 := hx5.trans hx6
      refine s_appW (n := ln q + k) (m := 1) (news := [x]) sl_ints in_wint (by omega) (hys.1.ex hx26) ⟨b6, 1, rfl, [], by simpa using hA6⟩ rfl (by omega) (by intro u hu; simp at hu; subst hu; exact hone) (by omega) (by omega) rfl rfl ?_
      intro v5 w7 hW7 hg7 hf7
      have hys7 : ∀ u ∈ ys ++ [x], MKi lo w7 q u := fun u hu => by
        rcases List.mem_append.1 hu with hu | hu
        · exact MKi.app ((hys.2 u hu).ex hx26) (hys.1.ex hx26) hg7
        · simp at hu; subst hu; exact MKi.app (hmk.ex hx6) (hys.1.ex hx26) hg7
      have hown : v4.ownBlock = (L q).ownBlock ∨ ∀ b, v4.ownBlock = some b → w4.heap.size ≤ b := by
        rcases hcase with hc | hc
        · left; rw [hc, hlf]; exact own_case
        · exact .inr hc.1
      have hK7 : KtS (fun b => (L q).ownBlock = some b) w4 w7 := (hK2.trans (KtS.of_ex hx26)).later (KtS.of_grown (S := fun b => v4.ownBlock = some b) hg7 (fun b e => e)) (fun b hb => by
        rcases hown with he | hf
        · exact .inl (he ▸ hb)
        · exact .inr (hf b hb))
      have z26 := hx26.size
      have hnext : (v5 = .slice la (ln q + (k + 1)) lc) ∨ ((∀ b, v5.ownBlock = some b → w4.heap.size ≤ b) ∧ ∃ xs, Wd w7 3 1 (L q) (ln q) xs ∧ ∀ u ∈ xs, MKi lo w7 q u) := by
        rcases hcase with hc | hc
        · rcases hf7 with ⟨a, c, h5, h6⟩ | ⟨h5, h6⟩
          · left
            rw [hc] at h5; cases h5
            rw [h6]; rfl
          · right
            refine ⟨fun b hb => by have := h5 b hb; omega, ys.take (ln q), ?_, fun u hu => ?_⟩
            · have h9 := hys.1
              rw [hc] at h9
              have h8 := h9.head
              rw [← hlf] at h8
              exact (h8.ex hx26).ex h6
            · exact hys7 u (List.mem_append_left _ (List.mem_of_mem_take hu))
        · right
          refine ⟨fun b hb => ?_, ?_⟩
          · rcases hf7 with ⟨a, c, h5, h6⟩ | ⟨h5, h6⟩
            · exact hc.1 b (by rw [h5, own_case (n' := ln q + k + 1), ← h6]; exact hb)
            · have := h5 b hb; omega
          · obtain ⟨xs, h8, h9⟩ := hc.2
            refine ⟨xs, (h8.ex hx26).grown hg7 (fun b hb e => ?_), fun u hu => ?_⟩
            · have := hc.1 b e
              have := hLq4.lt b hb
              omega
            · exact MKi.app ((h9 u hu).ex hx26) (hys.1.ex hx26) hg7
      repeat (first | (refine isO ?_; first | refine s_move ?_ | refine s_assign ?_ | (refine isG ?_; first | refine g_yes rfl rfl ?_ | refine g_no rfl rfl rfl ?_ | refine g_un rfl rfl ?_) | (refine isBin ?_; first | refine s_inc rfl (by omega) ?_ | refine s_lssT rfl rfl (by omega) ?_ | refine s_lssF rfl rfl (by omega) ?_ | refine s_lss rfl rfl ?_ | refine s_eqlT rfl rfl (by omega) ?_ | refine s_eqlF rfl rfl (by omega) ?_ | refine s_eql rfl rfl ?_ | refine s_neqT rfl rfl (by omega) ?_ | refine s_neqF rfl rfl (by omega) ?_ | refine s_neq rfl rfl ?_ | refine s_leqT rfl rfl (by omega) ?_ | refine s_leqF rfl rfl (by omega) ?_ | refine s_leq rfl rfl ?_ | refine s_gtrT rfl rfl (by omega) ?_ | refine s_gtrF rfl rfl (by omega) ?_ | refine s_gtr rfl rfl ?_ | refine s_geqT rfl rfl (by omega) ?_ | refine s_geqF rfl rfl (by omega) ?_ | refine s_geq rfl rfl ?_ | refine s_add rfl rfl ⟨by omega, by omega⟩ ?_ | refine s_sub rfl rfl ⟨by omega, by omega⟩ ?_) | (refine isCall ?_; first | refine s_lenI sl_ints rfl (by assumption) ?_ | refine s_lenR sl_rows rfl (by assumption) ?_ | refine s_len sl_ints rfl ?_ | refine s_len sl_rows rfl ?_) | (refine isIA ?_; refine s_ixI sl_ints ty_int rfl rfl rfl (by assumption) (by omega) ?_; intro _) | (refine isPick ?_; first | refine s_pickt rfl rfl ?_ | refine s_pickf rfl rfl ?_) | (refine isLD ?_; first | refine s_ldA ty_int rfl (by assumption) rfl ?_ | refine s_ldA ty_ints rfl (by assumption) rfl ?_) | refine s_extract rfl rfl ?_ | refine s_not rfl ?_) | (refine isC ?_; first | refine c_sr ?_ | refine c_th ?_ | refine c_seq ?_ | refine c_region ?_ | refine c_ift rfl ?_ | refine c_iff rfl ?_ | refine c_block ?_ | refine c_ret ?_ | refine c_exit ?_ | refine c_skip ?_) | (first | refine l_th ?_ | refine th_norm ?_ | refine ib_norm ?_ | refine l_nil ?_ | refine th_ret ?_ | refine ib_ret ?_ | refine ib_exit ?_ | refine th_exit ?_ | refine ib_pass rfl ?_))
      exact loop_end2 (k + 1) v5 (by (repeat (first | exact agree_refl _ _ | refine agree_upd rfl ?_ | refine agree_ext rfl ?_ | refine agree_mask rfl ?_))) ⟨rfl, rfl, trivial⟩ ⟨hk', hK7, ⟨ys ++ [x], hW7, hys7⟩, hnext⟩ (by omega)
    · have hke : k = 40 := by omega
      subst hke
      have hK6 : KtS (fun b => (L q).ownBlock = some b) W W2 := (hK4.mono (fun _ h => h.elim)).trans hK2
      have hibL : ∀ b, (L q).ownBlock = some b → b ≠ ib := fun b hb e => (hbk q hqm b hb).2.1 (by rw [hib, e])
      have hAb6 := hAW.kt hK6 (fun e => (hbk q hqm bk e).1 rfl)
      have hAi6 := he3.2.1.kt hK6 (fun e => hibL ib e rfl)
      repeat (first | (refine isO ?_; first | refine s_move ?_ | refine s_assign ?_ | (refine isG ?_; first | refine g_yes rfl rfl ?_ | refine g_no rfl rfl rfl ?_ | refine g_un rfl rfl ?_) | (refine isBin ?_; first | refine s_inc rfl (by omega) ?_ | refine s_lssT rfl rfl (by omega) ?_ | refine s_lssF rfl rfl (by omega) ?_ | refine s_lss rfl rfl ?_ | refine s_eqlT rfl rfl (by omega) ?_ | refine s_eqlF rfl rfl (by omega) ?_ | refine s_eql rfl rfl ?_ | refine s_neqT rfl rfl (by omega) ?_ | refine s_neqF rfl rfl (by omega) ?_ | refine s_neq rfl rfl ?_ | refine s_leqT rfl rfl (by omega) ?_ | refine s_leqF rfl rfl (by omega) ?_ | refine s_leq rfl rfl ?_ | refine s_gtrT rfl rfl (by omega) ?_ | refine s_gtrF rfl rfl (by omega) ?_ | refine s_gtr rfl rfl ?_ | refine s_geqT rfl rfl (by omega) ?_ | refine s_geqF rfl rfl (by omega) ?_ | refine s_geq rfl rfl ?_ | refine s_add rfl rfl ⟨by omega, by omega⟩ ?_ | refine s_sub rfl rfl ⟨by omega, by omega⟩ ?_) | (refine isCall ?_; first | refine s_lenI sl_ints rfl (by assumption) ?_ | refine s_lenR sl_rows rfl (by assumption) ?_ | refine s_len sl_ints rfl ?_ | refine s_len sl_rows rfl ?_) | (refine isIA ?_; refine s_ixI sl_ints ty_int rfl rfl rfl (by assumption) (by omega) ?_; intro _) | (refine isPick ?_; first | refine s_pickt rfl rfl ?_ | refine s_pickf rfl rfl ?_) | (refine isLD ?_; first | refine s_ldA ty_int rfl (by assumption) rfl ?_ | refine s_ldA ty_ints rfl (by assumption) rfl ?_) | refine s_extract rfl rfl ?_ | refine s_not rfl ?_) | (refine isC ?_; first | refine c_sr ?_ | refine c_th ?_ | refine c_seq ?_ | refine c_region ?_ | refine c_ift rfl ?_ | refine c_iff rfl ?_ | refine c_block ?_ | refine c_ret ?_ | refine c_exit ?_ | refine c_skip ?_) | (first | refine l_th ?_ | refine th_norm ?_ | refine ib_norm ?_ | refine l_nil ?_ | refine th_ret ?_ | refine ib_ret ?_ | refine ib_exit ?_ | refine th_exit ?_ | refine ib_pass rfl ?_))
      refine s_nil rfl ?_
      refine s_faN Tryd.underlying49 rfl ty_hi.n rfl ?_
      refine s_ldA ty_hi rfl hAb6 rfl ?_
      refine s_re (v' := .slice (some ⟨ib, 0, none⟩) ns.length ic) he3.1 ?_
      repeat (first | (refine isO ?_; first | refine s_move ?_ | refine s_assign ?_ | (refine isG ?_; first | refine g_yes rfl rfl ?_ | refine g_no rfl rfl rfl ?_ | refine g_un rfl rfl ?_) | (refine isBin ?_; first | refine s_inc rfl (by omega) ?_ | refine s_lssT rfl rfl (by omega) ?_ | refine s_lssF rfl rfl (by omega) ?_ | refine s_lss rfl rfl ?_ | refine s_eqlT rfl rfl (by omega) ?_ | refine s_eqlF rfl rfl (by omega) ?_ | refine s_eql rfl rfl ?_ | refine s_neqT rfl rfl (by omega) ?_ | refine s_neqF rfl rfl (by omega) ?_ | refine s_neq rfl rfl ?_ | refine s_leqT rfl rfl (by omega) ?_ | refine s_leqF rfl rfl (by omega) ?_ | refine s_leq rfl rfl ?_ | refine s_gtrT rfl rfl (by omega) ?_ | refine s_gtrF rfl rfl (by omega) ?_ | refine s_gtr rfl rfl ?_ | refine s_geqT rfl rfl (by omega) ?_ | refine s_geqF rfl rfl (by omega) ?_ | refine s_geq rfl rfl ?_ | refine s_add rfl rfl ⟨by omega, by omega⟩ ?_ | refine s_sub rfl rfl ⟨by omega, by omega⟩ ?_) | (refine isCall ?_; first | refine s_lenI sl_ints rfl (by assumption) ?_ | refine s_lenR sl_rows rfl (by assumption) ?_ | refine s_len sl_ints rfl ?_ | refine s_len sl_rows rfl ?_) | (refine isIA ?_; refine s_ixI sl_ints ty_int rfl rfl rfl (by assumption) (by omega) ?_; intro _) | (refine isPick ?_; first | refine s_pickt rfl rfl ?_ | refine s_pickf rfl rfl ?_) | (refine isLD ?_; first | refine s_ldA ty_int rfl (by assumption) rfl ?_ | refine s_ldA ty_ints rfl (by assumption) rfl ?_) | refine s_extract rfl rfl ?_ | refine s_not rfl ?_) | (refine isC ?_; first | refine c_sr ?_ | refine c_th ?_ | refine c_seq ?_ | refine c_region ?_ | refine c_ift rfl ?_ | refine c_iff rfl ?_ | refine c_block ?_ | refine c_ret ?_ | refine c_exit ?_ | refine c_skip ?_) | (first | refine l_th ?_ | refine th_norm ?_ | refine ib_norm ?_ | refine l_nil ?_ | refine th_ret ?_ | refine ib_ret ?_ | refine ib_exit ?_ | refine th_exit ?_ | refine ib_pass rfl ?_))
      refine s_iaW (n := i) (s := 3) sl_hi ⟨ti, hti.1, hti.2.2.1⟩ rfl rfl hi' ?_
      refine s_faN Tryd.underlying68 rfl ty_ints.n rfl ?_
      refine s_stA (n := i * 3 + 1) (u := v4) ty_ints rfl rfl hys.1.one hAi6 (by have := flat3_len L G' ns; simp; omega) ?_
      intro w8 hA8 hg8
      have hset : Wd w8 68 3 (.slice (some ⟨ib, 0, none⟩) ns.length ic) ns.length ((flat3 L G' ns).set (i * 3 + 1) v4) := Wd.set (w := w8) (flat3_len _ _ _) (by have := flat3_len L G' ns; omega) hA8 he3.2.2.1 he3.2.2.2.1 he3.2.2.2.2
      rw [← he3.1, flat3_set L G' v4 ns i q hnd hqi] at hset
      have hown : v4.ownBlock = (L q).ownBlock ∨ ∀ b, v4.ownBlock = some b → w4.heap.size ≤ b := by
        rcases hcase with hc | hc
        · left; rw [hc, hlf]; exact own_case
        · exact .inr hc.1
      have hibW := hWW.lt ib hib
      have hv4 : ∀ b, v4.ownBlock = some b → b ≠ ib := fun b hb e => by
        rcases hown with he | hf
        · exact hibL b (he ▸ hb) e
        · have := hf b hb; omega
      have hK8 : KtS (fun b => (L q).ownBlock = some b ∨ vi.ownBlock = some b) W w8 := (hK6.mono (fun _ h => .inl h)).trans (KtS.of_grown hg8 (fun b e => .inr (by rw [← e]; exact hib)))
      have hKw : KtS (fun b => (∃ q ∈ ns, (L q).ownBlock = some b) ∨ vi.ownBlock = some b) w w8 := hK.trans (hK8.mono (fun b h => h.imp (fun h => ⟨q, hqm, h⟩) id))
      have hiblo : ∀ b, some ib = some b → b < lo := fun b e => (hvb b (by rw [hib]; exact e)).2
      have hk8lo : ∀ b, ((L q).ownBlock = some b ∨ vi.ownBlock = some b) → b < lo := fun b h => h.elim (fun h => (hbk q hqm b h).2.2) (fun h => (hvb b h).2)
      repeat (first | (refine isO ?_; first | refine s_move ?_ | refine s_assign ?_ | (refine isG ?_; first | refine g_yes rfl rfl ?_ | refine g_no rfl rfl rfl ?_ | refine g_un rfl rfl ?_) | (refine isBin ?_; first | refine s_inc rfl (by omega) ?_ | refine s_lssT rfl rfl (by omega) ?_ | refine s_lssF rfl rfl (by omega) ?_ | refine s_lss rfl rfl ?_ | refine s_eqlT rfl rfl (by omega) ?_ | refine s_eqlF rfl rfl (by omega) ?_ | refine s_eql rfl rfl ?_ | refine s_neqT rfl rfl (by omega) ?_ | refine s_neqF rfl rfl (by omega) ?_ | refine s_neq rfl rfl ?_ | refine s_leqT rfl rfl (by omega) ?_ | refine s_leqF rfl rfl (by omega) ?_ | refine s_leq rfl rfl ?_ | refine s_gtrT rfl rfl (by omega) ?_ | refine s_gtrF rfl rfl (by omega) ?_ | refine s_gtr rfl rfl ?_ | refine s_geqT rfl rfl (by omega) ?_ | refine s_geqF rfl rfl (by omega) ?_ | refine s_geq rfl rfl ?_ | refine s_add rfl rfl ⟨by omega, by omega⟩ ?_ | refine s_sub rfl rfl ⟨by omega, by omega⟩ ?_) | (refine isCall ?_; first | refine s_lenI sl_ints rfl (by assumption) ?_ | refine s_lenR sl_rows rfl (by assumption) ?_ | refine s_len sl_ints rfl ?_ | refine s_len sl_rows rfl ?_) | (refine isIA ?_; refine s_ixI sl_ints ty_int rfl rfl rfl (by assumption) (by omega) ?_; intro _) | (refine isPick ?_; first | refine s_pickt rfl rfl ?_ | refine s_pickf rfl rfl ?_) | (refine isLD ?_; first | refine s_ldA ty_int rfl (by assumption) rfl ?_ | refine s_ldA ty_ints rfl (by assumption) rfl ?_) | refine s_extract rfl rfl ?_ | refine s_not rfl ?_) | (refine isC ?_; first | refine c_sr ?_ | refine c_th ?_ | refine c_seq ?_ | refine c_region ?_ | refine c_ift rfl ?_ | refine c_iff rfl ?_ | refine c_block ?_ | refine c_ret ?_ | refine c_exit ?_ | refine c_skip ?_) | (first | refine l_th ?_ | refine th_norm ?_ | refine ib_norm ?_ | refine l_nil ?_ | refine th_ret ?_ | refine ib_ret ?_ | refine ib_exit ?_ | refine th_exit ?_ | refine ib_pass rfl ?_))
      refine loop_end (i + 1) (by (repeat (first | exact agree_refl _ _ | refine agree_upd rfl ?_ | refine agree_ext rfl ?_ | refine agree_mask rfl ?_))) ⟨rfl, trivial⟩ ⟨hi', hKw, fset1 G' q v4, hset, fun p hp => ?_, fun j p hp => ⟨?_, fun hj => ?_⟩⟩ (by omega)
      · unfold fset1
        split
        · exact hys.1.one
        · exact hG.2.1 p hp
      · by_cases e : p = q
        · subst e
          have h9 : ∃ xs, Wd W2 3 1 (L p) (ln p) xs ∧ ∀ u ∈ xs, MKi lo W2 p u := by
            rcases hcase with hc | hc
            · have h9 := hys.1
              rw [hc] at h9
              have h8 := h9.head
              rw [← hlf] at h8
              exact ⟨_, h8, fun u hu => hys.2 u (List.mem_of_mem_take hu)⟩
            · exact hc.2
          obtain ⟨xs, h1, h2⟩ := h9
          exact ⟨xs, h1.grown hg8 (fun b hb e => hibL b hb (Option.some.inj e).symm), fun u hu => MKi.grown (h2 u hu) hg8 hiblo⟩
        · have hpm := List.mem_of_getElem? hp
          obtain ⟨xs, h1, h2⟩ := (hI j p hp).1
          refine ⟨xs, h1.kt hK8 (fun b hb hb2 => ?_), fun u hu => MKi.kt (h2 u hu) hK8 hk8lo⟩
          rcases hb2 with hb2 | hb2
          · exact hd p hpm q hqm e b hb hb2
          · exact (hbk p hpm b hb).2.1 hb2
      · by_cases e : p = q
        · subst e
          have e9 : fset1 G' p v4 p = v4 := by unfold fset1; rw [if_pos rfl]
          rw [e9]
          refine ⟨⟨ys, hys.1.grown hg8 (fun b hb e => hv4 b hb (Option.some.inj e).symm), fun u hu => MKi.grown (hys.2 u hu) hg8 hiblo⟩, fun b hb => ?_⟩
          rcases hown with he | hf
          · exact .inl (he ▸ hb)
          · have := hf b hb; exact .inr (by omega)
        · have hpm := List.mem_of_getElem? hp
          have e9 : fset1 G' q v4 p = G' p := by unfold fset1; rw [if_neg e]
          have hji : j ≠ i := fun e2 => by subst e2; rw [hqi] at hp; exact e (Option.some.inj hp).symm
          rw [e9]
          obtain ⟨⟨zs, h1, h2⟩, h3⟩ := (hI j p hp).2 (by omega)
          refine ⟨⟨zs, h1.kt hK8 (fun b hb hb2 => ?_), fun u hu => MKi.kt (h2 u hu) hK8 hk8lo⟩, h3⟩
          rcases h3 b hb with h4 | h4
          · rcases hb2 with hb2 | hb2
            · exact hd p hpm q hqm e b h4 hb2
            · exact (hbk p hpm b h4).2.1 hb2
          · have := hk8lo b hb2; omega
  · have hie : i = ns.length := by omega
    subst hie
    repeat (first | (refine isO ?_; first | refine s_move ?_ | refine s_assign ?_ | (refine isG ?_; first | refine g_yes rfl rfl ?_ | refine g_no rfl rfl rfl ?_ | refine g_un rfl rfl ?_) | (refine isBin ?_; first | refine s_inc rfl (by omega) ?_ | refine s_lssT rfl rfl (by omega) ?_ | refine s_lssF rfl rfl (by omega) ?_ | refine s_lss rfl rfl ?_ | refine s_eqlT rfl rfl (by omega) ?_ | refine s_eqlF rfl rfl (by omega) ?_ | refine s_eql rfl rfl ?_ | refine s_neqT rfl rfl (by omega) ?_ | refine s_neqF rfl rfl (by omega) ?_ | refine s_neq rfl rfl ?_ | refine s_leqT rfl rfl (by omega) ?_ | refine s_leqF rfl rfl (by omega) ?_ | refine s_leq rfl rfl ?_ | refine s_gtrT rfl rfl (by omega) ?_ | refine s_gtrF rfl rfl (by omega) ?_ | refine s_gtr rfl rfl ?_ | refine s_geqT rfl rfl (by omega) ?_ | refine s_geqF rfl rfl (by omega) ?_ | refine s_geq rfl rfl ?_ | refine s_add rfl rfl ⟨by omega, by omega⟩ ?_ | refine s_sub rfl rfl ⟨by omega, by omega⟩ ?_) | (refine isCall ?_; first | refine s_lenI sl_ints rfl (by assumption) ?_ | refine s_lenR sl_rows rfl (by assumption) ?_ | refine s_len sl_ints rfl ?_ | refine s_len sl_rows rfl ?_) | (refine isIA ?_; refine s_ixI sl_ints ty_int rfl rfl rfl (by assumption) (by omega) ?_; intro _) | (refine isPick ?_; first | refine s_pickt rfl rfl ?_ | refine s_pickf rfl rfl ?_) | (refine isLD ?_; first | refine s_ldA ty_int rfl (by assumption) rfl ?_ | refine s_ldA ty_ints rfl (by assumption) rfl ?_) | refine s_extract rfl rfl ?_ | refine s_not rfl ?_) | (refine isC ?_; first | refine c_sr ?_ | refine c_th ?_ | refine c_seq ?_ | refine c_region ?_ | refine c_ift rfl ?_ | refine c_iff rfl ?_ | refine c_block ?_ | refine c_ret ?_ | refine c_exit ?_ | refine c_skip ?_) | (first | refine l_th ?_ | refine th_norm ?_ | refine ib_norm ?_ | refine l_nil ?_ | refine th_ret ?_ | refine ib_ret ?_ | refine ib_exit ?_ | refine th_exit ?_ | refine ib_pass rfl ?_))
    refine end0 rfl ⟨rfl, hK, G', hWW, fun q hqm => ?_⟩
    obtain ⟨j, hj⟩ := List.mem_iff_getElem?.1 hqm
    have h1 := hI j q hj
    have h2 := h1.2 (List.getElem?_eq_some_iff.1 hj).1
    exact ⟨h1.1, h2.1, h2.2⟩
theorem ok_growIntList : CallOK Tryd.prog 47 := callOK Tryd.func47 (by kernel_rfl) rfl
set_option maxHeartbeats 2000000 in
theorem growIntList_ct (bk M lo : Nat) (ns : List Nat) (L G : Nat → Value) (ln : Nat → Nat) (vi vl : Value) (w : World) (hA : At w bk 49 (bkc M vl vi)) (hW : Wd w 66 3 vi ns.length (flat3 L G ns)) (hN : ns.length ≤ 100000) (hq : ∀ q ∈ ns, q ≤ 200000)
    (hL : ∀ q ∈ ns, ∃ xs, Wd w 25 1 (L q) (ln q) xs ∧ ∀ u ∈ xs, MKl lo w q u) (hln : ∀ q ∈ ns, ln q ≤ 100000) (hGone : ∀ q ∈ ns, (G q).oneCell' = true) (hnd : ns.Nodup) (hd : ∀ p ∈ ns, ∀ q ∈ ns, p ≠ q → ∀ b, (L p).ownBlock = some b → (L q).ownBlock ≠ some b) (hbk : ∀ q ∈ ns, ∀ b, (L q).ownBlock = some b → b ≠ bk ∧ vi.ownBlock ≠ some b ∧ b < lo) (hvb : ∀ b, vi.ownBlock = some b → b ≠ bk ∧ b < lo) (hlo : lo ≤ w.heap.size) :
    Ct Tryd.prog 47 #[.pointer (some ⟨bk, 0, none⟩)] w fun u w' => u = .tuple #[] ∧ KtS (fun b => (∃ q ∈ ns, (L q).ownBlock = some b) ∨ vi.ownBlock = some b) w w' ∧ ∃ G', Wd w' 66 3 vi ns.length (flat3 L G' ns) ∧ ∀ q ∈ ns, (∃ xs, Wd w' 25 1 (L q) (ln q) xs ∧ ∀ u ∈ xs, MKl lo w' q u) ∧ (∃ ys, Wd w' 25 1 (G' q) (ln q + 40) ys ∧ ∀ u ∈ ys, MKl lo w' q u) ∧ ∀ b, (G' q).ownBlock = some b → (L q).ownBlock = some b ∨ w.heap.size ≤ b := by
  obtain ⟨va, vc, hvf⟩ := hW.slen
  refine Exists.elim in_heldIntList.ex fun ti hti => ?_
  have hLw : ∀ q ∈ ns, ∀ b, (L q).ownBlock = some b → b < w.heap.size := fun q h1 b h2 => by obtain ⟨xs, h3, _⟩ := hL q h1; exact h3.lt b h2
  have hLone : ∀ q ∈ ns, (L q).oneCell' = true := fun q h1 => by obtain ⟨xs, h3, _⟩ := hL q h1; exact h3.one
  have hSlo : ∀ b, ((∃ q ∈ ns, (L q).ownBlock = some b) ∨ vi.ownBlock = some b) → b < lo := fun b h => by
    rcases h with ⟨q, h1, h2⟩ | h
    · exact (hbk q h1 b h2).2.2
    · exact (hvb b h).2
  refine enter (N := 42) (vs := [.pointer (some ⟨bk, 0, none⟩)]) Tryd.func47 rfl rfl rfl ?_
  repeat (first | (refine isO ?_; first | refine s_move ?_ | refine s_assign ?_ | (refine isG ?_; first | refine g_yes rfl rfl ?_ | refine g_no rfl rfl rfl ?_ | refine g_un rfl rfl ?_) | (refine isBin ?_; first | refine s_inc rfl (by omega) ?_ | refine s_lssT rfl rfl (by omega) ?_ | refine s_lssF rfl rfl (by omega) ?_ | refine s_lss rfl rfl ?_ | refine s_eqlT rfl rfl (by omega) ?_ | refine s_eqlF rfl rfl (by omega) ?_ | refine s_eql rfl rfl ?_ | refine s_neqT rfl rfl (by omega) ?_ | refine s_neqF rfl rfl (by omega) ?_ | refine s_neq rfl rfl ?_ | refine s_leqT rfl rfl (by omega) ?_ | refine s_leqF rfl rfl (by omega) ?_ | refine s_leq rfl rfl ?_ | refine s_gtrT rfl rfl (by omega) ?_ | refine s_gtrF rfl rfl (by omega) ?_ | refine s_gtr rfl rfl ?_ | refine s_geqT rfl rfl (by omega) ?_ | refine s_geqF rfl rfl (by omega) ?_ | refine s_geq rfl rfl ?_ | refine s_add rfl rfl ⟨by omega, by omega⟩ ?_ | refine s_sub rfl rfl ⟨by omega, by omega⟩ ?_) | (refine isCall ?_; first | refine s_lenI sl_ints rfl (by assumption) ?_ | refine s_lenR sl_rows rfl (by assumption) ?_ | refine s_len sl_ints rfl ?_ | refine s_len sl_rows rfl ?_) | (refine isIA ?_; refine s_ixI sl_ints ty_int rfl rfl rfl (by assumption) (by omega) ?_; intro _) | (refine isPick ?_; first | refine s_pickt rfl rfl ?_ | refine s_pickf rfl rfl ?_) | (refine isLD ?_; first | refine s_ldA ty_int rfl (by assumption) rfl ?_ | refine s_ldA ty_ints rfl (by assumption) rfl ?_) | refine s_extract rfl rfl ?_ | refine s_not rfl ?_) | (refine isC ?_; first | refine c_sr ?_ | refine c_th ?_ | refine c_seq ?_ | refine c_region ?_ | refine c_ift rfl ?_ | refine c_iff rfl ?_ | refine c_block ?_ | refine c_ret ?_ | refine c_exit ?_ | refine c_skip ?_) | (first | refine l_th ?_ | refine th_norm ?_ | refine ib_norm ?_ | refine l_nil ?_ | refine th_ret ?_ | refine ib_ret ?_ | refine ib_exit ?_ | refine th_exit ?_ | refine ib_pass rfl ?_))
  refine c_loop (γ := Nat) 4398046511100 (fun i => [(2, .int .i64 (i : Int))]) (fun i W => i ≤ ns.length ∧ KtS (fun b => (∃ q ∈ ns, (L q).ownBlock = some b) ∨ vi.ownBlock = some b) w W ∧ ∃ G', Wd W 66 3 vi ns.length (flat3 L G' ns) ∧ (∀ q ∈ ns, (G' q).oneCell' = true) ∧ ∀ j q, ns[j]? = some q → (∃ xs, Wd W 25 1 (L q) (ln q) xs ∧ ∀ u ∈ xs, MKl lo W q u) ∧ (j < i → (∃ ys, Wd W 25 1 (G' q) (ln q + 40) ys ∧ ∀ u ∈ ys, MKl lo W q u) ∧ ∀ b, (G' q).ownBlock = some b → (L q).ownBlock = some b ∨ w.heap.size ≤ b)) (fun i => ns.length - i) 0 ⟨rfl, trivial⟩ ⟨Nat.zero_le _, KtS.refl _ _, G, hW, hGone, fun j q h => ⟨hL q (List.mem_of_getElem? h), fun h => by omega⟩⟩ ?_
  rintro i ρ W ⟨hi, hK, hGe⟩
  refine Exists.elim hGe fun G' hG => ?_
  have hWW := hG.1
  have hI := hG.2.2
  have hAW := hA.kt hK (fun h => by
    rcases h with ⟨q, h1, h2⟩ | h
    · exact (hbk q h1 bk h2).1 rfl
    · exact (hvb bk h).1 rfl)
  repeat (first | (refine isO ?_; first | refine s_move ?_ | refine s_assign ?_ | (refine isG ?_; first | refine g_yes rfl rfl ?_ | refine g_no rfl rfl rfl ?_ | refine g_un rfl rfl ?_) | (refine isBin ?_; first | refine s_inc rfl (by omega) ?_ | refine s_lssT rfl rfl (by omega) ?_ | refine s_lssF rfl rfl (by omega) ?_ | refine s_lss rfl rfl ?_ | refine s_eqlT rfl rfl (by omega) ?_ | refine s_eqlF rfl rfl (by omega) ?_ | refine s_eql rfl rfl ?_ | refine s_neqT rfl rfl (by omega) ?_ | refine s_neqF rfl rfl (by omega) ?_ | refine s_neq rfl rfl ?_ | refine s_leqT rfl rfl (by omega) ?_ | refine s_leqF rfl rfl (by omega) ?_ | refine s_leq rfl rfl ?_ | refine s_gtrT rfl rfl (by omega) ?_ | refine s_gtrF rfl rfl (by omega) ?_ | refine s_gtr rfl rfl ?_ | refine s_geqT rfl rfl (by omega) ?_ | refine s_geqF rfl rfl (by omega) ?_ | refine s_geq rfl rfl ?_ | refine s_add rfl rfl ⟨by omega, by omega⟩ ?_ | refine s_sub rfl rfl ⟨by omega, by omega⟩ ?_) | (refine isCall ?_; first | refine s_lenI sl_ints rfl (by assumption) ?_ | refine s_lenR sl_rows rfl (by assumption) ?_ | refine s_len sl_ints rfl ?_ | refine s_len sl_rows rfl ?_) | (refine isIA ?_; refine s_ixI sl_ints ty_int rfl rfl rfl (by assumption) (by omega) ?_; intro _) | (refine isPick ?_; first | refine s_pickt rfl rfl ?_ | refine s_pickf rfl rfl ?_) | (refine isLD ?_; first | refine s_ldA ty_int rfl (by assumption) rfl ?_ | refine s_ldA ty_ints rfl (by assumption) rfl ?_) | refine s_extract rfl rfl ?_ | refine s_not rfl ?_) | (refine isC ?_; first | refine c_sr ?_ | refine c_th ?_ | refine c_seq ?_ | refine c_region ?_ | refine c_ift rfl ?_ | refine c_iff rfl ?_ | refine c_block ?_ | refine c_ret ?_ | refine c_exit ?_ | refine c_skip ?_) | (first | refine l_th ?_ | refine th_norm ?_ | refine ib_norm ?_ | refine l_nil ?_ | refine th_ret ?_ | refine ib_ret ?_ | refine ib_exit ?_ | refine th_exit ?_ | refine ib_pass rfl ?_))
  refine s_nil rfl ?_
  refine s_faN Tryd.underlying49 rfl ty_hl.n rfl ?_
  refine s_ldA ty_hl rfl hAW rfl ?_
  refine s_len (n := ns.length) (a := va) (c := vc) sl_hl hvf ?_
  repeat (first | (refine isO ?_; first | refine s_move ?_ | refine s_assign ?_ | (refine isG ?_; first | refine g_yes rfl rfl ?_ | refine g_no rfl rfl rfl ?_ | refine g_un rfl rfl ?_) | (refine isBin ?_; first | refine s_inc rfl (by omega) ?_ | refine s_lssT rfl rfl (by omega) ?_ | refine s_lssF rfl rfl (by omega) ?_ | refine s_lss rfl rfl ?_ | refine s_eqlT rfl rfl (by omega) ?_ | refine s_eqlF rfl rfl (by omega) ?_ | refine s_eql rfl rfl ?_ | refine s_neqT rfl rfl (by omega) ?_ | refine s_neqF rfl rfl (by omega) ?_ | refine s_neq rfl rfl ?_ | refine s_leqT rfl rfl (by omega) ?_ | refine s_leqF rfl rfl (by omega) ?_ | refine s_leq rfl rfl ?_ | refine s_gtrT rfl rfl (by omega) ?_ | refine s_gtrF rfl rfl (by omega) ?_ | refine s_gtr rfl rfl ?_ | refine s_geqT rfl rfl (by omega) ?_ | refine s_geqF rfl rfl (by omega) ?_ | refine s_geq rfl rfl ?_ | refine s_add rfl rfl ⟨by omega, by omega⟩ ?_ | refine s_sub rfl rfl ⟨by omega, by omega⟩ ?_) | (refine isCall ?_; first | refine s_lenI sl_ints rfl (by assumption) ?_ | refine s_lenR sl_rows rfl (by assumption) ?_ | refine s_len sl_ints rfl ?_ | refine s_len sl_rows rfl ?_) | (refine isIA ?_; refine s_ixI sl_ints ty_int rfl rfl rfl (by assumption) (by omega) ?_; intro _) | (refine isPick ?_; first | refine s_pickt rfl rfl ?_ | refine s_pickf rfl rfl ?_) | (refine isLD ?_; first | refine s_ldA ty_int rfl (by assumption) rfl ?_ | refine s_ldA ty_ints rfl (by assumption) rfl ?_) | refine s_extract rfl rfl ?_ | refine s_not rfl ?_) | (refine isC ?_; first | refine c_sr ?_ | refine c_th ?_ | refine c_seq ?_ | refine c_region ?_ | refine c_ift rfl ?_ | refine c_iff rfl ?_ | refine c_block ?_ | refine c_ret ?_ | refine c_exit ?_ | refine c_skip ?_) | (first | refine l_th ?_ | refine th_norm ?_ | refine ib_norm ?_ | refine l_nil ?_ | refine th_ret ?_ | refine ib_ret ?_ | refine ib_exit ?_ | refine th_exit ?_ | refine ib_pass rfl ?_))
  refine c_ifd rfl (fun h => ?_) (fun h => ?_)
  · have hi' : i < ns.length := by omega
    have hqe : ∃ q, ns[i]? = some q := ⟨_, List.getElem?_eq_getElem hi'⟩
    refine Exists.elim hqe fun q hqi => ?_
    have hqm := List.mem_of_getElem? hqi
    refine Exists.elim (hWW.pos (by omega)) fun ib he1 => Exists.elim he1 fun ic he2 => Exists.elim he2 fun isp he3 => ?_
    have hcell : ∀ j v, [L q, G' q, Value.int .i64 (q : Int)][j]? = some v → (flat3 L G' ns ++ isp)[i * 3 + j]? = some v := fun j v hj => by
      have h1 := flat3_get L G' ns i q hqi j v hj
      rw [List.getElem?_append_left (List.getElem?_eq_some_iff.1 h1).1]; exact h1
    have hib : vi.ownBlock = some ib := by rw [he3.1]; rfl
    repeat (first | (refine isO ?_; first | refine s_move ?_ | refine s_assign ?_ | (refine isG ?_; first | refine g_yes rfl rfl ?_ | refine g_no rfl rfl rfl ?_ | refine g_un rfl rfl ?_) | (refine isBin ?_; first | refine s_inc rfl (by omega) ?_ | refine s_lssT rfl rfl (by omega) ?_ | refine s_lssF rfl rfl (by omega) ?_ | refine s_lss rfl rfl ?_ | refine s_eqlT rfl rfl (by omega) ?_ | refine s_eqlF rfl rfl (by omega) ?_ | refine s_eql rfl rfl ?_ | refine s_neqT rfl rfl (by omega) ?_ | refine s_neqF rfl rfl (by omega) ?_ | refine s_neq rfl rfl ?_ | refine s_leqT rfl rfl (by omega) ?_ | refine s_leqF rfl rfl (by omega) ?_ | refine s_leq rfl rfl ?_ | refine s_gtrT rfl rfl (by omega) ?_ | refine s_gtrF rfl rfl (by omega) ?_ | refine s_gtr rfl rfl ?_ | refine s_geqT rfl rfl (by omega) ?_ | refine s_geqF rfl rfl (by omega) ?_ | refine s_geq rfl rfl ?_ | refine s_add rfl rfl ⟨by omega, by omega⟩ ?_ | refine s_sub rfl rfl ⟨by omega, by omega⟩ ?_) | (refine isCall ?_; first | refine s_lenI sl_ints rfl (by assumption) ?_ | refine s_lenR sl_rows rfl (by assumption) ?_ | refine s_len sl_ints rfl ?_ | refine s_len sl_rows rfl ?_) | (refine isIA ?_; refine s_ixI sl_ints ty_int rfl rfl rfl (by assumption) (by omega) ?_; intro _) | (refine isPick ?_; first | refine s_pickt rfl rfl ?_ | refine s_pickf rfl rfl ?_) | (refine isLD ?_; first | refine s_ldA ty_int rfl (by assumption) rfl ?_ | refine s_ldA ty_ints rfl (by assumption) rfl ?_) | refine s_extract rfl rfl ?_ | refine s_not rfl ?_) | (refine isC ?_; first | refine c_sr ?_ | refine c_th ?_ | refine c_seq ?_ | refine c_region ?_ | refine c_ift rfl ?_ | refine c_iff rfl ?_ | refine c_block ?_ | refine c_ret ?_ | refine c_exit ?_ | refine c_skip ?_) | (first | refine l_th ?_ | refine th_norm ?_ | refine ib_norm ?_ | refine l_nil ?_ | refine th_ret ?_ | refine ib_ret ?_ | refine ib_exit ?_ | refine th_exit ?_ | refine ib_pass rfl ?_))
    refine s_nil rfl ?_
    refine s_faN Tryd.underlying49 rfl ty_hl.n rfl ?_
    refine s_ldA ty_hl rfl hAW rfl ?_
    refine s_re (v' := .slice (some ⟨ib, 0, none⟩) ns.length ic) he3.1 ?_
    repeat (first | (refine isO ?_; first | refine s_move ?_ | refine s_assign ?_ | (refine isG ?_; first | refine g_yes rfl rfl ?_ | refine g_no rfl rfl rfl ?_ | refine g_un rfl rfl ?_) | (refine isBin ?_; first | refine s_inc rfl (by omega) ?_ | refine s_lssT rfl rfl (by omega) ?_ | refine s_lssF rfl rfl (by omega) ?_ | refine s_lss rfl rfl ?_ | refine s_eqlT rfl rfl (by omega) ?_ | refine s_eqlF rfl rfl (by omega) ?_ | refine s_eql rfl rfl ?_ | refine s_neqT rfl rfl (by omega) ?_ | refine s_neqF rfl rfl (by omega) ?_ | refine s_neq rfl rfl ?_ | refine s_leqT rfl rfl (by omega) ?_ | refine s_leqF rfl rfl (by omega) ?_ | refine s_leq rfl rfl ?_ | refine s_gtrT rfl rfl (by omega) ?_ | refine s_gtrF rfl rfl (by omega) ?_ | refine s_gtr rfl rfl ?_ | refine s_geqT rfl rfl (by omega) ?_ | refine s_geqF rfl rfl (by omega) ?_ | refine s_geq rfl rfl ?_ | refine s_add rfl rfl ⟨by omega, by omega⟩ ?_ | refine s_sub rfl rfl ⟨by omega, by omega⟩ ?_) | (refine isCall ?_; first | refine s_lenI sl_ints rfl (by assumption) ?_ | refine s_lenR sl_rows rfl (by assumption) ?_ | refine s_len sl_ints rfl ?_ | refine s_len sl_rows rfl ?_) | (refine isIA ?_; refine s_ixI sl_ints ty_int rfl rfl rfl (by assumption) (by omega) ?_; intro _) | (refine isPick ?_; first | refine s_pickt rfl rfl ?_ | refine s_pickf rfl rfl ?_) | (refine isLD ?_; first | refine s_ldA ty_int rfl (by assumption) rfl ?_ | refine s_ldA ty_ints rfl (by assumption) rfl ?_) | refine s_extract rfl rfl ?_ | refine s_not rfl ?_) | (refine isC ?_; first | refine c_sr ?_ | refine c_th ?_ | refine c_seq ?_ | refine c_region ?_ | refine c_ift rfl ?_ | refine c_iff rfl ?_ | refine c_block ?_ | refine c_ret ?_ | refine c_exit ?_ | refine c_skip ?_) | (first | refine l_th ?_ | refine th_norm ?_ | refine ib_norm ?_ | refine l_nil ?_ | refine th_ret ?_ | refine ib_ret ?_ | refine ib_exit ?_ | refine th_exit ?_ | refine ib_pass rfl ?_))
    refine s_iaW (n := i) (s := 3) sl_hl ⟨ti, hti.1, hti.2.2.1⟩ rfl rfl hi' ?_
    refine s_ldM (cs := [L q, G' q, .int .i64 (q : Int)]) Tryd.underlying66 rfl (by kernel_rfl) rfl he3.2.1 hcell ?_
    refine s_alloc (cs := [.slice none 0 0, .slice none 0 0, .int .i64 0]) hti.1 hti.2.1 rfl ?_
    intro b3 w3 hb3 hA3 hx3 hs3
    refine s_stV (cs := [L q, G' q, .int .i64 (q : Int)]) (by kernel_rfl) rfl rfl hA3 rfl (by rw [List.all_cons, List.all_cons, hLone q hqm, hG.2.1 q hqm]; rfl) ?_
    intro w4 hA4 hg4 hz4
    have z3 := hx3.size
    have hK4 : KtS (fun _ => False) W w4 := (KtS.of_ex hx3).later (KtS.of_grown (S := fun b => b3 = b) hg4 (fun k e => Option.some.inj e)) (fun k e => .inr (by omega))
    have hxW4 : Ex W w4 := ⟨hK4.os, hK4.tape, hK4.output, hK4.size, fun k hk => hK4.block k hk (fun h => h)⟩
    have hLq := (hI i q hqi).1
    refine Exists.elim hLq fun cs hcs => ?_
    have hLq4 := hcs.1.ex hxW4
    have hqb := hq q hqm
    have hlq := hln q hqm
    have hb3L : ∀ b, (L q).ownBlock = some b → b ≠ b3 := fun b hb e => by have := hcs.1.lt b hb; omega
    refine Exists.elim hcs.1.slen fun la hl1 => Exists.elim hl1 fun lc hlf => ?_
    have zW := hK.size
    repeat (first | (refine isO ?_; first | refine s_move ?_ | refine s_assign ?_ | (refine isG ?_; first | refine g_yes rfl rfl ?_ | refine g_no rfl rfl rfl ?_ | refine g_un rfl rfl ?_) | (refine isBin ?_; first | refine s_inc rfl (by omega) ?_ | refine s_lssT rfl rfl (by omega) ?_ | refine s_lssF rfl rfl (by omega) ?_ | refine s_lss rfl rfl ?_ | refine s_eqlT rfl rfl (by omega) ?_ | refine s_eqlF rfl rfl (by omega) ?_ | refine s_eql rfl rfl ?_ | refine s_neqT rfl rfl (by omega) ?_ | refine s_neqF rfl rfl (by omega) ?_ | refine s_neq rfl rfl ?_ | refine s_leqT rfl rfl (by omega) ?_ | refine s_leqF rfl rfl (by omega) ?_ | refine s_leq rfl rfl ?_ | refine s_gtrT rfl rfl (by omega) ?_ | refine s_gtrF rfl rfl (by omega) ?_ | refine s_gtr rfl rfl ?_ | refine s_geqT rfl rfl (by omega) ?_ | refine s_geqF rfl rfl (by omega) ?_ | refine s_geq rfl rfl ?_ | refine s_add rfl rfl ⟨by omega, by omega⟩ ?_ | refine s_sub rfl rfl ⟨by omega, by omega⟩ ?_) | (refine isCall ?_; first | refine s_lenI sl_ints rfl (by assumption) ?_ | refine s_lenR sl_rows rfl (by assumption) ?_ | refine s_len sl_ints rfl ?_ | refine s_len sl_rows rfl ?_) | (refine isIA ?_; refine s_ixI sl_ints ty_int rfl rfl rfl (by assumption) (by omega) ?_; intro _) | (refine isPick ?_; first | refine s_pickt rfl rfl ?_ | refine s_pickf rfl rfl ?_) | (refine isLD ?_; first | refine s_ldA ty_int rfl (by assumption) rfl ?_ | refine s_ldA ty_ints rfl (by assumption) rfl ?_) | refine s_extract rfl rfl ?_ | refine s_not rfl ?_) | (refine isC ?_; first | refine c_sr ?_ | refine c_th ?_ | refine c_seq ?_ | refine c_region ?_ | refine c_ift rfl ?_ | refine c_iff rfl ?_ | refine c_block ?_ | refine c_ret ?_ | refine c_exit ?_ | refine c_skip ?_) | (first | refine l_th ?_ | refine th_norm ?_ | refine ib_norm ?_ | refine l_nil ?_ | refine th_ret ?_ | refine ib_ret ?_ | refine ib_exit ?_ | refine th_exit ?_ | refine ib_pass rfl ?_))
    refine s_faN Tryd.underlying66 rfl ty_rows.n rfl ?_
    refine s_ldA ty_rows rfl hA4 rfl ?_
    repeat (first | (refine isO ?_; first | refine s_move ?_ | refine s_assign ?_ | (refine isG ?_; first | refine g_yes rfl rfl ?_ | refine g_no rfl rfl rfl ?_ | refine g_un rfl rfl ?_) | (refine isBin ?_; first | refine s_inc rfl (by omega) ?_ | refine s_lssT rfl rfl (by omega) ?_ | refine s_lssF rfl rfl (by omega) ?_ | refine s_lss rfl rfl ?_ | refine s_eqlT rfl rfl (by omega) ?_ | refine s_eqlF rfl rfl (by omega) ?_ | refine s_eql rfl rfl ?_ | refine s_neqT rfl rfl (by omega) ?_ | refine s_neqF rfl rfl (by omega) ?_ | refine s_neq rfl rfl ?_ | refine s_leqT rfl rfl (by omega) ?_ | refine s_leqF rfl rfl (by omega) ?_ | refine s_leq rfl rfl ?_ | refine s_gtrT rfl rfl (by omega) ?_ | refine s_gtrF rfl rfl (by omega) ?_ | refine s_gtr rfl rfl ?_ | refine s_geqT rfl rfl (by omega) ?_ | refine s_geqF rfl rfl (by omega) ?_ | refine s_geq rfl rfl ?_ | refine s_add rfl rfl ⟨by omega, by omega⟩ ?_ | refine s_sub rfl rfl ⟨by omega, by omega⟩ ?_) | (refine isCall ?_; first | refine s_lenI sl_ints rfl (by assumption) ?_ | refine s_lenR sl_rows rfl (by assumption) ?_ | refine s_len sl_ints rfl ?_ | refine s_len sl_rows rfl ?_) | (refine isIA ?_; refine s_ixI sl_ints ty_int rfl rfl rfl (by assumption) (by omega) ?_; intro _) | (refine isPick ?_; first | refine s_pickt rfl rfl ?_ | refine s_pickf rfl rfl ?_) | (refine isLD ?_; first | refine s_ldA ty_int rfl (by assumption) rfl ?_ | refine s_ldA ty_ints rfl (by assumption) rfl ?_) | refine s_extract rfl rfl ?_ | refine s_not rfl ?_) | (refine isC ?_; first | refine c_sr ?_ | refine c_th ?_ | refine c_seq ?_ | refine c_region ?_ | refine c_ift rfl ?_ | refine c_iff rfl ?_ | refine c_block ?_ | refine c_ret ?_ | refine c_exit ?_ | refine c_skip ?_) | (first | refine l_th ?_ | refine th_norm ?_ | refine ib_norm ?_ | refine l_nil ?_ | refine th_ret ?_ | refine ib_ret ?_ | refine ib_exit ?_ | refine th_exit ?_ | refine ib_pass rfl ?_))
    refine c_loop2 17163092016 (fun (k : Nat) (v4 : Value) => [(5, .int .i64 (k : Int)), (4, v4)]) (fun k v4 W2 => k ≤ 40 ∧ KtS (fun b => (L q).ownBlock = some b) w4 W2 ∧ (∃ ys, Wd W2 25 1 v4 (ln q + k) ys ∧ ∀ u ∈ ys, MKl lo W2 q u) ∧ ((v4 = .slice la (ln q + k) lc) ∨ ((∀ b, v4.ownBlock = some b → w4.heap.size ≤ b) ∧ ∃ xs, Wd W2 25 1 (L q) (ln q) xs ∧ ∀ u ∈ xs, MKl lo W2 q u))) (fun k _ => 40 - k) 0 (L q) ⟨rfl, rfl, trivial⟩ ⟨Nat.zero_le _, KtS.refl _ _, ⟨cs, hLq4, fun u hu => MKl.ex (hcs.2 u hu) hxW4⟩, .inl hlf⟩ ?_
    rintro k v4 ρ2 W2 ⟨hk, hK2, hye, hcase⟩
    refine Exists.elim hye fun ys hys => ?_
    have hA5 := hA4.kt hK2 (fun e => hb3L b3 e rfl)
    have z2 := hK2.size
    have z4 := hxW4.size
    repeat (first | (refine isO ?_; first | refine s_move ?_ | refine s_assign ?_ | (refine isG ?_; first | refine g_yes rfl rfl ?_ | refine g_no rfl rfl rfl ?_ | refine g_un rfl rfl ?_) | (refine isBin ?_; first | refine s_inc rfl (by omega) ?_ | refine s_lssT rfl rfl (by omega) ?_ | refine s_lssF rfl rfl (by omega) ?_ | refine s_lss rfl rfl ?_ | refine s_eqlT rfl rfl (by omega) ?_ | refine s_eqlF rfl rfl (by omega) ?_ | refine s_eql rfl rfl ?_ | refine s_neqT rfl rfl (by omega) ?_ | refine s_neqF rfl rfl (by omega) ?_ | refine s_neq rfl rfl ?_ | refine s_leqT rfl rfl (by omega) ?_ | refine s_leqF rfl rfl (by omega) ?_ | refine s_leq rfl rfl ?_ | refine s_gtrT rfl rfl (by omega) ?_ | refine s_gtrF rfl rfl (by omega) ?_ | refine s_gtr rfl rfl ?_ | refine s_geqT rfl rfl (by omega) ?_ | refine s_geqF rfl rfl (by omega) ?_ | refine s_geq rfl rfl ?_ | refine s_add rfl rfl ⟨by omega, by omega⟩ ?_ | refine s_sub rfl rfl ⟨by omega, by omega⟩ ?_) | (refine isCall ?_; first | refine s_lenI sl_ints rfl (by assumption) ?_ | refine s_lenR sl_rows rfl (by assumption) ?_ | refine s_len sl_ints rfl ?_ | refine s_len sl_rows rfl ?_) | (refine isIA ?_; refine s_ixI sl_ints ty_int rfl rfl rfl (by assumption) (by omega) ?_; intro _) | (refine isPick ?_; first | refine s_pickt rfl rfl ?_ | refine s_pickf rfl rfl ?_) | (refine isLD ?_; first | refine s_ldA ty_int rfl (by assumption) rfl ?_ | refine s_ldA ty_ints rfl (by assumption) rfl ?_) | refine s_extract rfl rfl ?_ | refine s_not rfl ?_) | (refine isC ?_; first | refine c_sr ?_ | refine c_th ?_ | refine c_seq ?_ | refine c_region ?_ | refine c_ift rfl ?_ | refine c_iff rfl ?_ | refine c_block ?_ | refine c_ret ?_ | refine c_exit ?_ | refine c_skip ?_) | (first | refine l_th ?_ | refine th_norm ?_ | refine ib_norm ?_ | refine l_nil ?_ | refine th_ret ?_ | refine ib_ret ?_ | refine ib_exit ?_ | refine th_exit ?_ | refine ib_pass rfl ?_))
    refine c_ifd rfl (fun h2 => ?_) (fun h2 => ?_)
    · have hk' : k < 40 := by omega
      repeat (first | (refine isO ?_; first | refine s_move ?_ | refine s_assign ?_ | (refine isG ?_; first | refine g_yes rfl rfl ?_ | refine g_no rfl rfl rfl ?_ | refine g_un rfl rfl ?_) | (refine isBin ?_; first | refine s_inc rfl (by omega) ?_ | refine s_lssT rfl rfl (by omega) ?_ | refine s_lssF rfl rfl (by omega) ?_ | refine s_lss rfl rfl ?_ | refine s_eqlT rfl rfl (by omega) ?_ | refine s_eqlF rfl rfl (by omega) ?_ | refine s_eql rfl rfl ?_ | refine s_neqT rfl rfl (by omega) ?_ | refine s_neqF rfl rfl (by omega) ?_ | refine s_neq rfl rfl ?_ | refine s_leqT rfl rfl (by omega) ?_ | refine s_leqF rfl rfl (by omega) ?_ | refine s_leq rfl rfl ?_ | refine s_gtrT rfl rfl (by omega) ?_ | refine s_gtrF rfl rfl (by omega) ?_ | refine s_gtr rfl rfl ?_ | refine s_geqT rfl rfl (by omega) ?_ | refine s_geqF rfl rfl (by omega) ?_ | refine s_geq rfl rfl ?_ | refine s_add rfl rfl ⟨by omega, by omega⟩ ?_ | refine s_sub rfl rfl ⟨by omega, by omega⟩ ?_) | (refine isCall ?_; first | refine s_lenI sl_ints rfl (by assumption) ?_ | refine s_lenR sl_rows rfl (by assumption) ?_ | refine s_len sl_ints rfl ?_ | refine s_len sl_rows rfl ?_) | (refine isIA ?_; refine s_ixI sl_ints ty_int rfl rfl rfl (by assumption) (by omega) ?_; intro _) | (refine isPick ?_; first | refine s_pickt rfl rfl ?_ | refine s_pickf rfl rfl ?_) | (refine isLD ?_; first | refine s_ldA ty_int rfl (by assumption) rfl ?_ | refine s_ldA ty_ints rfl (by assumption) rfl ?_) | refine s_extract rfl rfl ?_ | refine s_not rfl ?_) | (refine isC ?_; first | refine c_sr ?_ | refine c_th ?_ | refine c_seq ?_ | refine c_region ?_ | refine c_ift rfl ?_ | refine c_iff rfl ?_ | refine c_block ?_ | refine c_ret ?_ | refine c_exit ?_ | refine c_skip ?_) | (first | refine l_th ?_ | refine th_norm ?_ | refine ib_norm ?_ | refine l_nil ?_ | refine th_ret ?_ | refine ib_ret ?_ | refine ib_exit ?_ | refine th_exit ?_ | refine ib_pass rfl ?_))
      refine s_faN Tryd.underlying66 rfl ty_int.n rfl ?_
      refine s_ldA ty_int rfl hA5 rfl ?_
      refine s_call ok_markIntList rfl (markIntList_ct lo q W2 hqb (by omega)) ?_
      rintro x w5 ⟨hmk, hone, hx5⟩
      refine s_bs1 (u := x) sl_rows in_ints rfl hone ?_
      intro b6 w6 hb6 hA6 hx6 hs6
      have hx26 := hx5.trans hx6
      refine s_appW (n := ln q + k) (m := 1) (news := [x]) sl_rows in_wints (by omega) (hys.1.ex hx26) ⟨b6, 1, rfl, [], by simpa using hA6⟩ rfl (by omega) (by intro u hu; simp at hu; subst hu; exact hone) (by omega) (by omega) rfl rfl ?_
      intro v5 w7 hW7 hg7 hf7
      have hys7 : ∀ u ∈ ys ++ [x], MKl lo w7 q u := fun u hu => by
        rcases List.mem_append.1 hu with hu | hu
        · exact MKl.app ((hys.2 u hu).ex hx26) (hys.1.ex hx26) hg7
        · simp at hu; subst hu; exact MKl.app (hmk.ex hx6) (hys.1.ex hx26) hg7
      have hown : v4.ownBlock = (L q).ownBlock ∨ ∀ b, v4.ownBlock = some b → w4.heap.size ≤ b := by
        rcases hcase with hc | hc
        · left; rw [hc, hlf]; exact own_case
        · exact .inr hc.1
      have hK7 : KtS (fun b => (L q).ownBlock = some b) w4 w7 := (hK2.trans (KtS.of_ex hx26)).later (KtS.of_grown (S := fun b => v4.ownBlock = some b) hg7 (fun b e => e)) (fun b hb => by
        rcases hown with he | hf
        · exact .inl (he ▸ hb)
        · exact .inr (hf b hb))
      have z26 := hx26.size
      have hnext : (v5 = .slice la (ln q + (k + 1)) lc) ∨ ((∀ b, v5.ownBlock = some b → w4.heap.size ≤ b) ∧ ∃ xs, Wd w7 25 1 (L q) (ln q) xs ∧ ∀ u ∈ xs, MKl lo w7 q u) := by
        rcases hcase with hc | hc
        · rcases hf7 with ⟨a, c, h5, h6⟩ | ⟨h5, h6⟩
          · left
            rw [hc] at h5; cases h5
            rw [h6]; rfl
          · right
            refine ⟨fun b hb => by have := h5 b hb; omega, ys.take (ln q), ?_, fun u hu => ?_⟩
            · have h9 := hys.1
              rw [hc] at h9
              have h8 := h9.head
              rw [← hlf] at h8
              exact (h8.ex hx26).ex h6
            · exact hys7 u (List.mem_append_left _ (List.mem_of_mem_take hu))
        · right
          refine ⟨fun b hb => ?_, ?_⟩
          · rcases hf7 with ⟨a, c, h5, h6⟩ | ⟨h5, h6⟩
            · exact hc.1 b (by rw [h5, own_case (n' := ln q + k + 1), ← h6]; exact hb)
            · have := h5 b hb; omega
          · obtain ⟨xs, h8, h9⟩ := hc.2
            refine ⟨xs, (h8.ex hx26).grown hg7 (fun b hb e => ?_), fun u hu => ?_⟩
            · have := hc.1 b e
              have := hLq4.lt b hb
              omega
            · exact MKl.app ((h9 u hu).ex hx26) (hys.1.ex hx26) hg7
      repeat (first | (refine isO ?_; first | refine s_move ?_ | refine s_assign ?_ | (refine isG ?_; first | refine g_yes rfl rfl ?_ | refine g_no rfl rfl rfl ?_ | refine g_un rfl rfl ?_) | (refine isBin ?_; first | refine s_inc rfl (by omega) ?_ | refine s_lssT rfl rfl (by omega) ?_ | refine s_lssF rfl rfl (by omega) ?_ | refine s_lss rfl rfl ?_ | refine s_eqlT rfl rfl (by omega) ?_ | refine s_eqlF rfl rfl (by omega) ?_ | refine s_eql rfl rfl ?_ | refine s_neqT rfl rfl (by omega) ?_ | refine s_neqF rfl rfl (by omega) ?_ | refine s_neq rfl rfl ?_ | refine s_leqT rfl rfl (by omega) ?_ | refine s_leqF rfl rfl (by omega) ?_ | refine s_leq rfl rfl ?_ | refine s_gtrT rfl rfl (by omega) ?_ | refine s_gtrF rfl rfl (by omega) ?_ | refine s_gtr rfl rfl ?_ | refine s_geqT rfl rfl (by omega) ?_ | refine s_geqF rfl rfl (by omega) ?_ | refine s_geq rfl rfl ?_ | refine s_add rfl rfl ⟨by omega, by omega⟩ ?_ | refine s_sub rfl rfl ⟨by omega, by omega⟩ ?_) | (refine isCall ?_; first | refine s_lenI sl_ints rfl (by assumption) ?_ | refine s_lenR sl_rows rfl (by assumption) ?_ | refine s_len sl_ints rfl ?_ | refine s_len sl_rows rfl ?_) | (refine isIA ?_; refine s_ixI sl_ints ty_int rfl rfl rfl (by assumption) (by omega) ?_; intro _) | (refine isPick ?_; first | refine s_pickt rfl rfl ?_ | refine s_pickf rfl rfl ?_) | (refine isLD ?_; first | refine s_ldA ty_int rfl (by assumption) rfl ?_ | refine s_ldA ty_ints rfl (by assumption) rfl ?_) | refine s_extract rfl rfl ?_ | refine s_not rfl ?_) | (refine isC ?_; first | refine c_sr ?_ | refine c_th ?_ | refine c_seq ?_ | refine c_region ?_ | refine c_ift rfl ?_ | refine c_iff rfl ?_ | refine c_block ?_ | refine c_ret ?_ | refine c_exit ?_ | refine c_skip ?_) | (first | refine l_th ?_ | refine th_norm ?_ | refine ib_norm ?_ | refine l_nil ?_ | refine th_ret ?_ | refine ib_ret ?_ | refine ib_exit ?_ | refine th_exit ?_ | refine ib_pass rfl ?_))
      exact loop_end2 (k + 1) v5 (by (repeat (first | exact agree_refl _ _ | refine agree_upd rfl ?_ | refine agree_ext rfl ?_ | refine agree_mask rfl ?_))) ⟨rfl, rfl, trivial⟩ ⟨hk', hK7, ⟨ys ++ [x], hW7, hys7⟩, hnext⟩ (by omega)
    · have hke : k = 40 := by omega
      subst hke
      have hK6 : KtS (fun b => (L q).ownBlock = some b) W W2 := (hK4.mono (fun _ h => h.elim)).trans hK2
      have hibL : ∀ b, (L q).ownBlock = some b → b ≠ ib := fun b hb e => (hbk q hqm b hb).2.1 (by rw [hib, e])
      have hAb6 := hAW.kt hK6 (fun e => (hbk q hqm bk e).1 rfl)
      have hAi6 := he3.2.1.kt hK6 (fun e => hibL ib e rfl)
      repeat (first | (refine isO ?_; first | refine s_move ?_ | refine s_assign ?_ | (refine isG ?_; first | refine g_yes rfl rfl ?_ | refine g_no rfl rfl rfl ?_ | refine g_un rfl rfl ?_) | (refine isBin ?_; first | refine s_inc rfl (by omega) ?_ | refine s_lssT rfl rfl (by omega) ?_ | refine s_lssF rfl rfl (by omega) ?_ | refine s_lss rfl rfl ?_ | refine s_eqlT rfl rfl (by omega) ?_ | refine s_eqlF rfl rfl (by omega) ?_ | refine s_eql rfl rfl ?_ | refine s_neqT rfl rfl (by omega) ?_ | refine s_neqF rfl rfl (by omega) ?_ | refine s_neq rfl rfl ?_ | refine s_leqT rfl rfl (by omega) ?_ | refine s_leqF rfl rfl (by omega) ?_ | refine s_leq rfl rfl ?_ | refine s_gtrT rfl rfl (by omega) ?_ | refine s_gtrF rfl rfl (by omega) ?_ | refine s_gtr rfl rfl ?_ | refine s_geqT rfl rfl (by omega) ?_ | refine s_geqF rfl rfl (by omega) ?_ | refine s_geq rfl rfl ?_ | refine s_add rfl rfl ⟨by omega, by omega⟩ ?_ | refine s_sub rfl rfl ⟨by omega, by omega⟩ ?_) | (refine isCall ?_; first | refine s_lenI sl_ints rfl (by assumption) ?_ | refine s_lenR sl_rows rfl (by assumption) ?_ | refine s_len sl_ints rfl ?_ | refine s_len sl_rows rfl ?_) | (refine isIA ?_; refine s_ixI sl_ints ty_int rfl rfl rfl (by assumption) (by omega) ?_; intro _) | (refine isPick ?_; first | refine s_pickt rfl rfl ?_ | refine s_pickf rfl rfl ?_) | (refine isLD ?_; first | refine s_ldA ty_int rfl (by assumption) rfl ?_ | refine s_ldA ty_ints rfl (by assumption) rfl ?_) | refine s_extract rfl rfl ?_ | refine s_not rfl ?_) | (refine isC ?_; first | refine c_sr ?_ | refine c_th ?_ | refine c_seq ?_ | refine c_region ?_ | refine c_ift rfl ?_ | refine c_iff rfl ?_ | refine c_block ?_ | refine c_ret ?_ | refine c_exit ?_ | refine c_skip ?_) | (first | refine l_th ?_ | refine th_norm ?_ | refine ib_norm ?_ | refine l_nil ?_ | refine th_ret ?_ | refine ib_ret ?_ | refine ib_exit ?_ | refine th_exit ?_ | refine ib_pass rfl ?_))
      refine s_nil rfl ?_
      refine s_faN Tryd.underlying49 rfl ty_hl.n rfl ?_
      refine s_ldA ty_hl rfl hAb6 rfl ?_
      refine s_re (v' := .slice (some ⟨ib, 0, none⟩) ns.length ic) he3.1 ?_
      repeat (first | (refine isO ?_; first | refine s_move ?_ | refine s_assign ?_ | (refine isG ?_; first | refine g_yes rfl rfl ?_ | refine g_no rfl rfl rfl ?_ | refine g_un rfl rfl ?_) | (refine isBin ?_; first | refine s_inc rfl (by omega) ?_ | refine s_lssT rfl rfl (by omega) ?_ | refine s_lssF rfl rfl (by omega) ?_ | refine s_lss rfl rfl ?_ | refine s_eqlT rfl rfl (by omega) ?_ | refine s_eqlF rfl rfl (by omega) ?_ | refine s_eql rfl rfl ?_ | refine s_neqT rfl rfl (by omega) ?_ | refine s_neqF rfl rfl (by omega) ?_ | refine s_neq rfl rfl ?_ | refine s_leqT rfl rfl (by omega) ?_ | refine s_leqF rfl rfl (by omega) ?_ | refine s_leq rfl rfl ?_ | refine s_gtrT rfl rfl (by omega) ?_ | refine s_gtrF rfl rfl (by omega) ?_ | refine s_gtr rfl rfl ?_ | refine s_geqT rfl rfl (by omega) ?_ | refine s_geqF rfl rfl (by omega) ?_ | refine s_geq rfl rfl ?_ | refine s_add rfl rfl ⟨by omega, by omega⟩ ?_ | refine s_sub rfl rfl ⟨by omega, by omega⟩ ?_) | (refine isCall ?_; first | refine s_lenI sl_ints rfl (by assumption) ?_ | refine s_lenR sl_rows rfl (by assumption) ?_ | refine s_len sl_ints rfl ?_ | refine s_len sl_rows rfl ?_) | (refine isIA ?_; refine s_ixI sl_ints ty_int rfl rfl rfl (by assumption) (by omega) ?_; intro _) | (refine isPick ?_; first | refine s_pickt rfl rfl ?_ | refine s_pickf rfl rfl ?_) | (refine isLD ?_; first | refine s_ldA ty_int rfl (by assumption) rfl ?_ | refine s_ldA ty_ints rfl (by assumption) rfl ?_) | refine s_extract rfl rfl ?_ | refine s_not rfl ?_) | (refine isC ?_; first | refine c_sr ?_ | refine c_th ?_ | refine c_seq ?_ | refine c_region ?_ | refine c_ift rfl ?_ | refine c_iff rfl ?_ | refine c_block ?_ | refine c_ret ?_ | refine c_exit ?_ | refine c_skip ?_) | (first | refine l_th ?_ | refine th_norm ?_ | refine ib_norm ?_ | refine l_nil ?_ | refine th_ret ?_ | refine ib_ret ?_ | refine ib_exit ?_ | refine th_exit ?_ | refine ib_pass rfl ?_))
      refine s_iaW (n := i) (s := 3) sl_hl ⟨ti, hti.1, hti.2.2.1⟩ rfl rfl hi' ?_
      refine s_faN Tryd.underlying66 rfl ty_rows.n rfl ?_
      refine s_stA (n := i * 3 + 1) (u := v4) ty_rows rfl rfl hys.1.one hAi6 (by have := flat3_len L G' ns; simp; omega) ?_
      intro w8 hA8 hg8
      have hset : Wd w8 66 3 (.slice (some ⟨ib, 0, none⟩) ns.length ic) ns.length ((flat3 L G' ns).set (i * 3 + 1) v4) := Wd.set (w := w8) (flat3_len _ _ _) (by have := flat3_len L G' ns; omega) hA8 he3.2.2.1 he3.2.2.2.1 he3.2.2.2.2
      rw [← he3.1, flat3_set L G' v4 ns i q hnd hqi] at hset
      have hown : v4.ownBlock = (L q).ownBlock ∨ ∀ b, v4.ownBlock = some b → w4.heap.size ≤ b := by
        rcases hcase with hc | hc
        · left; rw [hc, hlf]; exact own_case
        · exact .inr hc.1
      have hibW := hWW.lt ib hib
      have hv4 : ∀ b, v4.ownBlock = some b → b ≠ ib := fun b hb e => by
        rcases hown with he | hf
        · exact hibL b (he ▸ hb) e
        · have := hf b hb; omega
      have hK8 : KtS (fun b => (L q).ownBlock = some b ∨ vi.ownBlock = some b) W w8 := (hK6.mono (fun _ h => .inl h)).trans (KtS.of_grown hg8 (fun b e => .inr (by rw [← e]; exact hib)))
      have hKw : KtS (fun b => (∃ q ∈ ns, (L q).ownBlock = some b) ∨ vi.ownBlock = some b) w w8 := hK.trans (hK8.mono (fun b h => h.imp (fun h => ⟨q, hqm, h⟩) id))
      have hiblo : ∀ b, some ib = some b → b < lo := fun b e => (hvb b (by rw [hib]; exact e)).2
      have hk8lo : ∀ b, ((L q).ownBlock = some b ∨ vi.ownBlock = some b) → b < lo := fun b h => h.elim (fun h => (hbk q hqm b h).2.2) (fun h => (hvb b h).2)
      repeat (first | (refine isO ?_; first | refine s_move ?_ | refine s_assign ?_ | (refine isG ?_; first | refine g_yes rfl rfl ?_ | refine g_no rfl rfl rfl ?_ | refine g_un rfl rfl ?_) | (refine isBin ?_; first | refine s_inc rfl (by omega) ?_ | refine s_lssT rfl rfl (by omega) ?_ | refine s_lssF rfl rfl (by omega) ?_ | refine s_lss rfl rfl ?_ | refine s_eqlT rfl rfl (by omega) ?_ | refine s_eqlF rfl rfl (by omega) ?_ | refine s_eql rfl rfl ?_ | refine s_neqT rfl rfl (by omega) ?_ | refine s_neqF rfl rfl (by omega) ?_ | refine s_neq rfl rfl ?_ | refine s_leqT rfl rfl (by omega) ?_ | refine s_leqF rfl rfl (by omega) ?_ | refine s_leq rfl rfl ?_ | refine s_gtrT rfl rfl (by omega) ?_ | refine s_gtrF rfl rfl (by omega) ?_ | refine s_gtr rfl rfl ?_ | refine s_geqT rfl rfl (by omega) ?_ | refine s_geqF rfl rfl (by omega) ?_ | refine s_geq rfl rfl ?_ | refine s_add rfl rfl ⟨by omega, by omega⟩ ?_ | refine s_sub rfl rfl ⟨by omega, by omega⟩ ?_) | (refine isCall ?_; first | refine s_lenI sl_ints rfl (by assumption) ?_ | refine s_lenR sl_rows rfl (by assumption) ?_ | refine s_len sl_ints rfl ?_ | refine s_len sl_rows rfl ?_) | (refine isIA ?_; refine s_ixI sl_ints ty_int rfl rfl rfl (by assumption) (by omega) ?_; intro _) | (refine isPick ?_; first | refine s_pickt rfl rfl ?_ | refine s_pickf rfl rfl ?_) | (refine isLD ?_; first | refine s_ldA ty_int rfl (by assumption) rfl ?_ | refine s_ldA ty_ints rfl (by assumption) rfl ?_) | refine s_extract rfl rfl ?_ | refine s_not rfl ?_) | (refine isC ?_; first | refine c_sr ?_ | refine c_th ?_ | refine c_seq ?_ | refine c_region ?_ | refine c_ift rfl ?_ | refine c_iff rfl ?_ | refine c_block ?_ | refine c_ret ?_ | refine c_exit ?_ | refine c_skip ?_) | (first | refine l_th ?_ | refine th_norm ?_ | refine ib_norm ?_ | refine l_nil ?_ | refine th_ret ?_ | refine ib_ret ?_ | refine ib_exit ?_ | refine th_exit ?_ | refine ib_pass rfl ?_))
      refine loop_end (i + 1) (by (repeat (first | exact agree_refl _ _ | refine agree_upd rfl ?_ | refine agree_ext rfl ?_ | refine agree_mask rfl ?_))) ⟨rfl, trivial⟩ ⟨hi', hKw, fset1 G' q v4, hset, fun p hp => ?_, fun j p hp => ⟨?_, fun hj => ?_⟩⟩ (by omega)
      · unfold fset1
        split
        · exact hys.1.one
        · exact hG.2.1 p hp
      · by_cases e : p = q
        · subst e
          have h9 : ∃ xs, Wd W2 25 1 (L p) (ln p) xs ∧ ∀ u ∈ xs, MKl lo W2 p u := by
            rcases hcase with hc | hc
            · have h9 := hys.1
              rw [hc] at h9
              have h8 := h9.head
              rw [← hlf] at h8
              exact ⟨_, h8, fun u hu => hys.2 u (List.mem_of_mem_take hu)⟩
            · exact hc.2
          obtain ⟨xs, h1, h2⟩ := h9
          exact ⟨xs, h1.grown hg8 (fun b hb e => hibL b hb (Option.some.inj e).symm), fun u hu => MKl.grown (h2 u hu) hg8 hiblo⟩
        · have hpm := List.mem_of_getElem? hp
          obtain ⟨xs, h1, h2⟩ := (hI j p hp).1
          refine ⟨xs, h1.kt hK8 (fun b hb hb2 => ?_), fun u hu => MKl.kt (h2 u hu) hK8 hk8lo⟩
          rcases hb2 with hb2 | hb2
          · exact hd p hpm q hqm e b hb hb2
          · exact (hbk p hpm b hb).2.1 hb2
      · by_cases e : p = q
        · subst e
          have e9 : fset1 G' p v4 p = v4 := by unfold fset1; rw [if_pos rfl]
          rw [e9]
          refine ⟨⟨ys, hys.1.grown hg8 (fun b hb e => hv4 b hb (Option.some.inj e).symm), fun u hu => MKl.grown (hys.2 u hu) hg8 hiblo⟩, fun b hb => ?_⟩
          rcases hown with he | hf
          · exact .inl (he ▸ hb)
          · have := hf b hb; exact .inr (by omega)
        · have hpm := List.mem_of_getElem? hp
          have e9 : fset1 G' q v4 p = G' p := by unfold fset1; rw [if_neg e]
          have hji : j ≠ i := fun e2 => by subst e2; rw [hqi] at hp; exact e (Option.some.inj hp).symm
          rw [e9]
          obtain ⟨⟨zs, h1, h2⟩, h3⟩ := (hI j p hp).2 (by omega)
          refine ⟨⟨zs, h1.kt hK8 (fun b hb hb2 => ?_), fun u hu => MKl.kt (h2 u hu) hK8 hk8lo⟩, h3⟩
          rcases h3 b hb with h4 | h4
          · rcases hb2 with hb2 | hb2
            · exact hd p hpm q hqm e b h4 hb2
            · exact (hbk p hpm b h4).2.1 hb2
          · have := hk8lo b hb2; omega
  · have hie : i = ns.length := by omega
    subst hie
    repeat (first | (refine isO ?_; first | refine s_move ?_ | refine s_assign ?_ | (refine isG ?_; first | refine g_yes rfl rfl ?_ | refine g_no rfl rfl rfl ?_ | refine g_un rfl rfl ?_) | (refine isBin ?_; first | refine s_inc rfl (by omega) ?_ | refine s_lssT rfl rfl (by omega) ?_ | refine s_lssF rfl rfl (by omega) ?_ | refine s_lss rfl rfl ?_ | refine s_eqlT rfl rfl (by omega) ?_ | refine s_eqlF rfl rfl (by omega) ?_ | refine s_eql rfl rfl ?_ | refine s_neqT rfl rfl (by omega) ?_ | refine s_neqF rfl rfl (by omega) ?_ | refine s_neq rfl rfl ?_ | refine s_leqT rfl rfl (by omega) ?_ | refine s_leqF rfl rfl (by omega) ?_ | refine s_leq rfl rfl ?_ | refine s_gtrT rfl rfl (by omega) ?_ | refine s_gtrF rfl rfl (by omega) ?_ | refine s_gtr rfl rfl ?_ | refine s_geqT rfl rfl (by omega) ?_ | refine s_geqF rfl rfl (by omega) ?_ | refine s_geq rfl rfl ?_ | refine s_add rfl rfl ⟨by omega, by omega⟩ ?_ | refine s_sub rfl rfl ⟨by omega, by omega⟩ ?_) | (refine isCall ?_; first | refine s_lenI sl_ints rfl (by assumption) ?_ | refine s_lenR sl_rows rfl (by assumption) ?_ | refine s_len sl_ints rfl ?_ | refine s_len sl_rows rfl ?_) | (refine isIA ?_; refine s_ixI sl_ints ty_int rfl rfl rfl (by assumption) (by omega) ?_; intro _) | (refine isPick ?_; first | refine s_pickt rfl rfl ?_ | refine s_pickf rfl rfl ?_) | (refine isLD ?_; first | refine s_ldA ty_int rfl (by assumption) rfl ?_ | refine s_ldA ty_ints rfl (by assumption) rfl ?_) | refine s_extract rfl rfl ?_ | refine s_not rfl ?_) | (refine isC ?_; first | refine c_sr ?_ | refine c_th ?_ | refine c_seq ?_ | refine c_region ?_ | refine c_ift rfl ?_ | refine c_iff rfl ?_ | refine c_block ?_ | refine c_ret ?_ | refine c_exit ?_ | refine c_skip ?_) | (first | refine l_th ?_ | refine th_norm ?_ | refine ib_norm ?_ | refine l_nil ?_ | refine th_ret ?_ | refine ib_ret ?_ | refine ib_exit ?_ | refine th_exit ?_ | refine ib_pass rfl ?_))
    refine end0 rfl ⟨rfl, hK, G', hWW, fun q hqm => ?_⟩
    obtain ⟨j, hj⟩ := List.mem_iff_getElem?.1 hqm
    have h1 := hI j q hj
    have h2 := h1.2 (List.getElem?_eq_some_iff.1 hj).1
    exact ⟨h1.1, h2.1, h2.2⟩
end Go.Proofs.YtkhnohnkcdcajaaDoor.Sal
