/- The search of a way to one more: what its struct holds; paths.begin. -/
import Derived.Test.YtkhnohnkcdcajaaP1
import Derived.Laws.Tables
namespace Go.Proofs.Ytkhnohnkcdcajaa.Sal
open Go.RowKit
attribute [local irreducible] Go.Code.wpIn Go.wpListIn Ct Ints Rows Sl At Rw WJ
set_option linter.all false
theorem ok_begin : CallOK Try.prog 59 := callOK Try.func59 (by kernel_rfl) rfl
theorem ok_goes : CallOK Try.prog 60 := callOK Try.func60 (by kernel_rfl) rfl
theorem ok_More : CallOK Try.prog 48 := callOK Try.func48 (by kernel_rfl) rfl
theorem Ty1.n {P : Program} {E : TypeId} (h : Ty1 P E) : TyN P E := by
  obtain ⟨⟨i, hi, hs⟩, _⟩ := h; exact ⟨i, hi, by omega⟩
theorem tyn_a8 : TyN Try.prog 61 := by
  have h := sz_a8
  cases hi : Try.prog.info? 61 with
  | none => rw [hi] at h; cases h
  | some ti => rw [hi] at h; exact ⟨ti, hi, by simp at h; omega⟩
theorem tyn_ints : TyN Try.prog 33 := ty_ints.n
theorem tyn_rows : TyN Try.prog 22 := ty_rows.n
def u_search := Try.underlying81
/-- What the search's struct holds. -/
def SE (g h v : Value) (w q : Nat → Nat) : List Value := g :: h :: v :: (tb8 (fun k => (w k : Int)) ++ tb8 (fun k => (q k : Int)))
theorem SE_len (g h v : Value) (w q : Nat → Nat) : (SE g h v w q).length = 19 := by simp [SE, tb8_len]
theorem SE_by {g h v : Value} {w q : Nat → Nat} {k : Nat} (hk : k < 8) : (SE g h v w q)[3 + k]? = some (.int .i64 (w k : Int)) := by
  have e : 3 + k = k + 1 + 1 + 1 := by omega
  rw [e]
  unfold SE
  rw [List.getElem?_cons_succ, List.getElem?_cons_succ, List.getElem?_cons_succ, List.getElem?_append_left (by rw [tb8_len]; exact hk), tb8_get _ hk]
theorem SE_ho {g h v : Value} {w q : Nat → Nat} {k : Nat} (hk : k < 8) : (SE g h v w q)[11 + k]? = some (.int .i64 (q k : Int)) := by
  have e : 11 + k = (8 + k) + 1 + 1 + 1 := by omega
  rw [e]
  unfold SE
  rw [List.getElem?_cons_succ, List.getElem?_cons_succ, List.getElem?_cons_succ, List.getElem?_append_right (by rw [tb8_len]; omega), tb8_len]
  have e2 : 8 + k - 8 = k := by omega
  rw [e2, tb8_get _ hk]
theorem fset_cast (w : Nat → Nat) (k x : Nat) : fset (fun j => (w j : Int)) k ((x : Nat) : Int) = fun j => ((fset w k x j : Nat) : Int) := by
  funext j
  unfold fset
  by_cases e : j = k
  · rw [if_pos e, if_pos e]
  · rw [if_neg e, if_neg e]
theorem SE_set_by {g h v : Value} {w q : Nat → Nat} {k x : Nat} (hk : k < 8) : (SE g h v w q).set (3 + k) (.int .i64 ((x : Nat) : Int)) = SE g h v (fset w k x) q := by
  have e : 3 + k = k + 1 + 1 + 1 := by omega
  rw [e]
  unfold SE
  rw [List.set_cons_succ, List.set_cons_succ, List.set_cons_succ, List.set_append_left _ _ (by rw [tb8_len]; exact hk), tb8_set _ _ hk, fset_cast]
theorem SE_set_ho {g h v : Value} {w q : Nat → Nat} {k x : Nat} (hk : k < 8) : (SE g h v w q).set (11 + k) (.int .i64 ((x : Nat) : Int)) = SE g h v w (fset q k x) := by
  have e : 11 + k = (8 + k) + 1 + 1 + 1 := by omega
  rw [e]
  unfold SE
  rw [List.set_cons_succ, List.set_cons_succ, List.set_cons_succ, List.set_append_right _ _ (by rw [tb8_len]; omega), tb8_len]
  have e2 : 8 + k - 8 = k := by omega
  rw [e2, tb8_set _ _ hk, fset_cast]
theorem built_search (a1 a2 a3 : Option Addr) (n1 n2 n3 c1 c2 c3 : Nat) : Try.prog.built 81 [(0, .slice a1 n1 c1), (1, .slice a2 n2 c2), (2, .slice a3 n3 c3)] = some (SE (.slice a1 n1 c1) (.slice a2 n2 c2) (.slice a3 n3 c3) (fun _ => 0) (fun _ => 0)).toArray := by kernel_rfl
theorem gb_refl (w : World) (o : Option Nat) : w.grownBy w o := ⟨rfl, rfl, rfl, Nat.le_refl _, fun _ _ _ => rfl⟩
theorem gb_trans {a b c : World} {o : Option Nat} (h : a.grownBy b o) (k : b.grownBy c o) : a.grownBy c o :=
  ⟨k.os.trans h.os, k.tape.trans h.tape, k.output.trans h.output, Nat.le_trans h.size k.size, fun q hq hne => (k.block q (Nat.lt_of_lt_of_le hq h.size) hne).trans (h.block q hq hne)⟩
theorem Ex.grown_to {w w' : World} {o : Option Nat} (h : Ex w w') : w.grownBy w' o := ⟨h.os, h.tape, h.output, h.size, fun k hk _ => h.block k hk⟩
section ops
variable {r : Option Nat} {P : Program} {ops : Array Oper} {Q : Exit → Act → World → Prop} {N : Nat} {σ : Nat → Value} {ds : List Deferred} {w : World} {rest : List Oper}
variable {d : Nat} {ty : TypeId} {pos : String} {after : Array Edge} {T E : TypeId} {x y : Operand}
theorem s_build {parts : List (Nat × Operand)} {cells : List Value} (h : P.built T (parts.map fun p => (p.1, ev N σ p.2)) = some cells.toArray) (hK : WL r P ops Q rest (mk N (upd σ d (.agg cells.toArray)) ds) w) :
    WL r P ops Q (⟨some d, .build T parts.toArray, ty, pos, after, none⟩ :: rest) (mk N σ ds) w :=
  l_val (by intro c e; cases e) (by
    have := run_build (P := P) w T (parts.map fun p => (p.1, ev N σ p.2)).toArray cells.toArray h
    simp [execOp, this]) hK
/-- append(l, x...) of numbers, with what turns by it. -/
theorem s_lappG {w0 : World} {z v xv : Value} {l news : List Int} (hT : SlT P T E) (hi : InfoOf P E z) (hL : LI w0 w E v l) (hS : Ints w xv news) (hv : ev N σ x = v) (hxv : ev N σ y = xv) (hlen : l.length + news.length ≤ 100000) (hw : Ex w0 w)
    (h : ∀ v' w', LI w0 w' E v' (l ++ news) → Ex w0 w' → w.grownBy w' v.ownBlock → (v'.ownBlock = v.ownBlock ∨ ∀ b, v'.ownBlock = some b → w.heap.size ≤ b) → WL r P ops Q rest (mk N (upd σ d v') ds) w') :
    WL r P ops Q (⟨some d, .call { callee := .builtin .append, args := #[x, y], argTypes := #[T, T] }, ty, pos, after, none⟩ :: rest) (mk N σ ds) w := by
  refine s_app hT hi hL.1 hS.sl hv hxv (map_one news) (by simp; omega) ?_
  intro v' w' hR hg hf
  refine h v' w' ⟨by rw [List.map_append]; exact hR, fun b hb => ?_⟩ (hw.storeo hg hL.2) hg hf
  rcases hf with he | hf
  · exact hL.2 b (he ▸ hb)
  · exact Nat.le_trans hw.size (hf b hb)
end ops
theorem At.li {w0 w : World} {b : Nat} {q : Int} (h : At w b 3 [.int .i64 q]) (hb : w0.heap.size ≤ b) : LI w0 w 3 (sv b 1 1) [q] :=
  ⟨h.rw (n := 1) (c := 1) rfl (Nat.le_refl _) (by omega), fun k hk => by cases hk; exact hb⟩
theorem Clone_own (v : Value) (l : List Int) (w : World) (hl : Ints w v l) (hm : l.length ≤ 10000) (hne : l ≠ []) :
    Ct Try.prog 54 #[v] w fun u w' => ∃ b c, u = sv b l.length c ∧ OwnI w' 3 b c l ∧ w.heap.size ≤ b ∧ Ex w w' :=
  (Clone_ct v l w hl hm).mono fun u w' ⟨hL, hx⟩ => by
    obtain ⟨b, c, hv, hO, hb⟩ := hL.own hne (by omega)
    exact ⟨b, c, hv, hO, hb, hx⟩
theorem Clip_own (b c : Nat) (l : List Int) (w : World) (hO : OwnI w 3 b c l) :
    Ct Try.prog 41 #[sv b l.length c] w fun u w' => u = sv b l.length l.length ∧ OwnI w' 3 b l.length l ∧ Ex w w' :=
  (Clip_ct _ l w hO.ints).mono fun u w' ⟨⟨a, c', hv, hu⟩, hI, hx⟩ => by
    cases hv
    obtain ⟨sp, h1, h2, h3⟩ := hO
    exact ⟨hu, ⟨sp, h1.ex hx, Nat.le_refl _, h3⟩, hx⟩
theorem holdN_m1 {has : List Int} {i : Nat} (h : has.getD i (-1) = -1) : holdN has (i + 1) = holdN has i := by
  funext k
  show (if has.getD i (-1) = (k : Int) then i + 1 else holdN has i k) = _
  rw [h, if_neg (by omega)]
theorem holdN_at {has : List Int} {i q : Nat} (h : has.getD i (-1) = (q : Int)) : holdN has (i + 1) = fset (holdN has i) q (i + 1) := by
  funext k
  show (if has.getD i (-1) = (k : Int) then i + 1 else holdN has i k) = _
  unfold fset
  by_cases e : k = q
  · subst e; rw [if_pos h, if_pos rfl]
  · rw [if_neg (by omega), if_neg e]
set_option maxRecDepth 8000 in
set_option maxHeartbeats 2000000 in
theorem begin_ct {R : Nat → Nat → Bool} {m n : Nat} (hm : m ≤ 8) (hn : n ≤ 8) {gv hv : Value} {has : List Int} {a : Nat} {w : World} (hg : Rows w gv (gL R m n)) (hh : Ints w hv has) (hF : FitR R m n has) (ham : a < m) (ha : has.getD a (-1) = -1) :
    Ct Try.prog 59 #[gv, .int .i64 (n : Int), hv, .int .i64 (a : Int)] w fun u w' => ∃ b hb wv, u = .tuple #[.pointer (some ⟨b, 0, none⟩), .int .i64 0] ∧ At w' b 81 (SE gv (sv hb has.length has.length) wv (fun _ => 0) (holdN has has.length)) ∧ OwnI w' 3 hb has.length has ∧ LI w w' 3 wv [(a : Int)] ∧
      (wv.ownBlock ≠ some hb ∧ wv.ownBlock ≠ some b ∧ hb ≠ b) ∧ w.heap.size ≤ b ∧ w.heap.size ≤ hb ∧ Ex w w' := by
  have hl := hF.len
  have hgl := gL_len R m n
  have ha0 : has.getD a 0 = -1 := by rw [← getD_m1 (by omega)]; exact ha
  have hne : has ≠ [] := fun e => by rw [e] at hl; simp at hl; omega
  refine Exists.elim hg.form fun ga hga => Exists.elim hga fun gc hgc => ?_
  subst hgc
  refine enter (N := 61) (vs := [.slice ga (gL R m n).length gc, .int .i64 (n : Int), hv, .int .i64 (a : Int)]) Try.func59 rfl rfl rfl ?_
  repeat (first | (refine isO ?_; first | refine s_move ?_ | refine s_assign ?_ | (refine isG ?_; first | refine g_yes rfl rfl ?_ | refine g_no rfl rfl rfl ?_ | refine g_un rfl rfl ?_) | (refine isBin ?_; first | refine s_inc rfl (by omega) ?_ | refine s_lssT rfl rfl (by omega) ?_ | refine s_lssF rfl rfl (by omega) ?_ | refine s_lss rfl rfl ?_ | refine s_eqlT rfl rfl (by omega) ?_ | refine s_eqlF rfl rfl (by omega) ?_ | refine s_eql rfl rfl ?_ | refine s_neqT rfl rfl (by omega) ?_ | refine s_neqF rfl rfl (by omega) ?_ | refine s_neq rfl rfl ?_ | refine s_leqT rfl rfl (by omega) ?_ | refine s_leqF rfl rfl (by omega) ?_ | refine s_leq rfl rfl ?_ | refine s_gtrT rfl rfl (by omega) ?_ | refine s_gtrF rfl rfl (by omega) ?_ | refine s_gtr rfl rfl ?_ | refine s_geqT rfl rfl (by omega) ?_ | refine s_geqF rfl rfl (by omega) ?_ | refine s_geq rfl rfl ?_ | refine s_add rfl rfl ⟨by omega, by omega⟩ ?_ | refine s_sub rfl rfl ⟨by omega, by omega⟩ ?_) | (refine isCall ?_; first | refine s_lenI sl_ints rfl (by assumption) ?_ | refine s_lenR sl_rows rfl (by assumption) ?_ | refine s_len sl_ints rfl ?_ | refine s_len sl_rows rfl ?_) | (refine isIA ?_; refine s_ixI sl_ints ty_int rfl rfl rfl (by assumption) (by omega) ?_; intro _) | (refine isPick ?_; first | refine s_pickt rfl rfl ?_ | refine s_pickf rfl rfl ?_) | (refine isLD ?_; first | refine s_ldA ty_int rfl (by assumption) rfl ?_ | refine s_ldA ty_ints rfl (by assumption) rfl ?_) | refine s_extract rfl rfl ?_ | refine s_not rfl ?_) | (refine isC ?_; first | refine c_sr ?_ | refine c_th ?_ | refine c_seq ?_ | refine c_region ?_ | refine c_ift rfl ?_ | refine c_iff rfl ?_ | refine c_block ?_ | refine c_ret ?_ | refine c_exit ?_ | refine c_skip ?_) | (first | refine l_th ?_ | refine th_norm ?_ | refine ib_norm ?_ | refine l_nil ?_ | refine th_ret ?_ | refine ib_ret ?_ | refine ib_exit ?_ | refine th_exit ?_ | refine ib_pass rfl ?_))
  refine s_call ok_Fits rfl (Fits_ok hm hn _ hv has w hg hh hl) ?_
  rintro u w2 ⟨⟨b0, rfl, hb0⟩, hx2⟩
  refine s_re (v' := .bool true) (vbool (hb0.2 hF)) ?_
  have hg2 := hg.ex hx2
  have hh2 := hh.ex hx2
  repeat (first | (refine isO ?_; first | refine s_move ?_ | refine s_assign ?_ | (refine isG ?_; first | refine g_yes rfl rfl ?_ | refine g_no rfl rfl rfl ?_ | refine g_un rfl rfl ?_) | (refine isBin ?_; first | refine s_inc rfl (by omega) ?_ | refine s_lssT rfl rfl (by omega) ?_ | refine s_lssF rfl rfl (by omega) ?_ | refine s_lss rfl rfl ?_ | refine s_eqlT rfl rfl (by omega) ?_ | refine s_eqlF rfl rfl (by omega) ?_ | refine s_eql rfl rfl ?_ | refine s_neqT rfl rfl (by omega) ?_ | refine s_neqF rfl rfl (by omega) ?_ | refine s_neq rfl rfl ?_ | refine s_leqT rfl rfl (by omega) ?_ | refine s_leqF rfl rfl (by omega) ?_ | refine s_leq rfl rfl ?_ | refine s_gtrT rfl rfl (by omega) ?_ | refine s_gtrF rfl rfl (by omega) ?_ | refine s_gtr rfl rfl ?_ | refine s_geqT rfl rfl (by omega) ?_ | refine s_geqF rfl rfl (by omega) ?_ | refine s_geq rfl rfl ?_ | refine s_add rfl rfl ⟨by omega, by omega⟩ ?_ | refine s_sub rfl rfl ⟨by omega, by omega⟩ ?_) | (refine isCall ?_; first | refine s_lenI sl_ints rfl (by assumption) ?_ | refine s_lenR sl_rows rfl (by assumption) ?_ | refine s_len sl_ints rfl ?_ | refine s_len sl_rows rfl ?_) | (refine isIA ?_; refine s_ixI sl_ints ty_int rfl rfl rfl (by assumption) (by omega) ?_; intro _) | (refine isPick ?_; first | refine s_pickt rfl rfl ?_ | refine s_pickf rfl rfl ?_) | (refine isLD ?_; first | refine s_ldA ty_int rfl (by assumption) rfl ?_ | refine s_ldA ty_ints rfl (by assumption) rfl ?_) | refine s_extract rfl rfl ?_ | refine s_not rfl ?_) | (refine isO ?_; first | refine s_fa Try.underlying24 rfl ty_rows rfl ?_ | refine s_fa Try.underlying24 rfl ty_int rfl ?_ | refine s_ldO ty_rows (by assumption) (by assumption) rfl rfl ?_ | refine s_ldO ty_int (by assumption) (by assumption) rfl rfl ?_ | (refine s_iaI sl_ints ty_int rfl rfl (by assumption) (by omega) ?_; intro _ _) | (refine s_iaR sl_rows ty_ints (by assumption) (Ex.refl _) rfl rfl (by omega) ?_; intro _ _ _ _) | refine s_ld ty_ints rfl (by assumption) ?_ | refine s_ld ty_int rfl (by assumption) ?_) | (refine isO ?_; first | refine s_ldVO Try.underlying24 rfl (by kernel_rfl) (by assumption) (by assumption) rfl ?_ | refine s_eqlb Try.underlying4 rfl rfl ?_ | refine s_neqb Try.underlying4 rfl rfl ?_) | (refine isC ?_; first | refine c_sr ?_ | refine c_th ?_ | refine c_seq ?_ | refine c_region ?_ | refine c_ift rfl ?_ | refine c_iff rfl ?_ | refine c_block ?_ | refine c_ret ?_ | refine c_exit ?_ | refine c_skip ?_) | (first | refine l_th ?_ | refine th_norm ?_ | refine ib_norm ?_ | refine l_nil ?_ | refine th_ret ?_ | refine ib_ret ?_ | refine ib_exit ?_ | refine th_exit ?_ | refine ib_pass rfl ?_))
  refine s_call ok_Clone rfl (Clone_own hv has w2 hh2 (by omega) hne) ?_
  rintro u w3 ⟨hb, c3, rfl, hO3, hbw3, hx3⟩
  refine s_call ok_Clip rfl (Clip_own hb c3 has w3 hO3) ?_
  rintro u w4 ⟨rfl, hO4, hx4⟩
  repeat (first | (refine isO ?_; first | refine s_move ?_ | refine s_assign ?_ | (refine isG ?_; first | refine g_yes rfl rfl ?_ | refine g_no rfl rfl rfl ?_ | refine g_un rfl rfl ?_) | (refine isBin ?_; first | refine s_inc rfl (by omega) ?_ | refine s_lssT rfl rfl (by omega) ?_ | refine s_lssF rfl rfl (by omega) ?_ | refine s_lss rfl rfl ?_ | refine s_eqlT rfl rfl (by omega) ?_ | refine s_eqlF rfl rfl (by omega) ?_ | refine s_eql rfl rfl ?_ | refine s_neqT rfl rfl (by omega) ?_ | refine s_neqF rfl rfl (by omega) ?_ | refine s_neq rfl rfl ?_ | refine s_leqT rfl rfl (by omega) ?_ | refine s_leqF rfl rfl (by omega) ?_ | refine s_leq rfl rfl ?_ | refine s_gtrT rfl rfl (by omega) ?_ | refine s_gtrF rfl rfl (by omega) ?_ | refine s_gtr rfl rfl ?_ | refine s_geqT rfl rfl (by omega) ?_ | refine s_geqF rfl rfl (by omega) ?_ | refine s_geq rfl rfl ?_ | refine s_add rfl rfl ⟨by omega, by omega⟩ ?_ | refine s_sub rfl rfl ⟨by omega, by omega⟩ ?_) | (refine isCall ?_; first | refine s_lenI sl_ints rfl (by assumption) ?_ | refine s_lenR sl_rows rfl (by assumption) ?_ | refine s_len sl_ints rfl ?_ | refine s_len sl_rows rfl ?_) | (refine isIA ?_; refine s_ixI sl_ints ty_int rfl rfl rfl (by assumption) (by omega) ?_; intro _) | (refine isPick ?_; first | refine s_pickt rfl rfl ?_ | refine s_pickf rfl rfl ?_) | (refine isLD ?_; first | refine s_ldA ty_int rfl (by assumption) rfl ?_ | refine s_ldA ty_ints rfl (by assumption) rfl ?_) | refine s_extract rfl rfl ?_ | refine s_not rfl ?_) | (refine isC ?_; first | refine c_sr ?_ | refine c_th ?_ | refine c_seq ?_ | refine c_region ?_ | refine c_ift rfl ?_ | refine c_iff rfl ?_ | refine c_block ?_ | refine c_ret ?_ | refine c_exit ?_ | refine c_skip ?_) | (first | refine l_th ?_ | refine th_norm ?_ | refine ib_norm ?_ | refine l_nil ?_ | refine th_ret ?_ | refine ib_ret ?_ | refine ib_exit ?_ | refine th_exit ?_ | refine ib_pass rfl ?_))
  refine s_bs1 sl_ints in_int rfl rfl ?_
  intro b5 w5 hb5 hA5 hx5 hs5
  refine s_build (cells := SE (.slice ga (gL R m n).length gc) (sv hb has.length has.length) (sv b5 1 1) (fun _ => 0) (fun _ => 0)) (built_search _ _ _ _ _ _ _ _ _) ?_
  refine s_box (cs := SE (.slice ga (gL R m n).length gc) (sv hb has.length has.length) (sv b5 1 1) (fun _ => 0) (fun _ => 0)) rfl rfl ?_
  intro b w6 hb6 hA6 hx6 hs6
  have z2 := hx2.size
  have z3 := hx3.size
  have z4 := hx4.size
  have z5 := hx5.size
  have z6 := hx6.size
  have hlt := hO4.lt
  have hx06 := hx2.trans (hx3.trans (hx4.trans (hx5.trans hx6)))
  have hO6 := hO4.ex (hx5.trans hx6)
  have hL6 : LI w w6 3 (sv b5 1 1) [(a : Int)] := (hA5.ex hx6).li (by omega)
  have hbb : w.heap.size ≤ b := by omega
  have hh6 := hh.ex hx06
  repeat (first | (refine isO ?_; first | refine s_move ?_ | refine s_assign ?_ | (refine isG ?_; first | refine g_yes rfl rfl ?_ | refine g_no rfl rfl rfl ?_ | refine g_un rfl rfl ?_) | (refine isBin ?_; first | refine s_inc rfl (by omega) ?_ | refine s_lssT rfl rfl (by omega) ?_ | refine s_lssF rfl rfl (by omega) ?_ | refine s_lss rfl rfl ?_ | refine s_eqlT rfl rfl (by omega) ?_ | refine s_eqlF rfl rfl (by omega) ?_ | refine s_eql rfl rfl ?_ | refine s_neqT rfl rfl (by omega) ?_ | refine s_neqF rfl rfl (by omega) ?_ | refine s_neq rfl rfl ?_ | refine s_leqT rfl rfl (by omega) ?_ | refine s_leqF rfl rfl (by omega) ?_ | refine s_leq rfl rfl ?_ | refine s_gtrT rfl rfl (by omega) ?_ | refine s_gtrF rfl rfl (by omega) ?_ | refine s_gtr rfl rfl ?_ | refine s_geqT rfl rfl (by omega) ?_ | refine s_geqF rfl rfl (by omega) ?_ | refine s_geq rfl rfl ?_ | refine s_add rfl rfl ⟨by omega, by omega⟩ ?_ | refine s_sub rfl rfl ⟨by omega, by omega⟩ ?_) | (refine isCall ?_; first | refine s_lenI sl_ints rfl (by assumption) ?_ | refine s_lenR sl_rows rfl (by assumption) ?_ | refine s_len sl_ints rfl ?_ | refine s_len sl_rows rfl ?_) | (refine isIA ?_; refine s_ixI sl_ints ty_int rfl rfl rfl (by assumption) (by omega) ?_; intro _) | (refine isPick ?_; first | refine s_pickt rfl rfl ?_ | refine s_pickf rfl rfl ?_) | (refine isLD ?_; first | refine s_ldA ty_int rfl (by assumption) rfl ?_ | refine s_ldA ty_ints rfl (by assumption) rfl ?_) | refine s_extract rfl rfl ?_ | refine s_not rfl ?_) | (refine isC ?_; first | refine c_sr ?_ | refine c_th ?_ | refine c_seq ?_ | refine c_region ?_ | refine c_ift rfl ?_ | refine c_iff rfl ?_ | refine c_block ?_ | refine c_ret ?_ | refine c_exit ?_ | refine c_skip ?_) | (first | refine l_th ?_ | refine th_norm ?_ | refine ib_norm ?_ | refine l_nil ?_ | refine th_ret ?_ | refine ib_ret ?_ | refine ib_exit ?_ | refine th_exit ?_ | refine ib_pass rfl ?_))
  refine c_loop (γ := Nat) 1152886320234764288 (fun i => [(45, .int .i64 (i : Int))]) (fun i w' => i ≤ m ∧ At w' b 81 (SE (.slice ga (gL R m n).length gc) (sv hb has.length has.length) (sv b5 1 1) (fun _ => 0) (holdN has i)) ∧ w6.grownBy w' (some b) ∧ Ex w w') (fun i => m - i) 0 ⟨rfl, trivial⟩ ⟨Nat.zero_le _, hA6, gb_refl _ _, hx06⟩ ?_
  rintro i ρ w7 ⟨hi, hA7, hgb, hx7⟩
  have hh7 := hh.ex hx7
  repeat (first | (refine isO ?_; first | refine s_move ?_ | refine s_assign ?_ | (refine isG ?_; first | refine g_yes rfl rfl ?_ | refine g_no rfl rfl rfl ?_ | refine g_un rfl rfl ?_) | (refine isBin ?_; first | refine s_inc rfl (by omega) ?_ | refine s_lssT rfl rfl (by omega) ?_ | refine s_lssF rfl rfl (by omega) ?_ | refine s_lss rfl rfl ?_ | refine s_eqlT rfl rfl (by omega) ?_ | refine s_eqlF rfl rfl (by omega) ?_ | refine s_eql rfl rfl ?_ | refine s_neqT rfl rfl (by omega) ?_ | refine s_neqF rfl rfl (by omega) ?_ | refine s_neq rfl rfl ?_ | refine s_leqT rfl rfl (by omega) ?_ | refine s_leqF rfl rfl (by omega) ?_ | refine s_leq rfl rfl ?_ | refine s_gtrT rfl rfl (by omega) ?_ | refine s_gtrF rfl rfl (by omega) ?_ | refine s_gtr rfl rfl ?_ | refine s_geqT rfl rfl (by omega) ?_ | refine s_geqF rfl rfl (by omega) ?_ | refine s_geq rfl rfl ?_ | refine s_add rfl rfl ⟨by omega, by omega⟩ ?_ | refine s_sub rfl rfl ⟨by omega, by omega⟩ ?_) | (refine isCall ?_; first | refine s_lenI sl_ints rfl (by assumption) ?_ | refine s_lenR sl_rows rfl (by assumption) ?_ | refine s_len sl_ints rfl ?_ | refine s_len sl_rows rfl ?_) | (refine isIA ?_; refine s_ixI sl_ints ty_int rfl rfl rfl (by assumption) (by omega) ?_; intro _) | (refine isPick ?_; first | refine s_pickt rfl rfl ?_ | refine s_pickf rfl rfl ?_) | (refine isLD ?_; first | refine s_ldA ty_int rfl (by assumption) rfl ?_ | refine s_ldA ty_ints rfl (by assumption) rfl ?_) | refine s_extract rfl rfl ?_ | refine s_not rfl ?_) | (refine isC ?_; first | refine c_sr ?_ | refine c_th ?_ | refine c_seq ?_ | refine c_region ?_ | refine c_ift rfl ?_ | refine c_iff rfl ?_ | refine c_block ?_ | refine c_ret ?_ | refine c_exit ?_ | refine c_skip ?_) | (first | refine l_th ?_ | refine th_norm ?_ | refine ib_norm ?_ | refine l_nil ?_ | refine th_ret ?_ | refine ib_ret ?_ | refine ib_exit ?_ | refine th_exit ?_ | refine ib_pass rfl ?_))
  refine c_ifd rfl (fun h => ?_) (fun h => ?_)
  · have hi' : i < m := by omega
    have hil : i < has.length := by omega
    have hd1 := getD_m1 hil
    by_cases hm1 : has.getD i 0 = -1
    · have hst := holdN_m1 (has := has) (i := i) (by omega)
      repeat (first | (refine isO ?_; first | refine s_move ?_ | refine s_assign ?_ | (refine isG ?_; first | refine g_yes rfl rfl ?_ | refine g_no rfl rfl rfl ?_ | refine g_un rfl rfl ?_) | (refine isBin ?_; first | refine s_inc rfl (by omega) ?_ | refine s_lssT rfl rfl (by omega) ?_ | refine s_lssF rfl rfl (by omega) ?_ | refine s_lss rfl rfl ?_ | refine s_eqlT rfl rfl (by omega) ?_ | refine s_eqlF rfl rfl (by omega) ?_ | refine s_eql rfl rfl ?_ | refine s_neqT rfl rfl (by omega) ?_ | refine s_neqF rfl rfl (by omega) ?_ | refine s_neq rfl rfl ?_ | refine s_leqT rfl rfl (by omega) ?_ | refine s_leqF rfl rfl (by omega) ?_ | refine s_leq rfl rfl ?_ | refine s_gtrT rfl rfl (by omega) ?_ | refine s_gtrF rfl rfl (by omega) ?_ | refine s_gtr rfl rfl ?_ | refine s_geqT rfl rfl (by omega) ?_ | refine s_geqF rfl rfl (by omega) ?_ | refine s_geq rfl rfl ?_ | refine s_add rfl rfl ⟨by omega, by omega⟩ ?_ | refine s_sub rfl rfl ⟨by omega, by omega⟩ ?_) | (refine isCall ?_; first | refine s_lenI sl_ints rfl (by assumption) ?_ | refine s_lenR sl_rows rfl (by assumption) ?_ | refine s_len sl_ints rfl ?_ | refine s_len sl_rows rfl ?_) | (refine isIA ?_; refine s_ixI sl_ints ty_int rfl rfl rfl (by assumption) (by omega) ?_; intro _) | (refine isPick ?_; first | refine s_pickt rfl rfl ?_ | refine s_pickf rfl rfl ?_) | (refine isLD ?_; first | refine s_ldA ty_int rfl (by assumption) rfl ?_ | refine s_ldA ty_ints rfl (by assumption) rfl ?_) | refine s_extract rfl rfl ?_ | refine s_not rfl ?_) | (refine isC ?_; first | refine c_sr ?_ | refine c_th ?_ | refine c_seq ?_ | refine c_region ?_ | refine c_ift rfl ?_ | refine c_iff rfl ?_ | refine c_block ?_ | refine c_ret ?_ | refine c_exit ?_ | refine c_skip ?_) | (first | refine l_th ?_ | refine th_norm ?_ | refine ib_norm ?_ | refine l_nil ?_ | refine th_ret ?_ | refine ib_ret ?_ | refine ib_exit ?_ | refine th_exit ?_ | refine ib_pass rfl ?_))
      exact loop_end (i + 1) (by (repeat (first | exact agree_refl _ _ | refine agree_upd rfl ?_ | refine agree_ext rfl ?_ | refine agree_mask rfl ?_))) ⟨rfl, trivial⟩ ⟨hi', by rw [hst]; exact hA7, hgb, hx7⟩ (by omega)
    · refine Exists.elim ((hF.ok i hi').resolve_left (by omega)) fun q hq => ?_
      have hq1 := hq.1
      have hq2 := hq.2.1
      have hq0 : has.getD i 0 = (q : Int) := by omega
      have hst := holdN_at hq2
      have hq8 : q < 8 := by omega
      repeat (first | (refine isO ?_; first | refine s_move ?_ | refine s_assign ?_ | (refine isG ?_; first | refine g_yes rfl rfl ?_ | refine g_no rfl rfl rfl ?_ | refine g_un rfl rfl ?_) | (refine isBin ?_; first | refine s_inc rfl (by omega) ?_ | refine s_lssT rfl rfl (by omega) ?_ | refine s_lssF rfl rfl (by omega) ?_ | refine s_lss rfl rfl ?_ | refine s_eqlT rfl rfl (by omega) ?_ | refine s_eqlF rfl rfl (by omega) ?_ | refine s_eql rfl rfl ?_ | refine s_neqT rfl rfl (by omega) ?_ | refine s_neqF rfl rfl (by omega) ?_ | refine s_neq rfl rfl ?_ | refine s_leqT rfl rfl (by omega) ?_ | refine s_leqF rfl rfl (by omega) ?_ | refine s_leq rfl rfl ?_ | refine s_gtrT rfl rfl (by omega) ?_ | refine s_gtrF rfl rfl (by omega) ?_ | refine s_gtr rfl rfl ?_ | refine s_geqT rfl rfl (by omega) ?_ | refine s_geqF rfl rfl (by omega) ?_ | refine s_geq rfl rfl ?_ | refine s_add rfl rfl ⟨by omega, by omega⟩ ?_ | refine s_sub rfl rfl ⟨by omega, by omega⟩ ?_) | (refine isCall ?_; first | refine s_lenI sl_ints rfl (by assumption) ?_ | refine s_lenR sl_rows rfl (by assumption) ?_ | refine s_len sl_ints rfl ?_ | refine s_len sl_rows rfl ?_) | (refine isIA ?_; refine s_ixI sl_ints ty_int rfl rfl rfl (by assumption) (by omega) ?_; intro _) | (refine isPick ?_; first | refine s_pickt rfl rfl ?_ | refine s_pickf rfl rfl ?_) | (refine isLD ?_; first | refine s_ldA ty_int rfl (by assumption) rfl ?_ | refine s_ldA ty_ints rfl (by assumption) rfl ?_) | refine s_extract rfl rfl ?_ | refine s_not rfl ?_) | (refine isC ?_; first | refine c_sr ?_ | refine c_th ?_ | refine c_seq ?_ | refine c_region ?_ | refine c_ift rfl ?_ | refine c_iff rfl ?_ | refine c_block ?_ | refine c_ret ?_ | refine c_exit ?_ | refine c_skip ?_) | (first | refine l_th ?_ | refine th_norm ?_ | refine ib_norm ?_ | refine l_nil ?_ | refine th_ret ?_ | refine ib_ret ?_ | refine ib_exit ?_ | refine th_exit ?_ | refine ib_pass rfl ?_))
      refine s_nil rfl ?_
      refine s_faN u_search rfl tyn_a8 rfl ?_
      refine s_iaO (n := q) u_a8 ty_int rfl (vint hq0) hq8 ?_
      refine s_stA (n := 11 + q) (u := .int .i64 ((i + 1 : Nat) : Int)) ty_int rfl rfl rfl hA7 (by rw [SE_len]; omega) ?_
      intro w8 hA8 hg8
      rw [SE_set_ho hq8, ← hst] at hA8
      repeat (first | (refine isO ?_; first | refine s_move ?_ | refine s_assign ?_ | (refine isG ?_; first | refine g_yes rfl rfl ?_ | refine g_no rfl rfl rfl ?_ | refine g_un rfl rfl ?_) | (refine isBin ?_; first | refine s_inc rfl (by omega) ?_ | refine s_lssT rfl rfl (by omega) ?_ | refine s_lssF rfl rfl (by omega) ?_ | refine s_lss rfl rfl ?_ | refine s_eqlT rfl rfl (by omega) ?_ | refine s_eqlF rfl rfl (by omega) ?_ | refine s_eql rfl rfl ?_ | refine s_neqT rfl rfl (by omega) ?_ | refine s_neqF rfl rfl (by omega) ?_ | refine s_neq rfl rfl ?_ | refine s_leqT rfl rfl (by omega) ?_ | refine s_leqF rfl rfl (by omega) ?_ | refine s_leq rfl rfl ?_ | refine s_gtrT rfl rfl (by omega) ?_ | refine s_gtrF rfl rfl (by omega) ?_ | refine s_gtr rfl rfl ?_ | refine s_geqT rfl rfl (by omega) ?_ | refine s_geqF rfl rfl (by omega) ?_ | refine s_geq rfl rfl ?_ | refine s_add rfl rfl ⟨by omega, by omega⟩ ?_ | refine s_sub rfl rfl ⟨by omega, by omega⟩ ?_) | (refine isCall ?_; first | refine s_lenI sl_ints rfl (by assumption) ?_ | refine s_lenR sl_rows rfl (by assumption) ?_ | refine s_len sl_ints rfl ?_ | refine s_len sl_rows rfl ?_) | (refine isIA ?_; refine s_ixI sl_ints ty_int rfl rfl rfl (by assumption) (by omega) ?_; intro _) | (refine isPick ?_; first | refine s_pickt rfl rfl ?_ | refine s_pickf rfl rfl ?_) | (refine isLD ?_; first | refine s_ldA ty_int rfl (by assumption) rfl ?_ | refine s_ldA ty_ints rfl (by assumption) rfl ?_) | refine s_extract rfl rfl ?_ | refine s_not rfl ?_) | (refine isC ?_; first | refine c_sr ?_ | refine c_th ?_ | refine c_seq ?_ | refine c_region ?_ | refine c_ift rfl ?_ | refine c_iff rfl ?_ | refine c_block ?_ | refine c_ret ?_ | refine c_exit ?_ | refine c_skip ?_) | (first | refine l_th ?_ | refine th_norm ?_ | refine ib_norm ?_ | refine l_nil ?_ | refine th_ret ?_ | refine ib_ret ?_ | refine ib_exit ?_ | refine th_exit ?_ | refine ib_pass rfl ?_))
      exact loop_end (i + 1) (by (repeat (first | exact agree_refl _ _ | refine agree_upd rfl ?_ | refine agree_ext rfl ?_ | refine agree_mask rfl ?_))) ⟨rfl, trivial⟩ ⟨hi', hA8, gb_trans hgb hg8, hx7.store hg8 hbb⟩ (by omega)
  · have n5b : b5 ≠ b := by omega
    have n5h : b5 ≠ hb := by omega
    have him : i = has.length := by omega
    subst him
    repeat (first | (refine isO ?_; first | refine s_move ?_ | refine s_assign ?_ | (refine isG ?_; first | refine g_yes rfl rfl ?_ | refine g_no rfl rfl rfl ?_ | refine g_un rfl rfl ?_) | (refine isBin ?_; first | refine s_inc rfl (by omega) ?_ | refine s_lssT rfl rfl (by omega) ?_ | refine s_lssF rfl rfl (by omega) ?_ | refine s_lss rfl rfl ?_ | refine s_eqlT rfl rfl (by omega) ?_ | refine s_eqlF rfl rfl (by omega) ?_ | refine s_eql rfl rfl ?_ | refine s_neqT rfl rfl (by omega) ?_ | refine s_neqF rfl rfl (by omega) ?_ | refine s_neq rfl rfl ?_ | refine s_leqT rfl rfl (by omega) ?_ | refine s_leqF rfl rfl (by omega) ?_ | refine s_leq rfl rfl ?_ | refine s_gtrT rfl rfl (by omega) ?_ | refine s_gtrF rfl rfl (by omega) ?_ | refine s_gtr rfl rfl ?_ | refine s_geqT rfl rfl (by omega) ?_ | refine s_geqF rfl rfl (by omega) ?_ | refine s_geq rfl rfl ?_ | refine s_add rfl rfl ⟨by omega, by omega⟩ ?_ | refine s_sub rfl rfl ⟨by omega, by omega⟩ ?_) | (refine isCall ?_; first | refine s_lenI sl_ints rfl (by assumption) ?_ | refine s_lenR sl_rows rfl (by assumption) ?_ | refine s_len sl_ints rfl ?_ | refine s_len sl_rows rfl ?_) | (refine isIA ?_; refine s_ixI sl_ints ty_int rfl rfl rfl (by assumption) (by omega) ?_; intro _) | (refine isPick ?_; first | refine s_pickt rfl rfl ?_ | refine s_pickf rfl rfl ?_) | (refine isLD ?_; first | refine s_ldA ty_int rfl (by assumption) rfl ?_ | refine s_ldA ty_ints rfl (by assumption) rfl ?_) | refine s_extract rfl rfl ?_ | refine s_not rfl ?_) | (refine isC ?_; first | refine c_sr ?_ | refine c_th ?_ | refine c_seq ?_ | refine c_region ?_ | refine c_ift rfl ?_ | refine c_iff rfl ?_ | refine c_block ?_ | refine c_ret ?_ | refine c_exit ?_ | refine c_skip ?_) | (first | refine l_th ?_ | refine th_norm ?_ | refine ib_norm ?_ | refine l_nil ?_ | refine th_ret ?_ | refine ib_ret ?_ | refine ib_exit ?_ | refine th_exit ?_ | refine ib_pass rfl ?_))
    exact ret2 rfl rfl rfl ⟨b, hb, sv b5 1 1, rfl, hA7, hO6.grown hgb (fun e => by cases e; omega), hL6.kept hgb (.inr (fun e => n5b (Option.some.inj e))), ⟨fun e => n5h (Option.some.inj e), fun e => n5b (Option.some.inj e), by omega⟩, hbb, by omega, hx7⟩
#print axioms begin_ct
end Go.Proofs.Ytkhnohnkcdcajaa.Sal
