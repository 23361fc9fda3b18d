/- Texts that YtifbgpkjbciblaaDoorFWO leans on, laid together: BO3 LWO. -/
import Derived.Test.YtifbgpkjbciblaaDoorMFWO6
section
/- What a Book is told, where what is told later was laid earlier: the blocks that are taken as a set. -/
set_option maxRecDepth 100000
namespace Go.Proofs.YtifbgpkjbciblaaDoor.Sal
open Go.RowKit
set_option linter.all false
def BkU (lo : Nat) (U : Nat → Prop) (wB w : World) (bk M : Nat) : Prop :=
  ∃ (ns nl : List Nat) (L : Nat → Value) (ln : Nat → Nat) (vi vl : Value), Bk wB w bk M ns nl L vi vl ∧ (∀ q ∈ ns, ∃ xs, Wd wB 3 1 (L q) (ln q) xs) ∧ (∀ q ∈ nl, ∃ xs, Wd wB 30 1 (L q) (ln q) xs) ∧ ns.length ≤ M ∧ nl.length ≤ M ∧
    (∀ q, (q ∈ ns ∨ q ∈ nl) → q ≤ M ∧ ln q ≤ 100000 ∧ ∀ b, (L q).ownBlock = some b → lo ≤ b ∧ U b) ∧ ns.Nodup ∧ nl.Nodup ∧ (∀ p ∈ ns, ∀ q ∈ nl, p ≠ q) ∧
    ∀ p q, (p ∈ ns ∨ p ∈ nl) → (q ∈ ns ∨ q ∈ nl) → p ≠ q → ∀ b, (L p).ownBlock = some b → (L q).ownBlock ≠ some b
theorem BkQ.toU {lo : Nat} {wB w : World} {bk M top : Nat} (h : BkQ lo wB w bk M top) : BkU lo (fun b => b < top) wB w bk M := h
theorem BkU.toQ {lo : Nat} {U : Nat → Prop} {wB w : World} {bk M top : Nat} (h : BkU lo U wB w bk M) (hU : ∀ b, U b → b < top) : BkQ lo wB w bk M top := by
  obtain ⟨ns, nl, L, ln, vi, vl, hB, h1, h2, h3, h4, h5, h6⟩ := h
  exact ⟨ns, nl, L, ln, vi, vl, hB, h1, h2, h3, h4, fun q hq => ⟨(h5 q hq).1, (h5 q hq).2.1, fun b hb => ⟨((h5 q hq).2.2 b hb).1, hU b ((h5 q hq).2.2 b hb).2⟩⟩, h6⟩
attribute [local irreducible] Go.Code.wpIn Go.wpListIn Ct Ints Rows Sl At Rw WJ
attribute [local irreducible] Wd
theorem bqIntsU_ct (lo : Nat) (U : Nat → Prop) (wk wB w : World) (bk M : Nat) (v : Value) (l : List Int) (h : BkU lo U wB w bk M) (hv : OwI wk wB v l) (hlo : lo ≤ wk.heap.size) (hd : ∀ b, v.ownBlock = some b → ¬ U b) (hl : l.length ≤ 100000) (hM : M ≤ 50000) :
    Ct Tryd.prog 13 #[.pointer (some ⟨bk, 0, none⟩), v] w fun u w' => u = .tuple #[] ∧ BkU lo (fun b => U b ∨ v.ownBlock = some b) wB w' bk (M + 1) := by
  obtain ⟨ns, nl, L, ln, vi, vl, hB, h1, h2, h3, h4, h5, h6, h7, h8, h9⟩ := h
  obtain ⟨a, c, hf⟩ := hv.1.slen
  have eo : setL L M [] v (M + 1) = v := setL_out L M [] v
  have eN : setN ln M 0 (fun _ => 0) l.length (M + 1) = l.length := setN_out ln M 0 _ _
  have hB' : Bk wB w bk M ns nl (setL L M [] v) vi vl := hB.congr fun q hq => (setL_old (h5 q hq).1).symm
  have hct := bInts_ct wB bk M ns nl (setL L M [] v) vi vl a l.length c w hB' (by rw [eo]; exact hf) (by omega) (by omega)
  rw [← hf] at hct
  refine hct.mono fun u w' ⟨hu, vi', hB2⟩ => ?_
  have cls : ∀ q, (q ∈ ns ++ [M + 1] ∨ q ∈ nl) → ((q ∈ ns ∨ q ∈ nl) ∧ setL L M [] v q = L q) ∨ (q = M + 1 ∧ setL L M [] v q = v) := fun q hq => by
    simp only [List.mem_append, List.mem_singleton] at hq
    rcases hq with (hq | hq) | hq
    · exact .inl ⟨.inl hq, setL_old (h5 q (.inl hq)).1⟩
    · subst hq; exact .inr ⟨rfl, eo⟩
    · exact .inl ⟨.inr hq, setL_old (h5 q (.inr hq)).1⟩
  refine ⟨hu, _, _, setL L M [] v, setN ln M 0 (fun _ => 0) l.length, vi', vl, hB2, fun q hq => ?_, fun q hq => ?_, ?_, by omega, fun q hq => ?_, ?_, h7, fun p hp q hq e => ?_, fun p q hp hq hpq b hb => ?_⟩
  · rcases List.mem_append.1 hq with hq | hq
    · have h10 := (h5 q (.inl hq)).1
      rw [setL_old h10, setN_old h10]; exact h1 q hq
    · simp at hq; subst hq
      rw [eo, eN]
      exact ⟨_, hv.1⟩
  · have h10 := (h5 q (.inr hq)).1
    rw [setL_old h10, setN_old h10]; exact h2 q hq
  · rw [List.length_append, List.length_singleton]; omega
  · rcases cls q hq with ⟨hq, e⟩ | ⟨rfl, e⟩
    · have h10 := h5 q hq
      rw [e, setN_old h10.1]
      exact ⟨by omega, h10.2.1, fun b hb => ⟨(h10.2.2 b hb).1, .inl (h10.2.2 b hb).2⟩⟩
    · rw [e, eN]
      exact ⟨Nat.le_refl _, hl, fun b hb => ⟨by have := hv.2 b hb; omega, .inr hb⟩⟩
  · refine List.nodup_append.2 ⟨h6, by simp, fun p hp q hq e => ?_⟩
    subst e
    simp at hq
    have := (h5 p (.inl hp)).1; omega
  · subst e
    rcases List.mem_append.1 hp with hp | hp
    · exact h8 p hp p hq rfl
    · simp at hp; have := (h5 p (.inr hq)).1; omega
  · intro hb2
    rcases cls p hp with ⟨hp', e⟩ | ⟨hpe, e⟩ <;> rcases cls q hq with ⟨hq', e'⟩ | ⟨hqe, e'⟩ <;> rw [e] at hb <;> rw [e'] at hb2
    · exact h9 p q hp' hq' hpq b hb hb2
    · exact hd b hb2 ((h5 p hp').2.2 b hb).2
    · exact hd b hb ((h5 q hq').2.2 b hb2).2
    · exact hpq (by omega)
end Go.Proofs.YtifbgpkjbciblaaDoor.Sal
end
section
/- The walk of salesroomlaw10.WeightsOf. -/
set_option maxRecDepth 100000
namespace Go.Proofs.YtifbgpkjbciblaaDoor.Sal
open Go.RowKit
attribute [local irreducible] Go.Code.wpIn Go.wpListIn Ct Ints Rows Sl At Rw WJ
attribute [local irreducible] Wd
set_option linter.all false
theorem ok_LSize : CallOK Tryd.prog 4 := callOK Tryd.func4 (by kernel_rfl) rfl
theorem in_book : ∃ ti, Tryd.prog.info? 45 = some ti ∧ ti.zero = some (.agg (bkc 0 nilV nilV).toArray) := by
  have h : (Tryd.prog.info? 45).map (·.zero) = some (some (.agg (bkc 0 nilV nilV).toArray)) := by kernel_rfl
  cases hi : Tryd.prog.info? 45 with
  | none => rw [hi] at h; cases h
  | some ti => rw [hi] at h; exact ⟨ti, rfl, by simpa using h⟩
theorem OwI.ints {w0 w : World} {v : Value} {l : List Int} (h : OwI w0 w v l) (hl : l.length ≤ 1000) : Ints w v l := Sl.ints (Wd.sl h.1 (by omega))
set_option maxHeartbeats 8000000 in
theorem WeightsOf_ct (u : Value) (g : List (List Int)) (n : Int) (w : World) (hg : Rows w u g) (hn : In64 n) :
    Ct Tryd.prog 3 #[.agg #[u, .int .i64 n]] w fun x w' => x = .bool true ∧ Ex w w' := by
  refine Exists.elim in_book fun ti hti => ?_
  refine enter (N := 93) (vs := [.agg #[u, .int .i64 n]]) Tryd.func3 rfl rfl rfl ?_
  repeat ((refine isC ?_; refine c_sr ?_))
  refine s_box (cs := [u, .int .i64 n]) rfl rfl ?_
  intro b0 w0 hb0 hZ hx0 hs0
  have hg0 := hg.ex hx0
  have hx00 := Ex.refl w0
  repeat (first | (refine isO ?_; refine s_assign ?_) | (refine isO ?_; first | refine s_fa Tryd.underlying24 rfl ty_rows rfl ?_ | refine s_ldO ty_rows (by assumption) (by assumption) rfl rfl ?_) | (refine isC ?_; first | refine c_sr ?_ | refine c_seq ?_) | (refine l_th ?_))
  refine s_call ok_LSize rfl (IntListsSizeW_ct u g w0 hg0) ?_
  rintro v w1 ⟨⟨sz, rfl, hsz⟩, hx1⟩
  have hx01 := hx1
  by_cases h1 : (3000 : Int) < sz
  · repeat (first | (refine isO ?_; first | refine s_assign ?_ | (refine isBin ?_; refine s_gtrT rfl rfl (by omega) ?_)) | (refine isC ?_; first | refine c_sr ?_ | refine c_ift rfl ?_ | refine c_ret ?_) | (first | refine l_th ?_ | refine th_ret ?_))
    exact ret1 rfl rfl ⟨rfl, hx0.trans hx1⟩
  have hsz' := hsz (by omega)
  repeat (first | (refine isO ?_; (refine isBin ?_; refine s_gtrF rfl rfl (by omega) ?_)) | (refine isO ?_; first | refine s_fa Tryd.underlying24 rfl ty_rows rfl ?_ | refine s_ldO ty_rows (by assumption) (by assumption) rfl rfl ?_) | (refine isC ?_; first | refine c_sr ?_ | refine c_th ?_ | refine c_iff rfl ?_) | (refine l_th ?_))
  refine s_call ok_TwinIntLists rfl (TwinIntListsW_ct u g w1 (hg0.ex hx1) (by omega) (fun i hi => by have := hsz'.2 i hi; omega)) ?_
  rintro v w2 ⟨bg, cg, rb, rc, rfl, hbg, hrb, hTg, hx2⟩
  have hx02 := hx01.trans hx2
  have hgr2 := hTg.rows
  repeat (first | (refine isO ?_; first | refine s_move ?_ | refine s_assign ?_) | (refine isO ?_; first | refine s_fa Tryd.underlying24 rfl ty_int rfl ?_ | refine s_ldO ty_int (by assumption) (by assumption) rfl rfl ?_) | (refine isC ?_; refine c_sr ?_) | (refine l_th ?_))
  refine s_call ok_Best rfl (Best_all _ g n w2 hgr2) ?_
  rintro v w3 ⟨rfl, hx3⟩
  have hx03 := hx02.trans hx3
  have hTg3 := hTg.ex hx3
  repeat (first | (refine isO ?_; first | refine s_move ?_ | refine s_assign ?_ | refine s_extract rfl rfl ?_) | (refine isO ?_; first | refine s_fa Tryd.underlying24 rfl ty_rows rfl ?_ | refine s_fa Tryd.underlying24 rfl ty_int rfl ?_ | refine s_ldO ty_rows (by assumption) (by assumption) rfl rfl ?_ | refine s_ldO ty_int (by assumption) (by assumption) rfl rfl ?_) | (refine isC ?_; refine c_sr ?_) | (refine l_th ?_))
  refine s_call ok_Best10 rfl (Best10_all u g n w3 (hg0.ex hx03)) ?_
  rintro v w4 ⟨rfl, hx4⟩
  have hx04 := hx03.trans hx4
  have hTg4 := hTg3.ex hx4
  have hgr4 := hTg4.rows
  repeat (first | (refine isO ?_; first | refine s_move ?_ | refine s_assign ?_ | refine s_extract rfl rfl ?_) | (refine isO ?_; first | refine s_fa Tryd.underlying24 rfl ty_int rfl ?_ | refine s_ldO ty_int (by assumption) (by assumption) rfl rfl ?_) | (refine isC ?_; refine c_sr ?_) | (refine l_th ?_))
  refine s_call ok_Proved rfl (Proved_all _ g n w4 hgr4) ?_
  rintro v w5 ⟨vc, vd, rfl, hOc, hOd, hcd, hc8, hd8, hx5⟩
  have hx05 := hx04.trans hx5
  have hTg5 := hTg4.ex hx5
  repeat (first | (refine isO ?_; first | refine s_move ?_ | refine s_assign ?_ | refine s_extract rfl rfl ?_) | (refine isO ?_; first | refine s_fa Tryd.underlying24 rfl ty_rows rfl ?_ | refine s_fa Tryd.underlying24 rfl ty_int rfl ?_ | refine s_ldO ty_rows (by assumption) (by assumption) rfl rfl ?_ | refine s_ldO ty_int (by assumption) (by assumption) rfl rfl ?_) | (refine isC ?_; refine c_sr ?_) | (refine l_th ?_))
  refine s_call ok_Proved10 rfl (Proved10_all u g n w5 (hg0.ex hx05)) ?_
  rintro v w7 ⟨vi', vj, rfl, hIi, hIj, hx57⟩
  have hx07 := hx05.trans hx57
  have hTg7 := hTg5.ex hx57
  have hIc7 := (hOc.ints (by omega)).ex hx57
  have hId7 := (hOd.ints (by omega)).ex hx57
  repeat (first | (refine isO ?_; first | refine s_move ?_ | refine s_assign ?_ | (refine isG ?_; refine g_yes rfl rfl ?_) | (refine isBin ?_; refine s_neqF rfl rfl (by omega) ?_) | (refine isPick ?_; refine s_pickf rfl rfl ?_) | refine s_extract rfl rfl ?_) | (refine isC ?_; first | refine c_sr ?_ | refine c_seq ?_) | (refine l_th ?_))
  refine s_call ok_SameInts rfl (SameInts_ct vc vi' _ _ w7 hIc7 hIi) ?_
  rintro x w8 ⟨rfl, hx8⟩
  have hx08 := hx07.trans hx8
  refine s_re (v' := .bool true) (vbool (by simp)) ?_
  repeat ((refine isO ?_; first | refine s_move ?_ | (refine isG ?_; refine g_yes rfl rfl ?_) | (refine isPick ?_; refine s_pickf rfl rfl ?_) | refine s_not rfl ?_))
  refine s_call ok_SameInts rfl (SameInts_ct vd vj _ _ w8 (hId7.ex hx8) (hIj.ex hx8)) ?_
  rintro x w9 ⟨rfl, hx9⟩
  have hx09 := hx08.trans hx9
  refine s_re (v' := .bool true) (vbool (by simp)) ?_
  repeat (first | (refine isO ?_; first | refine s_move ?_ | (refine isG ?_; refine g_yes rfl rfl ?_) | (refine isPick ?_; refine s_pickf rfl rfl ?_) | refine s_not rfl ?_) | (refine isO ?_; first | refine s_fa Tryd.underlying24 rfl ty_rows rfl ?_ | refine s_ldO ty_rows (by assumption) (by assumption) rfl rfl ?_))
  refine s_call ok_LeftIntLists rfl (LeftIntLists_ct bg cg rb rc g u w9 (hTg7.ex (hx8.trans hx9)) (hg0.ex hx09)) ?_
  rintro x yb ⟨rfl, hya⟩
  have hx0b := hx09.trans hya
  have hx7b := (hx8.trans hx9).trans hya
  have z1 := hx1.size
  have z2 := hx2.size
  have z3 := hx3.size
  have z4 := hx4.size
  have z5 := hx5.size
  have z57 := hx57.size
  have z7b := hx7b.size
  have hlt2 := hTg.wd.lt
  have hltr : ∀ (j : Nat) x b, ((List.range g.length).map (fun i => sv (rb i) (g.getD i []).length (rc i)))[j]? = some x → Value.ownBlock x = some b → b < w2.heap.size := fun j x b hu hb => ((hTg.ow (w0 := w1) hbg hrb).row j x hu).1.lt b hb
  have hOwg := (hTg7.ow (w0 := w1) hbg hrb).ex hx7b
  have hlenr : ∀ j, (g.getD j []).length ≤ 100000 := fun j => by
    by_cases hj : j < g.length
    · have := hsz'.2 j hj; omega
    · rw [List.getD_eq_getElem?_getD, List.getElem?_eq_none (by omega)]; simp
  have hOwc := (hOc.ex hx57).ex hx7b
  have hOwd := (hOd.ex hx57).ex hx7b
  have hltc := hOc.1.lt
  have hltd := hOd.1.lt
  have hgl : ((List.range g.length).map (fun i => sv (rb i) (g.getD i []).length (rc i))).length = g.length := by simp
  repeat (first | (refine isO ?_; first | (refine isG ?_; refine g_yes rfl rfl ?_) | (refine isPick ?_; refine s_pickf rfl rfl ?_) | refine s_not rfl ?_) | (refine isC ?_; first | refine c_sr ?_ | refine c_th ?_ | refine c_iff rfl ?_) | (refine l_th ?_))
  refine s_alloc (cs := bkc 0 nilV nilV) hti.1 hti.2 rfl ?_
  intro bk k0 hbk hAk hxk hsk
  have hQ0 : BkQ w0.heap.size yb k0 bk 0 w1.heap.size := BkQ.init hxk (by omega) hAk
  repeat (first | (refine isO ?_; refine s_move ?_) | (refine isC ?_; refine c_sr ?_) | (refine l_th ?_))
  refine s_call ok_bIntLists rfl (bqIntLists_ct w0.heap.size w1 yb k0 bk 0 w1.heap.size w2.heap.size _ _ g hQ0 hOwg (Nat.le_refl _) z1 z2 hltr hlt2 (by omega) hlenr (by omega)) ?_
  rintro x k1 ⟨rfl, hQ1⟩
  repeat (first | (refine isO ?_; refine s_move ?_) | (refine isC ?_; refine c_sr ?_) | (refine l_th ?_))
  refine s_call ok_bInts rfl (bqIntsU_ct w0.heap.size _ w4 yb k1 bk _ vc _ hQ1.toU hOwc (by omega) (fun b hb hU => by have := hOc.2 b hb; omega) (by omega) (by omega)) ?_
  rintro x k2 ⟨rfl, hQ2⟩
  repeat (first | (refine isO ?_; refine s_move ?_) | (refine isC ?_; refine c_sr ?_) | (refine l_th ?_))
  refine s_call ok_bInts rfl (bqIntsU_ct w0.heap.size _ w4 yb k2 bk _ vd _ hQ2 hOwd (by omega) (fun b hb hU => by
    have := hOd.2 b hb
    rcases hU with hU | hU
    · omega
    · exact hcd b hU hb) (by omega) (by omega)) ?_
  rintro x k3 ⟨rfl, hQ3⟩
  have hQ4 : BkQ w0.heap.size yb k3 bk _ w5.heap.size := hQ3.toQ (fun b hU => by
    rcases hU with (hU | hU) | hU
    · omega
    · exact hltc b hU
    · exact hltd b hU)
  repeat (first | (refine isC ?_; refine c_sr ?_) | (refine l_th ?_))
  refine s_call ok_Apart rfl (bqApart_ct w0.heap.size w0 yb k3 bk _ w5.heap.size hQ4 hx0b (Nat.le_refl _) (by omega) (by omega)) ?_
  rintro x k6 ⟨rfl, hxk6⟩
  repeat (first | (refine isO ?_; refine s_assign ?_) | (refine isC ?_; refine c_ret ?_) | (refine l_th ?_))
  exact ret1 rfl rfl ⟨rfl, hx0.trans hxk6⟩
end Go.Proofs.YtifbgpkjbciblaaDoor.Sal
end
