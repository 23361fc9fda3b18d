/- Texts that YtifbgpkjbciblaaF134 leans on, laid together: TW3 V15 V16 V17 V18 V21 V23 L134. -/
import Derived.Test.YtifbgpkjbciblaaMF1346
import Derived.Test.YtifbgpkjbciblaaMF1343
import Derived.Test.YtifbgpkjbciblaaMF1347
import Derived.Test.YtifbgpkjbciblaaMF1345
section
/- TW3: twins, and the room behind them. -/
set_option maxRecDepth 100000
namespace Go.Proofs.Ytifbgpkjbciblaa.Sal
open Go.RowKit
set_option linter.all false
theorem Rw.posL {w : World} {E : TypeId} {v : Value} {vs : List Value} (h : Rw w E v vs) (hn : 0 < vs.length) : ∃ b c sp, v = sv b vs.length c ∧ At w b E (vs ++ sp) ∧ vs.length ≤ c ∧ c = vs.length + sp.length ∧ c ≤ 9223372036854775807 := by
  obtain ⟨h1, h2⟩ := h
  rcases h2 with ⟨hv, h0⟩ | ⟨g, cap, cur, hv, _, hh, hc, hm, hcs, ht⟩
  · omega
  · rw [Nat.mul_one] at ht hcs
    have e : vs ++ cur.toList.drop vs.length = cur.toList := by
      conv => lhs; lhs; rw [← ht]
      exact List.take_append_drop _ _
    refine ⟨g, cap, cur.toList.drop vs.length, hv, ?_, hc, ?_, by simpa [maxLen] using hm⟩
    · unfold At; rw [hh, e]
    · have h3 : (vs ++ cur.toList.drop vs.length).length = cur.toList.length := congrArg List.length e
      rw [List.length_append] at h3
      have h4 : cur.toList.length = cur.size := Array.length_toList
      omega
/-- A twin: one number more stands behind it, in its room. -/
def TwI (w : World) (b c : Nat) (l : List Int) : Prop := ∃ sp, At w b 3 (l.map (Value.int .i64) ++ .int .i64 77 :: sp) ∧ l.length < c ∧ c = l.length + 1 + sp.length ∧ c ≤ 9223372036854775807 ∧ l.length ≤ 10000
theorem TwI.ex {w w' : World} {b c : Nat} {l : List Int} (h : TwI w b c l) (hx : Ex w w') : TwI w' b c l := let ⟨sp, h1, h2⟩ := h; ⟨sp, h1.ex hx, h2⟩
theorem TwI.grown {w w' : World} {b c : Nat} {l : List Int} {o : Option Nat} (h : TwI w b c l) (hg : w.grownBy w' o) (hne : o ≠ some b) : TwI w' b c l := let ⟨sp, h1, h2⟩ := h; ⟨sp, h1.grown hg hne, h2⟩
theorem TwI.lt {w : World} {b c : Nat} {l : List Int} (h : TwI w b c l) : b < w.heap.size := let ⟨sp, h1, h2⟩ := h; h1.lt
theorem TwI.ints {w : World} {b c : Nat} {l : List Int} (h : TwI w b c l) : Ints w (sv b l.length c) l := by
  obtain ⟨sp, hA, hc, _, _, hm⟩ := h
  have := hA.sl (n := l.length) (c := c) (by simp) (by omega) (by omega)
  rwa [List.take_left' (by simp)] at this
theorem TwI.wd {w : World} {b c : Nat} {l : List Int} (h : TwI w b c l) : Wd w 3 1 (sv b l.length c) l.length (l.map (Value.int .i64)) := by
  obtain ⟨sp, hA, hc, he, h63, hm⟩ := h
  exact ⟨by simp, .inr ⟨b, c, .int .i64 77 :: sp, rfl, hA, by omega, h63, by simp; omega⟩⟩
/-- A twin of lists. -/
def TwL (w : World) (b c : Nat) (rb rc : Nat → Nat) (g : List (List Int)) : Prop :=
  (∃ eb sp, At w b 22 ((List.range g.length).map (fun i => sv (rb i) (g.getD i []).length (rc i)) ++ sv eb 1 1 :: sp) ∧ At w eb 3 [.int .i64 77] ∧ c = g.length + 1 + sp.length) ∧ g.length < c ∧ c ≤ 9223372036854775807 ∧ g.length ≤ 10000 ∧ (∀ i, i < g.length → TwI w (rb i) (rc i) (g.getD i []) ∧ rb i ≠ b) ∧ ∀ i j, i < j → j < g.length → rb i < rb j
theorem TwL.ex {w w' : World} {b c : Nat} {rb rc : Nat → Nat} {g : List (List Int)} (h : TwL w b c rb rc g) (hx : Ex w w') : TwL w' b c rb rc g := by
  obtain ⟨⟨eb, sp, h1, h2, h3⟩, h4, h5, h6, h7, h8⟩ := h
  exact ⟨⟨eb, sp, h1.ex hx, h2.ex hx, h3⟩, h4, h5, h6, fun i hi => ⟨(h7 i hi).1.ex hx, (h7 i hi).2⟩, h8⟩
theorem TwL.sl {w : World} {b c : Nat} {rb rc : Nat → Nat} {g : List (List Int)} (h : TwL w b c rb rc g) : Sl w (sv b g.length c) ((List.range g.length).map (fun i => sv (rb i) (g.getD i []).length (rc i))) := by
  obtain ⟨⟨eb, sp, h1, _⟩, h2, _, h3, _⟩ := h
  have := h1.sl (n := g.length) (c := c) (by simp) (by omega) (by omega)
  rwa [List.take_left' (by simp)] at this
theorem TwL.wd {w : World} {b c : Nat} {rb rc : Nat → Nat} {g : List (List Int)} (h : TwL w b c rb rc g) : Wd w 22 1 (sv b g.length c) g.length ((List.range g.length).map (fun i => sv (rb i) (g.getD i []).length (rc i))) := by
  obtain ⟨⟨eb, sp, h1, _, h2⟩, h3, h4, _⟩ := h
  exact ⟨by simp, .inr ⟨b, c, sv eb 1 1 :: sp, rfl, h1, by omega, h4, by simp; omega⟩⟩
theorem TwL.rows {w : World} {b c : Nat} {rb rc : Nat → Nat} {g : List (List Int)} (h : TwL w b c rb rc g) : Rows w (sv b g.length c) g := by
  refine ⟨_, h.sl, by simp, fun i u l hu hl => ?_⟩
  have hi := (List.getElem?_eq_some_iff.1 hl).1
  obtain ⟨_, _, _, _, h7, _⟩ := h
  have e1 : u = sv (rb i) (g.getD i []).length (rc i) := by simp [hi] at hu; simp [hi, hu]
  have e2 : g.getD i [] = l := by simp [List.getD_eq_getElem?_getD, hl]
  rw [e1]
  have := (h7 i hi).1.ints
  rwa [e2] at this ⊢
attribute [local irreducible] Go.Code.wpIn Go.wpListIn Ct Ints Rows Sl At Rw WJ
attribute [local irreducible] Wd
theorem TwinIntsW_ct (u : Value) (l : List Int) (w : World) (hl : Ints w u l) (hm : l.length ≤ 10000) :
    Ct Try.prog 12 #[u] w fun x w' => ∃ b c, x = sv b l.length c ∧ w.heap.size ≤ b ∧ TwI w' b c l ∧ Ex w w' := by
  obtain ⟨ti, hi1, hi2, hi3, hi4⟩ := in_int'
  refine enter (N := 28) (vs := [u]) Try.func12 rfl rfl rfl ?_
  repeat (first | (refine isO ?_; first | refine s_move ?_ | refine s_assign ?_ | (refine isBin ?_; refine s_inc rfl (by omega) ?_) | (refine isCall ?_; refine s_lenI sl_ints rfl (by assumption) ?_)) | (refine isC ?_; refine c_sr ?_) | (refine l_th ?_))
  refine s_mk0 (n := l.length + 1) sl_ints hi1 hi2 hi3 rfl hi4 rfl rfl (by omega) ?_
  intro b0 w1 hb0 hR hx1 hs1
  repeat (first | (refine isO ?_; refine s_assign ?_) | (refine isC ?_; first | refine c_sr ?_ | refine c_seq ?_ | refine c_block ?_) | (refine l_th ?_))
  refine c_loop (γ := Nat × Value) 4193816 (fun x => [(4, .int .i64 (x.1 : Int)), (3, x.2)])
    (fun x w' => x.1 ≤ l.length ∧ Rw w' 3 x.2 ((l.take x.1).map (Value.int .i64)) ∧ Ex w w' ∧ ∀ b, x.2.ownBlock = some b → w.heap.size ≤ b) (fun x => l.length - x.1) (0, sv b0 0 (l.length + 1)) ⟨rfl, rfl, trivial⟩
    ⟨Nat.zero_le _, hR, hx1, fun b h => by have h : b0 = b := Option.some.inj h; omega⟩ ?_
  rintro ⟨k, v⟩ ρ w2 ⟨hk, hv, hx, hb⟩
  dsimp only at hk hv hx hb ⊢
  have hl2 := hl.ex hx
  repeat (first | (refine isO ?_; first | refine s_move ?_ | (refine isBin ?_; refine s_lss rfl rfl ?_) | (refine isCall ?_; refine s_lenI sl_ints rfl (by assumption) ?_)) | (refine isC ?_; first | refine c_sr ?_ | refine c_seq ?_) | (refine l_th ?_))
  refine c_ifd rfl (fun h => ?_) (fun h => ?_)
  · have hk' : k < l.length := by omega
    repeat (first | (refine isO ?_; first | refine s_move ?_ | (refine isIA ?_; refine s_ixI sl_ints ty_int rfl rfl rfl (by assumption) (by omega) ?_; intro _)) | (refine isC ?_; first | refine c_th ?_ | refine c_seq ?_ | refine c_region ?_ | refine c_block ?_))
    refine s_bs1 (u := .int .i64 (l.getD k 0)) sl_ints in_int rfl rfl ?_
    intro b1 w3 hb1 hA hx3 hs3
    refine s_app (news := [.int .i64 (l.getD k 0)]) sl_ints in_int (hv.ex hx3) (hA.sl (Nat.le_refl _) (by simp) (by simp)) rfl rfl (one_int _) (by simp; omega) ?_
    intro v' w4 hv' hg hown
    repeat (first | (refine isO ?_; first | refine s_move ?_ | refine s_assign ?_ | (refine isBin ?_; refine s_inc rfl (by omega) ?_)) | (refine isC ?_; refine c_region ?_) | (first | refine l_th ?_ | refine l_nil ?_))
    refine loop_end (k + 1, v') (by (repeat (first | exact agree_refl _ _ | refine agree_upd rfl ?_ | refine agree_ext rfl ?_ | refine agree_mask rfl ?_))) ⟨rfl, rfl, trivial⟩ ⟨hk', ?_, (hx.trans hx3).storeo hg hb, ?_⟩ (by dsimp only; omega)
    · dsimp only; rw [take_map_succ hk']; exact hv'
    · intro b hb'
      rcases hown with h1 | h1
      · exact hb b (h1.symm.trans hb')
      · have := h1 b hb'; have := hx.size; have := hx3.size; omega
  · have hkn : k = l.length := by omega
    subst hkn
    rw [List.take_length] at hv
    repeat (first | (refine isO ?_; refine s_move ?_) | (refine isC ?_; first | refine c_sr ?_ | refine c_exit ?_))
    refine s_bs1 (u := .int .i64 77) sl_ints in_int rfl rfl ?_
    intro b1 w3 hb1 hA hx3 hs3
    refine s_app (news := [.int .i64 77]) sl_ints in_int (hv.ex hx3) (hA.sl (Nat.le_refl _) (by simp) (by simp)) rfl rfl (one_int _) (by simp; omega) ?_
    intro v' w4 hv' hg hown
    obtain ⟨b2, c2, sp, rfl, hA4, hc, hcl, hcm⟩ := hv'.posL (by simp)
    have hfr : w.heap.size ≤ b2 := by
      rcases hown with h1 | h1
      · exact hb b2 h1.symm
      · have := h1 b2 rfl; have := hx.size; have := hx3.size; omega
    simp only [List.length_append, List.length_map, List.length_singleton] at hc hcl
    have hx4 := (hx.trans hx3).storeo hg hb
    have hl4 := hl.ex hx4
    repeat ((refine isO ?_; first | refine s_move ?_ | (refine isCall ?_; refine s_lenI sl_ints rfl (by assumption) ?_)))
    refine s_head (hi := l.length) sl_ints ty_int rfl rfl (by omega) ?_
    repeat (first | (refine isO ?_; refine s_assign ?_) | (refine isC ?_; refine c_ret ?_) | (refine l_th ?_))
    refine ret1 rfl rfl ⟨b2, c2, rfl, hfr, ⟨sp, by rw [List.append_assoc] at hA4; exact hA4, by omega, by omega, hcm, hm⟩, hx4⟩

theorem TwinIntListsW_ct (u : Value) (g : List (List Int)) (w : World) (hg : Rows w u g) (hm : g.length ≤ 10000) (hr : ∀ i, i < g.length → (g.getD i []).length ≤ 10000) :
    Ct Try.prog 41 #[u] w fun x w' => ∃ b c rb rc, x = sv b g.length c ∧ w.heap.size ≤ b ∧ (∀ i, i < g.length → w.heap.size ≤ rb i) ∧ TwL w' b c rb rc g ∧ Ex w w' := by
  obtain ⟨ti, hi1, hi2, hi3, hi4⟩ := in_ints.ex
  refine enter (N := 30) (vs := [u]) Try.func41 rfl rfl rfl ?_
  repeat (first | (refine isO ?_; first | refine s_move ?_ | refine s_assign ?_ | (refine isBin ?_; refine s_inc rfl (by omega) ?_) | (refine isCall ?_; refine s_lenR sl_rows rfl (by assumption) ?_)) | (refine isC ?_; refine c_sr ?_) | (refine l_th ?_))
  refine s_mk0 (n := g.length + 1) sl_rows hi1 hi2 hi3 rfl hi4 rfl rfl (by omega) ?_
  intro b0 w1 hb0 hR hx1 hs1
  repeat (first | (refine isO ?_; refine s_assign ?_) | (refine isC ?_; first | refine c_sr ?_ | refine c_seq ?_ | refine c_block ?_) | (refine l_th ?_))
  refine c_loop (γ := Nat × Value × (Nat → Nat) × (Nat → Nat)) 8388120 (fun x => [(4, .int .i64 (x.1 : Int)), (3, x.2.1)])
    (fun x w' => x.1 ≤ g.length ∧ Rw w' 22 x.2.1 ((List.range x.1).map (fun i => sv (x.2.2.1 i) (g.getD i []).length (x.2.2.2 i))) ∧ Ex w w' ∧ (∀ b, x.2.1.ownBlock = some b → w.heap.size ≤ b) ∧
      (∀ i, i < x.1 → TwI w' (x.2.2.1 i) (x.2.2.2 i) (g.getD i []) ∧ some (x.2.2.1 i) ≠ x.2.1.ownBlock ∧ w.heap.size ≤ x.2.2.1 i) ∧ ∀ i j, i < j → j < x.1 → x.2.2.1 i < x.2.2.1 j) (fun x => g.length - x.1) (0, sv b0 0 (g.length + 1), fun _ => 0, fun _ => 0) ⟨rfl, rfl, trivial⟩
    ⟨Nat.zero_le _, hR, hx1, fun b h => by have h : b0 = b := Option.some.inj h; omega, fun i h => absurd h (Nat.not_lt_zero _), fun i j _ h => absurd h (Nat.not_lt_zero _)⟩ ?_
  rintro ⟨k, v, rb, rc⟩ ρ w2 ⟨hk, hv, hx, hb, hO, hmon⟩
  dsimp only at hk hv hx hb hO hmon ⊢
  have hg2 := hg.ex hx
  repeat (first | (refine isO ?_; first | refine s_move ?_ | (refine isBin ?_; refine s_lss rfl rfl ?_) | (refine isCall ?_; refine s_lenR sl_rows rfl (by assumption) ?_)) | (refine isC ?_; first | refine c_sr ?_ | refine c_seq ?_) | (refine l_th ?_))
  refine c_ifd rfl (fun h => ?_) (fun h => ?_)
  · have hk' : k < g.length := by omega
    repeat (first | (refine isO ?_; refine s_move ?_) | (refine isC ?_; first | refine c_th ?_ | refine c_seq ?_ | refine c_region ?_ | refine c_block ?_))
    refine s_ixR sl_rows ty_ints rfl rfl rfl hg2 hk' ?_
    intro _ u1 hu1
    refine s_call ok_TwinInts rfl (TwinIntsW_ct u1 _ w2 hu1 (hr k hk')) ?_
    rintro u2 w3 ⟨b1, c1, rfl, hb1, hO1, hx3⟩
    refine s_bs1 (u := sv b1 (g.getD k []).length c1) sl_rows in_ints rfl rfl ?_
    intro b2 w4 hb2 hA hx4 hs4
    refine s_app (news := [sv b1 (g.getD k []).length c1]) sl_rows in_ints (hv.ex (hx3.trans hx4)) (hA.sl (Nat.le_refl _) (by simp) (by simp)) rfl rfl (by intro q hq; simp at hq; subst hq; rfl) (by simp; omega) ?_
    intro v' w5 hv' hgr hown
    repeat (first | (refine isO ?_; first | refine s_move ?_ | refine s_assign ?_ | (refine isBin ?_; refine s_inc rfl (by omega) ?_)) | (refine isC ?_; refine c_region ?_) | (first | refine l_th ?_ | refine l_nil ?_))
    have hv2 : ∀ b, v.ownBlock = some b → b < w2.heap.size := hv.lt
    have hsz3 := hx3.size
    have hsz4 := hx4.size
    have hsz := hx.size
    refine loop_end (k + 1, v', updN rb k b1, updN rc k c1) (by (repeat (first | exact agree_refl _ _ | refine agree_upd rfl ?_ | refine agree_ext rfl ?_ | refine agree_mask rfl ?_))) ⟨rfl, rfl, trivial⟩ ⟨hk', ?_, ((hx.trans hx3).trans hx4).storeo hgr hb, ?_, ?_, ?_⟩ (by dsimp only; omega)
    · dsimp only
      have e : (List.range (k + 1)).map (fun i => sv (updN rb k b1 i) (g.getD i []).length (updN rc k c1 i)) = (List.range k).map (fun i => sv (rb i) (g.getD i []).length (rc i)) ++ [sv b1 (g.getD k []).length c1] := by
        rw [List.range_succ, List.map_append]
        congr 1
        · apply List.map_congr_left
          intro i hi
          have : i ≠ k := by have := List.mem_range.1 hi; omega
          simp [updN, this]
        · simp [updN]
      rw [e]; exact hv'
    · intro b hb'
      rcases hown with h1 | h1
      · exact hb b (h1.symm.trans hb')
      · have := h1 b hb'; omega
    · intro i hi
      dsimp only at hi ⊢
      by_cases hik : i = k
      · subst hik
        have e1 : updN rb i b1 i = b1 := by simp [updN]
        have e2 : updN rc i c1 i = c1 := by simp [updN]
        rw [e1, e2]
        have hb1lt := hO1.lt
        refine ⟨(hO1.ex hx4).grown hgr (fun e => ?_), fun e => ?_, by omega⟩
        · have := hv2 b1 e; omega
        · rcases hown with h1 | h1
          · have := hv2 b1 (h1.symm.trans e.symm); omega
          · have := h1 b1 e.symm; omega
      · have e1 : updN rb k b1 i = rb i := by simp [updN, hik]
        have e2 : updN rc k c1 i = rc i := by simp [updN, hik]
        rw [e1, e2]
        obtain ⟨hOi, hne, hge⟩ := hO i (by omega)
        have hlt := hOi.lt
        refine ⟨((hOi.ex hx3).ex hx4).grown hgr (fun e => hne e.symm), fun e => ?_, hge⟩
        rcases hown with h1 | h1
        · exact hne (e.trans h1)
        · have := h1 (rb i) e.symm; omega
    · intro i j hij hj
      dsimp only at hj ⊢
      by_cases hjk : j = k
      · subst hjk
        have e1 : updN rb j b1 j = b1 := by simp [updN]
        have hij' : i ≠ j := by omega
        have e2 : updN rb j b1 i = rb i := by simp [updN, hij']
        rw [e1, e2]
        have := (hO i (by omega)).1.lt; omega
      · have hik : i ≠ k := by omega
        have e1 : updN rb k b1 j = rb j := by simp [updN, hjk]
        have e2 : updN rb k b1 i = rb i := by simp [updN, hik]
        rw [e1, e2]
        exact hmon i j hij (by omega)
  · have hkn : k = g.length := by omega
    subst hkn
    repeat (first | (refine isO ?_; refine s_move ?_) | (refine isC ?_; first | refine c_sr ?_ | refine c_exit ?_))
    refine s_bs1 (u := .int .i64 77) sl_ints in_int rfl rfl ?_
    intro b1 w3 hb1 hA hx3 hs3
    refine s_bs1 (u := sv b1 1 1) sl_rows in_ints rfl rfl ?_
    intro b2 w4 hb2 hA2 hx4 hs4
    refine s_app (news := [sv b1 1 1]) sl_rows in_ints (hv.ex (hx3.trans hx4)) (hA2.sl (Nat.le_refl _) (by simp) (by simp)) rfl rfl (by intro q hq; simp at hq; subst hq; rfl) (by simp; omega) ?_
    intro v' w5 hv' hgr hown
    obtain ⟨b3, c3, sp, rfl, hA5, hc, hcl, hcm⟩ := hv'.posL (by simp)
    have hsz3 := hx3.size
    have hsz4 := hx4.size
    have hsz := hx.size
    have hfr : w.heap.size ≤ b3 := by
      rcases hown with h1 | h1
      · exact hb b3 h1.symm
      · have := h1 b3 rfl; omega
    simp only [List.length_append, List.length_map, List.length_range, List.length_singleton] at hc hcl
    have hb13 : b1 ≠ b3 := fun e => by
      have hl1 := hA.lt
      rcases hown with h1 | h1
      · have := hv.lt b3 h1.symm; omega
      · have := h1 b3 rfl; have := hA2.lt; omega
    have hA15 := (hA.ex hx4).grown hgr (fun e => by have := hv.lt b1 e; omega)
    have hx5 := ((hx.trans hx3).trans hx4).storeo hgr hb
    have hg5 := hg.ex hx5
    repeat ((refine isO ?_; first | refine s_move ?_ | (refine isCall ?_; refine s_lenR sl_rows rfl (by assumption) ?_)))
    refine s_head (hi := g.length) sl_rows ty_ints rfl rfl (by omega) ?_
    repeat (first | (refine isO ?_; refine s_assign ?_) | (refine isC ?_; refine c_ret ?_) | (refine l_th ?_))
    refine ret1 rfl rfl ⟨b3, c3, rb, rc, rfl, hfr, fun i hi => (hO i hi).2.2, ⟨⟨b1, sp, by rw [List.append_assoc] at hA5; exact hA5, hA15, by omega⟩, by omega, hcm, by omega, fun i hi => ?_, hmon⟩, hx5⟩
    obtain ⟨hOi, hne, hge⟩ := hO i hi
    have hlt := hOi.lt
    refine ⟨((hOi.ex hx3).ex hx4).grown hgr (fun e => hne e.symm), fun e => ?_⟩
    rcases hown with h1 | h1
    · exact hne (by rw [e]; exact h1)
    · have := h1 b3 rfl; omega
end Go.Proofs.Ytifbgpkjbciblaa.Sal
end
section
/- salesroomlaw01.TwinMarket. -/
set_option maxRecDepth 100000
namespace Go.Proofs.Ytifbgpkjbciblaa.Sal
open Go.RowKit
/-- A market of the call's own. -/
structure MkO (w0 w : World) (b1 c1 b2 c2 : Nat) (rb rc : Nat → Nat) (b3 c3 : Nat) (res : List Int) (bids : List (List Int)) (ord : List Int) : Prop where
  r : OwnI w 3 b1 c1 res
  b : Mat w 22 3 b2 c2 rb rc bids
  o : OwnI w 3 b3 c3 ord
  n12 : b1 ≠ b2
  n13 : b1 ≠ b3
  n23 : b2 ≠ b3
  nr : ∀ i, i < bids.length → rb i ≠ b1 ∧ rb i ≠ b3
  l1 : w0.heap.size ≤ b1
  l2 : w0.heap.size ≤ b2
  l3 : w0.heap.size ≤ b3
  lr : ∀ i, i < bids.length → w0.heap.size ≤ rb i
theorem MkO.mk' {w0 w : World} {b1 c1 b2 c2 : Nat} {rb rc : Nat → Nat} {b3 c3 : Nat} {res : List Int} {bids : List (List Int)} {ord : List Int} (h : MkO w0 w b1 c1 b2 c2 rb rc b3 c3 res bids ord) : Mk w (sv b1 res.length c1) (sv b2 bids.length c2) (sv b3 ord.length c3) res bids ord := ⟨h.r.ints, h.b.rows, h.o.ints⟩
theorem MkO.ex {w0 w w' : World} {b1 c1 b2 c2 : Nat} {rb rc : Nat → Nat} {b3 c3 : Nat} {res : List Int} {bids : List (List Int)} {ord : List Int} (h : MkO w0 w b1 c1 b2 c2 rb rc b3 c3 res bids ord) (hx : Ex w w') : MkO w0 w' b1 c1 b2 c2 rb rc b3 c3 res bids ord :=
  { h with r := h.r.ex hx, b := h.b.ex hx, o := h.o.ex hx }
/-- A twin of a market, with room behind its lists. -/
structure MkT (w0 w : World) (b1 c1 b2 c2 : Nat) (vs : Nat → Value) (b3 c3 : Nat) (res : List Int) (bids : List (List Int)) (ord : List Int) : Prop where
  r : OwnI w 3 b1 c1 res
  b : Wd w 22 1 (sv b2 bids.length c2) bids.length ((List.range bids.length).map vs)
  o : Wd w 3 1 (sv b3 ord.length c3) ord.length (ord.map (Value.int .i64))
  n12 : b1 ≠ b2
  n13 : b1 ≠ b3
  n23 : b2 ≠ b3
  row : ∀ i, i < bids.length → Ints w (vs i) (bids.getD i []) ∧ ∀ b, (vs i).ownBlock = some b → w0.heap.size ≤ b ∧ b ≠ b1 ∧ b ≠ b2 ∧ b ≠ b3 ∧ b < w.heap.size
  l1 : w0.heap.size ≤ b1
  l2 : w0.heap.size ≤ b2
  l3 : w0.heap.size ≤ b3
theorem TwI.owni {w : World} {b c : Nat} {l : List Int} (h : TwI w b c l) : OwnI w 3 b c l := let ⟨sp, h1, h2, _, _, h5⟩ := h; ⟨_, h1, by omega, by omega⟩
attribute [local irreducible] Go.Code.wpIn Go.wpListIn Ct Ints Rows Sl At Rw WJ
attribute [local irreducible] Wd
set_option linter.all false
theorem ok_TwinMarket : CallOK Try.prog 17 := callOK Try.func17 (by kernel_rfl) rfl
theorem TwinMarketW_ct (rv bv ov : Value) (res : List Int) (bids : List (List Int)) (ord : List Int) (w : World) (hM : Mk w rv bv ov res bids ord) (h1 : res.length ≤ 10000) (h2 : bids.length ≤ 10000) (h3 : ∀ i, i < bids.length → (bids.getD i []).length ≤ 10000) (h4 : ord.length ≤ 10000) :
    Ct Try.prog 17 #[.agg #[rv, bv, ov]] w fun u w' => ∃ b1 c1 b2 c2 vs b3 c3, u = .agg #[sv b1 res.length c1, sv b2 bids.length c2, sv b3 ord.length c3] ∧ MkT w w' b1 c1 b2 c2 vs b3 c3 res bids ord ∧ Ex w w' := by
  refine Exists.elim in_mkt fun ti hti => ?_
  refine enter (N := 13) (vs := [.agg #[rv, bv, ov]]) Try.func17 rfl rfl rfl ?_
  repeat ((refine isC ?_; refine c_sr ?_))
  refine s_box (cs := [rv, bv, ov]) rfl rfl ?_
  intro b0 w0 hb0 hZ hx0 hs0
  refine s_alloc (cs := [.slice none 0 0, .slice none 0 0, .slice none 0 0]) hti.1 hti.2 rfl ?_
  intro bt w1 hbt hT hx1 hs1
  have hx01 := hx0.trans hx1
  have hZ1 := hZ.ex hx1
  have hM1 := hM.ex hx01
  repeat (first | (refine isC ?_; refine c_seq ?_) | (refine l_th ?_))
  refine c_drawO (Ex.refl w1) 1024 8 [(0, true), (1, true), (3, true), (4, true), (6, true), (7, true), (2, false), (5, false), (8, false), (9, false), (10, false)] mixed (by kernel_rfl) ?_
  have hxd := Ex.drew w1
  refine d_fa rfl Try.underlying25 rfl ty_ints rfl ?_
  refine d_ldA rfl ty_ints rfl hZ1 rfl ?_
  refine d_fa rfl Try.underlying25 rfl ty_rows rfl ?_
  refine d_ldA rfl ty_rows rfl hZ1 rfl ?_
  refine d_fa rfl Try.underlying25 rfl ty_ints rfl ?_
  refine d_ldA rfl ty_ints rfl hZ1 rfl ?_
  refine d_ch rfl ?_
  refine s_call ok_TwinInts rfl (TwinIntsW_ct rv res w1.drew (hM1.r.ex hxd) h1) ?_
  rintro u w2 ⟨b1, c1, rfl, hb1, hO1, hx2⟩
  have hx12 := hxd.trans hx2
  refine l_nil ⟨rfl, .inr hx12, ?_⟩
  refine d_ch rfl ?_
  refine s_call ok_TwinIntLists rfl (TwinIntListsW_ct bv bids w2 (hM1.b.ex hx12) h2 h3) ?_
  rintro u w3 ⟨b2, c2, rb, rc, rfl, hb2, hrb, hMt, hx3⟩
  have hx13 := hx12.trans hx3
  refine l_nil ⟨rfl, .inr hx13, ?_⟩
  refine d_ch rfl ?_
  refine s_call ok_TwinInts rfl (TwinIntsW_ct ov ord w3 (hM1.o.ex hx13) h4) ?_
  rintro u w4 ⟨b3, c3, rfl, hb3, hO3, hx4⟩
  have hx14 := hx13.trans hx4
  refine l_nil ⟨rfl, .inr hx14, ?_⟩
  refine d_ch rfl ?_
  refine s_bldW (cells := [sv b1 res.length c1, sv b2 bids.length c2, sv b3 ord.length c3]) (built_mk _ _ _ _ _ _ _ _ _) ?_
  refine l_nil ⟨rfl, .inr hx14, ?_⟩
  refine d_ch rfl ?_
  refine s_stV (cs := [sv b1 res.length c1, sv b2 bids.length c2, sv b3 ord.length c3]) (sz_mk _ _ _) rfl rfl (hT.ex hx14) rfl rfl ?_
  intro w5 hA5 hg5 hs5
  refine l_nil ⟨rfl, .inl rfl, ?_⟩
  refine d_nil ?_
  have z0 := hx0.size
  have z1 := hx1.size
  have zd := hxd.size
  have z2 := hx2.size
  have z3 := hx3.size
  have z4 := hx4.size
  have lT := hT.lt
  have o1 := hO1.lt
  have hWd := hMt.wd
  have o2 : b2 < w3.heap.size := hWd.lt b2 rfl
  have o3 : ∀ i, i < bids.length → TwI w3 (rb i) (rc i) (bids.getD i []) ∧ rb i ≠ b2 := fun i hi => hMt.2.2.2.2.1 i hi
  have hx05 : Ex w w5 := (hx01.trans hx14).store hg5 (by omega)
  have hO15 := (hO1.ex (hx3.trans hx4)).grown hg5 (fun e => by cases e; omega)
  have hO35 := hO3.grown hg5 (fun e => by cases e; omega)
  repeat ((refine isC ?_; refine c_ret ?_))
  exact ret_cV rfl rfl Try.underlying25 rfl (sz_mk _ _ _) hA5 ⟨b1, c1, b2, c2, fun i => sv (rb i) (bids.getD i []).length (rc i), b3, c3, rfl,
    { r := hO15.owni, b := (hWd.ex hx4).grown hg5 (fun b hb e => by have h5 : b2 = b := Option.some.inj hb; have h6 : bt = b := Option.some.inj e; omega), o := hO35.wd, n12 := by omega, n13 := by omega, n23 := by omega,
      row := fun i hi => by
        have h7 := o3 i hi
        have h8 := h7.1.lt
        have h9 := hrb i hi
        exact ⟨((h7.1.ex hx4).grown hg5 (fun e => by cases e; omega)).ints, fun b hb => by
          have := Option.some.inj hb
          simp at this
          subst this
          exact ⟨by omega, by omega, h7.2, by omega, by have := hg5.size; omega⟩⟩,
      l1 := by omega, l2 := by omega, l3 := by omega }, hx05⟩
end Go.Proofs.Ytifbgpkjbciblaa.Sal
end
section
/- Plain: prices lean on what each bids alone. -/
set_option maxRecDepth 100000
namespace Go.Proofs.Ytifbgpkjbciblaa.Sal
set_option linter.all false
theorem need_nil {b : List (List Int)} {i : Nat} (h : b.getD i [] = []) (p : List Int) (n : Nat) (l : List Int) : needB b p n l i = false := by
  have h1 : dG b p i = 0 := by rw [dG_eq]; unfold lenB; rw [h]; rfl
  unfold needB mustB
  rw [h1]; rfl
end Go.Proofs.Ytifbgpkjbciblaa.Sal
end
section
/- Plain: orders. -/
set_option maxRecDepth 100000
namespace Go.Proofs.Ytifbgpkjbciblaa.Sal
set_option linter.all false
def upI (m : Nat) : List Int := (List.range m).map fun k : Nat => (k : Int)
theorem upI_nodup (m : Nat) : (upI m).Nodup := by
  unfold upI
  exact List.Pairwise.map _ (fun a b h e => h (by omega)) List.nodup_range
theorem upI_count (m k : Nat) : (upI m).count (k : Int) = if k < m then 1 else 0 := by
  have hmem : (k : Int) ∈ upI m ↔ k < m := by
    unfold upI
    rw [List.mem_map]
    constructor
    · rintro ⟨a, ha, e⟩; have := List.mem_range.1 ha; omega
    · intro h; exact ⟨k, List.mem_range.2 h, rfl⟩
  split
  · rename_i h; have h1 := List.count_pos_iff.2 (hmem.2 h)
    have h2 := List.nodup_iff_count.1 (upI_nodup m) (k : Int)
    omega
  · rename_i h; exact List.count_eq_zero.2 (fun hh => h (hmem.1 hh))
theorem ord_perm {l : List Int} {m : Nat} (hm : m ≤ 8) : ordB l m = true ↔ l.Perm (upI m) := by
  unfold ordB
  rw [Bool.and_eq_true, List.all_eq_true, decide_eq_true_eq, List.map_inj_left]
  constructor
  · rintro ⟨h1, h2⟩
    rw [List.perm_iff_count]
    intro a
    by_cases ha : 0 ≤ a ∧ a < 8
    · obtain ⟨k, rfl⟩ : ∃ k : Nat, a = (k : Int) := ⟨a.toNat, by omega⟩
      have := h2 k (List.mem_range.2 (by omega))
      rw [upI_count]
      split at this <;> rename_i h <;> simp only [h, if_true, if_false] <;> omega
    · have e1 : l.count a = 0 := List.count_eq_zero.2 fun hh => by have := h1 a hh; simp at this; omega
      have e2 : (upI m).count a = 0 := List.count_eq_zero.2 fun hh => by
        unfold upI at hh
        obtain ⟨k, hk, rfl⟩ := List.mem_map.1 hh
        have := List.mem_range.1 hk
        omega
      rw [e1, e2]
  · intro h
    refine ⟨fun x hx => ?_, fun k _ => ?_⟩
    · obtain ⟨k, hk, rfl⟩ := List.mem_map.1 (h.mem_iff.1 hx : x ∈ upI m)
      have := List.mem_range.1 hk
      simp; omega
    · rw [h.count_eq, upI_count]; split <;> rfl
theorem ord_len {l : List Int} {m : Nat} (hm : m ≤ 8) (h : ordB l m = true) : l.length = m := by
  rw [((ord_perm hm).1 h).length_eq]; simp [upI]
end Go.Proofs.Ytifbgpkjbciblaa.Sal
end
section
/- Plain: ends compared. -/
set_option maxRecDepth 100000
namespace Go.Proofs.Ytifbgpkjbciblaa.Sal
set_option linter.all false
/-- Where all that must can at the reserves it ends there. -/
theorem end_res {res : List Int} {b : List (List Int)} {L : List (List Int)} (hM : MkOK res b) (hR : RunS res b L) (hLg : ∀ i, i < L.length → Lg res (L.getD i [])) (hc : compP b res res.length) : endL L = res :=
  (end_is hM hR hLg hc rfl (fun _ _ => Int.le_refl _) (fun k hk => ((run_end hM hR hLg).2.2 k hk).1)).symm
theorem alone_comp {res : List Int} {b : List (List Int)} {j : Nat} (hM : MkOK res b) (h : ∀ i, i < b.length → i ≠ j → b.getD i [] = []) : compP b res res.length := by
  intro l hr
  have h1 : cnt (fun i => needB b res res.length l i) b.length ≤ 1 := by
    refine Nat.le_trans (cnt_le (t := fun i => i == j) _ fun i hi hn => ?_) ?_
    · by_cases e : i = j
      · simp [e]
      · rw [need_nil (h i hi e)] at hn; cases hn
    · rcases Nat.lt_or_ge j b.length with hj | hj
      · rw [cnt_one j _ hj]; exact Nat.le_refl _
      · rw [cnt_zero _ fun i hi => by simp; omega]; omega
  rcases Nat.eq_zero_or_pos l.length with h0 | h0
  · have e : l = [] := List.eq_nil_of_length_eq_zero h0
    subst e
    rw [cnt_zero _ fun i hi => ?_]
    · exact Nat.zero_le _
    · cases hn : needB b res res.length [] i with
      | false => rfl
      | true =>
        exfalso
        have hn' := hn
        unfold needB at hn'
        rw [Bool.and_eq_true] at hn'
        obtain ⟨_, hpos⟩ := must_wants (hM.lens i hi) hn'.1
        have h3 := rowN_get (j := 0) hpos
        have := wantB_iff.1 hn'.2 _ h3.1 h3.2
        simp at this
  · omega
end Go.Proofs.Ytifbgpkjbciblaa.Sal
end
section
/- V21: stores into lists with room; bids in another order. -/
set_option maxRecDepth 100000
namespace Go.Proofs.Ytifbgpkjbciblaa.Sal
open Go.RowKit
theorem Wd.ints {w : World} {E : TypeId} {v : Value} {n : Nat} {l : List Int} (h : Wd w E 1 v n (l.map (Value.int .i64))) (hm : n ≤ 1000000) : Ints w v l := h.sl (by omega)
theorem Wd.rows {w : World} {E : TypeId} {v : Value} {n : Nat} {us : Nat → Value} {g : List (List Int)} (h : Wd w E 1 v n ((List.range n).map us)) (hl : g.length = n) (hm : n ≤ 1000000) (hr : ∀ i, i < n → Ints w (us i) (g.getD i [])) : Rows w v g := by
  refine ⟨_, h.sl (by omega), by simp [hl], fun i u l hu hl2 => ?_⟩
  have hi := (List.getElem?_eq_some_iff.1 hl2).1
  have e1 : u = us i := by simp [show i < n by omega] at hu; exact hu.symm
  have e2 : g.getD i [] = l := by simp [List.getD_eq_getElem?_getD, hl2]
  rw [e1, ← e2]
  exact hr i (by omega)
/-- Another cell. -/
theorem s_stW {P : Program} {r : Option Nat} {ops : Array Oper} {Q : Exit → Act → World → Prop} {N : Nat} {σ : Nat → Value} {ds : List Deferred} {w : World} {rest : List Oper} {ty : TypeId} {pos : String} {after : Array Edge} {E B : TypeId} {x y : Operand} {b n c k : Nat} {xs : List Value} {u : Value}
    (hE : Ty1 P E) (hx : ev N σ x = .pointer (some ⟨b, k, none⟩)) (hy : ev N σ y = u) (hu : u.oneCell' = true) (hW : Wd w B 1 (sv b n c) n xs) (hk : k < n)
    (h : ∀ w', Wd w' B 1 (sv b n c) n (xs.set k u) → w.grownBy w' (some b) → WL r P ops Q rest (mk N σ ds) w') :
    WL r P ops Q (⟨none, .store E x y, ty, pos, after, none⟩ :: rest) (mk N σ ds) w := by
  obtain ⟨b', c', sp, hv, hA, hc, hm, hs⟩ := hW.pos (by omega)
  cases hv
  have hl : xs.length = n := by rw [hW.1, Nat.mul_one]
  refine s_stA hE hx hy hu hA (by simp; omega) fun w' hA' hg => h w' ?_ hg
  exact Wd.set (w := w) hW.1 (by omega) hA' hc hm hs
theorem mfs {us : Nat → Value} {n k : Nat} {u : Value} (hk : k < n) : ((List.range n).map us).set k u = (List.range n).map (fs us k u) := map_fs us u hk
theorem chk_of {res : List Int} {bids : List (List Int)} {ord : List Int} (h1 : vecB res res.length = true) (h2 : 1 ≤ bids.length) (h3 : bids.length ≤ 8) (h4 : ordB ord bids.length = true) (h5 : ∀ i, i < bids.length → badBid res.length (bids.getD i []) = false) : chkM res bids ord = true := by
  unfold chkM
  rw [h1, h4, decide_eq_true h2, decide_eq_true h3]
  have : bids.any (badBid res.length) = false := by
    rw [List.any_eq_false]
    intro x hx
    obtain ⟨i, hi, rfl⟩ := List.getElem_of_mem hx
    have := h5 i hi
    rw [List.getD_eq_getElem?_getD, List.getElem?_eq_getElem hi] at this
    simpa using this
  rw [this]; rfl
end Go.Proofs.Ytifbgpkjbciblaa.Sal
end
section
/- V23: one bids alone; all bid the same. -/
set_option maxRecDepth 100000
namespace Go.Proofs.Ytifbgpkjbciblaa.Sal
open Go.RowKit
set_option linter.all false
/-- Bids of one alone. -/
def aloneB (bids : List (List Int)) (t : Nat) : List (List Int) := (List.range bids.length).map fun j => if j ≠ t then [] else bids.getD j []
theorem aloneB_len (bids : List (List Int)) (t : Nat) : (aloneB bids t).length = bids.length := by simp [aloneB]
theorem aloneB_get {bids : List (List Int)} {t i : Nat} (hi : i < bids.length) : (aloneB bids t).getD i [] = if i ≠ t then [] else bids.getD i [] := by simp [aloneB, List.getD_eq_getElem?_getD, hi]
theorem chk_alone {res : List Int} {bids : List (List Int)} {ord : List Int} (h : chkM res bids ord = true) (t : Nat) : chkM res (aloneB bids t) ord = true := by
  obtain ⟨h1, h2, h3, h4, h5⟩ := chk_parts h
  have hl := aloneB_len bids t
  refine chk_of h1 (by omega) (by omega) (by rw [hl]; exact h4) fun i hi => ?_
  rw [aloneB_get (by omega)]
  split
  · rfl
  · exact h5 i (by omega)
theorem alone_end {res : List Int} {bids : List (List Int)} {t : Nat} {L : List (List Int)} (hM : MkOK res (aloneB bids t)) (hR : RunS res (aloneB bids t) L) (hLg : ∀ i, i < L.length → Lg res (L.getD i [])) : endL L = res :=
  end_res hM hR hLg (alone_comp (j := t) hM fun i hi hne => by
    rw [aloneB_len] at hi
    rw [aloneB_get hi, if_pos hne])
/-- What all bid. -/
def wq (r : Int) (x : Nat) : Int := if r + (x : Int) < 1000000 then r + (x : Int) else 1000000
def wL (res : List Int) (x k : Nat) : List Int := (List.range k).map fun j => wq (res.getD j 0) x
theorem wL_len (res : List Int) (x k : Nat) : (wL res x k).length = k := by simp [wL]
theorem wL_succ (res : List Int) (x k : Nat) : wL res x (k + 1) = wL res x k ++ [wq (res.getD k 0) x] := by simp [wL, List.range_succ]
theorem wL_get {res : List Int} {x k j : Nat} (hj : j < k) : (wL res x k).getD j 0 = wq (res.getD j 0) x := by simp [wL, List.getD_eq_getElem?_getD, hj]
def wB (res : List Int) (m x : Nat) : List (List Int) := (List.range m).map fun _ => wL res x res.length
theorem wB_len (res : List Int) (m x : Nat) : (wB res m x).length = m := by simp [wB]
theorem wB_get {res : List Int} {m x i : Nat} (hi : i < m) : (wB res m x).getD i [] = wL res x res.length := by simp [wB, List.getD_eq_getElem?_getD, hi]
theorem chk_same {res : List Int} {bids : List (List Int)} {ord : List Int} (h : chkM res bids ord = true) (x : Nat) : chkM res (wB res bids.length x) ord = true := by
  have hM := mkok h
  obtain ⟨h1, h2, h3, h4, h5⟩ := chk_parts h
  have hl := wB_len res bids.length x
  refine chk_of h1 (by omega) (by omega) (by rw [hl]; exact h4) fun i hi => ?_
  rw [wB_get (by omega)]
  have hv : vecB (wL res x res.length) res.length = true := by
    unfold vecB at h1 ⊢
    simp only [Bool.and_eq_true, decide_eq_true_eq] at h1 ⊢
    refine ⟨⟨h1.1.1, by rw [wL_len]⟩, List.all_eq_true.2 fun y hy => ?_⟩
    unfold wL at hy
    obtain ⟨k, hk, rfl⟩ := List.mem_map.1 hy
    have h0 := hM.rb k
    unfold inM wq
    simp only [Bool.and_eq_true, decide_eq_true_eq]
    split <;> omega
  unfold badBid
  rw [hv, Bool.not_true, Bool.and_false]
/-- Where all bid as much above all reserves it ends at these. -/
theorem same_end {res : List Int} {m x : Nat} {L : List (List Int)} (hm : m ≤ res.length) (hs : ∀ j, j < res.length → res.getD j 0 + (x : Int) ≤ 1000000) (hM : MkOK res (wB res m x)) (hR : RunS res (wB res m x) L) (hLg : ∀ i, i < L.length → Lg res (L.getD i [])) : endL L = res := by
  refine end_res hM hR hLg fun l hr => ?_
  have hn1 := hM.n1
  have hg : ∀ i, i < m → ∀ k, k < res.length → gD (wB res m x) res i k = (x : Int) := fun i hi k hk => by
    unfold gD
    rw [wB_get hi, wL_get hk]
    have := hs k hk
    unfold wq
    split <;> omega
  have hlen : ∀ i, i < m → lenB (wB res m x) i = res.length := fun i hi => by unfold lenB; rw [wB_get hi, wL_len]
  have hd : ∀ i, i < m → dG (wB res m x) res i = (x : Int) := fun i hi => by
    rw [dG_eq, hlen i hi]
    have h1 := gmx_all (gD (wB res m x) res i) res.length 0 (by omega)
    rw [hg i hi 0 (by omega)] at h1
    rcases gmx_is (gD (wB res m x) res i) res.length with h2 | ⟨k, hk, h2⟩
    · omega
    · rw [← h2, hg i hi k hk]
  rw [wB_len]
  by_cases hall : ∀ k : Nat, k < res.length → l.contains (k : Int) = true
  · have h1 := cnt_le (s := fun _ => true) (t := fun k => l.contains (k : Int)) res.length fun k hk _ => hall k hk
    rw [ris_cnt hr] at h1
    have h2 : cnt (fun _ => true) res.length = res.length := by
      have : ∀ n, cnt (fun _ => true) n = n := fun n => by
        induction n with
        | zero => rfl
        | succ n ih => show cnt _ n + 1 = n + 1; rw [ih]
      exact this _
    have h3 := cnt_bound (fun i => needB (wB res m x) res res.length l i) m
    omega
  · rw [cnt_zero m fun i hi => ?_]
    · exact Nat.zero_le _
    · cases hn : needB (wB res m x) res res.length l i with
      | false => rfl
      | true =>
        exfalso
        refine hall fun k hk => ?_
        unfold needB at hn
        rw [Bool.and_eq_true, wantB_iff] at hn
        refine hn.2 k hk ?_
        unfold RD
        rw [hn.1, hlen i hi, hd i hi, hg i hi k hk, decide_eq_true hk]
        simp
def sameB (res : List Int) (x k : Nat) : Bool := (List.range k).all fun j => decide (res.getD j 0 + (x : Int) ≤ 1000000)
theorem sameB_succ (res : List Int) (x k : Nat) : sameB res x (k + 1) = (sameB res x k && decide (res.getD k 0 + (x : Int) ≤ 1000000)) := by simp [sameB, List.range_succ]
theorem sameB_all {res : List Int} {x k : Nat} (h : sameB res x k = true) : ∀ j, j < k → res.getD j 0 + (x : Int) ≤ 1000000 := fun j hj => by
  have := List.all_eq_true.1 h j (List.mem_range.2 hj)
  simpa using this
end Go.Proofs.Ytifbgpkjbciblaa.Sal
end
section
/- The walk of salesroomlaw13.RisesAlone. -/
set_option maxRecDepth 100000
namespace Go.Proofs.Ytifbgpkjbciblaa.Sal
open Go.RowKit
attribute [local irreducible] Go.Code.wpIn Go.wpListIn Ct Ints Rows Sl At Rw WJ
attribute [local irreducible] Wd OwnI
set_option linter.all false
set_option maxHeartbeats 8000000 in
theorem RisesAlone_ct (rv bv ov : Value) (res : List Int) (bids : List (List Int)) (ord : List Int) (x1 x2 : Nat) (w : World) (hM : Mk w rv bv ov res bids ord) (hb1 : x1 < 256) (hb2 : x2 < 65536) :
    Ct Try.prog 6 #[.agg #[rv, bv, ov], .int .u8 (x1 : Int), .int .u16 (x2 : Int)] w fun u w' => u = .bool true ∧ Ex w w' := by
  refine Exists.elim in_mkt fun ti hti => ?_
  refine enter (N := 142) (vs := [.agg #[rv, bv, ov], .int .u8 (x1 : Int), .int .u16 (x2 : Int)]) Try.func6 rfl rfl rfl ?_
  repeat ((refine isC ?_; refine c_sr ?_))
  refine s_box (cs := [rv, bv, ov]) rfl rfl ?_
  intro b0 w0 hb0 hZ hx0 hs0
  have hM0 := hM.ex hx0
  repeat (first | (refine isO ?_; refine s_assign ?_) | (refine isC ?_; first | refine c_sr ?_ | refine c_seq ?_) | (refine l_th ?_))
  refine s_ldV Try.underlying25 rfl (sz_mk _ _ _) rfl hZ ?_
  refine s_call ok_mcheck rfl (mcheck_ct rv bv ov res bids ord w0 hM0) ?_
  rintro u w1 ⟨rfl, hx1⟩
  have hx01 := hx0.trans hx1
  refine Or.elim (tfV (chkM res bids ord)) (fun hck => ?_) (fun hck => ?_)
  · refine s_re (v' := .bool true) (vbool hck) ?_
    have hOK := mkok hck
    have hn8 := hOK.n8
    have hn1 := hOK.n1
    have hm1 := hOK.m1
    have hm8 := hOK.m8
    have hol : ord.length = bids.length := ord_len hm8 (chk_parts hck).2.2.2.1
    have hrl : ∀ i, i < bids.length → (bids.getD i []).length ≤ 8 := fun i hi => by have := hOK.lens i hi; unfold lenB at this; omega
    have hZ1 := hZ.ex hx1
    have hM1 := hM.ex hx01
    have z0 := hx0.size
    have z1 := hx1.size
    repeat (first | (refine isO ?_; refine s_not rfl ?_) | (refine isC ?_; first | refine c_sr ?_ | refine c_th ?_ | refine c_iff rfl ?_) | (refine l_th ?_))
    refine s_ldV Try.underlying25 rfl (sz_mk _ _ _) rfl hZ1 ?_
    refine s_call ok_TwinMarket rfl (TwinMarketW_ct rv bv ov res bids ord w1 hM1 (by omega) (by omega) (fun i hi => by have := hrl i hi; omega) (by omega)) ?_
    rintro u w2 ⟨b1, c1, b2, c2, vs, b3, c3, rfl, hT, hx2⟩
    refine s_alloc (cs := [.slice none 0 0, .slice none 0 0, .slice none 0 0]) hti.1 hti.2 rfl ?_
    intro bX w3 hbX hXA hx3 hs3
    refine s_stV (cs := [sv b1 res.length c1, sv b2 bids.length c2, sv b3 ord.length c3]) (sz_mk _ _ _) rfl rfl hXA rfl rfl ?_
    intro w4 hX4 hg4 hs4
    have z2 := hx2.size
    have z3 := hx3.size
    have l2 := hT.b.lt b2 rfl
    have l3 := hT.o.lt b3 rfl
    have l1 := hT.r.lt
    have k1 := hT.l1
    have k2 := hT.l2
    have k3 := hT.l3
    have n12 := hT.n12
    have n13 := hT.n13
    have n23 := hT.n23
    have hx24 : Ex w2 w4 := hx3.store hg4 (by omega)
    have hx14 := hx2.trans hx24
    have hb4 := hT.b.ex hx24
    have ho4 := hT.o.ex hx24
    have hr4 := hT.r.ex hx24
    have z24 := hx24.size
    have hrow4 : ∀ j, j < bids.length → Ints w4 (vs j) (bids.getD j []) ∧ ∀ b, (vs j).ownBlock = some b → b ≠ b2 := fun j hj => ⟨(hT.row j hj).1.ex hx24, fun b hb => ((hT.row j hj).2 b hb).2.2.1⟩
    refine Exists.elim (show ∃ t : Nat, t = x1 % bids.length from ⟨_, rfl⟩) fun t ht => ?_
    have ht' : t < bids.length := by rw [ht]; exact Nat.mod_lt _ (by omega)
    repeat (first | (refine isO ?_; refine s_assign ?_) | (refine isC ?_; first | refine c_sr ?_ | refine c_seq ?_ | refine c_block ?_) | (refine l_th ?_))
    refine c_loop2 2199019061504 (fun (k : Nat) (_ : Nat → Value) => [(8, .int .i64 (k : Int))]) (fun k us W => k ≤ bids.length ∧ Wd W 22 1 (sv b2 bids.length c2) bids.length ((List.range bids.length).map us) ∧ Wd W 3 1 (sv b3 ord.length c3) ord.length (ord.map (Value.int .i64)) ∧ OwnI W 3 b1 c1 res ∧ At W bX 25 [sv b1 res.length c1, sv b2 bids.length c2, sv b3 ord.length c3] ∧ (∀ j, j < bids.length → Ints W (us j) (if j < k then (aloneB bids t).getD j [] else bids.getD j []) ∧ ∀ b, (us j).ownBlock = some b → b ≠ b2) ∧ Ex w1 W ∧ w4.heap.size ≤ W.heap.size) (fun k _ => bids.length - k) 0 vs ⟨rfl, trivial⟩
      ⟨Nat.zero_le _, hb4, ho4, hr4, hX4, fun j hj => by rw [if_neg (Nat.not_lt_zero _)]; exact hrow4 j hj, hx14, Nat.le_refl _⟩ ?_
    rintro k us ρ W ⟨hk, hbW, hoW, hrW, hXW, hrow, hxW, hzW⟩
    repeat (first | (refine isO ?_; first | refine s_move ?_ | (refine isBin ?_; refine s_lss rfl rfl ?_) | (refine isCall ?_; refine s_len sl_rows rfl ?_)) | (refine isO ?_; first | refine s_fa Try.underlying25 rfl ty_rows rfl ?_ | refine s_ldA ty_rows rfl (by assumption) rfl ?_) | (refine isC ?_; first | refine c_sr ?_ | refine c_seq ?_) | (refine l_th ?_))
    refine c_ifd rfl (fun h => ?_) (fun h => ?_)
    · have hk' : k < bids.length := by omega
      repeat (first | (refine isO ?_; refine s_move ?_) | (refine isC ?_; first | refine c_sr ?_ | refine c_th ?_ | refine c_seq ?_ | refine c_block ?_))
      refine s_conv (n := x1) (by kernel_rfl) Try.underlying3 rfl (by show _ ≤ 9223372036854775807; omega) ?_
      repeat (first | (refine isO ?_; (refine isCall ?_; refine s_len sl_rows rfl ?_)) | (refine isO ?_; first | refine s_fa Try.underlying25 rfl ty_rows rfl ?_ | refine s_ldA ty_rows rfl (by assumption) rfl ?_))
      refine s_rem (m := x1) (n := bids.length) rfl rfl (by omega) ?_
      refine s_re (v' := .int .i64 (t : Int)) (vint (by omega)) ?_
      have hnext : ∀ j, j < bids.length → j ≠ k → ((if j < k + 1 then (aloneB bids t).getD j [] else bids.getD j []) = (if j < k then (aloneB bids t).getD j [] else bids.getD j [])) := fun j hj hne => by
        by_cases e : j < k
        · rw [if_pos e, if_pos (by omega)]
        · rw [if_neg e, if_neg (by omega)]
      by_cases e : k = t
      · repeat (first | (refine isO ?_; first | refine s_move ?_ | refine s_assign ?_ | (refine isBin ?_; first | refine s_inc rfl (by omega) ?_ | refine s_neqF rfl rfl (by omega) ?_)) | (refine isC ?_; first | refine c_region ?_ | refine c_iff rfl ?_ | refine c_skip ?_) | (refine l_th ?_))
        refine loop_end2 (k + 1) us (by (repeat (first | exact agree_refl _ _ | refine agree_upd rfl ?_ | refine agree_ext rfl ?_ | refine agree_mask rfl ?_))) ⟨vint (by omega), trivial⟩ ⟨hk', hbW, hoW, hrW, hXW, fun j hj => ?_, hxW, hzW⟩ (by show bids.length - (k + 1) < bids.length - k; omega)
        by_cases e2 : j = k
        · subst e2
          rw [if_pos (Nat.lt_succ_self _), aloneB_get hj, if_neg (fun h => h e)]
          have := hrow j hj
          rw [if_neg (Nat.lt_irrefl _)] at this
          exact this
        · rw [hnext j hj e2]; exact hrow j hj
      · repeat (first | (refine isO ?_; first | refine s_move ?_ | (refine isBin ?_; refine s_neqT rfl rfl (by omega) ?_)) | (refine isO ?_; first | refine s_fa Try.underlying25 rfl ty_rows rfl ?_ | refine s_ldA ty_rows rfl (by assumption) rfl ?_) | (refine isC ?_; first | refine c_region ?_ | refine c_ift rfl ?_) | (refine l_th ?_))
        refine s_iaA (n := k) sl_rows ty_ints rfl rfl hk' ?_
        refine s_stW (u := .slice none 0 0) ty_ints rfl rfl rfl hbW hk' ?_
        intro W3 hb3 hg3
        rw [mfs hk'] at hb3
        have z3W := hg3.size
        have hX3 := hXW.grown hg3 (fun e => by have := Option.some.inj e; omega)
        have ho3 := hoW.grown hg3 (fun b hb e => by have h5 : b3 = b := Option.some.inj hb; have h6 : b2 = b := Option.some.inj e; omega)
        have hr3 := hrW.grown hg3 (fun e => by have := Option.some.inj e; omega)
        repeat (first | (refine isO ?_; first | refine s_move ?_ | refine s_assign ?_ | (refine isBin ?_; refine s_inc rfl (by omega) ?_)) | (refine isC ?_; refine c_region ?_) | (first | refine l_th ?_ | refine l_nil ?_))
        refine loop_end2 (k + 1) _ (by (repeat (first | exact agree_refl _ _ | refine agree_upd rfl ?_ | refine agree_ext rfl ?_ | refine agree_mask rfl ?_))) ⟨vint (by omega), trivial⟩ ⟨hk', hb3, ho3, hr3, hX3, fun j hj => ?_, hxW.store hg3 (by omega), by omega⟩ (by show bids.length - (k + 1) < bids.length - k; omega)
        by_cases e2 : j = k
        · subst e2
          simp only [fs, if_true]
          rw [if_pos (Nat.lt_succ_self _), aloneB_get hj, if_pos e]
          exact ⟨Ints.nil _, fun b hb => by cases hb⟩
        · simp only [fs, if_neg e2]
          rw [hnext j hj e2]
          have h1 := hrow j hj
          exact ⟨h1.1.kept hg3 (.inr fun e5 => h1.2 b2 e5 rfl), h1.2⟩
    · have hkn : k = bids.length := by omega
      subst hkn
      have hal := aloneB_len bids t
      have hbi : Rows W (sv b2 bids.length c2) (aloneB bids t) := hbW.rows hal (by omega) fun i hi => by have := (hrow i hi).1; rw [if_pos hi] at this; exact this
      have hck1 := chk_alone hck t
      have hOK1 := mkok hck1
      refine Exists.elim (run_ex hOK1) fun L1 hL1 => ?_
      have he1 : endL L1 = res := alone_end hOK1 hL1.1 hL1.2
      repeat ((refine isC ?_; first | refine c_sr ?_ | refine c_exit ?_))
      refine s_ldV Try.underlying25 rfl (sz_mk _ _ _) rfl hXW ?_
      refine s_call ok_rLeast rfl (Least_ok _ _ _ res (aloneB bids t) ord L1 W ⟨hrW.ints, hbi, hoW.ints (by omega)⟩ hck1 hL1.1) ?_
      rintro u W2 ⟨bn, rfl, hOn, hbn, hx2W⟩
      have hOn' : OwnI W2 3 bn res.length res := by have h9 : L1.getD (L1.length - 1) [] = res := he1; rw [h9] at hOn; exact hOn
      have hIn := hOn'.ints
      have hx12 := hxW.trans hx2W
      have hZ2 := hZ1.ex hx12
      have hM2 := hM1.ex hx12
      have hr2 := hM2.r
      repeat (first | (refine isO ?_; first | refine s_move ?_ | refine s_assign ?_ | (refine isG ?_; refine g_yes rfl rfl ?_) | (refine isBin ?_; refine s_neqF rfl rfl (by omega) ?_) | (refine isLD ?_; refine s_ldA ty_ints rfl (by assumption) rfl ?_) | refine s_extract rfl rfl ?_) | (refine isO ?_; refine s_fa Try.underlying25 rfl ty_ints rfl ?_) | (refine isC ?_; first | refine c_sr ?_ | refine c_seq ?_) | (refine l_th ?_))
      refine s_call ok_SameInts rfl (SameInts_ct _ _ res res W2 hIn hr2) ?_
      rintro u W3 ⟨rfl, hx3W⟩
      refine s_re (v' := .bool true) (vbool (decide_eq_true rfl)) ?_
      have hx13 := hx12.trans hx3W
      have hZ3 := hZ1.ex hx13
      have hM3 := hM1.ex hx13
      have hr3 := hM3.r
      have hb3 := hM3.b
      by_cases hmn : res.length < bids.length
      · repeat (first | (refine isO ?_; first | (refine isG ?_; refine g_yes rfl rfl ?_) | (refine isBin ?_; refine s_gtrT rfl rfl (by omega) ?_) | (refine isCall ?_; first | refine s_lenI sl_ints rfl (by assumption) ?_ | refine s_lenR sl_rows rfl (by assumption) ?_) | (refine isPick ?_; refine s_pickf rfl rfl ?_) | (refine isLD ?_; refine s_ldA ty_ints rfl (by assumption) rfl ?_) | refine s_not rfl ?_) | (refine isO ?_; first | refine s_fa Try.underlying25 rfl ty_ints rfl ?_ | refine s_fa Try.underlying25 rfl ty_rows rfl ?_ | refine s_ldA ty_rows rfl (by assumption) rfl ?_) | (refine isC ?_; first | refine c_sr ?_ | refine c_th ?_ | refine c_seq ?_ | refine c_ift rfl ?_ | refine c_iff rfl ?_) | (refine l_th ?_))
        refine s_call ok_lives rfl (lives_ct W3) ?_
        rintro u W4 ⟨rfl, hx4W⟩
        repeat (first | (refine isO ?_; refine s_assign ?_) | (refine isC ?_; refine c_ret ?_) | (first | refine l_th ?_ | refine th_ret ?_))
        exact ret1 rfl rfl ⟨rfl, hx01.trans (hx13.trans hx4W)⟩
      · repeat (first | (refine isO ?_; first | (refine isG ?_; refine g_yes rfl rfl ?_) | (refine isBin ?_; refine s_gtrF rfl rfl (by omega) ?_) | (refine isCall ?_; first | refine s_lenI sl_ints rfl (by assumption) ?_ | refine s_lenR sl_rows rfl (by assumption) ?_) | (refine isPick ?_; refine s_pickf rfl rfl ?_) | (refine isLD ?_; refine s_ldA ty_ints rfl (by assumption) rfl ?_) | refine s_not rfl ?_) | (refine isO ?_; first | refine s_fa Try.underlying25 rfl ty_ints rfl ?_ | refine s_fa Try.underlying25 rfl ty_rows rfl ?_ | refine s_ldA ty_rows rfl (by assumption) rfl ?_) | (refine isC ?_; first | refine c_sr ?_ | refine c_th ?_ | refine c_seq ?_ | refine c_iff rfl ?_) | (refine l_th ?_))
        refine s_ldV Try.underlying25 rfl (sz_mk _ _ _) rfl hZ3 ?_
        refine s_call ok_TwinMarket rfl (TwinMarketW_ct rv bv ov res bids ord W3 hM3 (by omega) (by omega) (fun i hi => by have := hrl i hi; omega) (by omega)) ?_
        rintro u W4 ⟨d1, e1, d2, e2, vt, d3, e3, rfl, hY, hx4⟩
        refine s_alloc (cs := [.slice none 0 0, .slice none 0 0, .slice none 0 0]) hti.1 hti.2 rfl ?_
        intro bY W5 hbY hYA hx5 hs5
        refine s_stV (cs := [sv d1 res.length e1, sv d2 bids.length e2, sv d3 ord.length e3]) (sz_mk _ _ _) rfl rfl hYA rfl rfl ?_
        intro W6 hY6 hg6 hs6
        have z4 := hx4.size
        have z5 := hx5.size
        have j2 := hY.b.lt d2 rfl
        have j3 := hY.o.lt d3 rfl
        have j1 := hY.r.lt
        have i1 := hY.l1
        have i2 := hY.l2
        have i3 := hY.l3
        have m12 := hY.n12
        have m13 := hY.n13
        have m23 := hY.n23
        have hx46 : Ex W4 W6 := hx5.store hg6 (by omega)
        have hx36 := hx4.trans hx46
        have hx16 := hx13.trans hx36
        have hbY6 := hY.b.ex hx46
        have hoY6 := hY.o.ex hx46
        have hrY6 := hY.r.ex hx46
        have z46 := hx46.size
        have z16 := hx16.size
        have hrowY : ∀ j, j < bids.length → Ints W6 (vt j) (bids.getD j []) ∧ ∀ b, (vt j).ownBlock = some b → b ≠ d2 ∧ b < W6.heap.size := fun j hj => ⟨(hY.row j hj).1.ex hx46, fun b hb => ⟨((hY.row j hj).2 b hb).2.2.1, by have := ((hY.row j hj).2 b hb).2.2.2.2; omega⟩⟩
        have hwl := wL_len res x2 res.length
        repeat (first | (refine isO ?_; refine s_assign ?_) | (refine isC ?_; first | refine c_sr ?_ | refine c_seq ?_ | refine c_block ?_) | (refine l_th ?_))
        refine c_loop2 10141204801788941723826206552064 (fun (i : Nat) (_ : Nat → Value) => [(12, .int .i64 (i : Int))]) (fun i ut V => i ≤ bids.length ∧ Wd V 22 1 (sv d2 bids.length e2) bids.length ((List.range bids.length).map ut) ∧ Wd V 3 1 (sv d3 ord.length e3) ord.length (ord.map (Value.int .i64)) ∧ OwnI V 3 d1 e1 res ∧ At V bY 25 [sv d1 res.length e1, sv d2 bids.length e2, sv d3 ord.length e3] ∧ (∀ j, j < bids.length → Ints V (ut j) (if j < i then wL res x2 res.length else bids.getD j []) ∧ ∀ b, (ut j).ownBlock = some b → b ≠ d2 ∧ b < V.heap.size) ∧ Ex W3 V ∧ W6.heap.size ≤ V.heap.size) (fun i _ => bids.length - i) 0 vt ⟨rfl, trivial⟩
          ⟨Nat.zero_le _, hbY6, hoY6, hrY6, hY6, fun j hj => by rw [if_neg (Nat.not_lt_zero _)]; exact hrowY j hj, hx36, Nat.le_refl _⟩ ?_
        rintro i ut ρ2 V ⟨hi, hbV, hoV, hrV, hYV, hrowV, hxV, hzV⟩
        repeat (first | (refine isO ?_; first | refine s_move ?_ | (refine isBin ?_; refine s_lss rfl rfl ?_) | (refine isCall ?_; refine s_len sl_rows rfl ?_)) | (refine isO ?_; first | refine s_fa Try.underlying25 rfl ty_rows rfl ?_ | refine s_ldA ty_rows rfl (by assumption) rfl ?_) | (refine isC ?_; first | refine c_sr ?_ | refine c_seq ?_) | (refine l_th ?_))
        refine c_ifd rfl (fun h2 => ?_) (fun h2 => ?_)
        · have hi' : i < bids.length := by omega
          repeat (first | (refine isO ?_; refine s_move ?_) | (refine isO ?_; first | refine s_fa Try.underlying25 rfl ty_rows rfl ?_ | refine s_ldA ty_rows rfl (by assumption) rfl ?_) | (refine isC ?_; first | refine c_sr ?_ | refine c_th ?_ | refine c_seq ?_ | refine c_block ?_))
          refine s_iaA (n := i) sl_rows ty_ints rfl rfl hi' ?_
          refine s_stW (u := .slice none 0 0) ty_ints rfl rfl rfl hbV hi' ?_
          intro V0 hbV0 hgV0
          rw [mfs hi'] at hbV0
          have zV0 := hgV0.size
          have hYV0 := hYV.grown hgV0 (fun e => by have := Option.some.inj e; omega)
          have hoV0 := hoV.grown hgV0 (fun b hb e => by have h5 : d3 = b := Option.some.inj hb; have h6 : d2 = b := Option.some.inj e; omega)
          have hrV0 := hrV.grown hgV0 (fun e => by have := Option.some.inj e; omega)
          have hxV0 : Ex W3 V0 := hxV.store hgV0 (by omega)
          have hrowV0 : ∀ j, j < bids.length → j ≠ i → Ints V0 (ut j) (if j < i then wL res x2 res.length else bids.getD j []) ∧ ∀ b, (ut j).ownBlock = some b → b ≠ d2 ∧ b < V0.heap.size := fun j hj _ =>
            ⟨(hrowV j hj).1.kept hgV0 (.inr fun e5 => ((hrowV j hj).2 d2 e5).1 rfl), fun b hb => ⟨((hrowV j hj).2 b hb).1, by have := ((hrowV j hj).2 b hb).2; omega⟩⟩
          repeat (first | (refine isO ?_; refine s_assign ?_) | (refine isC ?_; first | refine c_sr ?_ | refine c_block ?_) | (refine l_th ?_))
          refine c_loop2 10141204726267971486059302232064 (fun (k : Nat) (_ : Value) => [(13, .int .i64 (k : Int))]) (fun k v U => k ≤ res.length ∧ LI V0 U 3 v (wL res x2 k) ∧ Wd U 22 1 (sv d2 bids.length e2) bids.length ((List.range bids.length).map (fs ut i v)) ∧ Wd U 3 1 (sv d3 ord.length e3) ord.length (ord.map (Value.int .i64)) ∧ OwnI U 3 d1 e1 res ∧ At U bY 25 [sv d1 res.length e1, sv d2 bids.length e2, sv d3 ord.length e3] ∧ (∀ j, j < bids.length → j ≠ i → Ints U (ut j) (if j < i then wL res x2 res.length else bids.getD j [])) ∧ Ex W3 U ∧ V0.heap.size ≤ U.heap.size) (fun k _ => res.length - k) 0 (.slice none 0 0) ⟨rfl, trivial⟩
            ⟨Nat.zero_le _, LI.nil _ _ _, hbV0, hoV0, hrV0, hYV0, fun j hj hne => (hrowV0 j hj hne).1, hxV0, Nat.le_refl _⟩ ?_
          rintro k v ρ3 U ⟨hk, hLU, hbU, hoU, hrU, hYU, hrowU, hxU, hzU⟩
          have hZU := hZ3.ex hxU
          have hrI := (hM3.ex hxU).r
          have hwk := wL_len res x2 k
          repeat (first | (refine isO ?_; first | refine s_move ?_ | (refine isBin ?_; refine s_lss rfl rfl ?_) | (refine isCall ?_; refine s_lenI sl_ints rfl (by assumption) ?_) | (refine isLD ?_; refine s_ldA ty_ints rfl (by assumption) rfl ?_)) | (refine isO ?_; refine s_fa Try.underlying25 rfl ty_ints rfl ?_) | (refine isC ?_; first | refine c_sr ?_ | refine c_seq ?_) | (refine l_th ?_))
          refine c_ifd rfl (fun h3 => ?_) (fun h3 => ?_)
          · have hk' : k < res.length := by omega
            have hbk := hOK.rb k
            refine Exists.elim (hbU.pos (by omega)) fun db hdb => Exists.elim hdb fun dc hdc => Exists.elim hdc fun dsp hds => ?_
            have hds1 := Value.slice.inj hds.1
            have hdb2 : d2 = db := by have := congrArg Addr.block (Option.some.inj hds1.1); exact this
            have hcell : At U d2 22 ((List.range bids.length).map (fs ut i v) ++ dsp) := by rw [hdb2]; exact hds.2.1
            have hci : ((List.range bids.length).map (fs ut i v) ++ dsp)[i]? = some v := by rw [List.getElem?_append_left (by simpa using hi')]; simp [hi', fs]
            repeat ((refine isC ?_; first | refine c_th ?_ | refine c_seq ?_ | refine c_block ?_))
            refine c_drawJ (fun W' => Ex W3 W' ∧ At W' bY 25 [sv d1 res.length e1, sv d2 bids.length e2, sv d3 ord.length e3] ∧ At W' d2 22 ((List.range bids.length).map (fs ut i v) ++ dsp)) ⟨hxU.trans (Ex.drew U), hYU.ex (Ex.drew U), hcell.ex (Ex.drew U)⟩ 1048576 8 [(0, true), (1, true), (2, true), (3, true), (4, true), (5, true), (6, true), (7, true), (8, true), (9, true), (10, true), (11, true), (12, true), (13, true), (14, true), (15, true), (16, true), (17, false), (18, false), (19, true), (20, false)] mixed (by kernel_rfl) ?_
            have hxd := Ex.drew U
            refine d_fa rfl Try.underlying25 rfl ty_rows rfl ?_
            refine d_ldJ rfl ty_rows rfl (fun _ h => h.2.1) rfl ?_
            refine d_move rfl ?_
            refine d_fa rfl Try.underlying25 rfl ty_rows rfl ?_
            refine d_ldJ rfl ty_rows rfl (fun _ h => h.2.1) rfl ?_
            refine d_move rfl ?_
            refine d_iaA (n := i) rfl sl_rows ty_ints rfl rfl hi' ?_
            refine d_ldJ rfl ty_ints rfl (fun _ h => h.2.2) hci ?_
            refine d_fa rfl Try.underlying25 rfl ty_ints rfl ?_
            refine d_ldAE rfl ty_ints rfl (fun _ h => h.1) hZ3 rfl ?_
            refine d_move rfl ?_
            refine d_iaI (n := k) rfl sl_ints ty_int rfl rfl hM3.r (by omega) ?_
            intro ad hc
            refine d_ldE rfl ty_int rfl (fun _ h => h.1) hc ?_
            refine d_move rfl ?_
            refine d_conv (n := x2) rfl (by kernel_rfl) Try.underlying3 rfl (by show _ ≤ 9223372036854775807; omega) ?_
            refine d_add rfl rfl rfl ⟨by omega, by omega⟩ ?_
            refine d_min rfl rfl rfl ?_
            refine d_re (v' := .int .i64 (wq (res.getD k 0) x2)) rfl ?_
            refine d_ch rfl ?_
            refine s_bs1 (u := .int .i64 (wq (res.getD k 0) x2)) sl_ints in_int rfl rfl ?_
            intro bq U1 hbq hAq hxq hsq
            have hxU1 := hxd.trans hxq
            have zU1 := hxU1.size
            refine l_nil ⟨rfl, .inr ⟨hxU.trans hxU1, hYU.ex hxU1, hcell.ex hxU1⟩, ?_⟩
            refine d_ch rfl ?_
            refine s_app (news := [.int .i64 (wq (res.getD k 0) x2)]) sl_ints in_int (hLU.1.ex hxU1) (hAq.sl (Nat.le_refl _) (by simp) (by simp)) rfl rfl (by intro q hq; simp at hq; subst hq; rfl) (by simp; omega) ?_
            intro v' U2 hR2 hg2 hf2
            have zU2 := hg2.size
            have hvo : ∀ b, v.ownBlock = some b → V0.heap.size ≤ b := hLU.2
            have hx3U2 : Ex W3 U2 := (hxU.trans hxU1).storeo hg2 (fun b e => by have := hvo b e; omega)
            have hY2 := (hYU.ex hxU1).grown hg2 (fun e => by have := hvo _ e; omega)
            have hc2 := (hcell.ex hxU1).grown hg2 (fun e => by have := hvo _ e; omega)
            have hb2' := (hbU.ex hxU1).grown hg2 (fun b hb e => by have h5 : d2 = b := Option.some.inj hb; have := hvo b e; omega)
            have ho2' := (hoU.ex hxU1).grown hg2 (fun b hb e => by have h5 : d3 = b := Option.some.inj hb; have := hvo b e; omega)
            have hr2' := (hrU.ex hxU1).grown hg2 (fun e => by have := hvo _ e; omega)
            have hrow2 : ∀ j, j < bids.length → j ≠ i → Ints U2 (ut j) (if j < i then wL res x2 res.length else bids.getD j []) := fun j hj hne => by
              have h5 := (hrowU j hj hne).ex hxU1
              cases e6 : v.ownBlock with
              | none => exact h5.ex (Ex.of_grown (e6 ▸ hg2))
              | some b => exact h5.kept hg2 (.inr fun e7 => by rw [e6] at e7; have := ((hrowV0 j hj hne).2 b e7).2; have := hvo b e6; omega)
            have hv'o : ∀ b, v'.ownBlock = some b → V0.heap.size ≤ b := fun b hb => hf2.elim (fun h => hvo b (by rw [← h]; exact hb)) (fun h => by have := h b hb; omega)
            refine l_nil ⟨rfl, .inr ⟨hx3U2, hY2, hc2⟩, ?_⟩
            refine d_iaA (n := i) rfl sl_rows ty_ints rfl rfl hi' ?_
            refine d_ch rfl ?_
            refine s_stW (u := v') ty_ints rfl rfl hR2.one hb2' hi' ?_
            intro U3 hb3' hg3
            refine l_nil ⟨rfl, .inl rfl, ?_⟩
            refine d_nil ?_
            have hff : ((List.range bids.length).map (fs ut i v)).set i v' = (List.range bids.length).map (fs ut i v') := by
              rw [mfs hi']
              apply List.map_congr_left
              intro j _
              simp only [fs]
              by_cases e : j = i
              · rw [if_pos e, if_pos e]
              · rw [if_neg e, if_neg e, if_neg e]
            rw [hff] at hb3'
            have zU3 := hg3.size
            have hR3 : LI V0 U3 3 v' (wL res x2 (k + 1)) := by
              rw [wL_succ]
              refine ⟨?_, hv'o⟩
              rw [List.map_append]
              exact hR2.kept hg3 (.inr fun e => by have := hv'o _ e; omega)
            have hY3 := hY2.grown hg3 (fun e => by have := Option.some.inj e; omega)
            have ho3' := ho2'.grown hg3 (fun b hb e => by have h5 : d3 = b := Option.some.inj hb; have h6 : d2 = b := Option.some.inj e; omega)
            have hr3' := hr2'.grown hg3 (fun e => by have := Option.some.inj e; omega)
            have hrow3 : ∀ j, j < bids.length → j ≠ i → Ints U3 (ut j) (if j < i then wL res x2 res.length else bids.getD j []) := fun j hj hne => (hrow2 j hj hne).kept hg3 (.inr fun e => ((hrowV0 j hj hne).2 d2 e).1 rfl)
            repeat (first | (refine isO ?_; first | refine s_move ?_ | refine s_assign ?_ | (refine isBin ?_; refine s_inc rfl (by omega) ?_)) | (refine isC ?_; refine c_region ?_) | (refine l_th ?_))
            exact loop_end2 (k + 1) v' (by (repeat (first | exact agree_refl _ _ | refine agree_upd rfl ?_ | refine agree_ext rfl ?_ | refine agree_mask rfl ?_))) ⟨vint (by omega), trivial⟩ ⟨hk', hR3, hb3', ho3', hr3', hY3, hrow3, hx3U2.store hg3 (by omega), by omega⟩ (by show res.length - (k + 1) < res.length - k; omega)
          · have hkn : k = res.length := by omega
            subst hkn
            have hvo : ∀ b, v.ownBlock = some b → V0.heap.size ≤ b := hLU.2
            have hvl := hLU.lt
            repeat (first | (refine isO ?_; first | refine s_move ?_ | refine s_assign ?_ | (refine isBin ?_; refine s_inc rfl (by omega) ?_)) | (refine isC ?_; first | refine c_region ?_ | refine c_exit ?_) | (refine l_th ?_))
            refine loop_end2 (i + 1) (fs ut i v) (by (repeat (first | exact agree_refl _ _ | refine agree_upd rfl ?_ | refine agree_ext rfl ?_ | refine agree_mask rfl ?_))) ⟨vint (by omega), trivial⟩ ⟨hi', hbU, hoU, hrU, hYU, fun j hj => ?_, hxU, by omega⟩ (by show bids.length - (i + 1) < bids.length - i; omega)
            by_cases e : j = i
            · subst e
              simp only [fs, if_true]
              rw [if_pos (Nat.lt_succ_self _)]
              exact ⟨hLU.ints (by omega), fun b hb => ⟨by have := hvo b hb; omega, hvl b hb⟩⟩
            · simp only [fs, if_neg e]
              have h1 := hrowU j hj e
              have e2 : (j < i + 1) ↔ (j < i) := ⟨fun _ => by omega, fun _ => by omega⟩
              simp only [e2]
              exact ⟨h1, fun b hb => ⟨((hrowV0 j hj e).2 b hb).1, by have := ((hrowV0 j hj e).2 b hb).2; omega⟩⟩
        · have hin : i = bids.length := by omega
          subst hin
          have hwl2 := wB_len res bids.length x2
          have hbi2 : Rows V (sv d2 bids.length e2) (wB res bids.length x2) := hbV.rows hwl2 (by omega) fun j hj => by have := (hrowV j hj).1; rw [if_pos hj] at this; rw [wB_get hj]; exact this
          have hck2 := chk_same hck x2
          have hOK2 := mkok hck2
          refine Exists.elim (run_ex hOK2) fun L2 hL2 => ?_
          have hrI3 := hM3.r
          repeat (first | (refine isO ?_; refine s_assign ?_) | (refine isC ?_; first | refine c_sr ?_ | refine c_seq ?_ | refine c_block ?_ | refine c_exit ?_) | (refine l_th ?_))
          refine c_loop2 5316901841934861665780016267495784448 (fun (k : Nat) (b : Bool) => [(15, .int .i64 (k : Int)), (14, .bool b)]) (fun k b U => k ≤ res.length ∧ b = sameB res x2 k ∧ Ex V U) (fun k _ => res.length - k) 0 true ⟨rfl, rfl, trivial⟩ ⟨Nat.zero_le _, rfl, Ex.refl _⟩ ?_
          rintro k b ρ3 U ⟨hk, hbs, hxU⟩
          have hZU := hZ3.ex (hxV.trans hxU)
          have hrI := (hM3.ex (hxV.trans hxU)).r
          repeat (first | (refine isO ?_; first | refine s_move ?_ | (refine isBin ?_; refine s_lss rfl rfl ?_) | (refine isCall ?_; refine s_lenI sl_ints rfl (by assumption) ?_) | (refine isLD ?_; refine s_ldA ty_ints rfl (by assumption) rfl ?_)) | (refine isO ?_; refine s_fa Try.underlying25 rfl ty_ints rfl ?_) | (refine isC ?_; first | refine c_sr ?_ | refine c_seq ?_) | (refine l_th ?_))
          refine c_ifd rfl (fun h3 => ?_) (fun h3 => ?_)
          · have hk' : k < res.length := by omega
            have hbk := hOK.rb k
            have hst := sameB_succ res x2 k
            cases b with
            | true =>
              rw [← hbs, Bool.true_and] at hst
              repeat (first | (refine isO ?_; first | refine s_move ?_ | (refine isG ?_; refine g_yes rfl rfl ?_) | (refine isLD ?_; refine s_ldA ty_ints rfl (by assumption) rfl ?_)) | (refine isO ?_; refine s_fa Try.underlying25 rfl ty_ints rfl ?_) | (refine isC ?_; first | refine c_th ?_ | refine c_seq ?_ | refine c_region ?_ | refine c_block ?_))
              refine s_iaI (n := k) sl_ints ty_int rfl rfl hrI (by omega) ?_
              intro ad hc
              repeat (first | (refine isO ?_; first | refine s_move ?_ | (refine isG ?_; refine g_yes rfl rfl ?_)) | (refine isO ?_; refine s_ld ty_int rfl (by assumption) ?_))
              refine s_conv (n := x2) (by kernel_rfl) Try.underlying3 rfl (by show _ ≤ 9223372036854775807; omega) ?_
              refine g_yes rfl rfl ?_
              refine s_add (a := res.getD k 0) (b := (x2 : Int)) rfl rfl ⟨by omega, by omega⟩ ?_
              refine g_yes rfl rfl ?_
              refine s_leq rfl rfl ?_
              refine s_re (v' := .bool (sameB res x2 (k + 1))) (vbool hst.symm) ?_
              repeat (first | (refine isO ?_; first | refine s_move ?_ | refine s_assign ?_ | (refine isBin ?_; refine s_inc rfl (by omega) ?_) | (refine isPick ?_; refine s_pickt rfl rfl ?_)) | (refine isC ?_; refine c_region ?_) | (first | refine l_th ?_ | refine l_nil ?_))
              exact loop_end2 (k + 1) _ (by (repeat (first | exact agree_refl _ _ | refine agree_upd rfl ?_ | refine agree_ext rfl ?_ | refine agree_mask rfl ?_))) ⟨vint (by omega), rfl, trivial⟩ ⟨hk', rfl, hxU⟩ (by show res.length - (k + 1) < res.length - k; omega)
            | false =>
              rw [← hbs, Bool.false_and] at hst
              repeat (first | (refine isO ?_; first | refine s_move ?_ | refine s_assign ?_ | (refine isG ?_; refine g_no rfl rfl rfl ?_) | (refine isBin ?_; refine s_inc rfl (by omega) ?_) | (refine isPick ?_; refine s_pickf rfl rfl ?_)) | (refine isC ?_; first | refine c_th ?_ | refine c_seq ?_ | refine c_region ?_ | refine c_block ?_) | (first | refine l_th ?_ | refine l_nil ?_))
              exact loop_end2 (k + 1) false (by (repeat (first | exact agree_refl _ _ | refine agree_upd rfl ?_ | refine agree_ext rfl ?_ | refine agree_mask rfl ?_))) ⟨vint (by omega), rfl, trivial⟩ ⟨hk', hst.symm, hxU⟩ (by show res.length - (k + 1) < res.length - k; omega)
          · have hkn : k = res.length := by omega
            subst hkn
            have hMk : Mk U (sv d1 res.length e1) (sv d2 bids.length e2) (sv d3 ord.length e3) res (wB res bids.length x2) ord := ⟨(hrV.ex hxU).ints, hbi2.ex hxU, (hoV.ex hxU).ints (by omega)⟩
            repeat ((refine isC ?_; first | refine c_sr ?_ | refine c_exit ?_))
            refine s_ldV Try.underlying25 rfl (sz_mk _ _ _) rfl (hYV.ex hxU) ?_
            refine s_call ok_rLeast rfl (Least_ok _ _ _ res _ ord L2 U hMk hck2 hL2.1) ?_
            rintro u U2 ⟨bo, rfl, hOo, hbo, hx2U⟩
            have hZ9 := hZU.ex hx2U
            have hr9 := hrI.ex hx2U
            have hx19 := hx13.trans (hxV.trans (hxU.trans hx2U))
            cases b with
            | true =>
              have he2 : endL L2 = res := same_end (by omega) (sameB_all hbs.symm) hOK2 hL2.1 hL2.2
              have hOo' : OwnI U2 3 bo res.length res := by have h9 : L2.getD (L2.length - 1) [] = res := he2; rw [h9] at hOo; exact hOo
              have hIo := hOo'.ints
              repeat (first | (refine isO ?_; first | refine s_move ?_ | refine s_assign ?_ | (refine isG ?_; refine g_yes rfl rfl ?_) | (refine isBin ?_; refine s_eqlT rfl rfl (by omega) ?_) | (refine isLD ?_; refine s_ldA ty_ints rfl (by assumption) rfl ?_) | refine s_extract rfl rfl ?_ | refine s_not rfl ?_) | (refine isO ?_; refine s_fa Try.underlying25 rfl ty_ints rfl ?_) | (refine isC ?_; refine c_sr ?_) | (refine l_th ?_))
              refine s_call ok_SameInts rfl (SameInts_ct _ _ res res U2 hIo hr9) ?_
              rintro u U3 ⟨rfl, hx3U⟩
              refine s_re (v' := .bool true) (vbool (decide_eq_true rfl)) ?_
              repeat ((refine isO ?_; first | refine s_move ?_ | (refine isG ?_; refine g_yes rfl rfl ?_) | (refine isPick ?_; first | refine s_pickt rfl rfl ?_ | refine s_pickf rfl rfl ?_)))
              refine s_call ok_lives rfl (lives_ct U3) ?_
              rintro u U4 ⟨rfl, hx4U⟩
              repeat (first | (refine isO ?_; first | refine s_assign ?_ | (refine isPick ?_; refine s_pickt rfl rfl ?_)) | (refine isC ?_; refine c_ret ?_) | (refine l_th ?_))
              exact ret1 rfl rfl ⟨rfl, hx01.trans (hx19.trans (hx3U.trans hx4U))⟩
            | false =>
              repeat (first | (refine isO ?_; first | refine s_move ?_ | refine s_assign ?_ | (refine isG ?_; first | refine g_yes rfl rfl ?_ | refine g_no rfl rfl rfl ?_) | (refine isBin ?_; refine s_eqlT rfl rfl (by omega) ?_) | (refine isPick ?_; refine s_pickt rfl rfl ?_) | refine s_extract rfl rfl ?_ | refine s_not rfl ?_) | (refine isC ?_; refine c_sr ?_) | (refine l_th ?_))
              refine s_call ok_lives rfl (lives_ct U2) ?_
              rintro u U4 ⟨rfl, hx4U⟩
              repeat (first | (refine isO ?_; first | refine s_assign ?_ | (refine isPick ?_; refine s_pickt rfl rfl ?_)) | (refine isC ?_; refine c_ret ?_) | (refine l_th ?_))
              exact ret1 rfl rfl ⟨rfl, hx01.trans (hx19.trans hx4U)⟩
  · refine s_re (v' := .bool false) (vbool hck) ?_
    repeat (first | (refine isO ?_; refine s_not rfl ?_) | (refine isC ?_; first | refine c_sr ?_ | refine c_ift rfl ?_) | (refine l_th ?_))
    refine s_call ok_lives rfl (lives_ct w1) ?_
    rintro u w2 ⟨rfl, hx2⟩
    repeat (first | (refine isO ?_; refine s_assign ?_) | (refine isC ?_; refine c_ret ?_) | (first | refine l_th ?_ | refine th_ret ?_))
    exact ret1 rfl rfl ⟨rfl, hx01.trans hx2⟩
end Go.Proofs.Ytifbgpkjbciblaa.Sal
end
