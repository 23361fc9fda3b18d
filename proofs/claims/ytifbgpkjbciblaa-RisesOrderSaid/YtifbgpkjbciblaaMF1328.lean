/- Texts that YtifbgpkjbciblaaF132 leans on, laid together: TW3 V15 V16 V17 V18 V21 L132. -/
import Derived.Test.YtifbgpkjbciblaaMF1326
import Derived.Test.YtifbgpkjbciblaaMF1323
import Derived.Test.YtifbgpkjbciblaaMF1327
section
/- TW3: twins, and the room behind them. -/
set_option maxRecDepth 100000
namespace Go.Proofs.Ytifbgpkjbciblaa.Sal
open Go.RowKit
set_option linter.all false
theorem Rw.posL {w : World} {E : TypeId} {v : Value} {vs : List Value} (h : Rw w E v vs) (hn : 0 < vs.length) : ∃ b c sp, v = sv b vs.length c ∧ At w b E (vs ++ sp) ∧ vs.length ≤ c ∧ c = vs.length + sp.length ∧ c ≤ 9223372036854775807 := by
  obtain ⟨h1, h2⟩ := h
  rcases h2 with ⟨hv, h0⟩ | ⟨g, cap, cur, hv, _, hh, hc, hm, hcs, ht⟩
  · omega
  · rw [Nat.mul_one] at ht hcs
    have e : vs ++ cur.toList.drop vs.length = cur.toList := by
      conv => lhs; lhs; rw [← ht]
      exact List.take_append_drop _ _
    refine ⟨g, cap, cur.toList.drop vs.length, hv, ?_, hc, ?_, by simpa [maxLen] using hm⟩
    · unfold At; rw [hh, e]
    · have h3 : (vs ++ cur.toList.drop vs.length).length = cur.toList.length := congrArg List.length e
      rw [List.length_append] at h3
      have h4 : cur.toList.length = cur.size := Array.length_toList
      omega
/-- A twin: one number more stands behind it, in its room. -/
def TwI (w : World) (b c : Nat) (l : List Int) : Prop := ∃ sp, At w b 3 (l.map (Value.int .i64) ++ .int .i64 77 :: sp) ∧ l.length < c ∧ c = l.length + 1 + sp.length ∧ c ≤ 9223372036854775807 ∧ l.length ≤ 10000
theorem TwI.ex {w w' : World} {b c : Nat} {l : List Int} (h : TwI w b c l) (hx : Ex w w') : TwI w' b c l := let ⟨sp, h1, h2⟩ := h; ⟨sp, h1.ex hx, h2⟩
theorem TwI.grown {w w' : World} {b c : Nat} {l : List Int} {o : Option Nat} (h : TwI w b c l) (hg : w.grownBy w' o) (hne : o ≠ some b) : TwI w' b c l := let ⟨sp, h1, h2⟩ := h; ⟨sp, h1.grown hg hne, h2⟩
theorem TwI.lt {w : World} {b c : Nat} {l : List Int} (h : TwI w b c l) : b < w.heap.size := let ⟨sp, h1, h2⟩ := h; h1.lt
theorem TwI.ints {w : World} {b c : Nat} {l : List Int} (h : TwI w b c l) : Ints w (sv b l.length c) l := by
  obtain ⟨sp, hA, hc, _, _, hm⟩ := h
  have := hA.sl (n := l.length) (c := c) (by simp) (by omega) (by omega)
  rwa [List.take_left' (by simp)] at this
theorem TwI.wd {w : World} {b c : Nat} {l : List Int} (h : TwI w b c l) : Wd w 3 1 (sv b l.length c) l.length (l.map (Value.int .i64)) := by
  obtain ⟨sp, hA, hc, he, h63, hm⟩ := h
  exact ⟨by simp, .inr ⟨b, c, .int .i64 77 :: sp, rfl, hA, by omega, h63, by simp; omega⟩⟩
/-- A twin of lists. -/
def TwL (w : World) (b c : Nat) (rb rc : Nat → Nat) (g : List (List Int)) : Prop :=
  (∃ eb sp, At w b 22 ((List.range g.length).map (fun i => sv (rb i) (g.getD i []).length (rc i)) ++ sv eb 1 1 :: sp) ∧ At w eb 3 [.int .i64 77] ∧ c = g.length + 1 + sp.length) ∧ g.length < c ∧ c ≤ 9223372036854775807 ∧ g.length ≤ 10000 ∧ (∀ i, i < g.length → TwI w (rb i) (rc i) (g.getD i []) ∧ rb i ≠ b) ∧ ∀ i j, i < j → j < g.length → rb i < rb j
theorem TwL.ex {w w' : World} {b c : Nat} {rb rc : Nat → Nat} {g : List (List Int)} (h : TwL w b c rb rc g) (hx : Ex w w') : TwL w' b c rb rc g := by
  obtain ⟨⟨eb, sp, h1, h2, h3⟩, h4, h5, h6, h7, h8⟩ := h
  exact ⟨⟨eb, sp, h1.ex hx, h2.ex hx, h3⟩, h4, h5, h6, fun i hi => ⟨(h7 i hi).1.ex hx, (h7 i hi).2⟩, h8⟩
theorem TwL.sl {w : World} {b c : Nat} {rb rc : Nat → Nat} {g : List (List Int)} (h : TwL w b c rb rc g) : Sl w (sv b g.length c) ((List.range g.length).map (fun i => sv (rb i) (g.getD i []).length (rc i))) := by
  obtain ⟨⟨eb, sp, h1, _⟩, h2, _, h3, _⟩ := h
  have := h1.sl (n := g.length) (c := c) (by simp) (by omega) (by omega)
  rwa [List.take_left' (by simp)] at this
theorem TwL.wd {w : World} {b c : Nat} {rb rc : Nat → Nat} {g : List (List Int)} (h : TwL w b c rb rc g) : Wd w 22 1 (sv b g.length c) g.length ((List.range g.length).map (fun i => sv (rb i) (g.getD i []).length (rc i))) := by
  obtain ⟨⟨eb, sp, h1, _, h2⟩, h3, h4, _⟩ := h
  exact ⟨by simp, .inr ⟨b, c, sv eb 1 1 :: sp, rfl, h1, by omega, h4, by simp; omega⟩⟩
theorem TwL.rows {w : World} {b c : Nat} {rb rc : Nat → Nat} {g : List (List Int)} (h : TwL w b c rb rc g) : Rows w (sv b g.length c) g := by
  refine ⟨_, h.sl, by simp, fun i u l hu hl => ?_⟩
  have hi := (List.getElem?_eq_some_iff.1 hl).1
  obtain ⟨_, _, _, _, h7, _⟩ := h
  have e1 : u = sv (rb i) (g.getD i []).length (rc i) := by simp [hi] at hu; simp [hi, hu]
  have e2 : g.getD i [] = l := by simp [List.getD_eq_getElem?_getD, hl]
  rw [e1]
  have := (h7 i hi).1.ints
  rwa [e2] at this ⊢
attribute [local irreducible] Go.Code.wpIn Go.wpListIn Ct Ints Rows Sl At Rw WJ
attribute [local irreducible] Wd
theorem TwinIntsW_ct (u : Value) (l : List Int) (w : World) (hl : Ints w u l) (hm : l.length ≤ 10000) :
    Ct Try.prog 12 #[u] w fun x w' => ∃ b c, x = sv b l.length c ∧ w.heap.size ≤ b ∧ TwI w' b c l ∧ Ex w w' := by
  obtain ⟨ti, hi1, hi2, hi3, hi4⟩ := in_int'
  refine enter (N := 28) (vs := [u]) Try.func12 rfl rfl rfl ?_
  repeat (first | (refine isO ?_; first | refine s_move ?_ | refine s_assign ?_ | (refine isBin ?_; refine s_inc rfl (by omega) ?_) | (refine isCall ?_; refine s_lenI sl_ints rfl (by assumption) ?_)) | (refine isC ?_; refine c_sr ?_) | (refine l_th ?_))
  refine s_mk0 (n := l.length + 1) sl_ints hi1 hi2 hi3 rfl hi4 rfl rfl (by omega) ?_
  intro b0 w1 hb0 hR hx1 hs1
  repeat (first | (refine isO ?_; refine s_assign ?_) | (refine isC ?_; first | refine c_sr ?_ | refine c_seq ?_ | refine c_block ?_) | (refine l_th ?_))
  refine c_loop (γ := Nat × Value) 4193816 (fun x => [(4, .int .i64 (x.1 : Int)), (3, x.2)])
    (fun x w' => x.1 ≤ l.length ∧ Rw w' 3 x.2 ((l.take x.1).map (Value.int .i64)) ∧ Ex w w' ∧ ∀ b, x.2.ownBlock = some b → w.heap.size ≤ b) (fun x => l.length - x.1) (0, sv b0 0 (l.length + 1)) ⟨rfl, rfl, trivial⟩
    ⟨Nat.zero_le _, hR, hx1, fun b h => by have h : b0 = b := Option.some.inj h; omega⟩ ?_
  rintro ⟨k, v⟩ ρ w2 ⟨hk, hv, hx, hb⟩
  dsimp only at hk hv hx hb ⊢
  have hl2 := hl.ex hx
  repeat (first | (refine isO ?_; first | refine s_move ?_ | (refine isBin ?_; refine s_lss rfl rfl ?_) | (refine isCall ?_; refine s_lenI sl_ints rfl (by assumption) ?_)) | (refine isC ?_; first | refine c_sr ?_ | refine c_seq ?_) | (refine l_th ?_))
  refine c_ifd rfl (fun h => ?_) (fun h => ?_)
  · have hk' : k < l.length := by omega
    repeat (first | (refine isO ?_; first | refine s_move ?_ | (refine isIA ?_; refine s_ixI sl_ints ty_int rfl rfl rfl (by assumption) (by omega) ?_; intro _)) | (refine isC ?_; first | refine c_th ?_ | refine c_seq ?_ | refine c_region ?_ | refine c_block ?_))
    refine s_bs1 (u := .int .i64 (l.getD k 0)) sl_ints in_int rfl rfl ?_
    intro b1 w3 hb1 hA hx3 hs3
    refine s_app (news := [.int .i64 (l.getD k 0)]) sl_ints in_int (hv.ex hx3) (hA.sl (Nat.le_refl _) (by simp) (by simp)) rfl rfl (one_int _) (by simp; omega) ?_
    intro v' w4 hv' hg hown
    repeat (first | (refine isO ?_; first | refine s_move ?_ | refine s_assign ?_ | (refine isBin ?_; refine s_inc rfl (by omega) ?_)) | (refine isC ?_; refine c_region ?_) | (first | refine l_th ?_ | refine l_nil ?_))
    refine loop_end (k + 1, v') (by (repeat (first | exact agree_refl _ _ | refine agree_upd rfl ?_ | refine agree_ext rfl ?_ | refine agree_mask rfl ?_))) ⟨rfl, rfl, trivial⟩ ⟨hk', ?_, (hx.trans hx3).storeo hg hb, ?_⟩ (by dsimp only; omega)
    · dsimp only; rw [take_map_succ hk']; exact hv'
    · intro b hb'
      rcases hown with h1 | h1
      · exact hb b (h1.symm.trans hb')
      · have := h1 b hb'; have := hx.size; have := hx3.size; omega
  · have hkn : k = l.length := by omega
    subst hkn
    rw [List.take_length] at hv
    repeat (first | (refine isO ?_; refine s_move ?_) | (refine isC ?_; first | refine c_sr ?_ | refine c_exit ?_))
    refine s_bs1 (u := .int .i64 77) sl_ints in_int rfl rfl ?_
    intro b1 w3 hb1 hA hx3 hs3
    refine s_app (news := [.int .i64 77]) sl_ints in_int (hv.ex hx3) (hA.sl (Nat.le_refl _) (by simp) (by simp)) rfl rfl (one_int _) (by simp; omega) ?_
    intro v' w4 hv' hg hown
    obtain ⟨b2, c2, sp, rfl, hA4, hc, hcl, hcm⟩ := hv'.posL (by simp)
    have hfr : w.heap.size ≤ b2 := by
      rcases hown with h1 | h1
      · exact hb b2 h1.symm
      · have := h1 b2 rfl; have := hx.size; have := hx3.size; omega
    simp only [List.length_append, List.length_map, List.length_singleton] at hc hcl
    have hx4 := (hx.trans hx3).storeo hg hb
    have hl4 := hl.ex hx4
    repeat ((refine isO ?_; first | refine s_move ?_ | (refine isCall ?_; refine s_lenI sl_ints rfl (by assumption) ?_)))
    refine s_head (hi := l.length) sl_ints ty_int rfl rfl (by omega) ?_
    repeat (first | (refine isO ?_; refine s_assign ?_) | (refine isC ?_; refine c_ret ?_) | (refine l_th ?_))
    refine ret1 rfl rfl ⟨b2, c2, rfl, hfr, ⟨sp, by rw [List.append_assoc] at hA4; exact hA4, by omega, by omega, hcm, hm⟩, hx4⟩

theorem TwinIntListsW_ct (u : Value) (g : List (List Int)) (w : World) (hg : Rows w u g) (hm : g.length ≤ 10000) (hr : ∀ i, i < g.length → (g.getD i []).length ≤ 10000) :
    Ct Try.prog 41 #[u] w fun x w' => ∃ b c rb rc, x = sv b g.length c ∧ w.heap.size ≤ b ∧ (∀ i, i < g.length → w.heap.size ≤ rb i) ∧ TwL w' b c rb rc g ∧ Ex w w' := by
  obtain ⟨ti, hi1, hi2, hi3, hi4⟩ := in_ints.ex
  refine enter (N := 30) (vs := [u]) Try.func41 rfl rfl rfl ?_
  repeat (first | (refine isO ?_; first | refine s_move ?_ | refine s_assign ?_ | (refine isBin ?_; refine s_inc rfl (by omega) ?_) | (refine isCall ?_; refine s_lenR sl_rows rfl (by assumption) ?_)) | (refine isC ?_; refine c_sr ?_) | (refine l_th ?_))
  refine s_mk0 (n := g.length + 1) sl_rows hi1 hi2 hi3 rfl hi4 rfl rfl (by omega) ?_
  intro b0 w1 hb0 hR hx1 hs1
  repeat (first | (refine isO ?_; refine s_assign ?_) | (refine isC ?_; first | refine c_sr ?_ | refine c_seq ?_ | refine c_block ?_) | (refine l_th ?_))
  refine c_loop (γ := Nat × Value × (Nat → Nat) × (Nat → Nat)) 8388120 (fun x => [(4, .int .i64 (x.1 : Int)), (3, x.2.1)])
    (fun x w' => x.1 ≤ g.length ∧ Rw w' 22 x.2.1 ((List.range x.1).map (fun i => sv (x.2.2.1 i) (g.getD i []).length (x.2.2.2 i))) ∧ Ex w w' ∧ (∀ b, x.2.1.ownBlock = some b → w.heap.size ≤ b) ∧
      (∀ i, i < x.1 → TwI w' (x.2.2.1 i) (x.2.2.2 i) (g.getD i []) ∧ some (x.2.2.1 i) ≠ x.2.1.ownBlock ∧ w.heap.size ≤ x.2.2.1 i) ∧ ∀ i j, i < j → j < x.1 → x.2.2.1 i < x.2.2.1 j) (fun x => g.length - x.1) (0, sv b0 0 (g.length + 1), fun _ => 0, fun _ => 0) ⟨rfl, rfl, trivial⟩
    ⟨Nat.zero_le _, hR, hx1, fun b h => by have h : b0 = b := Option.some.inj h; omega, fun i h => absurd h (Nat.not_lt_zero _), fun i j _ h => absurd h (Nat.not_lt_zero _)⟩ ?_
  rintro ⟨k, v, rb, rc⟩ ρ w2 ⟨hk, hv, hx, hb, hO, hmon⟩
  dsimp only at hk hv hx hb hO hmon ⊢
  have hg2 := hg.ex hx
  repeat (first | (refine isO ?_; first | refine s_move ?_ | (refine isBin ?_; refine s_lss rfl rfl ?_) | (refine isCall ?_; refine s_lenR sl_rows rfl (by assumption) ?_)) | (refine isC ?_; first | refine c_sr ?_ | refine c_seq ?_) | (refine l_th ?_))
  refine c_ifd rfl (fun h => ?_) (fun h => ?_)
  · have hk' : k < g.length := by omega
    repeat (first | (refine isO ?_; refine s_move ?_) | (refine isC ?_; first | refine c_th ?_ | refine c_seq ?_ | refine c_region ?_ | refine c_block ?_))
    refine s_ixR sl_rows ty_ints rfl rfl rfl hg2 hk' ?_
    intro _ u1 hu1
    refine s_call ok_TwinInts rfl (TwinIntsW_ct u1 _ w2 hu1 (hr k hk')) ?_
    rintro u2 w3 ⟨b1, c1, rfl, hb1, hO1, hx3⟩
    refine s_bs1 (u := sv b1 (g.getD k []).length c1) sl_rows in_ints rfl rfl ?_
    intro b2 w4 hb2 hA hx4 hs4
    refine s_app (news := [sv b1 (g.getD k []).length c1]) sl_rows in_ints (hv.ex (hx3.trans hx4)) (hA.sl (Nat.le_refl _) (by simp) (by simp)) rfl rfl (by intro q hq; simp at hq; subst hq; rfl) (by simp; omega) ?_
    intro v' w5 hv' hgr hown
    repeat (first | (refine isO ?_; first | refine s_move ?_ | refine s_assign ?_ | (refine isBin ?_; refine s_inc rfl (by omega) ?_)) | (refine isC ?_; refine c_region ?_) | (first | refine l_th ?_ | refine l_nil ?_))
    have hv2 : ∀ b, v.ownBlock = some b → b < w2.heap.size := hv.lt
    have hsz3 := hx3.size
    have hsz4 := hx4.size
    have hsz := hx.size
    refine loop_end (k + 1, v', updN rb k b1, updN rc k c1) (by (repeat (first | exact agree_refl _ _ | refine agree_upd rfl ?_ | refine agree_ext rfl ?_ | refine agree_mask rfl ?_))) ⟨rfl, rfl, trivial⟩ ⟨hk', ?_, ((hx.trans hx3).trans hx4).storeo hgr hb, ?_, ?_, ?_⟩ (by dsimp only; omega)
    · dsimp only
      have e : (List.range (k + 1)).map (fun i => sv (updN rb k b1 i) (g.getD i []).length (updN rc k c1 i)) = (List.range k).map (fun i => sv (rb i) (g.getD i []).length (rc i)) ++ [sv b1 (g.getD k []).length c1] := by
        rw [List.range_succ, List.map_append]
        congr 1
        · apply List.map_congr_left
          intro i hi
          have : i ≠ k := by have := List.mem_range.1 hi; omega
          simp [updN, this]
        · simp [updN]
      rw [e]; exact hv'
    · intro b hb'
      rcases hown with h1 | h1
      · exact hb b (h1.symm.trans hb')
      · have := h1 b hb'; omega
    · intro i hi
      dsimp only at hi ⊢
      by_cases hik : i = k
      · subst hik
        have e1 : updN rb i b1 i = b1 := by simp [updN]
        have e2 : updN rc i c1 i = c1 := by simp [updN]
        rw [e1, e2]
        have hb1lt := hO1.lt
        refine ⟨(hO1.ex hx4).grown hgr (fun e => ?_), fun e => ?_, by omega⟩
        · have := hv2 b1 e; omega
        · rcases hown with h1 | h1
          · have := hv2 b1 (h1.symm.trans e.symm); omega
          · have := h1 b1 e.symm; omega
      · have e1 : updN rb k b1 i = rb i := by simp [updN, hik]
        have e2 : updN rc k c1 i = rc i := by simp [updN, hik]
        rw [e1, e2]
        obtain ⟨hOi, hne, hge⟩ := hO i (by omega)
        have hlt := hOi.lt
        refine ⟨((hOi.ex hx3).ex hx4).grown hgr (fun e => hne e.symm), fun e => ?_, hge⟩
        rcases hown with h1 | h1
        · exact hne (e.trans h1)
        · have := h1 (rb i) e.symm; omega
    · intro i j hij hj
      dsimp only at hj ⊢
      by_cases hjk : j = k
      · subst hjk
        have e1 : updN rb j b1 j = b1 := by simp [updN]
        have hij' : i ≠ j := by omega
        have e2 : updN rb j b1 i = rb i := by simp [updN, hij']
        rw [e1, e2]
        have := (hO i (by omega)).1.lt; omega
      · have hik : i ≠ k := by omega
        have e1 : updN rb k b1 j = rb j := by simp [updN, hjk]
        have e2 : updN rb k b1 i = rb i := by simp [updN, hik]
        rw [e1, e2]
        exact hmon i j hij (by omega)
  · have hkn : k = g.length := by omega
    subst hkn
    repeat (first | (refine isO ?_; refine s_move ?_) | (refine isC ?_; first | refine c_sr ?_ | refine c_exit ?_))
    refine s_bs1 (u := .int .i64 77) sl_ints in_int rfl rfl ?_
    intro b1 w3 hb1 hA hx3 hs3
    refine s_bs1 (u := sv b1 1 1) sl_rows in_ints rfl rfl ?_
    intro b2 w4 hb2 hA2 hx4 hs4
    refine s_app (news := [sv b1 1 1]) sl_rows in_ints (hv.ex (hx3.trans hx4)) (hA2.sl (Nat.le_refl _) (by simp) (by simp)) rfl rfl (by intro q hq; simp at hq; subst hq; rfl) (by simp; omega) ?_
    intro v' w5 hv' hgr hown
    obtain ⟨b3, c3, sp, rfl, hA5, hc, hcl, hcm⟩ := hv'.posL (by simp)
    have hsz3 := hx3.size
    have hsz4 := hx4.size
    have hsz := hx.size
    have hfr : w.heap.size ≤ b3 := by
      rcases hown with h1 | h1
      · exact hb b3 h1.symm
      · have := h1 b3 rfl; omega
    simp only [List.length_append, List.length_map, List.length_range, List.length_singleton] at hc hcl
    have hb13 : b1 ≠ b3 := fun e => by
      have hl1 := hA.lt
      rcases hown with h1 | h1
      · have := hv.lt b3 h1.symm; omega
      · have := h1 b3 rfl; have := hA2.lt; omega
    have hA15 := (hA.ex hx4).grown hgr (fun e => by have := hv.lt b1 e; omega)
    have hx5 := ((hx.trans hx3).trans hx4).storeo hgr hb
    have hg5 := hg.ex hx5
    repeat ((refine isO ?_; first | refine s_move ?_ | (refine isCall ?_; refine s_lenR sl_rows rfl (by assumption) ?_)))
    refine s_head (hi := g.length) sl_rows ty_ints rfl rfl (by omega) ?_
    repeat (first | (refine isO ?_; refine s_assign ?_) | (refine isC ?_; refine c_ret ?_) | (refine l_th ?_))
    refine ret1 rfl rfl ⟨b3, c3, rb, rc, rfl, hfr, fun i hi => (hO i hi).2.2, ⟨⟨b1, sp, by rw [List.append_assoc] at hA5; exact hA5, hA15, by omega⟩, by omega, hcm, by omega, fun i hi => ?_, hmon⟩, hx5⟩
    obtain ⟨hOi, hne, hge⟩ := hO i hi
    have hlt := hOi.lt
    refine ⟨((hOi.ex hx3).ex hx4).grown hgr (fun e => hne e.symm), fun e => ?_⟩
    rcases hown with h1 | h1
    · exact hne (by rw [e]; exact h1)
    · have := h1 b3 rfl; omega
end Go.Proofs.Ytifbgpkjbciblaa.Sal
end
section
/- salesroomlaw01.TwinMarket. -/
set_option maxRecDepth 100000
namespace Go.Proofs.Ytifbgpkjbciblaa.Sal
open Go.RowKit
/-- A market of the call's own. -/
structure MkO (w0 w : World) (b1 c1 b2 c2 : Nat) (rb rc : Nat → Nat) (b3 c3 : Nat) (res : List Int) (bids : List (List Int)) (ord : List Int) : Prop where
  r : OwnI w 3 b1 c1 res
  b : Mat w 22 3 b2 c2 rb rc bids
  o : OwnI w 3 b3 c3 ord
  n12 : b1 ≠ b2
  n13 : b1 ≠ b3
  n23 : b2 ≠ b3
  nr : ∀ i, i < bids.length → rb i ≠ b1 ∧ rb i ≠ b3
  l1 : w0.heap.size ≤ b1
  l2 : w0.heap.size ≤ b2
  l3 : w0.heap.size ≤ b3
  lr : ∀ i, i < bids.length → w0.heap.size ≤ rb i
theorem MkO.mk' {w0 w : World} {b1 c1 b2 c2 : Nat} {rb rc : Nat → Nat} {b3 c3 : Nat} {res : List Int} {bids : List (List Int)} {ord : List Int} (h : MkO w0 w b1 c1 b2 c2 rb rc b3 c3 res bids ord) : Mk w (sv b1 res.length c1) (sv b2 bids.length c2) (sv b3 ord.length c3) res bids ord := ⟨h.r.ints, h.b.rows, h.o.ints⟩
theorem MkO.ex {w0 w w' : World} {b1 c1 b2 c2 : Nat} {rb rc : Nat → Nat} {b3 c3 : Nat} {res : List Int} {bids : List (List Int)} {ord : List Int} (h : MkO w0 w b1 c1 b2 c2 rb rc b3 c3 res bids ord) (hx : Ex w w') : MkO w0 w' b1 c1 b2 c2 rb rc b3 c3 res bids ord :=
  { h with r := h.r.ex hx, b := h.b.ex hx, o := h.o.ex hx }
/-- A twin of a market, with room behind its lists. -/
structure MkT (w0 w : World) (b1 c1 b2 c2 : Nat) (vs : Nat → Value) (b3 c3 : Nat) (res : List Int) (bids : List (List Int)) (ord : List Int) : Prop where
  r : OwnI w 3 b1 c1 res
  b : Wd w 22 1 (sv b2 bids.length c2) bids.length ((List.range bids.length).map vs)
  o : Wd w 3 1 (sv b3 ord.length c3) ord.length (ord.map (Value.int .i64))
  n12 : b1 ≠ b2
  n13 : b1 ≠ b3
  n23 : b2 ≠ b3
  row : ∀ i, i < bids.length → Ints w (vs i) (bids.getD i []) ∧ ∀ b, (vs i).ownBlock = some b → w0.heap.size ≤ b ∧ b ≠ b1 ∧ b ≠ b2 ∧ b ≠ b3 ∧ b < w.heap.size
  l1 : w0.heap.size ≤ b1
  l2 : w0.heap.size ≤ b2
  l3 : w0.heap.size ≤ b3
theorem TwI.owni {w : World} {b c : Nat} {l : List Int} (h : TwI w b c l) : OwnI w 3 b c l := let ⟨sp, h1, h2, _, _, h5⟩ := h; ⟨_, h1, by omega, by omega⟩
attribute [local irreducible] Go.Code.wpIn Go.wpListIn Ct Ints Rows Sl At Rw WJ
attribute [local irreducible] Wd
set_option linter.all false
theorem ok_TwinMarket : CallOK Try.prog 17 := callOK Try.func17 (by kernel_rfl) rfl
theorem TwinMarketW_ct (rv bv ov : Value) (res : List Int) (bids : List (List Int)) (ord : List Int) (w : World) (hM : Mk w rv bv ov res bids ord) (h1 : res.length ≤ 10000) (h2 : bids.length ≤ 10000) (h3 : ∀ i, i < bids.length → (bids.getD i []).length ≤ 10000) (h4 : ord.length ≤ 10000) :
    Ct Try.prog 17 #[.agg #[rv, bv, ov]] w fun u w' => ∃ b1 c1 b2 c2 vs b3 c3, u = .agg #[sv b1 res.length c1, sv b2 bids.length c2, sv b3 ord.length c3] ∧ MkT w w' b1 c1 b2 c2 vs b3 c3 res bids ord ∧ Ex w w' := by
  refine Exists.elim in_mkt fun ti hti => ?_
  refine enter (N := 13) (vs := [.agg #[rv, bv, ov]]) Try.func17 rfl rfl rfl ?_
  repeat ((refine isC ?_; refine c_sr ?_))
  refine s_box (cs := [rv, bv, ov]) rfl rfl ?_
  intro b0 w0 hb0 hZ hx0 hs0
  refine s_alloc (cs := [.slice none 0 0, .slice none 0 0, .slice none 0 0]) hti.1 hti.2 rfl ?_
  intro bt w1 hbt hT hx1 hs1
  have hx01 := hx0.trans hx1
  have hZ1 := hZ.ex hx1
  have hM1 := hM.ex hx01
  repeat (first | (refine isC ?_; refine c_seq ?_) | (refine l_th ?_))
  refine c_drawO (Ex.refl w1) 1024 8 [(0, true), (1, true), (3, true), (4, true), (6, true), (7, true), (2, false), (5, false), (8, false), (9, false), (10, false)] mixed (by kernel_rfl) ?_
  have hxd := Ex.drew w1
  refine d_fa rfl Try.underlying25 rfl ty_ints rfl ?_
  refine d_ldA rfl ty_ints rfl hZ1 rfl ?_
  refine d_fa rfl Try.underlying25 rfl ty_rows rfl ?_
  refine d_ldA rfl ty_rows rfl hZ1 rfl ?_
  refine d_fa rfl Try.underlying25 rfl ty_ints rfl ?_
  refine d_ldA rfl ty_ints rfl hZ1 rfl ?_
  refine d_ch rfl ?_
  refine s_call ok_TwinInts rfl (TwinIntsW_ct rv res w1.drew (hM1.r.ex hxd) h1) ?_
  rintro u w2 ⟨b1, c1, rfl, hb1, hO1, hx2⟩
  have hx12 := hxd.trans hx2
  refine l_nil ⟨rfl, .inr hx12, ?_⟩
  refine d_ch rfl ?_
  refine s_call ok_TwinIntLists rfl (TwinIntListsW_ct bv bids w2 (hM1.b.ex hx12) h2 h3) ?_
  rintro u w3 ⟨b2, c2, rb, rc, rfl, hb2, hrb, hMt, hx3⟩
  have hx13 := hx12.trans hx3
  refine l_nil ⟨rfl, .inr hx13, ?_⟩
  refine d_ch rfl ?_
  refine s_call ok_TwinInts rfl (TwinIntsW_ct ov ord w3 (hM1.o.ex hx13) h4) ?_
  rintro u w4 ⟨b3, c3, rfl, hb3, hO3, hx4⟩
  have hx14 := hx13.trans hx4
  refine l_nil ⟨rfl, .inr hx14, ?_⟩
  refine d_ch rfl ?_
  refine s_bldW (cells := [sv b1 res.length c1, sv b2 bids.length c2, sv b3 ord.length c3]) (built_mk _ _ _ _ _ _ _ _ _) ?_
  refine l_nil ⟨rfl, .inr hx14, ?_⟩
  refine d_ch rfl ?_
  refine s_stV (cs := [sv b1 res.length c1, sv b2 bids.length c2, sv b3 ord.length c3]) (sz_mk _ _ _) rfl rfl (hT.ex hx14) rfl rfl ?_
  intro w5 hA5 hg5 hs5
  refine l_nil ⟨rfl, .inl rfl, ?_⟩
  refine d_nil ?_
  have z0 := hx0.size
  have z1 := hx1.size
  have zd := hxd.size
  have z2 := hx2.size
  have z3 := hx3.size
  have z4 := hx4.size
  have lT := hT.lt
  have o1 := hO1.lt
  have hWd := hMt.wd
  have o2 : b2 < w3.heap.size := hWd.lt b2 rfl
  have o3 : ∀ i, i < bids.length → TwI w3 (rb i) (rc i) (bids.getD i []) ∧ rb i ≠ b2 := fun i hi => hMt.2.2.2.2.1 i hi
  have hx05 : Ex w w5 := (hx01.trans hx14).store hg5 (by omega)
  have hO15 := (hO1.ex (hx3.trans hx4)).grown hg5 (fun e => by cases e; omega)
  have hO35 := hO3.grown hg5 (fun e => by cases e; omega)
  repeat ((refine isC ?_; refine c_ret ?_))
  exact ret_cV rfl rfl Try.underlying25 rfl (sz_mk _ _ _) hA5 ⟨b1, c1, b2, c2, fun i => sv (rb i) (bids.getD i []).length (rc i), b3, c3, rfl,
    { r := hO15.owni, b := (hWd.ex hx4).grown hg5 (fun b hb e => by have h5 : b2 = b := Option.some.inj hb; have h6 : bt = b := Option.some.inj e; omega), o := hO35.wd, n12 := by omega, n13 := by omega, n23 := by omega,
      row := fun i hi => by
        have h7 := o3 i hi
        have h8 := h7.1.lt
        have h9 := hrb i hi
        exact ⟨((h7.1.ex hx4).grown hg5 (fun e => by cases e; omega)).ints, fun b hb => by
          have := Option.some.inj hb
          simp at this
          subst this
          exact ⟨by omega, by omega, h7.2, by omega, by have := hg5.size; omega⟩⟩,
      l1 := by omega, l2 := by omega, l3 := by omega }, hx05⟩
end Go.Proofs.Ytifbgpkjbciblaa.Sal
end
section
/- Plain: prices lean on what each bids alone. -/
set_option maxRecDepth 100000
namespace Go.Proofs.Ytifbgpkjbciblaa.Sal
set_option linter.all false
theorem need_congr {b b' : List (List Int)} {i j : Nat} (h : b.getD i [] = b'.getD j []) (p : List Int) (n : Nat) (l : List Int) : needB b p n l i = needB b' p n l j := by
  have h1 : dG b p i = dG b' p j := by unfold dG; rw [h]
  have h2 : mustB b p i = mustB b' p j := by unfold mustB; rw [h1]
  have h3 : RD b p i = RD b' p j := by
    funext k
    unfold RD gD lenB
    rw [h2, h1, h]
  unfold needB wantB
  rw [h2, h3]
theorem need_nil {b : List (List Int)} {i : Nat} (h : b.getD i [] = []) (p : List Int) (n : Nat) (l : List Int) : needB b p n l i = false := by
  have h1 : dG b p i = 0 := by rw [dG_eq]; unfold lenB; rw [h]; rfl
  unfold needB mustB
  rw [h1]; rfl
/-- In another order, turned. -/
theorem comp_rot {b b' : List (List Int)} {p : List Int} {n t : Nat} (hl : b'.length = b.length) (h0 : 0 < b.length) (h : ∀ i, i < b.length → b'.getD i [] = b.getD ((i + t) % b.length) []) : compP b' p n ↔ compP b p n := by
  have key : ∀ l, cnt (fun i => needB b' p n l i) b'.length = cnt (fun i => needB b p n l i) b.length := fun l => by
    rw [hl, ← cnt_rot (s := fun i => needB b p n l i) (by' := t) h0]
    exact cnt_congr _ fun i hi => need_congr (h i hi) p n l
  unfold compP
  constructor
  · intro hh l hr; rw [← key]; exact hh l hr
  · intro hh l hr; rw [key]; exact hh l hr
/-- One more that bids nothing. -/
theorem comp_more {b : List (List Int)} {p : List Int} {n : Nat} : compP (b ++ [[]]) p n ↔ compP b p n := by
  have key : ∀ l, cnt (fun i => needB (b ++ [[]]) p n l i) (b ++ [[]]).length = cnt (fun i => needB b p n l i) b.length := fun l => by
    rw [List.length_append]
    show cnt (fun i => needB (b ++ [[]]) p n l i) (b.length + 1) = _
    show cnt (fun i => needB (b ++ [[]]) p n l i) b.length + (if needB (b ++ [[]]) p n l b.length = true then 1 else 0) = _
    rw [need_nil (by simp [List.getD_eq_getElem?_getD])]
    simp only [Bool.false_eq_true, if_false, Nat.add_zero]
    exact cnt_congr _ fun i hi => need_congr (by simp [List.getD_eq_getElem?_getD, List.getElem?_append_left hi]) p n l
  unfold compP
  constructor
  · intro hh l hr; rw [← key]; exact hh l hr
  · intro hh l hr; rw [key]; exact hh l hr
end Go.Proofs.Ytifbgpkjbciblaa.Sal
end
section
/- Plain: orders. -/
set_option maxRecDepth 100000
namespace Go.Proofs.Ytifbgpkjbciblaa.Sal
set_option linter.all false
def upI (m : Nat) : List Int := (List.range m).map fun k : Nat => (k : Int)
theorem upI_nodup (m : Nat) : (upI m).Nodup := by
  unfold upI
  exact List.Pairwise.map _ (fun a b h e => h (by omega)) List.nodup_range
theorem upI_count (m k : Nat) : (upI m).count (k : Int) = if k < m then 1 else 0 := by
  have hmem : (k : Int) ∈ upI m ↔ k < m := by
    unfold upI
    rw [List.mem_map]
    constructor
    · rintro ⟨a, ha, e⟩; have := List.mem_range.1 ha; omega
    · intro h; exact ⟨k, List.mem_range.2 h, rfl⟩
  split
  · rename_i h; have h1 := List.count_pos_iff.2 (hmem.2 h)
    have h2 := List.nodup_iff_count.1 (upI_nodup m) (k : Int)
    omega
  · rename_i h; exact List.count_eq_zero.2 (fun hh => h (hmem.1 hh))
theorem ord_perm {l : List Int} {m : Nat} (hm : m ≤ 8) : ordB l m = true ↔ l.Perm (upI m) := by
  unfold ordB
  rw [Bool.and_eq_true, List.all_eq_true, decide_eq_true_eq, List.map_inj_left]
  constructor
  · rintro ⟨h1, h2⟩
    rw [List.perm_iff_count]
    intro a
    by_cases ha : 0 ≤ a ∧ a < 8
    · obtain ⟨k, rfl⟩ : ∃ k : Nat, a = (k : Int) := ⟨a.toNat, by omega⟩
      have := h2 k (List.mem_range.2 (by omega))
      rw [upI_count]
      split at this <;> rename_i h <;> simp only [h, if_true, if_false] <;> omega
    · have e1 : l.count a = 0 := List.count_eq_zero.2 fun hh => by have := h1 a hh; simp at this; omega
      have e2 : (upI m).count a = 0 := List.count_eq_zero.2 fun hh => by
        unfold upI at hh
        obtain ⟨k, hk, rfl⟩ := List.mem_map.1 hh
        have := List.mem_range.1 hk
        omega
      rw [e1, e2]
  · intro h
    refine ⟨fun x hx => ?_, fun k _ => ?_⟩
    · obtain ⟨k, hk, rfl⟩ := List.mem_map.1 (h.mem_iff.1 hx : x ∈ upI m)
      have := List.mem_range.1 hk
      simp; omega
    · rw [h.count_eq, upI_count]; split <;> rfl
theorem ord_len {l : List Int} {m : Nat} (hm : m ≤ 8) (h : ordB l m = true) : l.length = m := by
  rw [((ord_perm hm).1 h).length_eq]; simp [upI]
theorem ord_rev {l : List Int} {m : Nat} (hm : m ≤ 8) (h : ordB l m = true) : ordB l.reverse m = true := (ord_perm hm).2 ((List.reverse_perm l).trans ((ord_perm hm).1 h))
theorem ord_more {l : List Int} {m : Nat} (hm : m < 8) (h : ordB l m = true) : ordB (l ++ [(m : Int)]) (m + 1) = true := by
  refine (ord_perm hm).2 ?_
  have : upI (m + 1) = upI m ++ [(m : Int)] := by simp [upI, List.range_succ]
  rw [this]
  exact ((ord_perm (by omega)).1 h).append_right _
end Go.Proofs.Ytifbgpkjbciblaa.Sal
end
section
/- Plain: ends compared. -/
set_option maxRecDepth 100000
namespace Go.Proofs.Ytifbgpkjbciblaa.Sal
set_option linter.all false
theorem end_le {res res' : List Int} {b b' : List (List Int)} {L L' : List (List Int)} (hM : MkOK res b) (hR : RunS res b L) (hLg : ∀ i, i < L.length → Lg res (L.getD i [])) (hM' : MkOK res' b') (hR' : RunS res' b' L') (hLg' : ∀ i, i < L'.length → Lg res' (L'.getD i [])) (hl : res'.length = res.length)
    (hr : ∀ k, k < res.length → res.getD k 0 ≤ res'.getD k 0) (hc : compP b' (endL L') res.length → compP b (endL L') res.length) : ∀ k, k < res.length → (endL L).getD k 0 ≤ (endL L').getD k 0 := by
  have h1 := run_end hM' hR' hLg'
  rw [hl] at h1
  intro k hk
  exact run_le hM hR hLg (hc h1.1) (fun j hj => Int.le_trans (hr j hj) (h1.2.2 j (by omega)).1) _ (by have := hR.pos; omega) k hk
theorem end_same {res : List Int} {b b' : List (List Int)} {L L' : List (List Int)} (hM : MkOK res b) (hR : RunS res b L) (hLg : ∀ i, i < L.length → Lg res (L.getD i [])) (hM' : MkOK res b') (hR' : RunS res b' L') (hLg' : ∀ i, i < L'.length → Lg res (L'.getD i [])) (hc : ∀ p, compP b' p res.length ↔ compP b p res.length) : endL L' = endL L :=
  list_of_getD (run_end hM' hR' hLg').2.1 (run_end hM hR hLg).2.1 fun k hk => Int.le_antisymm
    (end_le hM' hR' hLg' hM hR hLg rfl (fun _ _ => Int.le_refl _) (hc _).2 k hk)
    (end_le hM hR hLg hM' hR' hLg' rfl (fun _ _ => Int.le_refl _) (hc _).1 k hk)
end Go.Proofs.Ytifbgpkjbciblaa.Sal
end
section
/- V21: stores into lists with room; bids in another order. -/
set_option maxRecDepth 100000
namespace Go.Proofs.Ytifbgpkjbciblaa.Sal
open Go.RowKit
theorem in_wd {P : Program} {E : TypeId} {s B : Nat} {z : Value} (h : (P.info? E).map (fun i => (i.zero, i.size, i.bytes)) = some (some z, s, B)) (hz : z.cells.size = s) : InfoW P E s z B := by
  cases hi : P.info? E with
  | none => rw [hi] at h; cases h
  | some ti =>
    rw [hi] at h
    simp only [Option.map_some, Option.some.injEq, Prod.mk.injEq] at h
    exact ⟨⟨ti, hi, h.1, h.2.1, by omega⟩, hz⟩
theorem wd_int : InfoW Try.prog 3 1 (.int .i64 0) 8 := in_wd inf_int rfl
theorem wd_ints : InfoW Try.prog 22 1 (.slice none 0 0) 24 := in_wd inf_ints rfl
theorem Wd.ints {w : World} {E : TypeId} {v : Value} {n : Nat} {l : List Int} (h : Wd w E 1 v n (l.map (Value.int .i64))) (hm : n ≤ 1000000) : Ints w v l := h.sl (by omega)
theorem Wd.rows {w : World} {E : TypeId} {v : Value} {n : Nat} {us : Nat → Value} {g : List (List Int)} (h : Wd w E 1 v n ((List.range n).map us)) (hl : g.length = n) (hm : n ≤ 1000000) (hr : ∀ i, i < n → Ints w (us i) (g.getD i [])) : Rows w v g := by
  refine ⟨_, h.sl (by omega), by simp [hl], fun i u l hu hl2 => ?_⟩
  have hi := (List.getElem?_eq_some_iff.1 hl2).1
  have e1 : u = us i := by simp [show i < n by omega] at hu; exact hu.symm
  have e2 : g.getD i [] = l := by simp [List.getD_eq_getElem?_getD, hl2]
  rw [e1, ← e2]
  exact hr i (by omega)
/-- Another cell. -/
theorem s_stW {P : Program} {r : Option Nat} {ops : Array Oper} {Q : Exit → Act → World → Prop} {N : Nat} {σ : Nat → Value} {ds : List Deferred} {w : World} {rest : List Oper} {ty : TypeId} {pos : String} {after : Array Edge} {E B : TypeId} {x y : Operand} {b n c k : Nat} {xs : List Value} {u : Value}
    (hE : Ty1 P E) (hx : ev N σ x = .pointer (some ⟨b, k, none⟩)) (hy : ev N σ y = u) (hu : u.oneCell' = true) (hW : Wd w B 1 (sv b n c) n xs) (hk : k < n)
    (h : ∀ w', Wd w' B 1 (sv b n c) n (xs.set k u) → w.grownBy w' (some b) → WL r P ops Q rest (mk N σ ds) w') :
    WL r P ops Q (⟨none, .store E x y, ty, pos, after, none⟩ :: rest) (mk N σ ds) w := by
  obtain ⟨b', c', sp, hv, hA, hc, hm, hs⟩ := hW.pos (by omega)
  cases hv
  have hl : xs.length = n := by rw [hW.1, Nat.mul_one]
  refine s_stA hE hx hy hu hA (by simp; omega) fun w' hA' hg => h w' ?_ hg
  exact Wd.set (w := w) hW.1 (by omega) hA' hc hm hs
theorem mfs {us : Nat → Value} {n k : Nat} {u : Value} (hk : k < n) : ((List.range n).map us).set k u = (List.range n).map (fs us k u) := map_fs us u hk
theorem mfs_app (us : Nat → Value) (n : Nat) (u : Value) : (List.range n).map us ++ [u] = (List.range (n + 1)).map (fs us n u) := by
  rw [List.range_succ, List.map_append]
  congr 1
  · apply List.map_congr_left
    intro j hj
    have := List.mem_range.1 hj
    simp only [fs]
    rw [if_neg (by omega)]
  · simp [fs]
/-- Bids in another order. -/
def rotB (bids : List (List Int)) (t : Nat) : List (List Int) := (List.range bids.length).map fun i => bids.getD ((i + t) % bids.length) []
theorem rotB_len (bids : List (List Int)) (t : Nat) : (rotB bids t).length = bids.length := by simp [rotB]
theorem rotB_get {bids : List (List Int)} {t i : Nat} (hi : i < bids.length) : (rotB bids t).getD i [] = bids.getD ((i + t) % bids.length) [] := by simp [rotB, List.getD_eq_getElem?_getD, hi]
theorem chk_of {res : List Int} {bids : List (List Int)} {ord : List Int} (h1 : vecB res res.length = true) (h2 : 1 ≤ bids.length) (h3 : bids.length ≤ 8) (h4 : ordB ord bids.length = true) (h5 : ∀ i, i < bids.length → badBid res.length (bids.getD i []) = false) : chkM res bids ord = true := by
  unfold chkM
  rw [h1, h4, decide_eq_true h2, decide_eq_true h3]
  have : bids.any (badBid res.length) = false := by
    rw [List.any_eq_false]
    intro x hx
    obtain ⟨i, hi, rfl⟩ := List.getElem_of_mem hx
    have := h5 i hi
    rw [List.getD_eq_getElem?_getD, List.getElem?_eq_getElem hi] at this
    simpa using this
  rw [this]; rfl
theorem chk_order {res : List Int} {bids : List (List Int)} {ord : List Int} (h : chkM res bids ord = true) (t : Nat) : chkM res (rotB bids t) ord.reverse = true := by
  obtain ⟨h1, h2, h3, h4, h5⟩ := chk_parts h
  have hl := rotB_len bids t
  refine chk_of h1 (by omega) (by omega) (by rw [hl]; exact ord_rev h3 h4) fun i hi => ?_
  rw [rotB_get (by omega)]
  exact h5 _ (Nat.mod_lt _ (by omega))
theorem chk_more {res : List Int} {bids : List (List Int)} {ord : List Int} (h : chkM res bids ord = true) (h8 : bids.length < 8) : chkM res (bids ++ [[]]) (ord ++ [(bids.length : Int)]) = true := by
  obtain ⟨h1, h2, h3, h4, h5⟩ := chk_parts h
  have hl : (bids ++ [[]]).length = bids.length + 1 := by simp
  refine chk_of h1 (by omega) (by omega) (by rw [hl]; exact ord_more h8 h4) fun i hi => ?_
  by_cases h : i < bids.length
  · have := h5 i h
    rw [List.getD_eq_getElem?_getD, List.getElem?_append_left h, ← List.getD_eq_getElem?_getD]
    exact this
  · have : i = bids.length := by omega
    subst this
    simp [badBid]
/-- An order, turned up to a place. -/
def revT (ord : List Int) (k : Nat) : List Int := (List.range ord.length).map fun j => if j < k then ord.getD (ord.length - 1 - j) 0 else ord.getD j 0
theorem revT_zero (ord : List Int) : revT ord 0 = ord := by
  apply List.ext_getElem?
  intro i
  unfold revT
  by_cases h : i < ord.length
  · simp [h]
  · simp [h]
theorem revT_all (ord : List Int) : revT ord ord.length = ord.reverse := by
  apply List.ext_getElem?
  intro i
  unfold revT
  by_cases h : i < ord.length
  · rw [List.getElem?_reverse h]
    have h2 : ord.length - 1 - i < ord.length := by omega
    simp [h, h2]
  · rw [List.getElem?_eq_none (by simp; omega), List.getElem?_eq_none (by simp; omega)]
theorem revT_len (ord : List Int) (k : Nat) : (revT ord k).length = ord.length := by simp [revT]
theorem revT_succ {ord : List Int} {k : Nat} (hk : k < ord.length) : (revT ord k).set k (ord.getD (ord.length - 1 - k) 0) = revT ord (k + 1) := by
  apply List.ext_getElem?
  intro i
  by_cases h : i < ord.length
  · rw [List.getElem?_set]
    unfold revT
    by_cases e : k = i
    · subst e; simp [h]
    · rw [if_neg e]
      simp only [List.getElem?_map, List.getElem?_range h, Option.map_some]
      by_cases h1 : i < k
      · rw [if_pos h1, if_pos (by omega)]
      · rw [if_neg h1, if_neg (by omega)]
  · rw [List.getElem?_eq_none (by simp [revT_len]; omega), List.getElem?_eq_none (by rw [revT_len]; omega)]
end Go.Proofs.Ytifbgpkjbciblaa.Sal
end
section
/- The walk of salesroomlaw13.RisesOrder. -/
set_option maxRecDepth 100000
namespace Go.Proofs.Ytifbgpkjbciblaa.Sal
open Go.RowKit
attribute [local irreducible] Go.Code.wpIn Go.wpListIn Ct Ints Rows Sl At Rw WJ
attribute [local irreducible] Wd
set_option linter.all false
set_option maxHeartbeats 8000000 in
theorem RisesOrder_ct (rv bv ov : Value) (res : List Int) (bids : List (List Int)) (ord : List Int) (x1 : Nat) (w : World) (hM : Mk w rv bv ov res bids ord) (hb1 : x1 < 256) :
    Ct Try.prog 4 #[.agg #[rv, bv, ov], .int .u8 (x1 : Int)] w fun u w' => u = .bool true ∧ Ex w w' := by
  refine Exists.elim in_mkt fun ti hti => ?_
  refine enter (N := 99) (vs := [.agg #[rv, bv, ov], .int .u8 (x1 : Int)]) Try.func4 rfl rfl rfl ?_
  repeat ((refine isC ?_; refine c_sr ?_))
  refine s_box (cs := [rv, bv, ov]) rfl rfl ?_
  intro b0 w0 hb0 hZ hx0 hs0
  have hM0 := hM.ex hx0
  repeat (first | (refine isO ?_; refine s_assign ?_) | (refine isC ?_; refine c_sr ?_) | (refine l_th ?_))
  refine s_ldV Try.underlying25 rfl (sz_mk _ _ _) rfl hZ ?_
  refine Or.elim (tfV (chkM res bids ord)) (fun hck => ?_) (fun hck => ?_)
  · have hOK := mkok hck
    refine Exists.elim (run_ex hOK) fun L hL => ?_
    have hR := hL.1
    have hLg := hL.2
    have hend := run_end hOK hR hLg
    have hn8 := hOK.n8
    have hm1 := hOK.m1
    have hm8 := hOK.m8
    have hol : ord.length = bids.length := ord_len hm8 (chk_parts hck).2.2.2.1
    have hrl : ∀ i, i < bids.length → (bids.getD i []).length ≤ 8 := fun i hi => by have := hOK.lens i hi; unfold lenB at this; omega
    refine s_call ok_rLeast rfl (Least_ok rv bv ov res bids ord L w0 hM0 hck hR) ?_
    rintro u w1 ⟨be, rfl, hOe, hbe, hx1⟩
    have hx01 := hx0.trans hx1
    have hZ1 := hZ.ex hx1
    have hM1 := hM.ex hx01
    have hB1 := hM1.b
    have hel : (endL L).length = res.length := hend.2.1
    have hIe : Ints w1 (sv be res.length res.length) (endL L) := by have := hOe.ints; rw [show (L.getD (L.length - 1) []).length = res.length from hel] at this; exact this
    repeat (first | (refine isO ?_; first | refine s_move ?_ | refine s_assign ?_ | (refine isBin ?_; refine s_neqF rfl rfl (by omega) ?_) | (refine isCall ?_; refine s_lenR sl_rows rfl (by assumption) ?_) | refine s_extract rfl rfl ?_) | (refine isO ?_; first | refine s_fa Try.underlying25 rfl ty_rows rfl ?_ | refine s_ldA ty_rows rfl (by assumption) rfl ?_) | (refine isC ?_; first | refine c_sr ?_ | refine c_th ?_ | refine c_seq ?_ | refine c_iff rfl ?_) | (refine l_th ?_))
    refine s_ldV Try.underlying25 rfl (sz_mk _ _ _) rfl hZ1 ?_
    refine s_call ok_TwinMarket rfl (TwinMarketW_ct rv bv ov res bids ord w1 hM1 (by omega) (by omega) (fun i hi => by have := hrl i hi; omega) (by omega)) ?_
    rintro u w2 ⟨b1, c1, b2, c2, vs, b3, c3, rfl, hT, hx2⟩
    refine s_alloc (cs := [.slice none 0 0, .slice none 0 0, .slice none 0 0]) hti.1 hti.2 rfl ?_
    intro bX w3 hbX hXA hx3 hs3
    refine s_stV (cs := [sv b1 res.length c1, sv b2 bids.length c2, sv b3 ord.length c3]) (sz_mk _ _ _) rfl rfl hXA rfl rfl ?_
    intro w4 hX4 hg4 hs4
    have z1 := hx1.size
    have z2 := hx2.size
    have z0 := hx0.size
    have z3 := hx3.size
    have l2 := hT.b.lt b2 rfl
    have l3 := hT.o.lt b3 rfl
    have l1 := hT.r.lt
    have k1 := hT.l1
    have k2 := hT.l2
    have k3 := hT.l3
    have n12 := hT.n12
    have n13 := hT.n13
    have n23 := hT.n23
    have hx24 : Ex w2 w4 := hx3.store hg4 (by omega)
    have hx04 : Ex w0 w4 := (hx1.trans hx2).trans hx24
    have hb4 := hT.b.ex hx24
    have ho4 := hT.o.ex hx24
    have hr4 := hT.r.ex hx24
    have hrow4 : ∀ j, j < bids.length → Ints w4 (vs j) (bids.getD j []) ∧ ∀ b, (vs j).ownBlock = some b → w1.heap.size ≤ b ∧ b ≠ b1 ∧ b ≠ b2 ∧ b ≠ b3 ∧ b < w4.heap.size ∧ b ≠ bX := fun j hj => by
      have h1 := hT.row j hj
      refine ⟨h1.1.ex hx24, fun b hb => ?_⟩
      have h2 := h1.2 b hb
      have z23 := hx24.size
      omega
    rw [hol] at ho4 hX4
    repeat (first | (refine isO ?_; refine s_assign ?_) | (refine isC ?_; first | refine c_sr ?_ | refine c_seq ?_ | refine c_block ?_) | (refine l_th ?_))
    have hsI : ((revT ord 0).map (Value.int .i64)) = ord.map (Value.int .i64) := by rw [revT_zero]
    refine c_loop2 144115188042301952 (fun (k : Nat) (_ : Nat → Value) => [(9, .int .i64 (k : Int))]) (fun k us W => k ≤ bids.length ∧ Wd W 22 1 (sv b2 bids.length c2) bids.length ((List.range bids.length).map us) ∧ Wd W 3 1 (sv b3 bids.length c3) bids.length ((revT ord k).map (Value.int .i64)) ∧ OwnI W 3 b1 c1 res ∧ At W bX 25 [sv b1 res.length c1, sv b2 bids.length c2, sv b3 bids.length c3] ∧ (∀ j, j < bids.length → Ints W (us j) (if j < k then (rotB bids x1).getD j [] else bids.getD j []) ∧ ∀ b, (us j).ownBlock = some b → w1.heap.size ≤ b ∧ b ≠ b1 ∧ b ≠ b2 ∧ b ≠ b3 ∧ b < W.heap.size ∧ b ≠ bX) ∧ Ex w1 W ∧ w4.heap.size ≤ W.heap.size) (fun k _ => bids.length - k) 0 vs ⟨rfl, trivial⟩
      ⟨Nat.zero_le _, hb4 , by rw [hsI]; exact ho4, hr4, hX4, fun j hj => by rw [if_neg (Nat.not_lt_zero _)]; exact hrow4 j hj, hx2.trans hx24, Nat.le_refl _⟩ ?_
    rintro k us ρ W ⟨hk, hbW, hoW, hrW, hXW, hrow, hxW, hzW⟩
    have hZW := hZ1.ex hxW
    have hMW := hM1.ex hxW
    have hBW := hMW.b
    have hOW := hMW.o
    repeat (first | (refine isO ?_; first | refine s_move ?_ | (refine isBin ?_; refine s_lss rfl rfl ?_)) | (refine isC ?_; first | refine c_sr ?_ | refine c_seq ?_) | (refine l_th ?_))
    refine c_ifd rfl (fun h => ?_) (fun h => ?_)
    · have hk' : k < bids.length := by omega
      have hmd : (k + x1) % bids.length < bids.length := Nat.mod_lt _ (by omega)
      repeat ((refine isC ?_; first | refine c_th ?_ | refine c_seq ?_ | refine c_block ?_))
      refine c_drawO (Ex.refl W) 32768 8 [(0, true), (1, true), (2, true), (3, true), (4, true), (5, true), (6, true), (7, true), (8, true), (9, true), (10, true), (11, true), (12, true), (13, false), (14, true), (15, false)] mixed (by kernel_rfl) ?_
      have hxd := Ex.drew W
      refine d_fa rfl Try.underlying25 rfl ty_rows rfl ?_
      refine d_ldA rfl ty_rows rfl hXW rfl ?_
      refine d_move rfl ?_
      refine d_fa rfl Try.underlying25 rfl ty_rows rfl ?_
      refine d_ldA rfl ty_rows rfl hZW rfl ?_
      refine d_move rfl ?_
      refine d_move rfl ?_
      refine d_conv (n := x1) rfl (by kernel_rfl) Try.underlying3 rfl (by show _ ≤ 9223372036854775807; omega) ?_
      refine d_add rfl rfl rfl ⟨by omega, by omega⟩ ?_
      refine d_re (v' := .int .i64 ((k + x1 : Nat) : Int)) (vint (by omega)) ?_
      refine d_move rfl ?_
      refine d_rem (m := k + x1) (n := bids.length) rfl rfl rfl (by omega) ?_
      refine d_iaR (n := (k + x1) % bids.length) rfl sl_rows ty_ints rfl rfl hBW hmd ?_
      intro ad u1 hc1 hu1
      refine d_ld rfl ty_ints rfl hc1 ?_
      refine d_ch rfl ?_
      refine s_call ok_TwinInts rfl (TwinInts_ct u1 _ W.drew (hu1.ex hxd) (by have := hrl _ hmd; omega)) ?_
      rintro u W2 ⟨bt, ct, rfl, hbt, hOt, hx2W⟩
      have hxW2 := hxd.trans hx2W
      refine l_nil ⟨rfl, .inr hxW2, ?_⟩
      refine d_iaA (n := k) rfl sl_rows ty_ints rfl rfl hk' ?_
      refine d_ch rfl ?_
      refine s_stW (u := sv bt (bids.getD ((k + x1) % bids.length) []).length ct) ty_ints rfl rfl rfl (hbW.ex hxW2) hk' ?_
      intro W3 hb3' hg3
      refine l_nil ⟨rfl, .inl rfl, ?_⟩
      refine d_nil ?_
      rw [mfs hk'] at hb3'
      have zt := hOt.lt
      have zd := hxd.size
      have z2W := hx2W.size
      have hZ3 : At W3 b0 25 [rv, bv, ov] := (hZW.ex hxW2).grown hg3 (fun e => by have := Option.some.inj e; have := hZ.lt; omega)
      have hX3 := (hXW.ex hxW2).grown hg3 (fun e => by have := Option.some.inj e; omega)
      have ho3 := (hoW.ex hxW2).grown hg3 (fun b hb e => by have h5 : b3 = b := Option.some.inj hb; have h6 : b2 = b := Option.some.inj e; have := hT.n23; omega)
      have hr3 := (hrW.ex hxW2).grown hg3 (fun e => by have := Option.some.inj e; have := hT.n12; omega)
      have hx13 : Ex w1 W3 := (hxW.trans hxW2).store hg3 (by omega)
      have hO3 := hM1.o.ex hx13
      have hrs := revT_succ (ord := ord) (k := k) (by omega)
      have hOt3 := hOt.grown hg3 (fun e => by have := Option.some.inj e; omega)
      have z3W := hg3.size
      repeat ((refine th_norm ?_))
      refine c_drawO (Ex.refl W3) 4096 8 [(0, true), (1, true), (2, true), (3, true), (4, true), (5, true), (6, true), (7, true), (8, true), (9, true), (10, true), (11, true), (12, false)] mixed (by kernel_rfl) ?_
      have hxe := Ex.drew W3
      refine d_fa rfl Try.underlying25 rfl ty_ints rfl ?_
      refine d_ldA rfl ty_ints rfl hX3 rfl ?_
      refine d_move rfl ?_
      refine d_fa rfl Try.underlying25 rfl ty_ints rfl ?_
      refine d_ldA rfl ty_ints rfl hZ3 rfl ?_
      refine d_move rfl ?_
      refine d_sub rfl rfl rfl ⟨by omega, by omega⟩ ?_
      refine d_move rfl ?_
      refine d_sub rfl rfl rfl ⟨by omega, by omega⟩ ?_
      refine d_re (v' := .int .i64 ((bids.length - 1 - k : Nat) : Int)) (vint (by omega)) ?_
      refine d_iaI (n := bids.length - 1 - k) rfl sl_ints ty_int rfl rfl hO3 (by omega) ?_
      intro ad2 hc2
      refine d_ld rfl ty_int rfl hc2 ?_
      refine d_iaA (n := k) rfl sl_ints ty_int rfl rfl hk' ?_
      refine d_ch rfl ?_
      refine s_stW (u := .int .i64 (ord.getD (bids.length - 1 - k) 0)) ty_int rfl rfl rfl (ho3.ex hxe) hk' ?_
      intro W4 ho4' hg4'
      refine l_nil ⟨rfl, .inl rfl, ?_⟩
      refine d_nil ?_
      have z4W := hg4'.size
      have hor : Wd W4 3 1 (sv b3 bids.length c3) bids.length ((revT ord (k + 1)).map (Value.int .i64)) := by
        rw [← hrs, List.map_set, hol]; exact ho4'
      have hbr := (hb3'.ex hxe).grown hg4' (fun b hb e => by have h5 : b2 = b := Option.some.inj hb; have h6 : b3 = b := Option.some.inj e; have := hT.n23; omega)
      have hrr := (hr3.ex hxe).grown hg4' (fun e => by have := Option.some.inj e; have := hT.n13; omega)
      have hXr := (hX3.ex hxe).grown hg4' (fun e => by have := Option.some.inj e; omega)
      have zee := hxe.size
      repeat (first | (refine isO ?_; first | refine s_move ?_ | refine s_assign ?_ | (refine isBin ?_; refine s_inc rfl (by omega) ?_)) | (refine isC ?_; refine c_region ?_) | (refine l_th ?_))
      refine loop_end2 (k + 1) _ (by (repeat (first | exact agree_refl _ _ | refine agree_upd rfl ?_ | refine agree_ext rfl ?_ | refine agree_mask rfl ?_))) ⟨vint (by omega), trivial⟩ ⟨hk', hbr, hor, hrr, hXr, fun j hj => ?_, (hx13.trans hxe).store hg4' (by omega), by omega⟩ (by show bids.length - (k + 1) < bids.length - k; omega)
      by_cases e : j = k
      · subst e
        simp only [fs, if_true]
        rw [if_pos (Nat.lt_succ_self _), rotB_get hj]
        exact ⟨((hOt3.ex hxe).grown hg4' (fun e => by have := Option.some.inj e; omega)).ints, fun b hb => by have h5 : bt = b := Option.some.inj hb; omega⟩
      · simp only [fs, if_neg e]
        have h1 := hrow j hj
        have e2 : (j < k + 1) ↔ (j < k) := ⟨fun _ => by omega, fun _ => by omega⟩
        simp only [e2]
        refine ⟨(((h1.1.ex hxW2).kept hg3 (.inr fun e5 => ?_)).ex hxe).kept hg4' (.inr fun e5 => ?_), fun b hb => by have := h1.2 b hb; omega⟩
        · exact (h1.2 b2 e5).2.2.1 rfl
        · exact (h1.2 b3 e5).2.2.2.1 rfl
    · have hkn : k = bids.length := by omega
      subst hkn
      have hro : revT ord bids.length = ord.reverse := by rw [← hol]; exact revT_all ord
      rw [hro] at hoW
      have hoi : Ints W (sv b3 bids.length c3) ord.reverse := hoW.ints (by omega)
      have hbi : Rows W (sv b2 bids.length c2) (rotB bids x1) := hbW.rows (rotB_len _ _) (by omega) fun i hi => by have := (hrow i hi).1; rw [if_pos hi] at this; exact this
      have hri := hrW.ints
      have hck1 := chk_order hck x1
      have hOK1 := mkok hck1
      have hMk1 : Mk W (sv b1 res.length c1) (sv b2 bids.length c2) (sv b3 bids.length c3) res (rotB bids x1) ord.reverse := ⟨hri, hbi, hoi⟩
      refine Exists.elim (run_ex hOK1) fun L1 hL1 => ?_
      have hend1 := run_end hOK1 hL1.1 hL1.2
      have hsame1 : endL L1 = endL L := end_same hOK hR hLg hOK1 hL1.1 hL1.2 fun p => comp_rot (t := x1) (rotB_len _ _) (by omega) fun i hi => rotB_get hi
      repeat ((refine isC ?_; first | refine c_sr ?_ | refine c_exit ?_))
      refine s_ldV Try.underlying25 rfl (sz_mk _ _ _) rfl hXW ?_
      refine s_call ok_rLeast rfl (Least_ok _ _ _ res (rotB bids x1) ord.reverse L1 W hMk1 hck1 hL1.1) ?_
      rintro u W2 ⟨bn, rfl, hOn, hbn, hx2W⟩
      have hOn' : OwnI W2 3 bn res.length (endL L) := by rw [← hsame1]; exact hOn
      have hIn := hOn'.ints
      rw [hel] at hIn
      have hIe2 := hIe.ex (hxW.trans hx2W)
      repeat (first | (refine isO ?_; first | refine s_move ?_ | refine s_assign ?_ | (refine isG ?_; refine g_yes rfl rfl ?_) | (refine isBin ?_; refine s_neqF rfl rfl (by omega) ?_) | refine s_extract rfl rfl ?_) | (refine isC ?_; first | refine c_sr ?_ | refine c_seq ?_) | (refine l_th ?_))
      refine s_call ok_SameInts rfl (SameInts_ct _ _ (endL L) (endL L) W2 hIn hIe2) ?_
      rintro u W3 ⟨rfl, hx3W⟩
      refine s_re (v' := .bool true) (vbool (decide_eq_true rfl)) ?_
      have hx13 := (hxW.trans hx2W).trans hx3W
      have hxW3 := hx2W.trans hx3W
      by_cases h8 : 8 ≤ bids.length
      · repeat (first | (refine isO ?_; first | refine s_move ?_ | (refine isG ?_; refine g_yes rfl rfl ?_) | (refine isBin ?_; refine s_geqT rfl rfl (by omega) ?_) | (refine isPick ?_; refine s_pickf rfl rfl ?_) | refine s_not rfl ?_) | (refine isC ?_; first | refine c_sr ?_ | refine c_th ?_ | refine c_seq ?_ | refine c_ift rfl ?_ | refine c_iff rfl ?_) | (refine l_th ?_))
        refine s_call ok_lives rfl (lives_ct W3) ?_
        rintro u W4 ⟨rfl, hx4W⟩
        repeat (first | (refine isO ?_; refine s_assign ?_) | (refine isC ?_; refine c_ret ?_) | (first | refine l_th ?_ | refine th_ret ?_))
        exact ret1 rfl rfl ⟨rfl, hx01.trans (hx13.trans hx4W)⟩
      · have hb3w := hbW.ex hxW3
        have ho3w := hoW.ex hxW3
        have hX3w := hXW.ex hxW3
        have hr3w := hrW.ex hxW3
        have lX := hXW.lt
        have lb := hbW.lt b2 rfl
        have lo := hoW.lt b3 rfl
        have lr := hrW.lt
        have zw3 := hxW3.size
        repeat (first | (refine isO ?_; first | refine s_move ?_ | (refine isG ?_; refine g_yes rfl rfl ?_) | (refine isBin ?_; refine s_geqF rfl rfl (by omega) ?_) | (refine isPick ?_; refine s_pickf rfl rfl ?_) | refine s_not rfl ?_) | (refine isO ?_; first | refine s_fa Try.underlying25 rfl ty_rows rfl ?_ | refine s_ldA ty_rows rfl (by assumption) rfl ?_) | (refine isC ?_; first | refine c_sr ?_ | refine c_th ?_ | refine c_seq ?_ | refine c_iff rfl ?_) | (refine l_th ?_))
        refine s_bs1 (u := .slice none 0 0) sl_rows in_ints rfl rfl ?_
        intro bu W4 hbu hAu hx4W hsu
        refine s_appW (n := bids.length) (m := 1) (news := [.slice none 0 0]) sl_rows wd_ints (by omega) (hb3w.ex hx4W) ⟨bu, 1, rfl, [], by simpa using hAu⟩ rfl (by omega) (by intro u hu; simp at hu; subst hu; rfl) (by omega) (by omega) rfl rfl ?_
        intro v' W5 hW5 hg5 hf5
        have hg5' : W4.grownBy W5 (some b2) := hg5
        have z4 := hx4W.size
        have z5 := hg5'.size
        have hv5 : ∀ b, v'.ownBlock = some b → b = b2 ∨ W4.heap.size ≤ b := fun b hb => by
          rcases hf5 with ⟨a, c, e1, e2⟩ | ⟨h1, _⟩
          · left; rw [e2] at hb; cases e1; exact (Option.some.inj hb).symm
          · exact .inr (h1 b hb)
        have hX5 := (hX3w.ex hx4W).grown hg5' (fun e => by have := Option.some.inj e; omega)
        have ho5 := (ho3w.ex hx4W).grown hg5' (fun b hb e => by have h5 : b3 = b := Option.some.inj hb; have h6 : b2 = b := Option.some.inj e; omega)
        have hr5 := (hr3w.ex hx4W).grown hg5' (fun e => by have := Option.some.inj e; omega)
        skip
        refine s_fa Try.underlying25 rfl ty_rows rfl ?_
        refine s_stA (n := 1) (u := v') ty_rows rfl rfl hW5.one hX5 (by simp) ?_
        intro W6 hX6 hg6
        have z6 := hg6.size
        have ho6 := ho5.grown hg6 (fun b hb e => by have h5 : b3 = b := Option.some.inj hb; have h6 : bX = b := Option.some.inj e; omega)
        have hr6 := hr5.grown hg6 (fun e => by have := Option.some.inj e; omega)
        have hW6 := hW5.grown hg6 (fun b hb e => by have h6 : bX = b := Option.some.inj e; have := hv5 b hb; omega)
        repeat (first | (refine isO ?_; first | refine s_move ?_ | (refine isLD ?_; refine s_ldA ty_ints rfl (by assumption) rfl ?_)) | (refine isO ?_; refine s_fa Try.underlying25 rfl ty_ints rfl ?_) | (refine isC ?_; refine c_sr ?_) | (refine l_th ?_))
        refine s_bs1 (u := .int .i64 (bids.length : Int)) sl_ints in_int rfl rfl ?_
        intro bq W7 hbq hAq hx7W hsq
        have z7 := hx7W.size
        refine s_appW (n := bids.length) (m := 1) (news := [.int .i64 (bids.length : Int)]) sl_ints wd_int (by omega) (ho6.ex hx7W) ⟨bq, 1, rfl, [], by simpa using hAq⟩ rfl (by omega) (by intro u hu; simp at hu; subst hu; rfl) (by omega) (by omega) rfl rfl ?_
        intro v2 W8 hW8 hg8 hf8
        have hg8' : W7.grownBy W8 (some b3) := hg8
        have z8 := hg8'.size
        have hv8 : ∀ b, v2.ownBlock = some b → b = b3 ∨ W7.heap.size ≤ b := fun b hb => by
          rcases hf8 with ⟨a, c, e1, e2⟩ | ⟨h1, _⟩
          · left; rw [e2] at hb; cases e1; exact (Option.some.inj hb).symm
          · exact .inr (h1 b hb)
        have hv5' : ∀ b, v'.ownBlock = some b → b < W5.heap.size := hW5.lt
        have hX8 := (hX6.ex hx7W).grown hg8' (fun e => by have := Option.some.inj e; omega)
        have hr8 := (hr6.ex hx7W).grown hg8' (fun e => by have := Option.some.inj e; omega)
        have hb8 := (hW6.ex hx7W).grown hg8' (fun b hb e => by have h6 : b3 = b := Option.some.inj e; have := hv5 b hb; omega)
        skip
        refine s_fa Try.underlying25 rfl ty_ints rfl ?_
        refine s_stA (n := 2) (u := v2) ty_ints rfl rfl hW8.one hX8 (by simp) ?_
        intro W9 hX9 hg9
        have z9 := hg9.size
        have hr9 := hr8.grown hg9 (fun e => by have := Option.some.inj e; omega)
        have hb9 := hb8.grown hg9 (fun b hb e => by have h6 : bX = b := Option.some.inj e; have := hv5 b hb; omega)
        have ho9 := hW8.grown hg9 (fun b hb e => by have h6 : bX = b := Option.some.inj e; have := hv8 b hb; omega)
        have hx49 : Ex w1 W9 := (((((hx13.trans hx4W).store hg5' (by omega)).store hg6 (by omega)).trans hx7W).store hg8' (by omega)).store hg9 (by omega)
        have hro2 : ord.reverse.map (Value.int .i64) ++ [Value.int .i64 (bids.length : Int)] = (ord.reverse ++ [(bids.length : Int)]).map (Value.int .i64) := by rw [List.map_append]; rfl
        rw [hro2] at ho9
        rw [mfs_app] at hb9
        have hrl2 := rotB_len bids x1
        have hoi9 := ho9.ints (by omega)
        have hbi9 : Rows W9 v' (rotB bids x1 ++ [[]]) := hb9.rows (by simp [hrl2]) (by omega) fun i hi => by
          by_cases e : i = bids.length
          · subst e
            have e3 : (rotB bids x1 ++ [[]]).getD bids.length [] = [] := by simp [List.getD_eq_getElem?_getD, List.getElem?_append_right, hrl2]
            simp only [fs, if_true]
            rw [e3]; exact Ints.nil _
          · have hi' : i < bids.length := by omega
            have e3 : (rotB bids x1 ++ [[]]).getD i [] = (rotB bids x1).getD i [] := by rw [List.getD_eq_getElem?_getD, List.getElem?_append_left (by omega), ← List.getD_eq_getElem?_getD]
            simp only [fs, if_neg e]
            rw [e3]
            have h1 := hrow i hi'
            rw [if_pos hi'] at h1
            have e4 : ∀ {b}, (us i).ownBlock = some b → b ≠ b2 ∧ b ≠ b3 ∧ b ≠ bX := fun hb => by have := h1.2 _ hb; exact ⟨this.2.2.1, this.2.2.2.1, this.2.2.2.2.2⟩
            exact (((((h1.1.ex (hxW3.trans hx4W)).kept hg5' (.inr fun e5 => (e4 e5).1 rfl)).kept hg6 (.inr fun e5 => (e4 e5).2.2 rfl)).ex hx7W).kept hg8' (.inr fun e5 => (e4 e5).2.1 rfl)).kept hg9 (.inr fun e5 => (e4 e5).2.2 rfl)
        have hck2 : chkM res (rotB bids x1 ++ [[]]) (ord.reverse ++ [(bids.length : Int)]) = true := by
          have := chk_more hck1 (by omega)
          rw [hrl2] at this
          exact this
        have hOK2 := mkok hck2
        refine Exists.elim (run_ex hOK2) fun L2 hL2 => ?_
        have hsame2 : endL L2 = endL L1 := end_same hOK1 hL1.1 hL1.2 hOK2 hL2.1 hL2.2 fun p => comp_more
        repeat (first | (refine isC ?_; refine c_sr ?_) | (refine l_th ?_))
        refine s_ldV Try.underlying25 rfl (sz_mk _ _ _) rfl hX9 ?_
        refine s_call ok_rLeast rfl (Least_ok _ _ _ res _ _ L2 W9 ⟨hr9.ints, hbi9, hoi9⟩ hck2 hL2.1) ?_
        rintro u Wa ⟨bo, rfl, hOo, hbo, hxa⟩
        have hOo' : OwnI Wa 3 bo res.length (endL L) := by rw [← hsame1, ← hsame2]; exact hOo
        have hIo := hOo'.ints
        rw [hel] at hIo
        repeat (first | (refine isO ?_; first | refine s_move ?_ | refine s_assign ?_ | (refine isG ?_; refine g_yes rfl rfl ?_) | (refine isBin ?_; refine s_eqlT rfl rfl (by omega) ?_) | refine s_extract rfl rfl ?_) | (refine isC ?_; refine c_sr ?_) | (refine l_th ?_))
        refine s_call ok_SameInts rfl (SameInts_ct _ _ (endL L) (endL L) Wa hIo (hIe.ex (hx49.trans hxa))) ?_
        rintro u Wb ⟨rfl, hxb⟩
        refine s_re (v' := .bool true) (vbool (decide_eq_true rfl)) ?_
        repeat ((refine isO ?_; first | refine s_move ?_ | (refine isG ?_; refine g_yes rfl rfl ?_) | (refine isPick ?_; refine s_pickt rfl rfl ?_)))
        refine s_call ok_lives rfl (lives_ct Wb) ?_
        rintro u Wc ⟨rfl, hxc⟩
        repeat (first | (refine isO ?_; first | refine s_assign ?_ | (refine isPick ?_; refine s_pickt rfl rfl ?_)) | (refine isC ?_; refine c_ret ?_) | (refine l_th ?_))
        exact ret1 rfl rfl ⟨rfl, hx01.trans (hx49.trans (hxa.trans (hxb.trans hxc)))⟩
  · refine s_call ok_rLeast rfl (Least_bad rv bv ov res bids ord w0 hM0 hck) ?_
    rintro u w1 ⟨rfl, hx1⟩
    repeat (first | (refine isO ?_; first | refine s_move ?_ | refine s_assign ?_ | (refine isBin ?_; refine s_neqT rfl rfl (by omega) ?_) | refine s_extract rfl rfl ?_) | (refine isC ?_; first | refine c_sr ?_ | refine c_seq ?_ | refine c_ift rfl ?_) | (refine l_th ?_))
    refine s_call ok_lives rfl (lives_ct w1) ?_
    rintro u w2 ⟨rfl, hx2⟩
    repeat (first | (refine isO ?_; refine s_assign ?_) | (refine isC ?_; refine c_ret ?_) | (first | refine l_th ?_ | refine th_ret ?_))
    exact ret1 rfl rfl ⟨rfl, hx0.trans (hx1.trans hx2)⟩
end Go.Proofs.Ytifbgpkjbciblaa.Sal
end
