/- Texts that YtifbgpkjbciblaaF135 leans on, laid together: TW3 V15 V16 V17 V18 V21 V23 V24 L135. -/
import Derived.Test.YtifbgpkjbciblaaMF1356
import Derived.Test.YtifbgpkjbciblaaMF1353
import Derived.Test.YtifbgpkjbciblaaMF1357
import Derived.Test.YtifbgpkjbciblaaMF1354
section
/- TW3: twins, and the room behind them. -/
set_option maxRecDepth 100000
namespace Go.Proofs.Ytifbgpkjbciblaa.Sal
open Go.RowKit
set_option linter.all false
theorem Rw.posL {w : World} {E : TypeId} {v : Value} {vs : List Value} (h : Rw w E v vs) (hn : 0 < vs.length) : ∃ b c sp, v = sv b vs.length c ∧ At w b E (vs ++ sp) ∧ vs.length ≤ c ∧ c = vs.length + sp.length ∧ c ≤ 9223372036854775807 := by
  obtain ⟨h1, h2⟩ := h
  rcases h2 with ⟨hv, h0⟩ | ⟨g, cap, cur, hv, _, hh, hc, hm, hcs, ht⟩
  · omega
  · rw [Nat.mul_one] at ht hcs
    have e : vs ++ cur.toList.drop vs.length = cur.toList := by
      conv => lhs; lhs; rw [← ht]
      exact List.take_append_drop _ _
    refine ⟨g, cap, cur.toList.drop vs.length, hv, ?_, hc, ?_, by simpa [maxLen] using hm⟩
    · unfold At; rw [hh, e]
    · have h3 : (vs ++ cur.toList.drop vs.length).length = cur.toList.length := congrArg List.length e
      rw [List.length_append] at h3
      have h4 : cur.toList.length = cur.size := Array.length_toList
      omega
/-- A twin: one number more stands behind it, in its room. -/
def TwI (w : World) (b c : Nat) (l : List Int) : Prop := ∃ sp, At w b 3 (l.map (Value.int .i64) ++ .int .i64 77 :: sp) ∧ l.length < c ∧ c = l.length + 1 + sp.length ∧ c ≤ 9223372036854775807 ∧ l.length ≤ 10000
theorem TwI.ex {w w' : World} {b c : Nat} {l : List Int} (h : TwI w b c l) (hx : Ex w w') : TwI w' b c l := let ⟨sp, h1, h2⟩ := h; ⟨sp, h1.ex hx, h2⟩
theorem TwI.grown {w w' : World} {b c : Nat} {l : List Int} {o : Option Nat} (h : TwI w b c l) (hg : w.grownBy w' o) (hne : o ≠ some b) : TwI w' b c l := let ⟨sp, h1, h2⟩ := h; ⟨sp, h1.grown hg hne, h2⟩
theorem TwI.lt {w : World} {b c : Nat} {l : List Int} (h : TwI w b c l) : b < w.heap.size := let ⟨sp, h1, h2⟩ := h; h1.lt
theorem TwI.ints {w : World} {b c : Nat} {l : List Int} (h : TwI w b c l) : Ints w (sv b l.length c) l := by
  obtain ⟨sp, hA, hc, _, _, hm⟩ := h
  have := hA.sl (n := l.length) (c := c) (by simp) (by omega) (by omega)
  rwa [List.take_left' (by simp)] at this
theorem TwI.wd {w : World} {b c : Nat} {l : List Int} (h : TwI w b c l) : Wd w 3 1 (sv b l.length c) l.length (l.map (Value.int .i64)) := by
  obtain ⟨sp, hA, hc, he, h63, hm⟩ := h
  exact ⟨by simp, .inr ⟨b, c, .int .i64 77 :: sp, rfl, hA, by omega, h63, by simp; omega⟩⟩
/-- A twin of lists. -/
def TwL (w : World) (b c : Nat) (rb rc : Nat → Nat) (g : List (List Int)) : Prop :=
  (∃ eb sp, At w b 22 ((List.range g.length).map (fun i => sv (rb i) (g.getD i []).length (rc i)) ++ sv eb 1 1 :: sp) ∧ At w eb 3 [.int .i64 77] ∧ c = g.length + 1 + sp.length) ∧ g.length < c ∧ c ≤ 9223372036854775807 ∧ g.length ≤ 10000 ∧ (∀ i, i < g.length → TwI w (rb i) (rc i) (g.getD i []) ∧ rb i ≠ b) ∧ ∀ i j, i < j → j < g.length → rb i < rb j
theorem TwL.ex {w w' : World} {b c : Nat} {rb rc : Nat → Nat} {g : List (List Int)} (h : TwL w b c rb rc g) (hx : Ex w w') : TwL w' b c rb rc g := by
  obtain ⟨⟨eb, sp, h1, h2, h3⟩, h4, h5, h6, h7, h8⟩ := h
  exact ⟨⟨eb, sp, h1.ex hx, h2.ex hx, h3⟩, h4, h5, h6, fun i hi => ⟨(h7 i hi).1.ex hx, (h7 i hi).2⟩, h8⟩
theorem TwL.sl {w : World} {b c : Nat} {rb rc : Nat → Nat} {g : List (List Int)} (h : TwL w b c rb rc g) : Sl w (sv b g.length c) ((List.range g.length).map (fun i => sv (rb i) (g.getD i []).length (rc i))) := by
  obtain ⟨⟨eb, sp, h1, _⟩, h2, _, h3, _⟩ := h
  have := h1.sl (n := g.length) (c := c) (by simp) (by omega) (by omega)
  rwa [List.take_left' (by simp)] at this
theorem TwL.wd {w : World} {b c : Nat} {rb rc : Nat → Nat} {g : List (List Int)} (h : TwL w b c rb rc g) : Wd w 22 1 (sv b g.length c) g.length ((List.range g.length).map (fun i => sv (rb i) (g.getD i []).length (rc i))) := by
  obtain ⟨⟨eb, sp, h1, _, h2⟩, h3, h4, _⟩ := h
  exact ⟨by simp, .inr ⟨b, c, sv eb 1 1 :: sp, rfl, h1, by omega, h4, by simp; omega⟩⟩
theorem TwL.rows {w : World} {b c : Nat} {rb rc : Nat → Nat} {g : List (List Int)} (h : TwL w b c rb rc g) : Rows w (sv b g.length c) g := by
  refine ⟨_, h.sl, by simp, fun i u l hu hl => ?_⟩
  have hi := (List.getElem?_eq_some_iff.1 hl).1
  obtain ⟨_, _, _, _, h7, _⟩ := h
  have e1 : u = sv (rb i) (g.getD i []).length (rc i) := by simp [hi] at hu; simp [hi, hu]
  have e2 : g.getD i [] = l := by simp [List.getD_eq_getElem?_getD, hl]
  rw [e1]
  have := (h7 i hi).1.ints
  rwa [e2] at this ⊢
attribute [local irreducible] Go.Code.wpIn Go.wpListIn Ct Ints Rows Sl At Rw WJ
attribute [local irreducible] Wd
theorem TwinIntsW_ct (u : Value) (l : List Int) (w : World) (hl : Ints w u l) (hm : l.length ≤ 10000) :
    Ct Try.prog 12 #[u] w fun x w' => ∃ b c, x = sv b l.length c ∧ w.heap.size ≤ b ∧ TwI w' b c l ∧ Ex w w' := by
  obtain ⟨ti, hi1, hi2, hi3, hi4⟩ := in_int'
  refine enter (N := 28) (vs := [u]) Try.func12 rfl rfl rfl ?_
  repeat (first | (refine isO ?_; first | refine s_move ?_ | refine s_assign ?_ | (refine isBin ?_; refine s_inc rfl (by omega) ?_) | (refine isCall ?_; refine s_lenI sl_ints rfl (by assumption) ?_)) | (refine isC ?_; refine c_sr ?_) | (refine l_th ?_))
  refine s_mk0 (n := l.length + 1) sl_ints hi1 hi2 hi3 rfl hi4 rfl rfl (by omega) ?_
  intro b0 w1 hb0 hR hx1 hs1
  repeat (first | (refine isO ?_; refine s_assign ?_) | (refine isC ?_; first | refine c_sr ?_ | refine c_seq ?_ | refine c_block ?_) | (refine l_th ?_))
  refine c_loop (γ := Nat × Value) 4193816 (fun x => [(4, .int .i64 (x.1 : Int)), (3, x.2)])
    (fun x w' => x.1 ≤ l.length ∧ Rw w' 3 x.2 ((l.take x.1).map (Value.int .i64)) ∧ Ex w w' ∧ ∀ b, x.2.ownBlock = some b → w.heap.size ≤ b) (fun x => l.length - x.1) (0, sv b0 0 (l.length + 1)) ⟨rfl, rfl, trivial⟩
    ⟨Nat.zero_le _, hR, hx1, fun b h => by have h : b0 = b := Option.some.inj h; omega⟩ ?_
  rintro ⟨k, v⟩ ρ w2 ⟨hk, hv, hx, hb⟩
  dsimp only at hk hv hx hb ⊢
  have hl2 := hl.ex hx
  repeat (first | (refine isO ?_; first | refine s_move ?_ | (refine isBin ?_; refine s_lss rfl rfl ?_) | (refine isCall ?_; refine s_lenI sl_ints rfl (by assumption) ?_)) | (refine isC ?_; first | refine c_sr ?_ | refine c_seq ?_) | (refine l_th ?_))
  refine c_ifd rfl (fun h => ?_) (fun h => ?_)
  · have hk' : k < l.length := by omega
    repeat (first | (refine isO ?_; first | refine s_move ?_ | (refine isIA ?_; refine s_ixI sl_ints ty_int rfl rfl rfl (by assumption) (by omega) ?_; intro _)) | (refine isC ?_; first | refine c_th ?_ | refine c_seq ?_ | refine c_region ?_ | refine c_block ?_))
    refine s_bs1 (u := .int .i64 (l.getD k 0)) sl_ints in_int rfl rfl ?_
    intro b1 w3 hb1 hA hx3 hs3
    refine s_app (news := [.int .i64 (l.getD k 0)]) sl_ints in_int (hv.ex hx3) (hA.sl (Nat.le_refl _) (by simp) (by simp)) rfl rfl (one_int _) (by simp; omega) ?_
    intro v' w4 hv' hg hown
    repeat (first | (refine isO ?_; first | refine s_move ?_ | refine s_assign ?_ | (refine isBin ?_; refine s_inc rfl (by omega) ?_)) | (refine isC ?_; refine c_region ?_) | (first | refine l_th ?_ | refine l_nil ?_))
    refine loop_end (k + 1, v') (by (repeat (first | exact agree_refl _ _ | refine agree_upd rfl ?_ | refine agree_ext rfl ?_ | refine agree_mask rfl ?_))) ⟨rfl, rfl, trivial⟩ ⟨hk', ?_, (hx.trans hx3).storeo hg hb, ?_⟩ (by dsimp only; omega)
    · dsimp only; rw [take_map_succ hk']; exact hv'
    · intro b hb'
      rcases hown with h1 | h1
      · exact hb b (h1.symm.trans hb')
      · have := h1 b hb'; have := hx.size; have := hx3.size; omega
  · have hkn : k = l.length := by omega
    subst hkn
    rw [List.take_length] at hv
    repeat (first | (refine isO ?_; refine s_move ?_) | (refine isC ?_; first | refine c_sr ?_ | refine c_exit ?_))
    refine s_bs1 (u := .int .i64 77) sl_ints in_int rfl rfl ?_
    intro b1 w3 hb1 hA hx3 hs3
    refine s_app (news := [.int .i64 77]) sl_ints in_int (hv.ex hx3) (hA.sl (Nat.le_refl _) (by simp) (by simp)) rfl rfl (one_int _) (by simp; omega) ?_
    intro v' w4 hv' hg hown
    obtain ⟨b2, c2, sp, rfl, hA4, hc, hcl, hcm⟩ := hv'.posL (by simp)
    have hfr : w.heap.size ≤ b2 := by
      rcases hown with h1 | h1
      · exact hb b2 h1.symm
      · have := h1 b2 rfl; have := hx.size; have := hx3.size; omega
    simp only [List.length_append, List.length_map, List.length_singleton] at hc hcl
    have hx4 := (hx.trans hx3).storeo hg hb
    have hl4 := hl.ex hx4
    repeat ((refine isO ?_; first | refine s_move ?_ | (refine isCall ?_; refine s_lenI sl_ints rfl (by assumption) ?_)))
    refine s_head (hi := l.length) sl_ints ty_int rfl rfl (by omega) ?_
    repeat (first | (refine isO ?_; refine s_assign ?_) | (refine isC ?_; refine c_ret ?_) | (refine l_th ?_))
    refine ret1 rfl rfl ⟨b2, c2, rfl, hfr, ⟨sp, by rw [List.append_assoc] at hA4; exact hA4, by omega, by omega, hcm, hm⟩, hx4⟩

theorem TwinIntListsW_ct (u : Value) (g : List (List Int)) (w : World) (hg : Rows w u g) (hm : g.length ≤ 10000) (hr : ∀ i, i < g.length → (g.getD i []).length ≤ 10000) :
    Ct Try.prog 41 #[u] w fun x w' => ∃ b c rb rc, x = sv b g.length c ∧ w.heap.size ≤ b ∧ (∀ i, i < g.length → w.heap.size ≤ rb i) ∧ TwL w' b c rb rc g ∧ Ex w w' := by
  obtain ⟨ti, hi1, hi2, hi3, hi4⟩ := in_ints.ex
  refine enter (N := 30) (vs := [u]) Try.func41 rfl rfl rfl ?_
  repeat (first | (refine isO ?_; first | refine s_move ?_ | refine s_assign ?_ | (refine isBin ?_; refine s_inc rfl (by omega) ?_) | (refine isCall ?_; refine s_lenR sl_rows rfl (by assumption) ?_)) | (refine isC ?_; refine c_sr ?_) | (refine l_th ?_))
  refine s_mk0 (n := g.length + 1) sl_rows hi1 hi2 hi3 rfl hi4 rfl rfl (by omega) ?_
  intro b0 w1 hb0 hR hx1 hs1
  repeat (first | (refine isO ?_; refine s_assign ?_) | (refine isC ?_; first | refine c_sr ?_ | refine c_seq ?_ | refine c_block ?_) | (refine l_th ?_))
  refine c_loop (γ := Nat × Value × (Nat → Nat) × (Nat → Nat)) 8388120 (fun x => [(4, .int .i64 (x.1 : Int)), (3, x.2.1)])
    (fun x w' => x.1 ≤ g.length ∧ Rw w' 22 x.2.1 ((List.range x.1).map (fun i => sv (x.2.2.1 i) (g.getD i []).length (x.2.2.2 i))) ∧ Ex w w' ∧ (∀ b, x.2.1.ownBlock = some b → w.heap.size ≤ b) ∧
      (∀ i, i < x.1 → TwI w' (x.2.2.1 i) (x.2.2.2 i) (g.getD i []) ∧ some (x.2.2.1 i) ≠ x.2.1.ownBlock ∧ w.heap.size ≤ x.2.2.1 i) ∧ ∀ i j, i < j → j < x.1 → x.2.2.1 i < x.2.2.1 j) (fun x => g.length - x.1) (0, sv b0 0 (g.length + 1), fun _ => 0, fun _ => 0) ⟨rfl, rfl, trivial⟩
    ⟨Nat.zero_le _, hR, hx1, fun b h => by have h : b0 = b := Option.some.inj h; omega, fun i h => absurd h (Nat.not_lt_zero _), fun i j _ h => absurd h (Nat.not_lt_zero _)⟩ ?_
  rintro ⟨k, v, rb, rc⟩ ρ w2 ⟨hk, hv, hx, hb, hO, hmon⟩
  dsimp only at hk hv hx hb hO hmon ⊢
  have hg2 := hg.ex hx
  repeat (first | (refine isO ?_; first | refine s_move ?_ | (refine isBin ?_; refine s_lss rfl rfl ?_) | (refine isCall ?_; refine s_lenR sl_rows rfl (by assumption) ?_)) | (refine isC ?_; first | refine c_sr ?_ | refine c_seq ?_) | (refine l_th ?_))
  refine c_ifd rfl (fun h => ?_) (fun h => ?_)
  · have hk' : k < g.length := by omega
    repeat (first | (refine isO ?_; refine s_move ?_) | (refine isC ?_; first | refine c_th ?_ | refine c_seq ?_ | refine c_region ?_ | refine c_block ?_))
    refine s_ixR sl_rows ty_ints rfl rfl rfl hg2 hk' ?_
    intro _ u1 hu1
    refine s_call ok_TwinInts rfl (TwinIntsW_ct u1 _ w2 hu1 (hr k hk')) ?_
    rintro u2 w3 ⟨b1, c1, rfl, hb1, hO1, hx3⟩
    refine s_bs1 (u := sv b1 (g.getD k []).length c1) sl_rows in_ints rfl rfl ?_
    intro b2 w4 hb2 hA hx4 hs4
    refine s_app (news := [sv b1 (g.getD k []).length c1]) sl_rows in_ints (hv.ex (hx3.trans hx4)) (hA.sl (Nat.le_refl _) (by simp) (by simp)) rfl rfl (by intro q hq; simp at hq; subst hq; rfl) (by simp; omega) ?_
    intro v' w5 hv' hgr hown
    repeat (first | (refine isO ?_; first | refine s_move ?_ | refine s_assign ?_ | (refine isBin ?_; refine s_inc rfl (by omega) ?_)) | (refine isC ?_; refine c_region ?_) | (first | refine l_th ?_ | refine l_nil ?_))
    have hv2 : ∀ b, v.ownBlock = some b → b < w2.heap.size := hv.lt
    have hsz3 := hx3.size
    have hsz4 := hx4.size
    have hsz := hx.size
    refine loop_end (k + 1, v', updN rb k b1, updN rc k c1) (by (repeat (first | exact agree_refl _ _ | refine agree_upd rfl ?_ | refine agree_ext rfl ?_ | refine agree_mask rfl ?_))) ⟨rfl, rfl, trivial⟩ ⟨hk', ?_, ((hx.trans hx3).trans hx4).storeo hgr hb, ?_, ?_, ?_⟩ (by dsimp only; omega)
    · dsimp only
      have e : (List.range (k + 1)).map (fun i => sv (updN rb k b1 i) (g.getD i []).length (updN rc k c1 i)) = (List.range k).map (fun i => sv (rb i) (g.getD i []).length (rc i)) ++ [sv b1 (g.getD k []).length c1] := by
        rw [List.range_succ, List.map_append]
        congr 1
        · apply List.map_congr_left
          intro i hi
          have : i ≠ k := by have := List.mem_range.1 hi; omega
          simp [updN, this]
        · simp [updN]
      rw [e]; exact hv'
    · intro b hb'
      rcases hown with h1 | h1
      · exact hb b (h1.symm.trans hb')
      · have := h1 b hb'; omega
    · intro i hi
      dsimp only at hi ⊢
      by_cases hik : i = k
      · subst hik
        have e1 : updN rb i b1 i = b1 := by simp [updN]
        have e2 : updN rc i c1 i = c1 := by simp [updN]
        rw [e1, e2]
        have hb1lt := hO1.lt
        refine ⟨(hO1.ex hx4).grown hgr (fun e => ?_), fun e => ?_, by omega⟩
        · have := hv2 b1 e; omega
        · rcases hown with h1 | h1
          · have := hv2 b1 (h1.symm.trans e.symm); omega
          · have := h1 b1 e.symm; omega
      · have e1 : updN rb k b1 i = rb i := by simp [updN, hik]
        have e2 : updN rc k c1 i = rc i := by simp [updN, hik]
        rw [e1, e2]
        obtain ⟨hOi, hne, hge⟩ := hO i (by omega)
        have hlt := hOi.lt
        refine ⟨((hOi.ex hx3).ex hx4).grown hgr (fun e => hne e.symm), fun e => ?_, hge⟩
        rcases hown with h1 | h1
        · exact hne (e.trans h1)
        · have := h1 (rb i) e.symm; omega
    · intro i j hij hj
      dsimp only at hj ⊢
      by_cases hjk : j = k
      · subst hjk
        have e1 : updN rb j b1 j = b1 := by simp [updN]
        have hij' : i ≠ j := by omega
        have e2 : updN rb j b1 i = rb i := by simp [updN, hij']
        rw [e1, e2]
        have := (hO i (by omega)).1.lt; omega
      · have hik : i ≠ k := by omega
        have e1 : updN rb k b1 j = rb j := by simp [updN, hjk]
        have e2 : updN rb k b1 i = rb i := by simp [updN, hik]
        rw [e1, e2]
        exact hmon i j hij (by omega)
  · have hkn : k = g.length := by omega
    subst hkn
    repeat (first | (refine isO ?_; refine s_move ?_) | (refine isC ?_; first | refine c_sr ?_ | refine c_exit ?_))
    refine s_bs1 (u := .int .i64 77) sl_ints in_int rfl rfl ?_
    intro b1 w3 hb1 hA hx3 hs3
    refine s_bs1 (u := sv b1 1 1) sl_rows in_ints rfl rfl ?_
    intro b2 w4 hb2 hA2 hx4 hs4
    refine s_app (news := [sv b1 1 1]) sl_rows in_ints (hv.ex (hx3.trans hx4)) (hA2.sl (Nat.le_refl _) (by simp) (by simp)) rfl rfl (by intro q hq; simp at hq; subst hq; rfl) (by simp; omega) ?_
    intro v' w5 hv' hgr hown
    obtain ⟨b3, c3, sp, rfl, hA5, hc, hcl, hcm⟩ := hv'.posL (by simp)
    have hsz3 := hx3.size
    have hsz4 := hx4.size
    have hsz := hx.size
    have hfr : w.heap.size ≤ b3 := by
      rcases hown with h1 | h1
      · exact hb b3 h1.symm
      · have := h1 b3 rfl; omega
    simp only [List.length_append, List.length_map, List.length_range, List.length_singleton] at hc hcl
    have hb13 : b1 ≠ b3 := fun e => by
      have hl1 := hA.lt
      rcases hown with h1 | h1
      · have := hv.lt b3 h1.symm; omega
      · have := h1 b3 rfl; have := hA2.lt; omega
    have hA15 := (hA.ex hx4).grown hgr (fun e => by have := hv.lt b1 e; omega)
    have hx5 := ((hx.trans hx3).trans hx4).storeo hgr hb
    have hg5 := hg.ex hx5
    repeat ((refine isO ?_; first | refine s_move ?_ | (refine isCall ?_; refine s_lenR sl_rows rfl (by assumption) ?_)))
    refine s_head (hi := g.length) sl_rows ty_ints rfl rfl (by omega) ?_
    repeat (first | (refine isO ?_; refine s_assign ?_) | (refine isC ?_; refine c_ret ?_) | (refine l_th ?_))
    refine ret1 rfl rfl ⟨b3, c3, rb, rc, rfl, hfr, fun i hi => (hO i hi).2.2, ⟨⟨b1, sp, by rw [List.append_assoc] at hA5; exact hA5, hA15, by omega⟩, by omega, hcm, by omega, fun i hi => ?_, hmon⟩, hx5⟩
    obtain ⟨hOi, hne, hge⟩ := hO i hi
    have hlt := hOi.lt
    refine ⟨((hOi.ex hx3).ex hx4).grown hgr (fun e => hne e.symm), fun e => ?_⟩
    rcases hown with h1 | h1
    · exact hne (by rw [e]; exact h1)
    · have := h1 b3 rfl; omega
end Go.Proofs.Ytifbgpkjbciblaa.Sal
end
section
/- salesroomlaw01.TwinMarket. -/
set_option maxRecDepth 100000
namespace Go.Proofs.Ytifbgpkjbciblaa.Sal
open Go.RowKit
/-- A market of the call's own. -/
structure MkO (w0 w : World) (b1 c1 b2 c2 : Nat) (rb rc : Nat → Nat) (b3 c3 : Nat) (res : List Int) (bids : List (List Int)) (ord : List Int) : Prop where
  r : OwnI w 3 b1 c1 res
  b : Mat w 22 3 b2 c2 rb rc bids
  o : OwnI w 3 b3 c3 ord
  n12 : b1 ≠ b2
  n13 : b1 ≠ b3
  n23 : b2 ≠ b3
  nr : ∀ i, i < bids.length → rb i ≠ b1 ∧ rb i ≠ b3
  l1 : w0.heap.size ≤ b1
  l2 : w0.heap.size ≤ b2
  l3 : w0.heap.size ≤ b3
  lr : ∀ i, i < bids.length → w0.heap.size ≤ rb i
theorem MkO.mk' {w0 w : World} {b1 c1 b2 c2 : Nat} {rb rc : Nat → Nat} {b3 c3 : Nat} {res : List Int} {bids : List (List Int)} {ord : List Int} (h : MkO w0 w b1 c1 b2 c2 rb rc b3 c3 res bids ord) : Mk w (sv b1 res.length c1) (sv b2 bids.length c2) (sv b3 ord.length c3) res bids ord := ⟨h.r.ints, h.b.rows, h.o.ints⟩
theorem MkO.ex {w0 w w' : World} {b1 c1 b2 c2 : Nat} {rb rc : Nat → Nat} {b3 c3 : Nat} {res : List Int} {bids : List (List Int)} {ord : List Int} (h : MkO w0 w b1 c1 b2 c2 rb rc b3 c3 res bids ord) (hx : Ex w w') : MkO w0 w' b1 c1 b2 c2 rb rc b3 c3 res bids ord :=
  { h with r := h.r.ex hx, b := h.b.ex hx, o := h.o.ex hx }
/-- A twin of a market, with room behind its lists. -/
structure MkT (w0 w : World) (b1 c1 b2 c2 : Nat) (vs : Nat → Value) (b3 c3 : Nat) (res : List Int) (bids : List (List Int)) (ord : List Int) : Prop where
  r : OwnI w 3 b1 c1 res
  b : Wd w 22 1 (sv b2 bids.length c2) bids.length ((List.range bids.length).map vs)
  o : Wd w 3 1 (sv b3 ord.length c3) ord.length (ord.map (Value.int .i64))
  n12 : b1 ≠ b2
  n13 : b1 ≠ b3
  n23 : b2 ≠ b3
  row : ∀ i, i < bids.length → Ints w (vs i) (bids.getD i []) ∧ ∀ b, (vs i).ownBlock = some b → w0.heap.size ≤ b ∧ b ≠ b1 ∧ b ≠ b2 ∧ b ≠ b3 ∧ b < w.heap.size
  l1 : w0.heap.size ≤ b1
  l2 : w0.heap.size ≤ b2
  l3 : w0.heap.size ≤ b3
theorem TwI.owni {w : World} {b c : Nat} {l : List Int} (h : TwI w b c l) : OwnI w 3 b c l := let ⟨sp, h1, h2, _, _, h5⟩ := h; ⟨_, h1, by omega, by omega⟩
attribute [local irreducible] Go.Code.wpIn Go.wpListIn Ct Ints Rows Sl At Rw WJ
attribute [local irreducible] Wd
set_option linter.all false
theorem ok_TwinMarket : CallOK Try.prog 17 := callOK Try.func17 (by kernel_rfl) rfl
theorem TwinMarketW_ct (rv bv ov : Value) (res : List Int) (bids : List (List Int)) (ord : List Int) (w : World) (hM : Mk w rv bv ov res bids ord) (h1 : res.length ≤ 10000) (h2 : bids.length ≤ 10000) (h3 : ∀ i, i < bids.length → (bids.getD i []).length ≤ 10000) (h4 : ord.length ≤ 10000) :
    Ct Try.prog 17 #[.agg #[rv, bv, ov]] w fun u w' => ∃ b1 c1 b2 c2 vs b3 c3, u = .agg #[sv b1 res.length c1, sv b2 bids.length c2, sv b3 ord.length c3] ∧ MkT w w' b1 c1 b2 c2 vs b3 c3 res bids ord ∧ Ex w w' := by
  refine Exists.elim in_mkt fun ti hti => ?_
  refine enter (N := 13) (vs := [.agg #[rv, bv, ov]]) Try.func17 rfl rfl rfl ?_
  repeat ((refine isC ?_; refine c_sr ?_))
  refine s_box (cs := [rv, bv, ov]) rfl rfl ?_
  intro b0 w0 hb0 hZ hx0 hs0
  refine s_alloc (cs := [.slice none 0 0, .slice none 0 0, .slice none 0 0]) hti.1 hti.2 rfl ?_
  intro bt w1 hbt hT hx1 hs1
  have hx01 := hx0.trans hx1
  have hZ1 := hZ.ex hx1
  have hM1 := hM.ex hx01
  repeat (first | (refine isC ?_; refine c_seq ?_) | (refine l_th ?_))
  refine c_drawO (Ex.refl w1) 1024 8 [(0, true), (1, true), (3, true), (4, true), (6, true), (7, true), (2, false), (5, false), (8, false), (9, false), (10, false)] mixed (by kernel_rfl) ?_
  have hxd := Ex.drew w1
  refine d_fa rfl Try.underlying25 rfl ty_ints rfl ?_
  refine d_ldA rfl ty_ints rfl hZ1 rfl ?_
  refine d_fa rfl Try.underlying25 rfl ty_rows rfl ?_
  refine d_ldA rfl ty_rows rfl hZ1 rfl ?_
  refine d_fa rfl Try.underlying25 rfl ty_ints rfl ?_
  refine d_ldA rfl ty_ints rfl hZ1 rfl ?_
  refine d_ch rfl ?_
  refine s_call ok_TwinInts rfl (TwinIntsW_ct rv res w1.drew (hM1.r.ex hxd) h1) ?_
  rintro u w2 ⟨b1, c1, rfl, hb1, hO1, hx2⟩
  have hx12 := hxd.trans hx2
  refine l_nil ⟨rfl, .inr hx12, ?_⟩
  refine d_ch rfl ?_
  refine s_call ok_TwinIntLists rfl (TwinIntListsW_ct bv bids w2 (hM1.b.ex hx12) h2 h3) ?_
  rintro u w3 ⟨b2, c2, rb, rc, rfl, hb2, hrb, hMt, hx3⟩
  have hx13 := hx12.trans hx3
  refine l_nil ⟨rfl, .inr hx13, ?_⟩
  refine d_ch rfl ?_
  refine s_call ok_TwinInts rfl (TwinIntsW_ct ov ord w3 (hM1.o.ex hx13) h4) ?_
  rintro u w4 ⟨b3, c3, rfl, hb3, hO3, hx4⟩
  have hx14 := hx13.trans hx4
  refine l_nil ⟨rfl, .inr hx14, ?_⟩
  refine d_ch rfl ?_
  refine s_bldW (cells := [sv b1 res.length c1, sv b2 bids.length c2, sv b3 ord.length c3]) (built_mk _ _ _ _ _ _ _ _ _) ?_
  refine l_nil ⟨rfl, .inr hx14, ?_⟩
  refine d_ch rfl ?_
  refine s_stV (cs := [sv b1 res.length c1, sv b2 bids.length c2, sv b3 ord.length c3]) (sz_mk _ _ _) rfl rfl (hT.ex hx14) rfl rfl ?_
  intro w5 hA5 hg5 hs5
  refine l_nil ⟨rfl, .inl rfl, ?_⟩
  refine d_nil ?_
  have z0 := hx0.size
  have z1 := hx1.size
  have zd := hxd.size
  have z2 := hx2.size
  have z3 := hx3.size
  have z4 := hx4.size
  have lT := hT.lt
  have o1 := hO1.lt
  have hWd := hMt.wd
  have o2 : b2 < w3.heap.size := hWd.lt b2 rfl
  have o3 : ∀ i, i < bids.length → TwI w3 (rb i) (rc i) (bids.getD i []) ∧ rb i ≠ b2 := fun i hi => hMt.2.2.2.2.1 i hi
  have hx05 : Ex w w5 := (hx01.trans hx14).store hg5 (by omega)
  have hO15 := (hO1.ex (hx3.trans hx4)).grown hg5 (fun e => by cases e; omega)
  have hO35 := hO3.grown hg5 (fun e => by cases e; omega)
  repeat ((refine isC ?_; refine c_ret ?_))
  exact ret_cV rfl rfl Try.underlying25 rfl (sz_mk _ _ _) hA5 ⟨b1, c1, b2, c2, fun i => sv (rb i) (bids.getD i []).length (rc i), b3, c3, rfl,
    { r := hO15.owni, b := (hWd.ex hx4).grown hg5 (fun b hb e => by have h5 : b2 = b := Option.some.inj hb; have h6 : bt = b := Option.some.inj e; omega), o := hO35.wd, n12 := by omega, n13 := by omega, n23 := by omega,
      row := fun i hi => by
        have h7 := o3 i hi
        have h8 := h7.1.lt
        have h9 := hrb i hi
        exact ⟨((h7.1.ex hx4).grown hg5 (fun e => by cases e; omega)).ints, fun b hb => by
          have := Option.some.inj hb
          simp at this
          subst this
          exact ⟨by omega, by omega, h7.2, by omega, by have := hg5.size; omega⟩⟩,
      l1 := by omega, l2 := by omega, l3 := by omega }, hx05⟩
end Go.Proofs.Ytifbgpkjbciblaa.Sal
end
section
/- Plain: prices lean on what each bids alone. -/
set_option maxRecDepth 100000
namespace Go.Proofs.Ytifbgpkjbciblaa.Sal
set_option linter.all false
theorem need_congr {b b' : List (List Int)} {i j : Nat} (h : b.getD i [] = b'.getD j []) (p : List Int) (n : Nat) (l : List Int) : needB b p n l i = needB b' p n l j := by
  have h1 : dG b p i = dG b' p j := by unfold dG; rw [h]
  have h2 : mustB b p i = mustB b' p j := by unfold mustB; rw [h1]
  have h3 : RD b p i = RD b' p j := by
    funext k
    unfold RD gD lenB
    rw [h2, h1, h]
  unfold needB wantB
  rw [h2, h3]
theorem need_nil {b : List (List Int)} {i : Nat} (h : b.getD i [] = []) (p : List Int) (n : Nat) (l : List Int) : needB b p n l i = false := by
  have h1 : dG b p i = 0 := by rw [dG_eq]; unfold lenB; rw [h]; rfl
  unfold needB mustB
  rw [h1]; rfl
/-- Without some that bid. -/
theorem comp_less {b b' : List (List Int)} {p : List Int} {n : Nat} (hl : b'.length = b.length) (h : ∀ i, i < b.length → b'.getD i [] = b.getD i [] ∨ b'.getD i [] = []) (hc : compP b p n) : compP b' p n := by
  intro l hr
  refine Nat.le_trans ?_ (hc l hr)
  rw [hl]
  refine cnt_le _ fun i hi hn => ?_
  rcases h i hi with h1 | h1
  · rw [← need_congr h1]; exact hn
  · rw [need_nil h1] at hn; cases hn
end Go.Proofs.Ytifbgpkjbciblaa.Sal
end
section
/- Plain: orders. -/
set_option maxRecDepth 100000
namespace Go.Proofs.Ytifbgpkjbciblaa.Sal
set_option linter.all false
def upI (m : Nat) : List Int := (List.range m).map fun k : Nat => (k : Int)
theorem upI_nodup (m : Nat) : (upI m).Nodup := by
  unfold upI
  exact List.Pairwise.map _ (fun a b h e => h (by omega)) List.nodup_range
theorem upI_count (m k : Nat) : (upI m).count (k : Int) = if k < m then 1 else 0 := by
  have hmem : (k : Int) ∈ upI m ↔ k < m := by
    unfold upI
    rw [List.mem_map]
    constructor
    · rintro ⟨a, ha, e⟩; have := List.mem_range.1 ha; omega
    · intro h; exact ⟨k, List.mem_range.2 h, rfl⟩
  split
  · rename_i h; have h1 := List.count_pos_iff.2 (hmem.2 h)
    have h2 := List.nodup_iff_count.1 (upI_nodup m) (k : Int)
    omega
  · rename_i h; exact List.count_eq_zero.2 (fun hh => h (hmem.1 hh))
theorem ord_perm {l : List Int} {m : Nat} (hm : m ≤ 8) : ordB l m = true ↔ l.Perm (upI m) := by
  unfold ordB
  rw [Bool.and_eq_true, List.all_eq_true, decide_eq_true_eq, List.map_inj_left]
  constructor
  · rintro ⟨h1, h2⟩
    rw [List.perm_iff_count]
    intro a
    by_cases ha : 0 ≤ a ∧ a < 8
    · obtain ⟨k, rfl⟩ : ∃ k : Nat, a = (k : Int) := ⟨a.toNat, by omega⟩
      have := h2 k (List.mem_range.2 (by omega))
      rw [upI_count]
      split at this <;> rename_i h <;> simp only [h, if_true, if_false] <;> omega
    · have e1 : l.count a = 0 := List.count_eq_zero.2 fun hh => by have := h1 a hh; simp at this; omega
      have e2 : (upI m).count a = 0 := List.count_eq_zero.2 fun hh => by
        unfold upI at hh
        obtain ⟨k, hk, rfl⟩ := List.mem_map.1 hh
        have := List.mem_range.1 hk
        omega
      rw [e1, e2]
  · intro h
    refine ⟨fun x hx => ?_, fun k _ => ?_⟩
    · obtain ⟨k, hk, rfl⟩ := List.mem_map.1 (h.mem_iff.1 hx : x ∈ upI m)
      have := List.mem_range.1 hk
      simp; omega
    · rw [h.count_eq, upI_count]; split <;> rfl
theorem ord_len {l : List Int} {m : Nat} (hm : m ≤ 8) (h : ordB l m = true) : l.length = m := by
  rw [((ord_perm hm).1 h).length_eq]; simp [upI]
end Go.Proofs.Ytifbgpkjbciblaa.Sal
end
section
/- Plain: ends compared. -/
set_option maxRecDepth 100000
namespace Go.Proofs.Ytifbgpkjbciblaa.Sal
set_option linter.all false
theorem end_le {res res' : List Int} {b b' : List (List Int)} {L L' : List (List Int)} (hM : MkOK res b) (hR : RunS res b L) (hLg : ∀ i, i < L.length → Lg res (L.getD i [])) (hM' : MkOK res' b') (hR' : RunS res' b' L') (hLg' : ∀ i, i < L'.length → Lg res' (L'.getD i [])) (hl : res'.length = res.length)
    (hr : ∀ k, k < res.length → res.getD k 0 ≤ res'.getD k 0) (hc : compP b' (endL L') res.length → compP b (endL L') res.length) : ∀ k, k < res.length → (endL L).getD k 0 ≤ (endL L').getD k 0 := by
  have h1 := run_end hM' hR' hLg'
  rw [hl] at h1
  intro k hk
  exact run_le hM hR hLg (hc h1.1) (fun j hj => Int.le_trans (hr j hj) (h1.2.2 j (by omega)).1) _ (by have := hR.pos; omega) k hk
end Go.Proofs.Ytifbgpkjbciblaa.Sal
end
section
/- V21: stores into lists with room; bids in another order. -/
set_option maxRecDepth 100000
namespace Go.Proofs.Ytifbgpkjbciblaa.Sal
open Go.RowKit
theorem Wd.ints {w : World} {E : TypeId} {v : Value} {n : Nat} {l : List Int} (h : Wd w E 1 v n (l.map (Value.int .i64))) (hm : n ≤ 1000000) : Ints w v l := h.sl (by omega)
theorem Wd.rows {w : World} {E : TypeId} {v : Value} {n : Nat} {us : Nat → Value} {g : List (List Int)} (h : Wd w E 1 v n ((List.range n).map us)) (hl : g.length = n) (hm : n ≤ 1000000) (hr : ∀ i, i < n → Ints w (us i) (g.getD i [])) : Rows w v g := by
  refine ⟨_, h.sl (by omega), by simp [hl], fun i u l hu hl2 => ?_⟩
  have hi := (List.getElem?_eq_some_iff.1 hl2).1
  have e1 : u = us i := by simp [show i < n by omega] at hu; exact hu.symm
  have e2 : g.getD i [] = l := by simp [List.getD_eq_getElem?_getD, hl2]
  rw [e1, ← e2]
  exact hr i (by omega)
theorem mfs {us : Nat → Value} {n k : Nat} {u : Value} (hk : k < n) : ((List.range n).map us).set k u = (List.range n).map (fs us k u) := map_fs us u hk
theorem chk_of {res : List Int} {bids : List (List Int)} {ord : List Int} (h1 : vecB res res.length = true) (h2 : 1 ≤ bids.length) (h3 : bids.length ≤ 8) (h4 : ordB ord bids.length = true) (h5 : ∀ i, i < bids.length → badBid res.length (bids.getD i []) = false) : chkM res bids ord = true := by
  unfold chkM
  rw [h1, h4, decide_eq_true h2, decide_eq_true h3]
  have : bids.any (badBid res.length) = false := by
    rw [List.any_eq_false]
    intro x hx
    obtain ⟨i, hi, rfl⟩ := List.getElem_of_mem hx
    have := h5 i hi
    rw [List.getD_eq_getElem?_getD, List.getElem?_eq_getElem hi] at this
    simpa using this
  rw [this]; rfl
end Go.Proofs.Ytifbgpkjbciblaa.Sal
end
section
/- V23: one bids alone; all bid the same. -/
set_option maxRecDepth 100000
namespace Go.Proofs.Ytifbgpkjbciblaa.Sal
open Go.RowKit
set_option linter.all false
/-- What all bid. -/
def wq (r : Int) (x : Nat) : Int := if r + (x : Int) < 1000000 then r + (x : Int) else 1000000
def wL (res : List Int) (x k : Nat) : List Int := (List.range k).map fun j => wq (res.getD j 0) x
def wB (res : List Int) (m x : Nat) : List (List Int) := (List.range m).map fun _ => wL res x res.length
end Go.Proofs.Ytifbgpkjbciblaa.Sal
end
section
/- markets.Without. -/
set_option maxRecDepth 100000
namespace Go.Proofs.Ytifbgpkjbciblaa.Sal
open Go.RowKit
/-- Numbers in a block of numbers, or none. -/
def IB (w : World) (v : Value) (l : List Int) : Prop := (∃ a c, v = .slice a l.length c) ∧ Ints w v l ∧ ∀ b, v.ownBlock = some b → ∃ cs, At w b 3 cs
theorem IB.ex {w w' : World} {v : Value} {l : List Int} (h : IB w v l) (hx : Ex w w') : IB w' v l := ⟨h.1, h.2.1.ex hx, fun b hb => let ⟨cs, hc⟩ := h.2.2 b hb; ⟨cs, hc.ex hx⟩⟩
theorem ty_ne {w : World} {b : Nat} {E T : TypeId} {cs ds : List Value} (h1 : At w b E cs) (h2 : At w b T ds) : E = T := by
  unfold At at h1 h2
  rw [h1] at h2
  have h3 := Option.some.inj h2
  rw [Obj.cells.injEq] at h3
  exact h3.2.1
theorem IB.kept {w w' : World} {v : Value} {l : List Int} {b : Nat} {T : TypeId} {cs : List Value} (h : IB w v l) (hA : At w b T cs) (hT : (T == 3) = false) (hg : w.grownBy w' (some b)) : IB w' v l := by
  have hne : v.ownBlock ≠ some b := fun e => by
    obtain ⟨ds, hd⟩ := h.2.2 b e
    have := ty_ne hA hd
    rw [this] at hT; simp at hT
  refine ⟨h.1, h.2.1.kept hg (.inr hne), fun b' hb' => ?_⟩
  obtain ⟨ds, hd⟩ := h.2.2 b' hb'
  exact ⟨ds, hd.grown hg (fun e => hne (by rw [hb', ← e]))⟩
theorem LI.ib {w0 w : World} {v : Value} {l : List Int} (h : LI w0 w 3 v l) (hm : l.length ≤ 1000000) : IB w v l := by
  refine ⟨h.form, h.ints hm, fun b hb => ?_⟩
  rcases h.1.form with ⟨rfl, _⟩ | ⟨b', cap, sp, rfl, hA, _⟩
  · cases hb
  · have : b' = b := Option.some.inj hb
    subst this
    exact ⟨_, hA⟩
theorem IB.clip {w w' : World} {a : Option Addr} {l : List Int} {c : Nat} (h : IB w (.slice a l.length c) l) (hI : Ints w' (.slice a l.length l.length) l) (hx : Ex w w') : IB w' (.slice a l.length l.length) l := by
  refine ⟨⟨a, _, rfl⟩, hI, fun b hb => ?_⟩
  obtain ⟨cs, hc⟩ := h.2.2 b (by rw [← hb]; cases a <;> rfl)
  exact ⟨cs, hc.ex hx⟩
theorem IB.nil (w : World) : IB w (.slice none 0 0) [] := ⟨⟨none, 0, rfl⟩, Ints.nil w, fun b hb => by cases hb⟩
theorem IB.ints {w : World} {v : Value} {l : List Int} (h : IB w v l) : Ints w v l := h.2.1
theorem IB.one {w : World} {v : Value} {l : List Int} (h : IB w v l) : v.oneCell' = true := by obtain ⟨a, c, rfl⟩ := h.1; rfl
theorem results_cellV2 {P : Program} {fn : Func} {w : World} {a d : Tmp} {ta : TypeId} {v : Value} {pa : Addr} {tmps : Array Value} (h : fn.results = #[.cell a ta, .tmp d]) (ha : tmps.getD a undef = .pointer (some pa)) (la : (loadVar ta pa).run P w = .ok v w) :
    (results fn tmps).run P w = .ok (.tuple #[v, tmps.getD d undef]) w := by
  simp only [Array.getD_eq_getD_getElem?] at ha
  simp [results, h, ha, asAddr, la]
theorem ret_cV2 {P : Program} {fn : Func} {w : World} {R : Value → World → Prop} {N : Nat} {σ : Nat → Value} {a d : Nat} {ta B : TypeId} {b : Nat} {cs : List Value} {x : Value} {dd : TypeDesc} (hres : fn.results = #[.cell a ta, .tmp d]) (ha : ev N σ (.tmp a) = .pointer (some ⟨b, 0, none⟩)) (hd : ev N σ (.tmp d) = x)
    (hu : P.underlying ta = some dd) (hdd : (match dd with | .struct _ | .array _ _ => true | _ => false) = true) (hsz : (P.info? ta).map (·.size) = some cs.length) (hA : At w b B cs) (hR : R (.tuple #[.agg cs.toArray, x]) w) : Post P fn R .ret (mk N σ []) w := by
  have key : LeavesInM (FW none) 0 P fn (mk N σ []).tmps (RE R) [] .returning w := by
    refine leave_nil (v := .tuple #[.agg cs.toArray, x]) ?_ hR
    have h1 : (mk N σ []).tmps.getD a undef = .pointer (some ⟨b, 0, none⟩) := getD_mk' ha
    have h2 : (mk N σ []).tmps.getD d undef = x := getD_mk' hd
    have := results_cellV2 (P := P) (w := w) hres h1 (run_loadVar_row (P := P) w b B ta cs.toArray (0, 0) dd hA hu hdd (by simpa using hsz))
    rw [h2] at this
    exact this
  exact key
/-- Bids without one's. -/
def withB (bids : List (List Int)) (t : Nat) : List (List Int) := (List.range bids.length).map fun j => if j ≠ t then bids.getD j [] else []
theorem withB_len (bids : List (List Int)) (t : Nat) : (withB bids t).length = bids.length := by simp [withB]
theorem withB_get {bids : List (List Int)} {t i : Nat} (hi : i < bids.length) : (withB bids t).getD i [] = if i ≠ t then bids.getD i [] else [] := by simp [withB, List.getD_eq_getElem?_getD, hi]
theorem chk_without {res : List Int} {bids : List (List Int)} {ord : List Int} (h : chkM res bids ord = true) (t : Nat) : chkM res (withB bids t) ord = true := by
  obtain ⟨h1, h2, h3, h4, h5⟩ := chk_parts h
  have hl := withB_len bids t
  refine chk_of h1 (by omega) (by omega) (by rw [hl]; exact h4) fun i hi => ?_
  rw [withB_get (by omega)]
  split
  · exact h5 i (by omega)
  · rfl
/-- What stands in the temporaries as Without lays its answer. -/
def FWo (b0 W0 : Nat) (rv bv ov : Value) (res : List Int) (bids : List (List Int)) (ord : List Int) : Nat → Nat → Nat → Value → World → Prop
  | 0, _, _, v, _ => v = .pointer (some ⟨b0, 0, none⟩)
  | 1, _, _, v, _ => v = rv
  | 2, _, _, v, w => IB w v res
  | 3, _, _, v, w => IB w v res
  | 4, _, _, v, _ => v = .pointer (some ⟨b0, 1, none⟩)
  | 5, _, _, v, _ => v = bv
  | 6, _, _, v, _ => v = .int .i64 (bids.length : Int)
  | 7, _, _, v, w => ∃ bM, v = sv bM bids.length bids.length ∧ At w bM 22 (List.replicate bids.length (.slice none 0 0)) ∧ W0 ≤ bM
  | 8, _, _, v, _ => v = .pointer (some ⟨b0, 2, none⟩)
  | 9, _, _, v, _ => v = ov
  | 10, _, _, v, w => IB w v ord
  | 11, _, _, v, w => IB w v ord
  | 12, _, _, v, w => ∃ rv' bM ov', v = .agg #[rv', sv bM bids.length bids.length, ov'] ∧ IB w rv' res ∧ (At w bM 22 (List.replicate bids.length (.slice none 0 0)) ∧ W0 ≤ bM) ∧ IB w ov' ord
  | 13, _, _, v, w => ∃ bX, v = .pointer (some ⟨bX, 0, none⟩) ∧ At w bX 25 [.slice none 0 0, .slice none 0 0, .slice none 0 0] ∧ W0 ≤ bX
  | _, _, _, _, _ => True
theorem FWo.ex {b0 W0 : Nat} {rv bv ov : Value} {res : List Int} {bids : List (List Int)} {ord : List Int} : ∀ (i lo hi : Nat) (v : Value) (w w' : World), FWo b0 W0 rv bv ov res bids ord i lo hi v w → Ex w w' → FWo b0 W0 rv bv ov res bids ord i lo hi v w'
  | 0, _, _, _, _, _, h, _ => h
  | 1, _, _, _, _, _, h, _ => h
  | 2, _, _, _, _, _, h, hx => IB.ex h hx
  | 3, _, _, _, _, _, h, hx => IB.ex h hx
  | 4, _, _, _, _, _, h, _ => h
  | 5, _, _, _, _, _, h, _ => h
  | 6, _, _, _, _, _, h, _ => h
  | 7, _, _, _, _, _, h, hx => let ⟨bM, h1, h2, h3⟩ := h; ⟨bM, h1, h2.ex hx, h3⟩
  | 8, _, _, _, _, _, h, _ => h
  | 9, _, _, _, _, _, h, _ => h
  | 10, _, _, _, _, _, h, hx => IB.ex h hx
  | 11, _, _, _, _, _, h, hx => IB.ex h hx
  | 12, _, _, _, _, _, h, hx => let ⟨a, b, c, h1, h2, h3, h4⟩ := h; ⟨a, b, c, h1, h2.ex hx, ⟨h3.1.ex hx, h3.2⟩, h4.ex hx⟩
  | 13, _, _, _, _, _, h, hx => let ⟨bM, h1, h2, h3⟩ := h; ⟨bM, h1, h2.ex hx, h3⟩
  | (_ + 14), _, _, _, _, _, _, _ => trivial
attribute [local irreducible] Go.Code.wpIn Go.wpListIn Ct Ints Rows Sl At Rw WJ
attribute [local irreducible] IB
set_option linter.all false
theorem ok_Without : CallOK Try.prog 18 := callOK Try.func18 (by kernel_rfl) rfl
set_option maxHeartbeats 8000000 in
theorem Without_ct (rv bv ov : Value) (res : List Int) (bids : List (List Int)) (ord : List Int) (t : Nat) (w : World) (hM : Mk w rv bv ov res bids ord) (hck : chkM res bids ord = true) (ht : t < bids.length) :
    Ct Try.prog 18 #[.agg #[rv, bv, ov], .int .i64 (t : Int)] w fun u w' => ∃ rv' bv' ov', u = .tuple #[.agg #[rv', bv', ov'], .int .i64 0] ∧ Mk w' rv' bv' ov' res (withB bids t) ord ∧ Ex w w' := by
  have hOK := mkok hck
  have hn8 := hOK.n8
  have hm1 := hOK.m1
  have hm8 := hOK.m8
  have hol : ord.length = bids.length := ord_len hm8 (chk_parts hck).2.2.2.1
  have hrl : ∀ i, i < bids.length → (bids.getD i []).length ≤ 8 := fun i hi => by have := hOK.lens i hi; unfold lenB at this; omega
  refine Exists.elim in_mkt fun ti hti => ?_
  refine Exists.elim in_ints' fun tn htn => ?_
  refine enter (N := 57) (vs := [.agg #[rv, bv, ov], .int .i64 (t : Int)]) Try.func18 rfl rfl rfl ?_
  repeat ((refine isC ?_; refine c_sr ?_))
  refine s_box (cs := [rv, bv, ov]) rfl rfl ?_
  intro b0 w0 hb0 hZ hx0 hs0
  refine s_alloc (cs := [.slice none 0 0, .slice none 0 0, .slice none 0 0]) hti.1 hti.2 rfl ?_
  intro bR w1 hbR hA1 hx1 hs1
  have hx01 := hx0.trans hx1
  have hZ1 := hZ.ex hx1
  have hM1 := hM.ex hx01
  repeat (first | (refine isO ?_; refine s_assign ?_) | (refine isC ?_; first | refine c_sr ?_ | refine c_seq ?_) | (refine l_th ?_))
  refine s_ldV Try.underlying25 rfl (sz_mk _ _ _) rfl hZ1 ?_
  refine s_call ok_mcheck rfl (mcheck_ct rv bv ov res bids ord w1 hM1) ?_
  rintro u w2 ⟨rfl, hx2⟩
  refine s_re (v' := .bool true) (vbool hck) ?_
  have hZ2 := hZ1.ex hx2
  have hM2 := hM1.ex hx2
  have hr2 := hM2.r
  have hb2 := hM2.b
  have ho2 := hM2.o
  repeat (first | (refine isO ?_; first | refine s_move ?_ | (refine isG ?_; refine g_yes rfl rfl ?_) | (refine isBin ?_; first | refine s_lssF rfl rfl (by omega) ?_ | refine s_geqF rfl rfl (by omega) ?_) | (refine isCall ?_; refine s_lenR sl_rows rfl (by assumption) ?_) | (refine isPick ?_; refine s_pickf rfl rfl ?_) | refine s_not rfl ?_) | (refine isO ?_; first | refine s_fa Try.underlying25 rfl ty_rows rfl ?_ | refine s_ldA ty_rows rfl (by assumption) rfl ?_) | (refine isC ?_; first | refine c_th ?_ | refine c_seq ?_ | refine c_iff rfl ?_) | (refine l_th ?_))
  refine c_any (m := 14) (dl := [24, 25, 26, 27, 28, 29, 30, 31, 32, 33, 34, 35, 36, 6]) (FWo b0 w2.drew.heap.size rv bv ov res bids ord) mixed (by kernel_rfl) FWo.ex ?_ ?_
  · intro i hi σ W hxW hag hd
    have h2 : σ 2 = .pointer (some ⟨b0, 0, none⟩) := (hag 2 (by decide)).trans rfl
    have hZW := (hZ2.ex (Ex.drew w2)).ex hxW
    have hrW := (hr2.ex (Ex.drew w2)).ex hxW
    have hoW := (ho2.ex (Ex.drew w2)).ex hxW
    have hbW := (hb2.ex (Ex.drew w2)).ex hxW
    match i, hi with
    | 0, _ =>
      refine ⟨_, rfl, ?_⟩
      refine s_fa Try.underlying25 rfl ty_ints h2 ?_
      exact l_nil ⟨rfl, _, rfl, Ex.refl _, rfl⟩
    | 1, _ =>
      refine Exists.elim (hd 0 (by kernel_rfl)) fun _ h => Exists.elim h fun _ h => ?_
      have h0 : σ 24 = .pointer (some ⟨b0, 0, none⟩) := h.2.2.2
      refine ⟨_, rfl, ?_⟩
      refine s_ldA ty_ints h0 hZW rfl ?_
      exact l_nil ⟨rfl, _, rfl, Ex.refl _, rfl⟩
    | 2, _ =>
      refine Exists.elim (hd 1 (by kernel_rfl)) fun _ h => Exists.elim h fun _ h => ?_
      have h0 : σ 25 = rv := h.2.2.2
      refine ⟨_, rfl, ?_⟩
      refine s_call (vs := [rv]) ok_Clone (congrArg (fun v => [v]) h0) (Clone_ct rv res W hrW (by omega)) ?_
      rintro u W' ⟨hL, hx⟩
      exact l_nil ⟨rfl, _, rfl, hx, hL.ib (by omega)⟩
    | 3, _ =>
      refine Exists.elim (hd 2 (by kernel_rfl)) fun _ h => Exists.elim h fun _ h => ?_
      have h0 : IB W (σ 26) res := h.2.2.2
      refine Exists.elim (show ∃ v, v = σ 26 from ⟨_, rfl⟩) fun v hv => ?_
      rw [← hv] at h0
      have h9 : IB W v res := h0
      unfold IB at h0
      refine ⟨_, rfl, ?_⟩
      refine s_call (vs := [v]) ok_Clip (congrArg (fun v => [v]) hv.symm) (Clip_ct v res W h0.2.1) ?_
      rintro u W' ⟨⟨a, c, rfl, rfl⟩, hI, hx⟩
      exact l_nil ⟨rfl, _, rfl, hx, IB.clip h9 hI hx⟩
    | 4, _ =>
      refine ⟨_, rfl, ?_⟩
      refine s_fa Try.underlying25 rfl ty_rows h2 ?_
      exact l_nil ⟨rfl, _, rfl, Ex.refl _, rfl⟩
    | 5, _ =>
      refine Exists.elim (hd 4 (by kernel_rfl)) fun _ h => Exists.elim h fun _ h => ?_
      have h0 : σ 28 = .pointer (some ⟨b0, 1, none⟩) := h.2.2.2
      refine ⟨_, rfl, ?_⟩
      refine s_ldA ty_rows h0 hZW rfl ?_
      exact l_nil ⟨rfl, _, rfl, Ex.refl _, rfl⟩
    | 6, _ =>
      refine Exists.elim (hd 5 (by kernel_rfl)) fun _ h => Exists.elim h fun _ h => ?_
      have h0 : σ 29 = bv := h.2.2.2
      refine ⟨_, rfl, ?_⟩
      refine s_lenR sl_rows h0 hbW ?_
      exact l_nil ⟨rfl, _, rfl, Ex.refl _, rfl⟩
    | 7, _ =>
      refine Exists.elim (hd 6 (by kernel_rfl)) fun _ h => Exists.elim h fun _ h => ?_
      have h0 : σ 30 = .int .i64 (bids.length : Int) := h.2.2.2
      have h1 := hxW.size
      refine ⟨_, rfl, ?_⟩
      refine s_make sl_rows htn.1 htn.2.1 htn.2.2.1 rfl htn.2.2.2 h0 (by omega) ?_
      intro bM W' hbM hA hx hs
      exact l_nil ⟨rfl, _, rfl, hx, bM, rfl, hA, by omega⟩
    | 8, _ =>
      refine ⟨_, rfl, ?_⟩
      refine s_fa Try.underlying25 rfl ty_ints h2 ?_
      exact l_nil ⟨rfl, _, rfl, Ex.refl _, rfl⟩
    | 9, _ =>
      refine Exists.elim (hd 8 (by kernel_rfl)) fun _ h => Exists.elim h fun _ h => ?_
      have h0 : σ 32 = .pointer (some ⟨b0, 2, none⟩) := h.2.2.2
      refine ⟨_, rfl, ?_⟩
      refine s_ldA ty_ints h0 hZW rfl ?_
      exact l_nil ⟨rfl, _, rfl, Ex.refl _, rfl⟩
    | 10, _ =>
      refine Exists.elim (hd 9 (by kernel_rfl)) fun _ h => Exists.elim h fun _ h => ?_
      have h0 : σ 33 = ov := h.2.2.2
      refine ⟨_, rfl, ?_⟩
      refine s_call (vs := [ov]) ok_Clone (congrArg (fun v => [v]) h0) (Clone_ct ov ord W hoW (by omega)) ?_
      rintro u W' ⟨hL, hx⟩
      exact l_nil ⟨rfl, _, rfl, hx, hL.ib (by omega)⟩
    | 11, _ =>
      refine Exists.elim (hd 10 (by kernel_rfl)) fun _ h => Exists.elim h fun _ h => ?_
      have h0 : IB W (σ 34) ord := h.2.2.2
      refine Exists.elim (show ∃ v, v = σ 34 from ⟨_, rfl⟩) fun v hv => ?_
      rw [← hv] at h0
      have h9 : IB W v ord := h0
      unfold IB at h0
      refine ⟨_, rfl, ?_⟩
      refine s_call (vs := [v]) ok_Clip (congrArg (fun v => [v]) hv.symm) (Clip_ct v ord W h0.2.1) ?_
      rintro u W' ⟨⟨a, c, rfl, rfl⟩, hI, hx⟩
      exact l_nil ⟨rfl, _, rfl, hx, IB.clip h9 hI hx⟩
    | 12, _ =>
      refine Exists.elim (hd 3 (by kernel_rfl)) fun _ h => Exists.elim h fun _ h => ?_
      refine Exists.elim (hd 7 (by kernel_rfl)) fun _ k => Exists.elim k fun _ k => ?_
      refine Exists.elim (hd 11 (by kernel_rfl)) fun _ g => Exists.elim g fun _ g => ?_
      have h0 : IB W (σ 27) res := h.2.2.2
      have g0 : IB W (σ 35) ord := g.2.2.2
      refine Exists.elim k.2.2.2 fun bM hbM => ?_
      have k0 : σ 31 = sv bM bids.length bids.length := hbM.1
      have h1 := h0
      have g1 := g0
      unfold IB at h1 g1
      refine Exists.elim h1.1 fun a1 ha => Exists.elim ha fun c1 hc1 => ?_
      refine Exists.elim g1.1 fun a3 hb => Exists.elim hb fun c3 hc3 => ?_
      rw [hc1] at h0
      rw [hc3] at g0
      refine ⟨_, rfl, ?_⟩
      refine s_bldW (parts := [(0, .tmp 27), (1, .tmp 31), (2, .tmp 35)]) (cells := [.slice a1 res.length c1, sv bM bids.length bids.length, .slice a3 ord.length c3]) ?_ ?_
      · show Try.prog.built _ [(0, σ 27), (1, σ 31), (2, σ 35)] = _
        rw [hc1, k0, hc3]
        exact built_mk _ _ _ _ _ _ _ _ _
      · exact l_nil ⟨rfl, _, rfl, Ex.refl _, _, bM, _, rfl, h0, hbM.2, g0⟩
    | 13, _ =>
      have h1 := hxW.size
      refine ⟨_, rfl, ?_⟩
      refine s_alloc (cs := [.slice none 0 0, .slice none 0 0, .slice none 0 0]) hti.1 hti.2 rfl ?_
      intro bX W' hbX hA hx hs
      exact l_nil ⟨rfl, _, rfl, hx, bX, rfl, hA, by omega⟩
  · intro σ W lo hi hxW hag hfa hdis
    refine Exists.elim (hfa 12 (by omega)).1 fun rv' h => Exists.elim h fun bM h => Exists.elim h fun ov' h => ?_
    refine Exists.elim (hfa 13 (by omega)).1 fun bX k => ?_
    have h36 : σ 36 = .agg #[rv', sv bM bids.length bids.length, ov'] := h.1
    have h6 : σ 6 = .pointer (some ⟨bX, 0, none⟩) := k.1
    have hrv := h.2.1
    have hbM := h.2.2.1.1
    have hov := h.2.2.2
    have lM := h.2.2.1.2
    have hXA := k.2.1
    have lX := k.2.2
    have hrf := hrv
    have hof := hov
    unfold IB at hrf hof
    refine Exists.elim hrf.1 fun a1 ha => Exists.elim ha fun c1 hc1 => ?_
    refine Exists.elim hof.1 fun a3 hb => Exists.elim hb fun c3 hc3 => ?_
    refine last_eq (sig_norm 137422176320 [(6, .pointer (some ⟨bX, 0, none⟩))] hag (by kernel_rfl) ⟨h6, trivial⟩) ?_
    refine ⟨_, rfl, ?_⟩
    refine s_stV (cs := [rv', sv bM bids.length bids.length, ov']) (sz_mk _ _ _) rfl h36 hXA rfl (by rw [hc1, hc3]; rfl) ?_
    intro w3 hX3 hg3 hs3
    have zd := (Ex.drew w2).size
    have zW := hxW.size
    have z3 := hg3.size
    have hx23 : Ex w2 w3 := ((Ex.drew w2).trans hxW).store hg3 (by omega)
    have hne : bM ≠ bX := fun e => by subst e; have := ty_ne hbM hXA; revert this; decide
    have hbM3 := hbM.grown hg3 (fun e => by have := Option.some.inj e; omega)
    have hrv3 := hrv.kept hXA (by decide) hg3
    have hov3 := hov.kept hXA (by decide) hg3
    have hZ3 := hZ2.ex hx23
    have hb3 := hb2.ex hx23
    refine l_nil ⟨rfl, ?_⟩
    repeat (first | (refine isO ?_; first | refine s_move ?_ | (refine isCall ?_; refine s_lenR sl_rows rfl (by assumption) ?_)) | (refine isO ?_; first | refine s_fa Try.underlying25 rfl ty_rows rfl ?_ | refine s_ldA ty_rows rfl (by assumption) rfl ?_) | (refine isC ?_; first | refine c_sr ?_ | refine c_seq ?_ | refine c_block ?_) | (refine l_th ?_))
    refine c_loop2 72056494526300544 (fun (k : Nat) (_ : Nat → Value) => [(40, .int .i64 (k : Int))]) (fun k us V => k ≤ bids.length ∧ At V bM 22 ((List.range bids.length).map us) ∧ (∀ j, j < bids.length → IB V (us j) (if j < k then (withB bids t).getD j [] else [])) ∧ IB V rv' res ∧ IB V ov' ord ∧ At V bX 25 [rv', sv bM bids.length bids.length, ov'] ∧ Ex w2 V ∧ w3.heap.size ≤ V.heap.size) (fun k _ => bids.length - k) 0 (fun _ => .slice none 0 0) ⟨rfl, trivial⟩
      ⟨Nat.zero_le _, by have h9 : (List.range bids.length).map (fun _ : Nat => (Value.slice none 0 0)) = List.replicate bids.length (.slice none 0 0) := by simp [List.map_const']
                         rw [h9]; exact hbM3, fun j _ => by rw [if_neg (Nat.not_lt_zero _)]; exact IB.nil _, hrv3, hov3, hX3, hx23, Nat.le_refl _⟩ ?_
    rintro k us ρ V ⟨hk, hbV, hrow, hrvV, hovV, hXV, hxV, hzV⟩
    have hbO := hb2.ex hxV
    repeat (first | (refine isO ?_; (refine isBin ?_; refine s_lss rfl rfl ?_)) | (refine isC ?_; first | refine c_sr ?_ | refine c_seq ?_) | (refine l_th ?_))
    refine c_ifd rfl (fun h3 => ?_) (fun h3 => ?_)
    · have hk' : k < bids.length := by omega
      have hnext : ∀ j, j < bids.length → j ≠ k → ((if j < k + 1 then (withB bids t).getD j [] else []) = (if j < k then (withB bids t).getD j [] else [])) := fun j hj hne => by
        by_cases e : j < k
        · rw [if_pos e, if_pos (by omega)]
        · rw [if_neg e, if_neg (by omega)]
      repeat (first | (refine isO ?_; refine s_move ?_) | (refine isC ?_; first | refine c_sr ?_ | refine c_th ?_ | refine c_seq ?_ | refine c_block ?_))
      refine s_ixR sl_rows ty_ints rfl rfl rfl hbO hk' ?_
      intro _ u1 hu1
      by_cases e : k = t
      · repeat (first | (refine isO ?_; first | refine s_move ?_ | refine s_assign ?_ | (refine isBin ?_; first | refine s_inc rfl (by omega) ?_ | refine s_neqF rfl rfl (by omega) ?_)) | (refine isC ?_; first | refine c_sr ?_ | refine c_region ?_ | refine c_iff rfl ?_ | refine c_skip ?_) | (refine l_th ?_))
        refine loop_end2 (k + 1) us (by (repeat (first | exact agree_refl _ _ | refine agree_upd rfl ?_ | refine agree_ext rfl ?_ | refine agree_mask rfl ?_))) ⟨vint (by omega), trivial⟩ ⟨hk', hbV, fun j hj => ?_, hrvV, hovV, hXV, hxV, hzV⟩ (by show bids.length - (k + 1) < bids.length - k; omega)
        by_cases e2 : j = k
        · subst e2
          rw [if_pos (Nat.lt_succ_self _), withB_get hj, if_neg (fun h => h e)]
          have := hrow j hj
          rw [if_neg (Nat.lt_irrefl _)] at this
          exact this
        · rw [hnext j hj e2]; exact hrow j hj
      · repeat (first | (refine isO ?_; first | refine s_move ?_ | refine s_assign ?_ | (refine isBin ?_; refine s_neqT rfl rfl (by omega) ?_)) | (refine isC ?_; first | refine c_sr ?_ | refine c_ift rfl ?_) | (refine l_th ?_))
        refine c_drawO (Ex.refl V) 128 8 [(0, true), (1, true), (2, true), (3, true), (4, false), (5, false), (6, true), (7, false)] mixed (by kernel_rfl) ?_
        have hxd := Ex.drew V
        refine d_fa rfl Try.underlying25 rfl ty_rows rfl ?_
        refine d_ldA rfl ty_rows rfl hXV rfl ?_
        refine d_move rfl ?_
        refine d_move rfl ?_
        refine d_ch rfl ?_
        refine s_call ok_Clone rfl (Clone_ct u1 _ V.drew (hu1.ex hxd) (by have := hrl k hk'; omega)) ?_
        rintro u V1 ⟨hL1, hx1V⟩
        have hI1 := hL1.ib (by have := hrl k hk'; omega)
        have hxV1 := hxd.trans hx1V
        refine l_nil ⟨rfl, .inr hxV1, ?_⟩
        refine d_ch rfl ?_
        refine s_call ok_Clip rfl (Clip_ct u _ V1 hI1.ints) ?_
        rintro u' V2 ⟨hex, hI2, hx2V⟩
        refine Exists.elim hex fun a h => Exists.elim h fun c h => ?_
        have hu := h.1
        have hu' := h.2
        subst hu
        subst hu'
        have hI3 := hI1.clip hI2 hx2V
        have hxV2 := hxV1.trans hx2V
        refine l_nil ⟨rfl, .inr hxV2, ?_⟩
        refine d_iaA (n := k) rfl sl_rows ty_ints rfl rfl hk' ?_
        refine d_ch rfl ?_
        refine s_stA (n := k) (u := .slice a (bids.getD k []).length (bids.getD k []).length) ty_ints rfl rfl rfl (hbV.ex hxV2) (by simp [hk']) ?_
        intro V3 hb3' hg3'
        refine l_nil ⟨rfl, .inl rfl, ?_⟩
        refine d_nil ?_
        rw [mfs hk'] at hb3'
        have hbV2 := hbV.ex hxV2
        have hrv4 := (hrvV.ex hxV2).kept hbV2 (by decide) hg3'
        have hov4 := (hovV.ex hxV2).kept hbV2 (by decide) hg3'
        have hI4 := hI3.kept hbV2 (by decide) hg3'
        have hX4 := (hXV.ex hxV2).grown hg3' (fun e => by have := Option.some.inj e; omega)
        have zV2 := hxV2.size
        have zV3 := hg3'.size
        repeat (first | (refine isO ?_; first | refine s_move ?_ | (refine isBin ?_; refine s_inc rfl (by omega) ?_)) | (refine isC ?_; refine c_region ?_) | (refine l_th ?_))
        refine loop_end2 (k + 1) _ (by (repeat (first | exact agree_refl _ _ | refine agree_upd rfl ?_ | refine agree_ext rfl ?_ | refine agree_mask rfl ?_))) ⟨vint (by omega), trivial⟩ ⟨hk', hb3', fun j hj => ?_, hrv4, hov4, hX4, (hxV.trans hxV2).store hg3' (by omega), by omega⟩ (by show bids.length - (k + 1) < bids.length - k; omega)
        by_cases e2 : j = k
        · subst e2
          simp only [fs, if_true]
          rw [if_pos (Nat.lt_succ_self _), withB_get hj, if_pos e]
          exact hI4
        · simp only [fs, if_neg e2]
          rw [hnext j hj e2]
          exact ((hrow j hj).ex hxV2).kept hbV2 (by decide) hg3'
    · have hkn : k = bids.length := by omega
      subst hkn
      have hwl := withB_len bids t
      have hRV := (hA1.ex hx2).ex hxV
      have o1 := hrvV.one
      have o2 := hovV.one
      have lR := hA1.lt
      have z1 := hx1.size
      have z0 := hx0.size
      have zv := hxV.size
      have z2 := hx2.size
      repeat ((refine isC ?_; first | refine c_sr ?_ | refine c_exit ?_))
      refine s_ldV Try.underlying25 rfl (sz_mk _ _ _) rfl hXV ?_
      refine s_stV (cs := [rv', sv bM bids.length bids.length, ov']) (sz_mk _ _ _) rfl rfl hRV rfl (by rw [List.all_cons, List.all_cons, List.all_cons, o1, o2]; rfl) ?_
      intro V9 hR9 hg9 hs9
      have hxx : Ex w V9 := ((hx01.trans hx2).trans hxV).store hg9 (by omega)
      have hbne : bM ≠ bR := by omega
      have hrv9 := hrvV.kept hRV (by decide) hg9
      have hov9 := hovV.kept hRV (by decide) hg9
      have hb9 := hbV.grown hg9 (fun e => by have := Option.some.inj e; omega)
      have hbi9 : Rows V9 (sv bM bids.length bids.length) (withB bids t) := by
        have h9 := hb9.rows (g := withB bids t) (c := bids.length) (by simp [hwl]) (by omega) (by omega) (fun i u l hu hl => by
          have hi := (List.getElem?_eq_some_iff.1 hl).1
          rw [hwl] at hi
          have e1 : u = us i := by simp [hi] at hu; exact hu.symm
          have e2 : (withB bids t).getD i [] = l := by simp [List.getD_eq_getElem?_getD, hl]
          have := (hrow i hi).kept hRV (by decide) hg9
          rw [if_pos hi, e2] at this
          rw [e1]; exact this.ints)
        rw [hwl] at h9
        exact h9
      repeat (first | (refine isO ?_; refine s_assign ?_) | (refine isC ?_; refine c_ret ?_) | (refine l_th ?_))
      exact ret_cV2 rfl rfl rfl Try.underlying25 rfl (sz_mk _ _ _) hR9 ⟨_, _, _, rfl, ⟨hrv9.ints, hbi9, hov9.ints⟩, hxx⟩
end Go.Proofs.Ytifbgpkjbciblaa.Sal
end
section
/- The walk of salesroomlaw13.RisesUp. -/
set_option maxRecDepth 100000
namespace Go.Proofs.Ytifbgpkjbciblaa.Sal
open Go.RowKit
theorem ty_u8 : Ty1 Try.prog 5 := ⟨let ⟨i, h, _, hs, _⟩ := info_parts (show (Try.prog.info? 5).map (fun i => (i.zero, i.size, i.bytes)) = some (some (.int .u8 0), 1, 1) by kernel_rfl); ⟨i, h, hs⟩, _, Try.underlying5, rfl⟩
theorem ty_u16 : Ty1 Try.prog 41 := ⟨let ⟨i, h, _, hs, _⟩ := info_parts (show (Try.prog.info? 41).map (fun i => (i.zero, i.size, i.bytes)) = some (some (.int .u16 0), 1, 2) by kernel_rfl); ⟨i, h, hs⟩, _, Try.underlying41, rfl⟩
theorem tn_mkt : TyN Try.prog 25 := by
  cases h : Try.prog.info? 25 with
  | none => have := sz_mk (.int .i64 0) (.int .i64 0) (.int .i64 0); rw [h] at this; cases this
  | some i => exact ⟨i, h, fun e => by have := sz_mk (.int .i64 0) (.int .i64 0) (.int .i64 0); rw [h] at this; simp at this; omega⟩
section
variable {r : Option Nat} {P : Program} {J : World → Prop} {z : Nat} {Q : Exit → Act → World → Prop} {N : Nat} {σ : Nat → Value} {ds : List Deferred} {w : World}
variable {ops : Array Oper} {i d : Nat} {π : List (Nat × Bool)} {ty : TypeId} {pos : String} {after : Array Edge}
theorem wanted_unV {o : Oper} {j g : Nat} {want : Bool} (hg : o.guard = some (j, want)) (hj : (ops[j]?).bind (·.dst) = some g) (hb : ev N σ (.tmp g) = undef) : Region.wanted o (yielded ops (mk N σ ds).tmps) = false := by
  have e : (mk N σ ds).tmps.getD g undef = undef := (getD_mk N σ g).trans hb
  have y : yielded ops (mk N σ ds).tmps j = none := by
    unfold yielded
    rw [hj]
    by_cases hl : g < (mk N σ ds).tmps.size
    · have e2 : (mk N σ ds).tmps[g]? = some undef := by
        rw [Array.getElem?_eq_getElem hl]
        have h3 := e
        unfold Array.getD at h3
        rw [dif_pos hl] at h3
        exact congrArg some h3
      simp [e2, undef]
    · simp [Array.getElem?_eq_none (Nat.le_of_not_lt hl)]
  unfold Region.wanted
  rw [hg]
  simp only [y]
  cases want <;> rfl
theorem d_gunV {op : Op} {j g : Nat} {want : Bool} (hi : ops[i]? = some ⟨some d, op, ty, pos, after, some (j, want)⟩) (hj : (ops[j]?).bind (·.dst) = some g) (hb : ev N σ (.tmp g) = undef)
    (h : WJ r P ops J z Q π (mk N (upd σ d undef) ds) w) : WJ r P ops J z Q ((i, true) :: π) (mk N σ ds) w :=
  ⟨_, undef, hi, .inr ⟨wanted_unV (g := g) rfl hj hb, rfl⟩, by rw [put_mk]; exact h⟩
end
/-- One reserve higher. -/
theorem up_get {res : List Int} {k : Nat} {d : Int} (hk : k < res.length) (j : Nat) : (res.set k (res.getD k 0 + d)).getD j 0 = res.getD j 0 + if j = k then d else 0 := by
  simp only [List.getD_eq_getElem?_getD, List.getElem?_set]
  by_cases e : k = j
  · subst e; simp [hk]
  · have : ¬ j = k := fun h => e h.symm
    simp [e, this]
theorem without_end {res : List Int} {bids : List (List Int)} {t : Nat} {L L' : List (List Int)} (hM : MkOK res bids) (hR : RunS res bids L) (hLg : ∀ i, i < L.length → Lg res (L.getD i [])) (hM' : MkOK res (withB bids t)) (hR' : RunS res (withB bids t) L') (hLg' : ∀ i, i < L'.length → Lg res (L'.getD i [])) : ∀ k, k < res.length → (endL L').getD k 0 ≤ (endL L).getD k 0 :=
  end_le hM' hR' hLg' hM hR hLg rfl (fun _ _ => Int.le_refl _) (fun hc => comp_less (withB_len _ _) (fun i hi => by
    rw [withB_get hi]
    by_cases e : i ≠ t
    · rw [if_pos e]; exact .inl rfl
    · rw [if_neg e]; exact .inr rfl) hc)
attribute [local irreducible] Go.Code.wpIn Go.wpListIn Ct Ints Rows Sl At Rw WJ
attribute [local irreducible] Wd OwnI IB
set_option linter.all false
set_option maxHeartbeats 8000000 in
theorem RisesUp_ct (rv bv ov : Value) (res : List Int) (bids : List (List Int)) (ord : List Int) (xa xb xc : Nat) (w : World) (hM : Mk w rv bv ov res bids ord) (hba : xa < 256) (hbb : xb < 256) (hbc : xc < 65536) :
    Ct Try.prog 7 #[.agg #[rv, bv, ov, .int .u8 (xa : Int), .int .u8 (xb : Int), .int .u16 (xc : Int)]] w fun u w' => u = .bool true ∧ Ex w w' := by
  refine Exists.elim in_mkt fun ti hti => ?_
  refine enter (N := 134) (vs := [.agg #[rv, bv, ov, .int .u8 (xa : Int), .int .u8 (xb : Int), .int .u16 (xc : Int)]]) Try.func7 rfl rfl rfl ?_
  repeat ((refine isC ?_; refine c_sr ?_))
  refine s_box (cs := [rv, bv, ov, .int .u8 (xa : Int), .int .u8 (xb : Int), .int .u16 (xc : Int)]) rfl rfl ?_
  intro bQ wq hbQ hQ hxq hsq
  have hMq := hM.ex hxq
  repeat (first | (refine isO ?_; refine s_assign ?_) | (refine isC ?_; refine c_sr ?_) | (refine l_th ?_))
  refine s_faN Try.underlying44 rfl tn_mkt rfl ?_
  refine s_ldM (cs := [rv, bv, ov]) Try.underlying25 rfl (sz_mk _ _ _) rfl hQ ?_ ?_
  · intro j v hj
    match j, hj with
    | 0, h => exact h
    | 1, h => exact h
    | 2, h => exact h
  refine s_alloc (cs := [.slice none 0 0, .slice none 0 0, .slice none 0 0]) hti.1 hti.2 rfl ?_
  intro b0 wz hb0 hZA hxz hsz
  have r1 := hMq.r
  refine Exists.elim r1.form fun ar hr' => Exists.elim hr' fun cr hrv => ?_
  refine Exists.elim hMq.b.form fun ab hb' => Exists.elim hb' fun cb hbv => ?_
  refine Exists.elim hMq.o.form fun ao ho' => Exists.elim ho' fun co hov => ?_
  refine s_stV (cs := [rv, bv, ov]) (sz_mk _ _ _) rfl rfl hZA rfl (by rw [hrv, hbv, hov]; rfl) ?_
  intro w0 hZ hg0 hs0
  have zq := hxq.size
  have zz := hxz.size
  have hxq0 : Ex wq w0 := hxz.store hg0 (by omega)
  have hx0 := hxq.trans hxq0
  have hM0 := hM.ex hx0
  have hQ0 := hQ.ex hxq0
  repeat (first | (refine isC ?_; refine c_sr ?_) | (refine l_th ?_))
  refine s_fa Try.underlying44 rfl ty_u8 rfl ?_
  refine s_ldA ty_u8 rfl hQ0 rfl ?_
  repeat (first | (refine isO ?_; refine s_assign ?_) | (refine isC ?_; refine c_sr ?_) | (refine l_th ?_))
  refine s_fa Try.underlying44 rfl ty_u8 rfl ?_
  refine s_ldA ty_u8 rfl hQ0 rfl ?_
  repeat (first | (refine isO ?_; refine s_assign ?_) | (refine isC ?_; refine c_sr ?_) | (refine l_th ?_))
  refine s_fa Try.underlying44 rfl ty_u16 rfl ?_
  refine s_ldA ty_u16 rfl hQ0 rfl ?_
  repeat (first | (refine isO ?_; refine s_assign ?_) | (refine isC ?_; refine c_sr ?_) | (refine l_th ?_))
  refine s_ldV Try.underlying25 rfl (sz_mk _ _ _) rfl hZ ?_
  refine Or.elim (tfV (chkM res bids ord)) (fun hck => ?_) (fun hck => ?_)
  · have hOK := mkok hck
    refine Exists.elim (run_ex hOK) fun L hL => ?_
    have hR := hL.1
    have hLg := hL.2
    have hend := run_end hOK hR hLg
    have hn1 := hOK.n1
    have hn8 := hOK.n8
    have hm1 := hOK.m1
    have hm8 := hOK.m8
    have hol : ord.length = bids.length := ord_len hm8 (chk_parts hck).2.2.2.1
    have hrl : ∀ i, i < bids.length → (bids.getD i []).length ≤ 8 := fun i hi => by have := hOK.lens i hi; unfold lenB at this; omega
    refine s_call ok_rLeast rfl (Least_ok rv bv ov res bids ord L w0 hM0 hck hR) ?_
    rintro u w1 ⟨be, rfl, hOe, hbe, hx1⟩
    have hx01 := hx0.trans hx1
    have hZ1 := hZ.ex hx1
    have hM1 := hM.ex hx01
    have hB1 := hM1.b
    have hR1 := hM1.r
    have hel : (endL L).length = res.length := hend.2.1
    have hIe : Ints w1 (sv be res.length res.length) (endL L) := by have := hOe.ints; rw [show (L.getD (L.length - 1) []).length = res.length from hel] at this; exact this
    refine Exists.elim (show ∃ t : Nat, t = xa % bids.length from ⟨_, rfl⟩) fun t ht => ?_
    have ht' : t < bids.length := by rw [ht]; exact Nat.mod_lt _ (by omega)
    refine Exists.elim (show ∃ q : Nat, q = xb % res.length from ⟨_, rfl⟩) fun q hq => ?_
    have hq' : q < res.length := by rw [hq]; exact Nat.mod_lt _ (by omega)
    refine Exists.elim (show ∃ d : Nat, d = xc % 100 from ⟨_, rfl⟩) fun d hd => ?_
    have hd' : d < 100 := by rw [hd]; exact Nat.mod_lt _ (by omega)
    repeat (first | (refine isO ?_; first | refine s_move ?_ | refine s_assign ?_ | (refine isBin ?_; refine s_neqF rfl rfl (by omega) ?_) | refine s_extract rfl rfl ?_) | (refine isC ?_; first | refine c_sr ?_ | refine c_th ?_ | refine c_seq ?_ | refine c_iff rfl ?_) | (refine l_th ?_))
    refine s_conv (n := xa) (by kernel_rfl) Try.underlying3 rfl (by show _ ≤ 9223372036854775807; omega) ?_
    repeat (first | (refine isO ?_; (refine isCall ?_; refine s_lenR sl_rows rfl (by assumption) ?_)) | (refine isO ?_; first | refine s_fa Try.underlying25 rfl ty_rows rfl ?_ | refine s_ldA ty_rows rfl (by assumption) rfl ?_))
    refine s_rem (m := xa) (n := bids.length) rfl rfl (by omega) ?_
    refine s_re (v' := .int .i64 (t : Int)) (vint (by omega)) ?_
    repeat (first | (refine isO ?_; first | refine s_move ?_ | refine s_assign ?_) | (refine isC ?_; refine c_sr ?_) | (refine l_th ?_))
    refine s_conv (n := xb) (by kernel_rfl) Try.underlying3 rfl (by show _ ≤ 9223372036854775807; omega) ?_
    repeat (first | (refine isO ?_; first | (refine isCall ?_; refine s_lenI sl_ints rfl (by assumption) ?_) | (refine isLD ?_; refine s_ldA ty_ints rfl (by assumption) rfl ?_)) | (refine isO ?_; refine s_fa Try.underlying25 rfl ty_ints rfl ?_))
    refine s_rem (m := xb) (n := res.length) rfl rfl (by omega) ?_
    refine s_re (v' := .int .i64 (q : Int)) (vint (by omega)) ?_
    repeat (first | (refine isO ?_; refine s_assign ?_) | (refine isC ?_; refine c_sr ?_) | (refine l_th ?_))
    refine s_ldV Try.underlying25 rfl (sz_mk _ _ _) rfl hZ1 ?_
    repeat ((refine isO ?_; refine s_move ?_))
    refine s_call ok_Without rfl (Without_ct rv bv ov res bids ord t w1 hM1 hck ht') ?_
    rintro u w2 ⟨rw', bw', ow', rfl, hMw, hx2⟩
    have hckw := chk_without hck t
    have hOKw := mkok hckw
    refine Exists.elim (run_ex hOKw) fun Lw hLw => ?_
    have hendw := run_end hOKw hLw.1 hLw.2
    have hless := without_end hOK hR hLg hOKw hLw.1 hLw.2
    refine Exists.elim hMw.r.form fun a1 h1 => Exists.elim h1 fun c1 hrw => ?_
    refine Exists.elim hMw.b.form fun a2 h2 => Exists.elim h2 fun c2 hbw => ?_
    refine Exists.elim hMw.o.form fun a3 h3 => Exists.elim h3 fun c3 how => ?_
    repeat ((refine isO ?_; first | refine s_move ?_ | refine s_extract rfl rfl ?_))
    refine s_alloc (cs := [.slice none 0 0, .slice none 0 0, .slice none 0 0]) hti.1 hti.2 rfl ?_
    intro bW w3 hbW hWA hx3 hs3
    refine s_stV (cs := [rw', bw', ow']) (sz_mk _ _ _) rfl rfl hWA rfl (by rw [hrw, hbw, how]; rfl) ?_
    intro w4 hW4 hg4 hs4
    have z1 := hx1.size
    have z2 := hx2.size
    have z3 := hx3.size
    have hx24 : Ex w2 w4 := hx3.store hg4 (by omega)
    have hMw4 := hMw.ex hx24
    repeat (first | (refine isO ?_; refine s_assign ?_) | (refine isC ?_; refine c_sr ?_) | (refine l_th ?_))
    refine s_ldV Try.underlying25 rfl (sz_mk _ _ _) rfl hW4 ?_
    refine s_call ok_rLeast rfl (Least_ok _ _ _ res (withB bids t) ord Lw w4 hMw4 hckw hLw.1) ?_
    rintro u w5 ⟨bl, rfl, hOl, hbl, hx5⟩
    have hlw : (endL Lw).length = res.length := hendw.2.1
    have hIl : Ints w5 (sv bl res.length res.length) (endL Lw) := by have := hOl.ints; rw [show (Lw.getD (Lw.length - 1) []).length = res.length from hlw] at this; exact this
    have hx15 := hx2.trans (hx24.trans hx5)
    have hZ5 := hZ1.ex hx15
    have hM5 := hM1.ex hx15
    repeat (first | (refine isO ?_; first | refine s_move ?_ | refine s_assign ?_ | refine s_extract rfl rfl ?_) | (refine isC ?_; refine c_sr ?_) | (refine l_th ?_))
    refine s_ldV Try.underlying25 rfl (sz_mk _ _ _) rfl hZ5 ?_
    refine s_call ok_TwinMarket rfl (TwinMarketW_ct rv bv ov res bids ord w5 hM5 (by omega) (by omega) (fun i hi => by have := hrl i hi; omega) (by omega)) ?_
    rintro u w6 ⟨d1, e1, d2, e2, vt, d3, e3, rfl, hY, hx6⟩
    refine s_alloc (cs := [.slice none 0 0, .slice none 0 0, .slice none 0 0]) hti.1 hti.2 rfl ?_
    intro bY w7 hbY hYA hx7 hs7
    refine s_stV (cs := [sv d1 res.length e1, sv d2 bids.length e2, sv d3 ord.length e3]) (sz_mk _ _ _) rfl rfl hYA rfl rfl ?_
    intro w8 hY8 hg8 hs8
    have z5 := hx15.size
    have z6 := hx6.size
    have z7 := hx7.size
    have j2 := hY.b.lt d2 rfl
    have j3 := hY.o.lt d3 rfl
    have j1 := hY.r.lt
    have i1 := hY.l1
    have m12 := hY.n12
    have m13 := hY.n13
    have hx68 : Ex w6 w8 := hx7.store hg8 (by omega)
    have hr8 := hY.r.ex hx68
    have hrI8 := hr8.ints
    have hbk := hOK.rb q
    repeat (first | (refine isC ?_; refine c_seq ?_) | (refine l_th ?_))
    refine c_drawO (Ex.refl w8) 8192 8 [(0, true), (1, true), (2, true), (3, true), (4, true), (5, true), (6, true), (7, true), (8, true), (9, true), (10, true), (11, true), (12, true), (13, false)] mixed (by kernel_rfl) ?_
    have hxd := Ex.drew w8
    refine d_fa rfl Try.underlying25 rfl ty_ints rfl ?_
    refine d_ldA rfl ty_ints rfl hY8 rfl ?_
    refine d_move rfl ?_
    refine d_fa rfl Try.underlying25 rfl ty_ints rfl ?_
    refine d_ldA rfl ty_ints rfl hY8 rfl ?_
    refine d_move rfl ?_
    refine d_iaI (n := q) rfl sl_ints ty_int rfl rfl hrI8 (by omega) ?_
    intro ad hc
    refine d_ld rfl ty_int rfl hc ?_
    refine d_move rfl ?_
    refine d_conv (n := xc) rfl (by kernel_rfl) Try.underlying3 rfl (by show _ ≤ 9223372036854775807; omega) ?_
    refine d_rem (m := xc) (n := 100) rfl rfl rfl (by omega) ?_
    refine d_re (v' := .int .i64 (d : Int)) (vint (by omega)) ?_
    refine d_add rfl rfl rfl ⟨by omega, by omega⟩ ?_
    refine d_iaA (n := q) rfl sl_ints ty_int rfl rfl hq' ?_
    refine d_ch rfl ?_
    refine s_stO (q := res.getD q 0 + (d : Int)) ty_int rfl rfl (hr8.ex hxd) (by omega) ?_
    intro w9 hr9 hg9
    refine l_nil ⟨rfl, .inl rfl, ?_⟩
    refine d_nil ?_
    have zd := hxd.size
    have hx59 : Ex w5 w9 := ((hx6.trans hx68).trans hxd).store hg9 (by omega)
    have hY9 := (hY8.ex hxd).grown hg9 (fun e => by have := Option.some.inj e; omega)
    have hb9 := ((hY.b.ex hx68).ex hxd).grown hg9 (fun b hb e => by have h5 : d2 = b := Option.some.inj hb; have h6 : d1 = b := Option.some.inj e; omega)
    have ho9 := ((hY.o.ex hx68).ex hxd).grown hg9 (fun b hb e => by have h5 : d3 = b := Option.some.inj hb; have h6 : d1 = b := Option.some.inj e; omega)
    have hbi9 : Rows w9 (sv d2 bids.length e2) bids := hb9.rows rfl (by omega) fun i hi => (((hY.row i hi).1.ex hx68).ex hxd).kept hg9 (.inr fun e => ((hY.row i hi).2 d1 e).2.1 rfl)
    have hsl : (res.set q (res.getD q 0 + (d : Int))).length = res.length := by simp
    have hri9 : Ints w9 (sv d1 res.length e1) (res.set q (res.getD q 0 + (d : Int))) := by have := hr9.ints; rw [hsl] at this; exact this
    have hMk9 : Mk w9 (sv d1 res.length e1) (sv d2 bids.length e2) (sv d3 ord.length e3) (res.set q (res.getD q 0 + (d : Int))) bids ord := ⟨hri9, hbi9, ho9.ints (by omega)⟩
    repeat ((refine isC ?_; refine c_sr ?_))
    refine s_ldV Try.underlying25 rfl (sz_mk _ _ _) rfl hY9 ?_
    refine Or.elim (tfV (chkM (res.set q (res.getD q 0 + (d : Int))) bids ord)) (fun hck2 => ?_) (fun hck2 => ?_)
    · have hOK2 := mkok hck2
      refine Exists.elim (run_ex hOK2) fun L2 hL2 => ?_
      have hend2 := run_end hOK2 hL2.1 hL2.2
      have hupl : ∀ k, k < res.length → (endL L).getD k 0 ≤ (endL L2).getD k 0 := end_le hOK hR hLg hOK2 hL2.1 hL2.2 hsl (fun k hk => by
        rw [up_get hq']
        split <;> omega) (fun hc => hc)
      have hl2 : (endL L2).length = res.length := by rw [hend2.2.1, hsl]
      refine s_call ok_rLeast rfl (Least_ok _ _ _ _ bids ord L2 w9 hMk9 hck2 hL2.1) ?_
      rintro u wa ⟨bn, rfl, hOn, hbn, hx10⟩
      rw [hsl]
      have hIu : Ints wa (sv bn res.length res.length) (endL L2) := by have := hOn.ints; rw [hsl, show (L2.getD (L2.length - 1) []).length = res.length from hl2] at this; exact this
      have hIlU := hIl.ex (hx59.trans hx10)
      have hIeU := hIe.ex ((hx15.trans hx59).trans hx10)
      repeat (first | (refine isO ?_; first | refine s_move ?_ | refine s_assign ?_ | (refine isG ?_; refine g_yes rfl rfl ?_) | (refine isBin ?_; refine s_neqF rfl rfl (by omega) ?_) | (refine isCall ?_; refine s_lenI sl_ints rfl (by assumption) ?_) | (refine isPick ?_; refine s_pickf rfl rfl ?_) | refine s_extract rfl rfl ?_) | (refine isC ?_; first | refine c_sr ?_ | refine c_th ?_ | refine c_seq ?_ | refine c_iff rfl ?_ | refine c_block ?_) | (refine l_th ?_))
      refine c_loop (γ := Nat) 10889035741467554950749416677266784780292 (fun k => [(18, .int .i64 (k : Int))]) (fun k U => k ≤ res.length ∧ Ex wa U) (fun k => res.length - k) 0 ⟨rfl, trivial⟩ ⟨Nat.zero_le _, Ex.refl _⟩ ?_
      rintro k ρ U ⟨hk, hxU⟩
      have hIl2 := hIlU.ex hxU
      have hIe2 := hIeU.ex hxU
      have hIu2 := hIu.ex hxU
      repeat (first | (refine isO ?_; first | refine s_move ?_ | (refine isBin ?_; refine s_lss rfl rfl ?_) | (refine isCall ?_; refine s_lenI sl_ints rfl (by assumption) ?_)) | (refine isC ?_; first | refine c_sr ?_ | refine c_seq ?_) | (refine l_th ?_))
      refine c_ifd rfl (fun h3 => ?_) (fun h3 => ?_)
      · have hk' : k < res.length := by omega
        have hle := hless k hk'
        have hue := hupl k hk'
        repeat ((refine isC ?_; first | refine c_th ?_ | refine c_seq ?_ | refine c_block ?_))
        refine c_drawO (Ex.refl U) 0 8 [(0, true), (1, true), (2, true), (3, true), (4, true), (5, true), (6, true), (7, true), (8, true), (9, true), (10, true), (11, true), (12, true), (13, true), (14, true), (15, true), (16, true), (17, true), (18, true), (19, true), (20, true), (21, true), (22, true), (23, true), (24, true), (25, true), (26, true), (27, true), (28, true), (29, true), (30, true), (31, true), (32, true), (33, true), (34, true), (35, true)] mixed (by kernel_rfl) ?_
        have hxe := Ex.drew U
        refine d_move rfl ?_
        refine d_move rfl ?_
        refine d_iaI (n := k) rfl sl_ints ty_int rfl rfl hIl2 (by omega) ?_
        intro ad1 hc1
        refine d_ld rfl ty_int rfl hc1 ?_
        refine d_move rfl ?_
        refine d_move rfl ?_
        refine d_iaI (n := k) rfl sl_ints ty_int rfl rfl hIe2 (by omega) ?_
        intro ad2 hc2
        refine d_ld rfl ty_int rfl hc2 ?_
        refine d_gtr rfl rfl rfl ?_
        refine d_re (v' := .bool false) (vbool (decide_eq_false (by omega))) ?_
        refine d_move rfl ?_
        refine d_move rfl ?_
        refine d_eql rfl rfl rfl ?_
        refine d_re (v' := .bool true) rfl ?_
        refine d_move rfl ?_
        refine d_move rfl ?_
        refine d_lenIO rfl sl_ints rfl hIu2 ?_
        refine d_move rfl ?_
        refine d_lenIO rfl sl_ints rfl hIe2 ?_
        refine d_neq rfl rfl rfl ?_
        refine d_re (v' := .bool false) (vbool (decide_eq_false (by omega))) ?_
        refine d_move rfl ?_
        refine d_move rfl ?_
        refine d_move rfl ?_
        refine d_eql rfl rfl rfl ?_
        by_cases hkq : (k : Int) = (q : Int)
        · refine d_re (v' := .bool true) (vbool (decide_eq_true hkq)) ?_
          refine d_move rfl ?_
          refine d_move rfl ?_
          refine d_move rfl ?_
          refine d_iaI (n := k) rfl sl_ints ty_int rfl rfl hIu2 (by omega) ?_
          intro ad3 hc3
          refine d_ld rfl ty_int rfl hc3 ?_
          refine d_move rfl ?_
          refine d_move rfl ?_
          refine d_iaI (n := k) rfl sl_ints ty_int rfl rfl hIe2 (by omega) ?_
          intro ad4 hc4
          refine d_ld rfl ty_int rfl hc4 ?_
          refine d_lss rfl rfl rfl ?_
          refine d_re (v' := .bool false) (vbool (decide_eq_false (by omega))) ?_
          refine d_pickt rfl rfl rfl ?_
          refine d_pickf rfl rfl rfl ?_
          refine d_pickt rfl rfl rfl ?_
          refine d_pickf rfl rfl rfl ?_
          refine d_nil ?_
          repeat (first | (refine isO ?_; first | refine s_move ?_ | refine s_assign ?_ | (refine isBin ?_; refine s_inc rfl (by omega) ?_)) | (refine isC ?_; first | refine c_region ?_ | refine c_iff rfl ?_ | refine c_skip ?_) | (refine l_th ?_))
          exact loop_end (k + 1) (by (repeat (first | exact agree_refl _ _ | refine agree_upd rfl ?_ | refine agree_ext rfl ?_ | refine agree_mask rfl ?_))) ⟨vint (by omega), trivial⟩ ⟨hk', hxU.trans hxe⟩ (by show res.length - (k + 1) < res.length - k; omega)
        · refine d_re (v' := .bool false) (vbool (decide_eq_false hkq)) ?_
          refine d_move rfl ?_
          iterate 9 refine d_gno rfl rfl rfl rfl ?_
          refine d_pickf rfl rfl rfl ?_
          refine d_pickf rfl rfl rfl ?_
          refine d_pickt rfl rfl rfl ?_
          refine d_pickf rfl rfl rfl ?_
          refine d_nil ?_
          repeat (first | (refine isO ?_; first | refine s_move ?_ | refine s_assign ?_ | (refine isBin ?_; refine s_inc rfl (by omega) ?_)) | (refine isC ?_; first | refine c_region ?_ | refine c_iff rfl ?_ | refine c_skip ?_) | (refine l_th ?_))
          exact loop_end (k + 1) (by (repeat (first | exact agree_refl _ _ | refine agree_upd rfl ?_ | refine agree_ext rfl ?_ | refine agree_mask rfl ?_))) ⟨vint (by omega), trivial⟩ ⟨hk', hxU.trans hxe⟩ (by show res.length - (k + 1) < res.length - k; omega)
      · repeat ((refine isC ?_; first | refine c_sr ?_ | refine c_exit ?_))
        refine s_call ok_lives rfl (lives_ct U) ?_
        rintro u U2 ⟨rfl, hx2U⟩
        repeat (first | (refine isO ?_; refine s_assign ?_) | (refine isC ?_; refine c_ret ?_) | (refine l_th ?_))
        exact ret1 rfl rfl ⟨rfl, hx01.trans (hx15.trans (hx59.trans (hx10.trans (hxU.trans hx2U))))⟩
    · refine s_call ok_rLeast rfl (Least_bad _ _ _ _ bids ord w9 hMk9 hck2) ?_
      rintro u wa ⟨rfl, hx10⟩
      have hIlU := hIl.ex (hx59.trans hx10)
      have hIeU := hIe.ex ((hx15.trans hx59).trans hx10)
      repeat (first | (refine isO ?_; first | refine s_move ?_ | refine s_assign ?_ | (refine isG ?_; refine g_yes rfl rfl ?_) | (refine isBin ?_; refine s_neqF rfl rfl (by omega) ?_) | (refine isCall ?_; refine s_lenI sl_ints rfl (by assumption) ?_) | (refine isPick ?_; refine s_pickf rfl rfl ?_) | refine s_extract rfl rfl ?_) | (refine isC ?_; first | refine c_sr ?_ | refine c_th ?_ | refine c_seq ?_ | refine c_iff rfl ?_ | refine c_block ?_) | (refine l_th ?_))
      refine c_loop (γ := Nat) 10889035741467554950749416677266784780292 (fun k => [(18, .int .i64 (k : Int))]) (fun k U => k ≤ res.length ∧ Ex wa U) (fun k => res.length - k) 0 ⟨rfl, trivial⟩ ⟨Nat.zero_le _, Ex.refl _⟩ ?_
      rintro k ρ U ⟨hk, hxU⟩
      have hIl2 := hIlU.ex hxU
      have hIe2 := hIeU.ex hxU
      repeat (first | (refine isO ?_; first | refine s_move ?_ | (refine isBin ?_; refine s_lss rfl rfl ?_) | (refine isCall ?_; refine s_lenI sl_ints rfl (by assumption) ?_)) | (refine isC ?_; first | refine c_sr ?_ | refine c_seq ?_) | (refine l_th ?_))
      refine c_ifd rfl (fun h3 => ?_) (fun h3 => ?_)
      · have hk' : k < res.length := by omega
        have hle := hless k hk'
        repeat ((refine isC ?_; first | refine c_th ?_ | refine c_seq ?_ | refine c_block ?_))
        refine c_drawO (Ex.refl U) 0 8 [(0, true), (1, true), (2, true), (3, true), (4, true), (5, true), (6, true), (7, true), (8, true), (9, true), (10, true), (11, true), (12, true), (13, true), (14, true), (15, true), (16, true), (17, true), (18, true), (19, true), (20, true), (21, true), (22, true), (23, true), (24, true), (25, true), (26, true), (27, true), (28, true), (29, true), (30, true), (31, true), (32, true), (33, true), (34, true), (35, true)] mixed (by kernel_rfl) ?_
        have hxe := Ex.drew U
        refine d_move rfl ?_
        refine d_move rfl ?_
        refine d_iaI (n := k) rfl sl_ints ty_int rfl rfl hIl2 (by omega) ?_
        intro ad1 hc1
        refine d_ld rfl ty_int rfl hc1 ?_
        refine d_move rfl ?_
        refine d_move rfl ?_
        refine d_iaI (n := k) rfl sl_ints ty_int rfl rfl hIe2 (by omega) ?_
        intro ad2 hc2
        refine d_ld rfl ty_int rfl hc2 ?_
        refine d_gtr rfl rfl rfl ?_
        refine d_re (v' := .bool false) (vbool (decide_eq_false (by omega))) ?_
        refine d_move rfl ?_
        refine d_move rfl ?_
        refine d_eql rfl rfl rfl ?_
        refine d_re (v' := .bool false) rfl ?_
        refine d_move rfl ?_
        iterate 6 refine d_gno rfl rfl rfl rfl ?_
        iterate 14 refine d_gunV rfl rfl rfl ?_
        refine d_gno rfl rfl rfl rfl ?_
        refine d_pickf rfl rfl rfl ?_
        refine d_pickf rfl rfl rfl ?_
        refine d_nil ?_
        repeat (first | (refine isO ?_; first | refine s_move ?_ | refine s_assign ?_ | (refine isBin ?_; refine s_inc rfl (by omega) ?_)) | (refine isC ?_; first | refine c_region ?_ | refine c_iff rfl ?_ | refine c_skip ?_) | (refine l_th ?_))
        exact loop_end (k + 1) (by (repeat (first | exact agree_refl _ _ | refine agree_upd rfl ?_ | refine agree_ext rfl ?_ | refine agree_mask rfl ?_))) ⟨vint (by omega), trivial⟩ ⟨hk', hxU.trans hxe⟩ (by show res.length - (k + 1) < res.length - k; omega)
      · repeat ((refine isC ?_; first | refine c_sr ?_ | refine c_exit ?_))
        refine s_call ok_lives rfl (lives_ct U) ?_
        rintro u U2 ⟨rfl, hx2U⟩
        repeat (first | (refine isO ?_; refine s_assign ?_) | (refine isC ?_; refine c_ret ?_) | (refine l_th ?_))
        exact ret1 rfl rfl ⟨rfl, hx01.trans (hx15.trans (hx59.trans (hx10.trans (hxU.trans hx2U))))⟩
  · refine s_call ok_rLeast rfl (Least_bad rv bv ov res bids ord w0 hM0 hck) ?_
    rintro u w1 ⟨rfl, hx1⟩
    repeat (first | (refine isO ?_; first | refine s_move ?_ | refine s_assign ?_ | (refine isBin ?_; refine s_neqT rfl rfl (by omega) ?_) | refine s_extract rfl rfl ?_) | (refine isC ?_; first | refine c_sr ?_ | refine c_seq ?_ | refine c_ift rfl ?_) | (refine l_th ?_))
    refine s_call ok_lives rfl (lives_ct w1) ?_
    rintro u w2 ⟨rfl, hx2⟩
    repeat (first | (refine isO ?_; refine s_assign ?_) | (refine isC ?_; refine c_ret ?_) | (first | refine l_th ?_ | refine th_ret ?_))
    exact ret1 rfl rfl ⟨rfl, hx0.trans (hx1.trans hx2)⟩
end Go.Proofs.Ytifbgpkjbciblaa.Sal
end
