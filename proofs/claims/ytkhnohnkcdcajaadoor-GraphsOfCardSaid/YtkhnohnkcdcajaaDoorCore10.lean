/- Core10: lists and rows that a call builds for itself; slices in drawn regions. -/
import Derived.Test.YtkhnohnkcdcajaaDoorCore9
set_option maxRecDepth 100000
namespace Go.Proofs.YtkhnohnkcdcajaaDoor.Sal
set_option linter.all false
open Go.RowKit

/-! ### Loops over two or three things -/
section loops
variable {r : Option Nat} {P : Program} {Q : Exit → Act → World → Prop} {w : World} {γ δ ε : Type}
def LoopEnd2 (N : Nat) (ds : List Deferred) (M : Nat) (σ : Nat → Value) (vals : γ → δ → List (Nat × Value)) (Inv : γ → δ → World → Prop) (μ : γ → δ → Nat) (x : γ) (y : δ) (a' : Act) (w' : World) : Prop :=
  LoopEnd (γ := γ × δ) N ds M σ (fun p => vals p.1 p.2) (fun p => Inv p.1 p.2) (fun p => μ p.1 p.2) (x, y) a' w'
theorem loop_end2 {N : Nat} {ds : List Deferred} {M : Nat} {σ σ' : Nat → Value} {vals : γ → δ → List (Nat × Value)} {Inv : γ → δ → World → Prop} {μ : γ → δ → Nat} {x : γ} {y : δ} {w' : World} (x' : γ) (y' : δ)
    (ha : Agree M σ' σ) (hv : Has σ' (vals x' y')) (hi : Inv x' y' w') (hm : μ x' y' < μ x y) : LoopEnd2 N ds M σ vals Inv μ x y (mk N σ' ds) w' := ⟨(x', y'), σ', rfl, ha, hv, hi, hm⟩
theorem c_loop2 (M : Nat) (vals : γ → δ → List (Nat × Value)) (Inv : γ → δ → World → Prop) (μ : γ → δ → Nat) {N : Nat} {σ : Nat → Value} {ds : List Deferred} {c : Code} (x₀ : γ) (y₀ : δ)
    (h₀ : Has σ (vals x₀ y₀)) (hI : Inv x₀ y₀ w)
    (round : ∀ (x : γ) (y : δ) (ρ : Nat → Value) (w : World), Inv x y w → CW r P c (Exit.then (LoopEnd2 N ds M σ vals Inv μ x y) Q) (mk N (ext (vals x y) (mask M ρ σ)) ds) w) : CW r P (.loop c) Q (mk N σ ds) w :=
  c_loop (γ := γ × δ) M (fun p => vals p.1 p.2) (fun p => Inv p.1 p.2) (fun p => μ p.1 p.2) (x₀, y₀) h₀ hI (fun p ρ w hi => round p.1 p.2 ρ w hi)
end loops

/-- A list of numbers that a call builds by append: all its memory was laid since w0. -/
def LI (w0 w : World) (E : TypeId) (v : Value) (l : List Int) : Prop := Rw w E v (l.map (Value.int .i64)) ∧ ∀ b, v.ownBlock = some b → w0.heap.size ≤ b
theorem LI.nil (w0 w : World) (E : TypeId) : LI w0 w E (.slice none 0 0) [] := ⟨Rw.nil w E, fun b h => by cases h⟩
theorem LI.ex {w0 w w' : World} {E : TypeId} {v : Value} {l : List Int} (h : LI w0 w E v l) (hx : Ex w w') : LI w0 w' E v l := ⟨h.1.ex hx, h.2⟩
theorem LI.ints {w0 w : World} {E : TypeId} {v : Value} {l : List Int} (h : LI w0 w E v l) (hm : l.length ≤ 1000000) : Ints w v l := h.1.ints (by omega)
theorem LI.low {w0 w1 w : World} {E : TypeId} {v : Value} {l : List Int} (h : LI w1 w E v l) (hs : w0.heap.size ≤ w1.heap.size) : LI w0 w E v l := ⟨h.1, fun b hb => Nat.le_trans hs (h.2 b hb)⟩
theorem LI.lt {w0 w : World} {E : TypeId} {v : Value} {l : List Int} (h : LI w0 w E v l) : ∀ b, v.ownBlock = some b → b < w.heap.size := h.1.lt
theorem LI.one {w0 w : World} {E : TypeId} {v : Value} {l : List Int} (h : LI w0 w E v l) : v.oneCell' = true := by
  obtain ⟨a, c, rfl⟩ := h.1.slen; rfl
theorem LI.form {w0 w : World} {E : TypeId} {v : Value} {l : List Int} (h : LI w0 w E v l) : ∃ a c, v = .slice a l.length c := by
  obtain ⟨a, c, hv⟩ := h.1.slen; exact ⟨a, c, by simpa using hv⟩
theorem LI.kept {w0 w w' : World} {E : TypeId} {v : Value} {l : List Int} {o : Option Nat} (h : LI w0 w E v l) (hg : w.grownBy w' o) (hne : v.ownBlock = none ∨ v.ownBlock ≠ o) : LI w0 w' E v l := ⟨h.1.kept hg hne, h.2⟩
theorem LI.own {w0 w : World} {E : TypeId} {v : Value} {l : List Int} (h : LI w0 w E v l) (hn : l ≠ []) (hm : l.length ≤ 100000) : ∃ b c, v = sv b l.length c ∧ OwnI w E b c l ∧ w0.heap.size ≤ b := by
  have hp : 0 < (l.map (Value.int .i64)).length := by simp; exact List.length_pos_iff.2 hn
  obtain ⟨b, cap, sp, hv, hA, hc⟩ := h.1.pos hp
  refine ⟨b, cap, by rw [hv]; simp, ⟨sp, hA, by simpa using hc, hm⟩, h.2 b (by rw [hv]; rfl)⟩

/-- Rows that a call builds by append. -/
def BD (w0 w : World) (E : TypeId) (v : Value) (g : List (List Int)) : Prop := Bld w E v g ∧ ∀ b, v.ownBlock = some b → w0.heap.size ≤ b
theorem BD.nil (w0 w : World) (E : TypeId) : BD w0 w E (.slice none 0 0) [] := ⟨Bld.nil w E, fun b h => by cases h⟩
theorem BD.ex {w0 w w' : World} {E : TypeId} {v : Value} {g : List (List Int)} (h : BD w0 w E v g) (hx : Ex w w') : BD w0 w' E v g := ⟨h.1.ex hx, h.2⟩
theorem BD.rows {w0 w : World} {E : TypeId} {v : Value} {g : List (List Int)} (h : BD w0 w E v g) (hm : g.length ≤ 1000000) : Rows w v g := h.1.rows (by omega)
theorem BD.lt {w0 w : World} {E : TypeId} {v : Value} {g : List (List Int)} (h : BD w0 w E v g) : ∀ b, v.ownBlock = some b → b < w.heap.size := h.1.lt

section ops
variable {r : Option Nat} {P : Program} {ops : Array Oper} {Q : Exit → Act → World → Prop} {N : Nat} {σ : Nat → Value} {ds : List Deferred} {w : World} {rest : List Oper}
variable {d d1 d2 : Nat} {ty ty2 : TypeId} {pos pos2 : String} {after after2 : Array Edge} {T E T' : TypeId} {x i y : Operand}
theorem map_one (l : List Int) : ∀ u ∈ l.map (Value.int .i64), u.oneCell' = true := by
  intro u hu; obtain ⟨q, _, rfl⟩ := List.mem_map.1 hu; rfl
/-- append(l, x...) of numbers. -/
theorem s_lapp {w0 : World} {z v xv : Value} {l news : List Int} (hT : SlT P T E) (hi : InfoOf P E z) (hL : LI w0 w E v l) (hS : Ints w xv news) (hv : ev N σ x = v) (hxv : ev N σ y = xv) (hlen : l.length + news.length ≤ 100000) (hw : Ex w0 w)
    (h : ∀ v' w', LI w0 w' E v' (l ++ news) → Ex w0 w' → WL r P ops Q rest (mk N (upd σ d v') ds) w') :
    WL r P ops Q (⟨some d, .call { callee := .builtin .append, args := #[x, y], argTypes := #[T, T] }, ty, pos, after, none⟩ :: rest) (mk N σ ds) w := by
  refine s_app hT hi hL.1 hS hv hxv (map_one news) (by simp; omega) ?_
  intro v' w' hR hg hf
  refine h v' w' ⟨by rw [List.map_append]; exact hR, fun b hb => ?_⟩ (hw.storeo hg hL.2)
  rcases hf with he | hf
  · exact hL.2 b (he ▸ hb)
  · exact Nat.le_trans hw.size (hf b hb)
/-- append(l, q): the literal and the append. -/
theorem s_li {w0 : World} {v : Value} {l : List Int} {q : Int} (hT : SlT P T E) (hi : InfoOf P E (.int .i64 0)) (hd : Nat.blt d1 N = true) (hL : LI w0 w E v l) (hv : ev N σ x = v) (hq : ev N σ y = .int .i64 q) (hx1 : ∀ s, ev N (upd σ d1 s) x = v) (hlen : l.length ≤ 10000) (hw : Ex w0 w)
    (h : ∀ v' w' sl, LI w0 w' E v' (l ++ [q]) → Ex w0 w' → WL r P ops Q rest (mk N (upd (upd σ d1 sl) d2 v') ds) w') :
    WL r P ops Q (⟨some d1, .buildSlice T 1 #[(0, y)], ty, pos, after, none⟩ :: ⟨some d2, .call { callee := .builtin .append, args := #[x, .tmp d1], argTypes := #[T, T] }, ty2, pos2, after2, none⟩ :: rest) (mk N σ ds) w := by
  refine s_bs1 hT hi hq rfl ?_
  intro b1 w1 hb1 hA hx2 hs1
  have hS : Ints w1 (.slice (some ⟨b1, 0, none⟩) 1 1) [q] := hA.sl (n := 1) (c := 1) (Nat.le_refl _) (by omega) (Nat.le_refl _)
  exact s_lapp hT hi (hL.ex hx2) hS (hx1 _) (tmp_upd hd) (by simp; omega) (hw.trans hx2) (fun v' w' h1 h2 => h v' w' _ h1 h2)
/-- append(rows, x...) where x holds rows whose memory differs from that of the rows. -/
theorem s_bapps {w0 w1 : World} {z v xv : Value} {g g2 : List (List Int)} (hT : SlT P T E) (hi : InfoOf P E z) (hB : BD w0 w1 E v g) (hw : Ex w0 w1) (hw1 : Ex w1 w) (hS : ∃ vs, Sl w xv vs ∧ vs.length = g2.length ∧ ∀ (i : Nat) (u : Value) (l : List Int), vs[i]? = some u → g2[i]? = some l → Ints w u l ∧ (l = [] ∨ u.ownBlock ≠ v.ownBlock))
    (hv : ev N σ x = v) (hxv : ev N σ y = xv) (hlen : g.length + g2.length ≤ 100000)
    (h : ∀ v' w', BD w0 w' E v' (g ++ g2) → Ex w0 w' → WL r P ops Q rest (mk N (upd σ d v') ds) w') :
    WL r P ops Q (⟨some d, .call { callee := .builtin .append, args := #[x, y], argTypes := #[T, T] }, ty, pos, after, none⟩ :: rest) (mk N σ ds) w := by
  obtain ⟨news, hS1, hS2, hS3⟩ := hS
  obtain ⟨vs, h1, h2, h3, h4⟩ := (hB.ex hw1).1
  have hone : ∀ u ∈ news, u.oneCell' = true := by
    intro u hu
    obtain ⟨i, hi⟩ := List.mem_iff_getElem?.1 hu
    have hil := (List.getElem?_eq_some_iff.1 hi).1
    exact (hS3 i u (g2[i]'(by omega)) hi (by simp)).1.one
  refine s_app hT hi h1 hS1 hv hxv hone (by omega) ?_
  intro v' w' hR hg hf
  have key : ∀ (u' : Value) (l' : List Int), Ints w u' l' → (l' = [] ∨ u'.ownBlock ≠ v.ownBlock) → Ints w' u' l' ∧ (l' = [] ∨ u'.ownBlock ≠ v'.ownBlock) := by
    intro u' l' hI' hne'
    refine ⟨hI'.kept hg hne', ?_⟩
    rcases hf with he | hf
    · rw [he]; exact hne'
    · rcases hI'.block with h0 | ⟨b, hb, hlt⟩
      · exact .inl h0
      · refine .inr (fun e => ?_)
        have := hf b (e ▸ hb); omega
  refine h v' w' ⟨⟨vs ++ news, hR, by simp [h2, hS2], ?_, ?_⟩, ?_⟩ ((hw.trans hw1).storeo hg hB.2)
  · intro q hq
    rcases List.mem_append.1 hq with hq | hq
    · exact h3 q hq
    · exact hone q hq
  · intro i q l' hq hl'
    rw [List.getElem?_append] at hq hl'
    rw [← h2] at hl'
    by_cases hi' : i < vs.length
    · rw [if_pos hi'] at hq hl'
      exact key q l' (h4 i q l' hq hl').1 (h4 i q l' hq hl').2
    · rw [if_neg hi'] at hq hl'
      exact key q l' (hS3 _ q l' hq hl').1 (hS3 _ q l' hq hl').2
  · intro b hb
    rcases hf with he | hf
    · exact hB.2 b (he ▸ hb)
    · have := hf b hb; have := hw.size; have := hw1.size; omega
/-- The append of one row, laid in a literal ahead of it. -/
theorem s_bapp {w0 w1 : World} {z v u : Value} {b1 : Nat} {g : List (List Int)} {l : List Int} (hT : SlT P T E) (hi : InfoOf P E z) (hB : BD w0 w1 E v g) (hw : Ex w0 w1) (hw1 : Ex w1 w) (hA : At w b1 E [u]) (hI : Ints w u l) (hne : l = [] ∨ u.ownBlock ≠ v.ownBlock)
    (hv : ev N σ x = v) (hxv : ev N σ y = .slice (some ⟨b1, 0, none⟩) 1 1) (hlen : g.length ≤ 10000)
    (h : ∀ v' w', BD w0 w' E v' (g ++ [l]) → Ex w0 w' → WL r P ops Q rest (mk N (upd σ d v') ds) w') :
    WL r P ops Q (⟨some d, .call { callee := .builtin .append, args := #[x, y], argTypes := #[T, T] }, ty, pos, after, none⟩ :: rest) (mk N σ ds) w :=
  s_bapps (g2 := [l]) hT hi hB hw hw1 ⟨[u], hA.sl (Nat.le_refl _) (by simp) (by simp), rfl, fun i q l' hq hl' => by
    have h0 : i = 0 := by have := (List.getElem?_eq_some_iff.1 hq).1; simp at this; omega
    subst h0
    simp at hq hl'
    subst hq; subst hl'
    exact ⟨hI, hne⟩⟩ hv hxv (by simp; omega) h
/-- Both: the literal and the append of a row whose memory was laid since w1. -/
theorem s_bd {w0 w1 : World} {z v u : Value} {g : List (List Int)} {l : List Int} (hT : SlT P T E) (hi : InfoOf P E z) (hd : Nat.blt d1 N = true) (hB : BD w0 w1 E v g) (hw : Ex w0 w1) (hw1 : Ex w1 w) (hI : Ints w u l) (hu1 : ∀ b, u.ownBlock = some b → w1.heap.size ≤ b)
    (hv : ev N σ x = v) (hu : ev N σ y = u) (hx1 : ∀ s, ev N (upd σ d1 s) x = v) (hlen : g.length ≤ 10000)
    (h : ∀ v' w' sl, BD w0 w' E v' (g ++ [l]) → Ex w0 w' → WL r P ops Q rest (mk N (upd (upd σ d1 sl) d2 v') ds) w') :
    WL r P ops Q (⟨some d1, .buildSlice T 1 #[(0, y)], ty, pos, after, none⟩ :: ⟨some d2, .call { callee := .builtin .append, args := #[x, .tmp d1], argTypes := #[T, T] }, ty2, pos2, after2, none⟩ :: rest) (mk N σ ds) w := by
  refine s_bs1 hT hi hu hI.one ?_
  intro b1 w2 hb1 hA hx2 hs1
  have hne : l = [] ∨ u.ownBlock ≠ v.ownBlock := by
    rcases hI.block with h0 | ⟨b, hb, hlt⟩
    · exact .inl h0
    · refine .inr fun e => ?_
      have h1 := hu1 b hb
      have h2 := hB.lt b (e ▸ hb)
      omega
  exact s_bapp hT hi hB hw (hw1.trans hx2) hA (hI.ex hx2) hne (hx1 _) (tmp_upd hd) hlen (fun v' w' h1 h2 => h v' w' _ h1 h2)
/-- The head of the rows: those that came in. -/
theorem Rows.news {w0 w : World} {v xv : Value} {g : List (List Int)} (hR : Rows w0 xv g) (hx : Ex w0 w) (hv : ∀ b, v.ownBlock = some b → w0.heap.size ≤ b) :
    ∃ vs, Sl w xv vs ∧ vs.length = g.length ∧ ∀ (i : Nat) (u : Value) (l : List Int), vs[i]? = some u → g[i]? = some l → Ints w u l ∧ (l = [] ∨ u.ownBlock ≠ v.ownBlock) := by
  obtain ⟨vs, h1, h2, h3⟩ := hR
  refine ⟨vs, h1.ex hx, h2, fun i u l hu hl => ⟨(h3 i u l hu hl).ex hx, ?_⟩⟩
  rcases (h3 i u l hu hl).block with h0 | ⟨b, hb, hlt⟩
  · exact .inl h0
  · exact .inr fun e => by have := hv b (e ▸ hb); omega
theorem Ints.old {w0 w : World} {u v : Value} {l : List Int} (hI : Ints w0 u l) (hv : ∀ b, v.ownBlock = some b → w0.heap.size ≤ b) : l = [] ∨ u.ownBlock ≠ v.ownBlock := by
  rcases hI.block with h0 | ⟨b, hb, hlt⟩
  · exact .inl h0
  · exact .inr fun e => by have := hv b (e ▸ hb); omega
theorem At.one {w : World} {b : Nat} {E : TypeId} {q : Int} (h : At w b E [.int .i64 q]) : Ints w (.slice (some ⟨b, 0, none⟩) 1 1) [q] := h.sl (n := 1) (c := 1) (Nat.le_refl _) (by omega) (Nat.le_refl _)
end ops

/-! ### Rows with the blocks that they take -/
def BF (F : Nat → Prop) (w : World) (E : TypeId) (v : Value) (g : List (List Int)) : Prop :=
  ∃ vs, Rw w E v vs ∧ vs.length = g.length ∧ (∀ u ∈ vs, u.oneCell' = true) ∧ (∀ b, v.ownBlock = some b → F b) ∧ (∀ b, F b → b < w.heap.size) ∧
    ∀ (i : Nat) (u : Value) (l : List Int), vs[i]? = some u → g[i]? = some l → Ints w u l ∧ (l = [] ∨ (u.ownBlock ≠ v.ownBlock ∧ ∃ b, u.ownBlock = some b ∧ F b))
theorem BF.nil (w : World) (E : TypeId) : BF (fun _ => False) w E (.slice none 0 0) [] := ⟨[], Rw.nil w E, rfl, by simp, fun b h => (by cases h), fun b (h : False) => h.elim, fun i u l h => (by simp at h)⟩
theorem BF.kept {F : Nat → Prop} {w w' : World} {E : TypeId} {v : Value} {g : List (List Int)} {o : Option Nat} (h : BF F w E v g) (hg : w.grownBy w' o) (ho : ∀ b, o = some b → ¬ F b) : BF F w' E v g := by
  obtain ⟨vs, h1, h2, h3, h4, h5, h6⟩ := h
  refine ⟨vs, h1.kept hg ?_, h2, h3, h4, fun b hb => Nat.lt_of_lt_of_le (h5 b hb) hg.size, fun i u l hu hl => ?_⟩
  · cases hv : v.ownBlock with
    | none => exact .inl rfl
    | some b => exact .inr fun e => ho b e.symm (h4 b hv)
  · obtain ⟨a, b⟩ := h6 i u l hu hl
    refine ⟨a.kept hg ?_, b⟩
    rcases b with b | ⟨_, q, hq, hF⟩
    · exact .inl b
    · exact .inr fun e => ho q (by rw [← e, hq]) hF
theorem BF.ex {F : Nat → Prop} {w w' : World} {E : TypeId} {v : Value} {g : List (List Int)} (h : BF F w E v g) (hx : Ex w w') : BF F w' E v g := h.kept hx.grown (fun b e => by cases e)
theorem BF.rows {F : Nat → Prop} {w : World} {E : TypeId} {v : Value} {g : List (List Int)} (h : BF F w E v g) (hm : g.length ≤ 1000000) : Rows w v g := by
  obtain ⟨vs, h1, h2, h3, h4, h5, h6⟩ := h
  exact ⟨vs, h1.sl (by omega), h2, fun i u l hu hl => (h6 i u l hu hl).1⟩
theorem BF.own {F : Nat → Prop} {w : World} {E : TypeId} {v : Value} {g : List (List Int)} (h : BF F w E v g) : ∀ b, v.ownBlock = some b → F b := by
  obtain ⟨vs, h1, h2, h3, h4, h5, h6⟩ := h; exact h4
theorem BF.lt {F : Nat → Prop} {w : World} {E : TypeId} {v : Value} {g : List (List Int)} (h : BF F w E v g) : ∀ b, F b → b < w.heap.size := by
  obtain ⟨vs, h1, h2, h3, h4, h5, h6⟩ := h; exact h5
section
variable {r : Option Nat} {P : Program} {ops : Array Oper} {Q : Exit → Act → World → Prop} {N : Nat} {σ : Nat → Value} {ds : List Deferred} {w : World} {rest : List Oper}
variable {d d1 d2 : Nat} {ty ty2 : TypeId} {pos pos2 : String} {after after2 : Array Edge} {T E T' : TypeId} {x i y : Operand}
end

section draw
/-- A region whose order Go leaves open, walked with what is known of an older world. -/
theorem c_drawO {r : Option Nat} {P : Program} {Q : Exit → Act → World → Prop} {N : Nat} {σ : Nat → Value} {ds : List Deferred} {w w0 : World} {id : Nat} {l : List Oper} (hw : Ex w0 w) (z k : Nat) (π : List (Nat × Bool)) (hm : P.follows .mixedOrders = true) (hok : regionOK l.toArray z k π = true)
    (h : WJ r P l.toArray (Ex w0) z Q π (mk N σ ds) w.drew) : CW r P (.region id l.toArray true) Q (mk N σ ds) w := by
  simp only [regionOK, Bool.and_eq_true] at hok
  obtain ⟨⟨⟨h1, h2⟩, h3⟩, h4⟩ := hok
  refine wpIn_region_any hm (wpAny_of_RAJ _ _ _ _ (raj_of_wj (J := Ex w0) (fun j o ho => ?_) h2 π _ _ _ _ h3 ?_ (.inr (hw.trans (Ex.drew w))) (Nat.le_of_ble_eq_true h4) h))
  · exact (Array.all_eq_true_iff_forall_mem.1 h1) o (Array.mem_of_getElem? ho)
  · intro k hk
    exfalso
    by_cases hlt : k < l.toArray.size
    · simp at hlt; simp [hlt] at hk
    · simp at hlt; simp [Nat.not_lt.2 hlt] at hk
variable {r : Option Nat} {P : Program} {J : World → Prop} {z : Nat} {Q : Exit → Act → World → Prop} {N : Nat} {σ : Nat → Value} {ds : List Deferred} {w : World}
variable {gd : Option (Nat × Bool)} {ops : Array Oper} {i d : Nat} {π : List (Nat × Bool)} {ty : TypeId} {pos : String} {after : Array Edge} {T E : TypeId} {x : Operand}
/-- What makes memory, calls or stores: the operation is read off at once. -/
theorem d_ch {a : Act} {dst : Option Tmp} {op : Op} (hop : ops[i]? = some ⟨dst, op, ty, pos, after, gd⟩) (h : WL r P ops (fun e a' w' => e = .normal ∧ (i = z ∨ J w') ∧ WJ r P ops J z Q π a' w') [⟨dst, op, ty, pos, after, gd⟩] a w) : WJ r P ops J z Q ((i, false) :: π) a w := d_chain hop h
theorem d_slice {w0 : World} {v : Value} {vs : List Value} {l h : Option Operand} {lo hi : Nat} (hop : ops[i]? = some ⟨some d, .slice T x l h none, ty, pos, after, gd⟩) (hT : SlT P T E) (hE : Ty1 P E) (hS : Sl w0 v vs) (hx : ev N σ x = v) (h1 : lo ≤ hi) (h2 : hi ≤ vs.length)
    (hl : (∃ k, l.map (ev N σ) = some (.int k (lo : Int))) ∨ (l = none ∧ lo = 0)) (hh : (∃ k, h.map (ev N σ) = some (.int k (hi : Int))) ∨ (h = none ∧ hi = vs.length))
    (hK : ∀ v', Sl w0 v' ((vs.drop lo).take (hi - lo)) → WJ r P ops J z Q π (mk N (upd σ d v') ds) w) (hgd : GOK ops (ev N σ) gd := by first | exact trivial | exact ⟨_, rfl, rfl⟩) : WJ r P ops J z Q ((i, true) :: π) (mk N σ ds) w := by
  have hS0 := hS
  obtain ⟨_, a, n, c, rfl, hn, hnc, _⟩ := hS0
  subst hn
  refine d_val hop (fun w' _ => ?_) (hK _ (hS.slice h1 h2)) hgd
  have := run_slice (P := P) (w := w') (a := a) hT hE h1 (by omega : hi ≤ c) (l.map (ev N σ)) (h.map (ev N σ)) (by
    rcases hl with hl | ⟨rfl, hl⟩
    · exact .inl hl
    · exact .inr ⟨rfl, hl⟩) (by
    rcases hh with hh | ⟨rfl, hh⟩
    · exact .inl hh
    · exact .inr ⟨rfl, hh⟩)
  simp [execOp, hx, this]
theorem d_sliceI {w0 : World} {v : Value} {L : List Int} {l h : Option Operand} {lo hi : Nat} (hop : ops[i]? = some ⟨some d, .slice T x l h none, ty, pos, after, gd⟩) (hT : SlT P T E) (hE : Ty1 P E) (hS : Ints w0 v L) (hx : ev N σ x = v) (h1 : lo ≤ hi) (h2 : hi ≤ L.length)
    (hl : (∃ k, l.map (ev N σ) = some (.int k (lo : Int))) ∨ (l = none ∧ lo = 0)) (hh : (∃ k, h.map (ev N σ) = some (.int k (hi : Int))) ∨ (h = none ∧ hi = L.length))
    (hK : ∀ v', Ints w0 v' ((L.drop lo).take (hi - lo)) → WJ r P ops J z Q π (mk N (upd σ d v') ds) w) (hgd : GOK ops (ev N σ) gd := by first | exact trivial | exact ⟨_, rfl, rfl⟩) : WJ r P ops J z Q ((i, true) :: π) (mk N σ ds) w :=
  d_slice hop hT hE hS hx h1 (by simpa using h2) hl (by simpa using hh) (fun v' hv' => hK v' (by
    have e : (L.map (Value.int .i64)).drop lo = (L.drop lo).map (Value.int .i64) := by rw [List.map_drop]
    rw [e, ← List.map_take] at hv'
    exact hv')) hgd
end draw
end Go.Proofs.YtkhnohnkcdcajaaDoor.Sal
