/- Core9: rows built by append, copies of one's own, parameters in boxes. -/
import Derived.Test.YtkhnohnkcdcajaaDoorCore8
set_option maxRecDepth 100000
namespace Go.Proofs.YtkhnohnkcdcajaaDoor.Sal
set_option linter.all false
open Go.RowKit

section ops
variable {r : Option Nat} {P : Program} {ops : Array Oper} {Q : Exit → Act → World → Prop} {N : Nat} {σ : Nat → Value} {ds : List Deferred} {w : World} {rest : List Oper}
variable {d d1 d2 : Nat} {ty ty2 : TypeId} {pos pos2 : String} {after after2 : Array Edge} {T E T' : TypeId} {x i y : Operand}
theorem s_mk0 {ti : TypeInfo} {z : Value} {n : Nat} (hT : SlT P T E) (hi : P.info? E = some ti) (hz : ti.zero = some z) (hs : ti.size = 1) (hzc : z.cells = #[z]) (hb : ti.bytes ≤ 64) (h0 : ev N σ x = .int .i64 0) (hx : ev N σ y = .int .i64 (n : Int)) (hn : n ≤ 1000000)
    (h : ∀ b w', b = w.heap.size → Rw w' E (.slice (some ⟨b, 0, none⟩) 0 n) [] → Ex w w' → w'.heap.size = b + 1 → WL r P ops Q rest (mk N (upd σ d (.slice (some ⟨b, 0, none⟩) 0 n)) ds) w') :
    WL r P ops Q (⟨some d, .makeSlice T x y, ty, pos, after, none⟩ :: rest) (mk N σ ds) w := by
  have hbytes : (ti.bytes : Int) * (n : Int) ≤ 281474976710656 := by
    have h1 : ti.bytes * n ≤ 64 * 1000000 := Nat.mul_le_mul hb hn
    have h2 : ((ti.bytes * n : Nat) : Int) ≤ 64000000 := by omega
    rw [Int.natCast_mul] at h2; omega
  have hr := run_make (P := P) w T E ti z hT hi hz .i64 .i64 0 n (by omega) (by omega) hbytes (by omega)
  have hm : madeCells z.cells ((n : Int).toNat * ti.size) = (List.replicate n z).toArray := by
    rw [hs, hzc]; simp [madeCells]
    apply Array.ext
    · simp
    · intro j h1 h2; simp [Nat.mod_one]
  rw [hm] at hr
  simp only [Int.toNat_natCast] at hr
  have hA := at_new w (List.replicate n z) E
  have hR := hA.rw (n := 0) (c := n) (by simp) (Nat.zero_le _) (by omega)
  refine l_val (w' := w.alloc (.cells (List.replicate n z).toArray E)) (by intro c e; cases e) ?_ (h _ _ rfl (by simpa using hR) (Ex.alloc w _) (size_new w _))
  simp [execOp, h0, hx, hr]
/-- A load of what lies in a block, told of in an older world. -/
theorem s_ldO {w0 : World} {b n : Nat} {B : TypeId} {cs : List Value} {u : Value} (hE : Ty1 P E) (hA : At w0 b B cs) (hw : Ex w0 w) (hx : ev N σ x = .pointer (some ⟨b, n, none⟩)) (hc : cs[n]? = some u) (h : WL r P ops Q rest (mk N (upd σ d u) ds) w) :
    WL r P ops Q (⟨some d, .load E x, ty, pos, after, none⟩ :: rest) (mk N σ ds) w := s_ldA hE hx (hA.ex hw) hc h
/-- A load of a whole struct that lies in a block, told of in an older world. -/
theorem s_ldVO {w0 : World} {b : Nat} {B : TypeId} {cs : List Value} {dd : TypeDesc} (hu : P.underlying E = some dd) (hd : (match dd with | .struct _ | .array _ _ => true | _ => false) = true) (hi : (P.info? E).map (·.size) = some cs.length) (hA : At w0 b B cs) (hw : Ex w0 w)
    (hx : ev N σ x = .pointer (some ⟨b, 0, none⟩)) (h : WL r P ops Q rest (mk N (upd σ d (.agg cs.toArray)) ds) w) :
    WL r P ops Q (⟨some d, .load E x, ty, pos, after, none⟩ :: rest) (mk N σ ds) w := s_ldV hu hd hi hx (hA.ex hw) h
theorem s_iaI {v : Value} {l : List Int} {k : IntKind} {n : Nat} (hT : SlT P T E) (hE : Ty1 P E) (hx : ev N σ x = v) (hi : ev N σ i = .int k (n : Int)) (hs : Ints w v l) (hn : n < l.length)
    (h : ∀ ad, w.cell? ad = some (.int .i64 (l.getD n 0)) → WL r P ops Q rest (mk N (upd σ d (.pointer (some ad))) ds) w) : WL r P ops Q (⟨some d, .indexAddr T x i, ty, pos, after, none⟩ :: rest) (mk N σ ds) w :=
  s_ia hT hE hx hi hs (by simp [hn]) h
theorem s_iaR {w0 : World} {v : Value} {g : List (List Int)} {k : IntKind} {n : Nat} (hT : SlT P T E) (hE : Ty1 P E) (hs : Rows w0 v g) (hw : Ex w0 w) (hx : ev N σ x = v) (hi : ev N σ i = .int k (n : Int)) (hn : n < g.length)
    (h : ∀ ad u, w.cell? ad = some u → Ints w u (g.getD n []) → WL r P ops Q rest (mk N (upd σ d (.pointer (some ad))) ds) w) : WL r P ops Q (⟨some d, .indexAddr T x i, ty, pos, after, none⟩ :: rest) (mk N σ ds) w := by
  obtain ⟨vs, u, hs', hu, hI⟩ := hs.row hn
  exact s_ia hT hE hx hi (hs'.ex hw) hu fun ad hc => h ad u hc (hI.ex hw)
end ops

section draws
variable {r : Option Nat} {P : Program} {ops : Array Oper} {Q : Exit → Act → World → Prop} {N : Nat} {σ : Nat → Value} {ds : List Deferred} {w : World} {J : World → Prop} {z i d : Nat} {gd : Option (Nat × Bool)} {π : List (Nat × Bool)} {ty : TypeId} {pos : String} {after : Array Edge} {x y : Operand}
end draws

theorem Sl.kept {w w' : World} {v : Value} {vs : List Value} {o : Option Nat} (h : Sl w v vs) (hg : w.grownBy w' o) (hne : vs = [] ∨ v.ownBlock ≠ o) : Sl w' v vs := by
  obtain ⟨hm, a, n, c, rfl, hn, hnc, hc⟩ := h
  refine ⟨hm, a, n, c, rfl, hn, hnc, fun i u hi => ?_⟩
  obtain ⟨ad, rfl, hcell⟩ := hc i u hi
  have hne' : some ad.block ≠ o := by
    rcases hne with rfl | h
    · simp at hi
    · exact h
  refine ⟨ad, rfl, ?_⟩
  have hb : (ad.add i).block = ad.block := by unfold Addr.add; split <;> rfl
  have hlt := block_lt_of_cell hcell
  have := hg.block (ad.add i).block hlt (by rw [hb]; exact hne')
  unfold World.cell? at hcell ⊢
  rw [this]; exact hcell
theorem Ints.kept {w w' : World} {v : Value} {l : List Int} {o : Option Nat} (h : Ints w v l) (hg : w.grownBy w' o) (hne : l = [] ∨ v.ownBlock ≠ o) : Ints w' v l := Sl.kept h hg (hne.imp (by rintro rfl; rfl) id)
theorem Sl.block {w : World} {v : Value} {vs : List Value} (h : Sl w v vs) : vs = [] ∨ ∃ b, v.ownBlock = some b ∧ b < w.heap.size := by
  obtain ⟨_, a, n, c, rfl, hn, hnc, hc⟩ := h
  cases vs with
  | nil => exact .inl rfl
  | cons u vs =>
    obtain ⟨ad, rfl, hcell⟩ := hc 0 u rfl
    exact .inr ⟨ad.block, rfl, block_lt_of_cell hcell⟩
theorem Ints.block {w : World} {v : Value} {l : List Int} (h : Ints w v l) : l = [] ∨ ∃ b, v.ownBlock = some b ∧ b < w.heap.size := by
  rcases Sl.block h with h | h
  · exact .inl (by simpa using h)
  · exact .inr h

theorem Rows.rowlen {w : World} {v : Value} {g : List (List Int)} (h : Rows w v g) (i : Nat) : (g.getD i []).length ≤ 140737488355328 := by
  by_cases hi : i < g.length
  · obtain ⟨vs, u, _, _, hI⟩ := h.row hi
    exact hI.len
  · simp [hi]
/-- Rows that are being put together by append; E the type of a row. -/
def Bld (w : World) (E : TypeId) (v : Value) (g : List (List Int)) : Prop :=
  ∃ vs, Rw w E v vs ∧ vs.length = g.length ∧ (∀ u ∈ vs, u.oneCell' = true) ∧ ∀ (i : Nat) (u : Value) (l : List Int), vs[i]? = some u → g[i]? = some l → Ints w u l ∧ (l = [] ∨ u.ownBlock ≠ v.ownBlock)
theorem Bld.nil (w : World) (E : TypeId) : Bld w E (.slice none 0 0) [] := ⟨[], Rw.nil w E, rfl, by simp, fun i u l h => by simp at h⟩
theorem Bld.ex {w w' : World} {E : TypeId} {v : Value} {g : List (List Int)} (h : Bld w E v g) (hx : Ex w w') : Bld w' E v g := by
  obtain ⟨vs, h1, h2, h3, h4⟩ := h
  exact ⟨vs, h1.ex hx, h2, h3, fun i u l hu hl => ⟨(h4 i u l hu hl).1.ex hx, (h4 i u l hu hl).2⟩⟩
theorem Bld.lt {w : World} {E : TypeId} {v : Value} {g : List (List Int)} (h : Bld w E v g) : ∀ k, v.ownBlock = some k → k < w.heap.size := by
  obtain ⟨vs, h1, _⟩ := h; exact h1.lt
theorem Bld.rows {w : World} {E : TypeId} {v : Value} {g : List (List Int)} (h : Bld w E v g) (hm : g.length ≤ 140737488355328) : Rows w v g := by
  obtain ⟨vs, h1, h2, h3, h4⟩ := h
  exact ⟨vs, h1.sl (by omega), h2, fun i u l hu hl => (h4 i u l hu hl).1⟩
theorem Ints.one {w : World} {v : Value} {l : List Int} (h : Ints w v l) : v.oneCell' = true := by
  obtain ⟨a, c, rfl⟩ := h.form; rfl
section ops2
variable {r : Option Nat} {P : Program} {ops : Array Oper} {Q : Exit → Act → World → Prop} {N : Nat} {σ : Nat → Value} {ds : List Deferred} {w : World} {rest : List Oper}
variable {d d1 d2 : Nat} {ty ty2 : TypeId} {pos pos2 : String} {after after2 : Array Edge} {T E T' : TypeId} {x i y : Operand}
end ops2

/-! ### Copies of one's own -/
abbrev sv (b n c : Nat) : Value := .slice (some ⟨b, 0, none⟩) n c
/-- A list of numbers in a block of its own. -/
def OwnI (w : World) (E : TypeId) (b c : Nat) (l : List Int) : Prop := ∃ sp, At w b E (l.map (Value.int .i64) ++ sp) ∧ l.length ≤ c ∧ l.length ≤ 100000
theorem OwnI.ints {w : World} {E : TypeId} {b c : Nat} {l : List Int} (h : OwnI w E b c l) : Ints w (sv b l.length c) l := by
  obtain ⟨sp, hA, hc, hm⟩ := h
  have := hA.sl (n := l.length) (c := c) (by simp) (by omega) hc
  rwa [List.take_left' (by simp)] at this
theorem OwnI.ex {w w' : World} {E : TypeId} {b c : Nat} {l : List Int} (h : OwnI w E b c l) (hx : Ex w w') : OwnI w' E b c l := by
  obtain ⟨sp, hA, hc⟩ := h; exact ⟨sp, hA.ex hx, hc⟩
theorem OwnI.grown {w w' : World} {E : TypeId} {b c : Nat} {l : List Int} {o : Option Nat} (h : OwnI w E b c l) (hg : w.grownBy w' o) (hne : o ≠ some b) : OwnI w' E b c l := by
  obtain ⟨sp, hA, hc⟩ := h; exact ⟨sp, hA.grown hg hne, hc⟩
theorem OwnI.lt {w : World} {E : TypeId} {b c : Nat} {l : List Int} (h : OwnI w E b c l) : b < w.heap.size := by
  obtain ⟨sp, hA, hc⟩ := h; exact hA.lt
section ops3
variable {r : Option Nat} {P : Program} {ops : Array Oper} {Q : Exit → Act → World → Prop} {N : Nat} {σ : Nat → Value} {ds : List Deferred} {w : World} {rest : List Oper}
variable {d d1 d2 : Nat} {ty ty2 : TypeId} {pos pos2 : String} {after after2 : Array Edge} {T E T' : TypeId} {x i y : Operand}
end ops3
/-- Lists of numbers, each and all in blocks of their own. -/
def Mat (w : World) (T E : TypeId) (b c : Nat) (rb rc : Nat → Nat) (g : List (List Int)) : Prop :=
  (∃ sp, At w b T ((List.range g.length).map (fun i => sv (rb i) (g.getD i []).length (rc i)) ++ sp)) ∧ g.length ≤ c ∧ g.length ≤ 100000 ∧ (∀ i, i < g.length → OwnI w E (rb i) (rc i) (g.getD i []) ∧ rb i ≠ b) ∧ ∀ i j, i < j → j < g.length → rb i < rb j
theorem Mat.ex {w w' : World} {T E : TypeId} {b c : Nat} {rb rc : Nat → Nat} {g : List (List Int)} (h : Mat w T E b c rb rc g) (hx : Ex w w') : Mat w' T E b c rb rc g := by
  obtain ⟨⟨sp, h1⟩, h2, h3, h4, h5⟩ := h
  exact ⟨⟨sp, h1.ex hx⟩, h2, h3, fun i hi => ⟨(h4 i hi).1.ex hx, (h4 i hi).2⟩, h5⟩
theorem Mat.rows {w : World} {T E : TypeId} {b c : Nat} {rb rc : Nat → Nat} {g : List (List Int)} (h : Mat w T E b c rb rc g) : Rows w (sv b g.length c) g := by
  obtain ⟨⟨sp, h1⟩, h2, h3, h4, h5⟩ := h
  have hs := h1.sl (n := g.length) (c := c) (by simp) (by omega) h2
  rw [List.take_left' (by simp)] at hs
  refine ⟨_, hs, by simp, fun i u l hu hl => ?_⟩
  have hi := (List.getElem?_eq_some_iff.1 hl).1
  have e : g.getD i [] = l := by simp [hl]
  have hu' : u = sv (rb i) (g.getD i []).length (rc i) := by
    rw [List.getElem?_map, List.getElem?_range hi] at hu
    exact (Option.some.inj hu).symm
  rw [e] at hu'
  subst hu'
  have := (h4 i hi).1.ints
  rwa [e] at this
theorem Mat.cell {w : World} {T E : TypeId} {b c : Nat} {rb rc : Nat → Nat} {g : List (List Int)} (h : Mat w T E b c rb rc g) {i : Nat} (hi : i < g.length) : ∃ cs, At w b T cs ∧ cs[i]? = some (sv (rb i) (g.getD i []).length (rc i)) := by
  obtain ⟨⟨sp, h1⟩, _⟩ := h
  refine ⟨_, h1, ?_⟩
  rw [List.getElem?_append_left (by simpa using hi)]; simp [hi]
theorem Mat.own {w : World} {T E : TypeId} {b c : Nat} {rb rc : Nat → Nat} {g : List (List Int)} (h : Mat w T E b c rb rc g) {i : Nat} (hi : i < g.length) : OwnI w E (rb i) (rc i) (g.getD i []) := (h.2.2.2.1 i hi).1
theorem Mat.put {w w' : World} {T E : TypeId} {b c : Nat} {rb rc : Nat → Nat} {g : List (List Int)} {i : Nat} {l : List Int} (h : Mat w T E b c rb rc g) (hi : i < g.length) (hl : l.length = (g.getD i []).length) (hO : OwnI w' E (rb i) (rc i) l) (hg : w.grownBy w' (some (rb i))) : Mat w' T E b c rb rc (g.set i l) := by
  obtain ⟨⟨sp, h1⟩, h2, h3, h4, h5⟩ := h
  have hget : ∀ j, (g.set i l).getD j [] = if j = i then l else g.getD j [] := by
    intro j
    simp only [List.getD_eq_getElem?_getD, List.getElem?_set]
    by_cases hj : i = j
    · subst hj; simp [hi]
    · have : ¬ j = i := fun e => hj e.symm
      simp [hj, this]
  refine ⟨⟨sp, ?_⟩, by simpa using h2, by simpa using h3, fun j hj => ?_, fun a j h6 h7 => h5 a j h6 (by simpa using h7)⟩
  · have e : (List.range (g.set i l).length).map (fun j => sv (rb j) ((g.set i l).getD j []).length (rc j)) = (List.range g.length).map (fun j => sv (rb j) (g.getD j []).length (rc j)) := by
      rw [List.length_set]
      apply List.map_congr_left
      intro j _
      rw [hget j]
      by_cases hj : j = i
      · subst hj; rw [if_pos rfl, hl]
      · rw [if_neg hj]
    rw [e]
    exact h1.grown hg (fun e => (h4 i hi).2 (Option.some.inj e))
  · have hj' : j < g.length := by simpa using hj
    rw [hget j]
    refine ⟨?_, (h4 j hj').2⟩
    by_cases hji : j = i
    · subst hji; rw [if_pos rfl]; exact hO
    · rw [if_neg hji]
      refine (h4 j hj').1.grown hg (fun e => ?_)
      have e' := Option.some.inj e
      rcases Nat.lt_or_gt_of_ne hji with h6 | h6
      · have := h5 j i h6 hi; omega
      · have := h5 i j h6 hj'; omega
theorem Rw.pos {w : World} {E : TypeId} {v : Value} {vs : List Value} (h : Rw w E v vs) (hn : 0 < vs.length) : ∃ b cap sp, v = sv b vs.length cap ∧ At w b E (vs ++ sp) ∧ vs.length ≤ cap := by
  rcases h.form with ⟨_, rfl⟩ | h
  · simp at hn
  · exact h
end Go.Proofs.YtkhnohnkcdcajaaDoor.Sal
