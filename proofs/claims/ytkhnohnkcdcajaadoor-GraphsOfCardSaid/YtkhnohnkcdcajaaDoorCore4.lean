/- Core4: memory: slices that read as lists, blocks of the call's own; loads, stores, new blocks. -/
import Derived.Test.YtkhnohnkcdcajaaDoorCore3
set_option maxRecDepth 100000
namespace Go.Proofs.YtkhnohnkcdcajaaDoor.Sal
set_option linter.all false
open Go.RowKit

/-- Nothing that was there has turned. -/
abbrev Ex (w w' : World) : Prop := Below w.heap.size w w'
theorem Ex.refl (w : World) : Ex w w := Below.refl _ _
theorem Ex.trans {a b c : World} (h : Ex a b) (k : Ex b c) : Ex a c := Below.trans h (Below.mono k h.size)
theorem Ex.cell {w w' : World} {p : Addr} {v : Value} (h : Ex w w') (hc : w.cell? p = some v) : w'.cell? p = some v := (Below.cell h (block_lt_of_cell hc)).trans hc
theorem Ex.of_grown {w w' : World} (h : w.grownBy w' none) : Ex w w' := ⟨h.os, h.tape, h.output, h.size, fun k hk => h.block k hk (by simp)⟩
theorem Ex.grown {w w' : World} (h : Ex w w') : w.grownBy w' none := ⟨h.os, h.tape, h.output, h.size, fun k hk _ => h.block k hk⟩
theorem Ex.alloc (w : World) (o : Obj) : Ex w (w.alloc o) := Ex.of_grown (World.grownBy_alloc w o none)
theorem Ex.drew (w : World) : Ex w w.drew := Below.drew (Ex.refl w)
/-- A store into a block that was not there at the beginning. -/
theorem Ex.store {a w w' : World} {b : Nat} (h : Ex a w) (hg : w.grownBy w' (some b)) (hb : a.heap.size ≤ b) : Ex a w' :=
  Below.grown h hg h.size (fun k e => by cases e; exact hb)
theorem Ex.storeo {a w w' : World} {o : Option Nat} (h : Ex a w) (hg : w.grownBy w' o) (hb : ∀ b, o = some b → a.heap.size ≤ b) : Ex a w' :=
  Below.grown h hg h.size (fun k e => hb k e)

/-- A slice value that reads as a list of one-cell values. -/
def Sl (w : World) (v : Value) (vs : List Value) : Prop := vs.length ≤ 140737488355328 ∧ ∃ a n c, v = .slice a n c ∧ vs.length = n ∧ n ≤ c ∧ ∀ (i : Nat) (u : Value), vs[i]? = some u → ∃ ad, a = some ad ∧ w.cell? (ad.add i) = some u
def Ints (w : World) (v : Value) (l : List Int) : Prop := Sl w v (l.map (Value.int .i64))
def Rows (w : World) (v : Value) (g : List (List Int)) : Prop := ∃ vs, Sl w v vs ∧ vs.length = g.length ∧ ∀ (i : Nat) (u : Value) (l : List Int), vs[i]? = some u → g[i]? = some l → Ints w u l
theorem Sl.ex {w w' : World} {v : Value} {vs : List Value} (h : Sl w v vs) (hx : Ex w w') : Sl w' v vs := by
  obtain ⟨hm, a, n, c, hv, hn, hnc, hc⟩ := h
  exact ⟨hm, a, n, c, hv, hn, hnc, fun i u hi => let ⟨ad, ha, hcell⟩ := hc i u hi; ⟨ad, ha, hx.cell hcell⟩⟩
theorem Ints.ex {w w' : World} {v : Value} {l : List Int} (h : Ints w v l) (hx : Ex w w') : Ints w' v l := Sl.ex h hx
theorem Rows.ex {w w' : World} {v : Value} {g : List (List Int)} (h : Rows w v g) (hx : Ex w w') : Rows w' v g := by
  obtain ⟨vs, hs, hl, hr⟩ := h
  exact ⟨vs, hs.ex hx, hl, fun i u l hi hg => (hr i u l hi hg).ex hx⟩
theorem Ints.sl {w : World} {v : Value} {l : List Int} (h : Ints w v l) : Sl w v (l.map (Value.int .i64)) := h
theorem Sl.ints {w : World} {v : Value} {l : List Int} (h : Sl w v (l.map (Value.int .i64))) : Ints w v l := h
theorem Sl.len {w : World} {v : Value} {vs : List Value} (h : Sl w v vs) : vs.length ≤ 140737488355328 := h.1
theorem Ints.len {w : World} {v : Value} {l : List Int} (h : Ints w v l) : l.length ≤ 140737488355328 := by simpa using Sl.len h
theorem Rows.len {w : World} {v : Value} {g : List (List Int)} (h : Rows w v g) : g.length ≤ 140737488355328 := by obtain ⟨vs, hs, hl, _⟩ := h; rw [← hl]; exact hs.1
theorem Sl.form {w : World} {v : Value} {vs : List Value} (h : Sl w v vs) : ∃ a c, v = .slice a vs.length c := by
  obtain ⟨_, a, n, c, hv, hn, _, _⟩ := h; subst hn; exact ⟨a, c, hv⟩
theorem Ints.form {w : World} {v : Value} {l : List Int} (h : Ints w v l) : ∃ a c, v = .slice a l.length c := by
  obtain ⟨a, c, hv⟩ := Sl.form h; exact ⟨a, c, by simpa using hv⟩
theorem Rows.form {w : World} {v : Value} {g : List (List Int)} (h : Rows w v g) : ∃ a c, v = .slice a g.length c := by
  obtain ⟨vs, hs, hl, _⟩ := h; obtain ⟨a, c, hv⟩ := hs.form; exact ⟨a, c, by rw [← hl]; exact hv⟩
theorem Sl.nil (w : World) : Sl w (.slice none 0 0) [] := ⟨by simp, none, 0, 0, rfl, rfl, Nat.le_refl _, fun i u h => by simp at h⟩
theorem Ints.nil (w : World) : Ints w (.slice none 0 0) [] := Sl.nil w
theorem Rows.nil (w : World) : Rows w (.slice none 0 0) [] := ⟨[], Sl.nil w, rfl, fun i u l h => by simp at h⟩

/-- Block b holds just these cells, and may be written. -/
def At (w : World) (b : Nat) (E : TypeId) (cs : List Value) : Prop := w.heap[b]? = some (.cells cs.toArray E (0, 0))
theorem At.lt {w : World} {b : Nat} {E : TypeId} {cs : List Value} (h : At w b E cs) : b < w.heap.size := (Array.getElem?_eq_some_iff.1 h).1
theorem At.ex {w w' : World} {b : Nat} {E : TypeId} {cs : List Value} (h : At w b E cs) (hx : Ex w w') : At w' b E cs := (hx.block b h.lt).trans h
theorem At.grown {w w' : World} {b : Nat} {E : TypeId} {cs : List Value} {o : Option Nat} (h : At w b E cs) (hg : w.grownBy w' o) (hne : o ≠ some b) : At w' b E cs := (hg.block b h.lt (fun e => hne e.symm)).trans h
theorem At.cell {w : World} {b : Nat} {E : TypeId} {cs : List Value} (h : At w b E cs) (i : Nat) : w.cell? ⟨b, i, none⟩ = cs[i]? := by
  rw [cell_of_row w b i cs.toArray E (0, 0) h]; simp
theorem add_at (b o i : Nat) : (⟨b, o, none⟩ : Addr).add i = ⟨b, o + i, none⟩ := Addr.add_lit b o i
/-- A slice over a block of the call's own reads as its head. -/
theorem At.sl {w : World} {b : Nat} {E : TypeId} {cs : List Value} {n c : Nat} (h : At w b E cs) (hn : n ≤ cs.length) (hm : n ≤ 140737488355328) (hnc : n ≤ c) : Sl w (.slice (some ⟨b, 0, none⟩) n c) (cs.take n) :=
  ⟨by simp; omega, some ⟨b, 0, none⟩, n, c, rfl, by simp [hn], hnc, fun i u hi => ⟨_, rfl, by
    rw [add_at, Nat.zero_add, h.cell]
    rw [List.getElem?_take] at hi
    split at hi
    · exact hi
    · cases hi⟩⟩
theorem At.ints {w : World} {b : Nat} {E : TypeId} {l : List Int} {c : Nat} (h : At w b E (l.map (Value.int .i64))) (hm : l.length ≤ 140737488355328) (hc : l.length ≤ c) : Ints w (.slice (some ⟨b, 0, none⟩) l.length c) l := by
  have := h.sl (n := l.length) (c := c) (by simp) hm hc
  rw [List.take_of_length_le (by simp)] at this
  exact this
theorem At.rows {w : World} {b : Nat} {E : TypeId} {vs : List Value} {g : List (List Int)} {c : Nat} (h : At w b E vs) (hl : vs.length = g.length) (hm : g.length ≤ 140737488355328) (hc : g.length ≤ c) (hr : ∀ (i : Nat) (u : Value) (l : List Int), vs[i]? = some u → g[i]? = some l → Ints w u l) :
    Rows w (.slice (some ⟨b, 0, none⟩) g.length c) g :=
  ⟨vs, by have := h.sl (n := g.length) (c := c) (by omega) hm hc; rwa [List.take_of_length_le (by omega)] at this, hl, hr⟩

/-! ### Types -/
def Ty1 (P : Program) (E : TypeId) : Prop := (∃ i, P.info? E = some i ∧ i.size = 1) ∧ ∃ d, P.underlying E = some d ∧ (match d with | .struct _ | .array _ _ => true | _ => false) = false
def SlT (P : Program) (T E : TypeId) : Prop := P.underlying T = some (.slice E)

section runs
variable {P : Program} {w : World}
theorem run_sizeOf1 {E : TypeId} (h : Ty1 P E) (w : World) : (sizeOf E).run P w = .ok 1 w := by
  obtain ⟨⟨i, hi, hs⟩, _⟩ := h
  simp [sizeOf, typeInfo, hi, hs]
theorem run_isAgg1 {E : TypeId} (h : Ty1 P E) (w : World) : (isAgg E).run P w = .ok false w := by
  obtain ⟨_, d, hd, hn⟩ := h
  unfold isAgg
  simp only [Sem.run_bind, run_underlying hd, Result.andThen_ok]
  cases d <;> simp at hn <;> rfl
theorem run_loadVar1 {E : TypeId} {a : Addr} {u : Value} (h : Ty1 P E) (hc : w.cell? a = some u) : (loadVar E a).run P w = .ok u w := by
  unfold loadVar
  simp only [Sem.run_bind, run_isAgg1 h w, Result.andThen_ok]
  simp [load, Sem.run, hc]
theorem run_storeVar1 {E : TypeId} {a : Addr} {u v : Value} (h : Ty1 P E) (h1 : v.oneCell' = true) (hc : w.cell? a = some u) (hf : w.frozen? a = false) : (storeVar E a v).run P w = .ok () (w.setCell a v) := by
  obtain ⟨⟨i, hi, hs⟩, _⟩ := h
  have hcs : v.cells = #[v] := by cases v <;> first | rfl | (simp [Value.oneCell'] at h1)
  unfold storeVar
  simp only [hcs, Sem.run_bind, sizeOf, typeInfo]
  simp [hi, hs, storeCells]
  cases v <;> first | (simp [Value.oneCell'] at h1; done) | (simp [store, Sem.run, hc, hf, Addr.add_zero'])
end runs

section ops
variable {r : Option Nat} {P : Program} {ops : Array Oper} {Q : Exit → Act → World → Prop} {N : Nat} {σ : Nat → Value} {ds : List Deferred} {w : World} {rest : List Oper}
variable {d d1 d2 : Nat} {ty ty2 : TypeId} {pos pos2 : String} {after after2 : Array Edge} {T E T' : TypeId} {x i y : Operand}

/-- Another spelling of the value that was laid last. -/
theorem s_re {v v' : Value} (he : v = v') (h : WL r P ops Q rest (mk N (upd σ d v') ds) w) : WL r P ops Q rest (mk N (upd σ d v) ds) w := he ▸ h
theorem s_len {a : Option Addr} {n c : Nat} (hT : SlT P T E) (hx : ev N σ x = .slice a n c) (h : WL r P ops Q rest (mk N (upd σ d (.int .i64 (n : Int))) ds) w) :
    WL r P ops Q (⟨some d, .call { callee := .builtin .len, args := #[x], argTypes := #[T] }, ty, pos, after, none⟩ :: rest) (mk N σ ds) w :=
  l_val (by intro c e; cases e) (by
    simp [execOp, resolve, invoke, builtin, Builtin.len_, hx, run_underlying hT, goInt]) h
theorem s_lenS {v : Value} {vs : List Value} (hT : SlT P T E) (hx : ev N σ x = v) (hs : Sl w v vs) (h : WL r P ops Q rest (mk N (upd σ d (.int .i64 (vs.length : Int))) ds) w) :
    WL r P ops Q (⟨some d, .call { callee := .builtin .len, args := #[x], argTypes := #[T] }, ty, pos, after, none⟩ :: rest) (mk N σ ds) w := by
  obtain ⟨a, c, rfl⟩ := hs.form; exact s_len hT hx h
theorem s_lenI {v : Value} {l : List Int} (hT : SlT P T E) (hx : ev N σ x = v) (hs : Ints w v l) (h : WL r P ops Q rest (mk N (upd σ d (.int .i64 (l.length : Int))) ds) w) :
    WL r P ops Q (⟨some d, .call { callee := .builtin .len, args := #[x], argTypes := #[T] }, ty, pos, after, none⟩ :: rest) (mk N σ ds) w := by
  obtain ⟨a, c, rfl⟩ := hs.form; exact s_len hT hx h
theorem s_lenR {v : Value} {g : List (List Int)} (hT : SlT P T E) (hx : ev N σ x = v) (hs : Rows w v g) (h : WL r P ops Q rest (mk N (upd σ d (.int .i64 (g.length : Int))) ds) w) :
    WL r P ops Q (⟨some d, .call { callee := .builtin .len, args := #[x], argTypes := #[T] }, ty, pos, after, none⟩ :: rest) (mk N σ ds) w := by
  obtain ⟨a, c, rfl⟩ := hs.form; exact s_len hT hx h

/-- The address of a slice's element, where the slice reads as a list. -/
theorem s_ia {v u : Value} {vs : List Value} {k : IntKind} {n : Nat} (hT : SlT P T E) (hE : Ty1 P E) (hx : ev N σ x = v) (hi : ev N σ i = .int k (n : Int)) (hs : Sl w v vs) (hn : vs[n]? = some u)
    (h : ∀ ad, w.cell? ad = some u → WL r P ops Q rest (mk N (upd σ d (.pointer (some ad))) ds) w) : WL r P ops Q (⟨some d, .indexAddr T x i, ty, pos, after, none⟩ :: rest) (mk N σ ds) w := by
  obtain ⟨_, a, len, c, rfl, hlen, _, hc⟩ := hs
  obtain ⟨ad, rfl, hcell⟩ := hc n u hn
  have hlt : n < len := by rw [← hlen]; exact (List.getElem?_eq_some_iff.1 hn).1
  refine l_val (v := .pointer (some (ad.add n))) (by intro c e; cases e) ?_ (h _ hcell)
  have hT' : P.underlying T = some (.slice E) := hT
  simp [execOp, hx, hi, Instr.indexAt, asIntOf, run_underlying hT', hlt, run_sizeOf1 hE, go_sem]
theorem s_ld {ad : Addr} {u : Value} (hE : Ty1 P E) (hx : ev N σ x = .pointer (some ad)) (hc : w.cell? ad = some u) (h : WL r P ops Q rest (mk N (upd σ d u) ds) w) :
    WL r P ops Q (⟨some d, .load E x, ty, pos, after, none⟩ :: rest) (mk N σ ds) w :=
  l_val (by intro c e; cases e) (by simp [execOp, hx, Instr.loadAt, Instr.sureAddr, run_loadVar1 hE hc]) h
theorem tmp_upd {v : Value} (hd : Nat.blt d N = true) : ev N (upd σ d v) (.tmp d) = v := by simp [ev, hd, upd_same]
/-- Both: an element read. -/
theorem s_ix {v u : Value} {vs : List Value} {k : IntKind} {n : Nat} (hT : SlT P T E) (hE : Ty1 P E) (hd : Nat.blt d1 N = true) (hx : ev N σ x = v) (hi : ev N σ i = .int k (n : Int)) (hs : Sl w v vs) (hn : vs[n]? = some u)
    (h : ∀ pv, WL r P ops Q rest (mk N (upd (upd σ d1 pv) d2 u) ds) w) :
    WL r P ops Q (⟨some d1, .indexAddr T x i, ty, pos, after, none⟩ :: ⟨some d2, .load E (.tmp d1), ty2, pos2, after2, none⟩ :: rest) (mk N σ ds) w :=
  s_ia hT hE hx hi hs hn fun _ hc => s_ld hE (tmp_upd hd) hc (h _)
theorem s_ixI {v : Value} {l : List Int} {k : IntKind} {n : Nat} (hT : SlT P T E) (hE : Ty1 P E) (hd : Nat.blt d1 N = true) (hx : ev N σ x = v) (hi : ev N σ i = .int k (n : Int)) (hs : Ints w v l) (hn : n < l.length)
    (h : ∀ pv, WL r P ops Q rest (mk N (upd (upd σ d1 pv) d2 (.int .i64 (l.getD n 0))) ds) w) :
    WL r P ops Q (⟨some d1, .indexAddr T x i, ty, pos, after, none⟩ :: ⟨some d2, .load E (.tmp d1), ty2, pos2, after2, none⟩ :: rest) (mk N σ ds) w :=
  s_ix hT hE hd hx hi hs (by simp [hn]) h
theorem Rows.row {w : World} {v : Value} {g : List (List Int)} (h : Rows w v g) {n : Nat} (hn : n < g.length) : ∃ vs u, Sl w v vs ∧ vs[n]? = some u ∧ Ints w u (g.getD n []) := by
  obtain ⟨vs, hs, hl, hr⟩ := h
  have hn' : n < vs.length := by omega
  exact ⟨vs, vs[n], hs, by simp [hn'], hr n _ _ (by simp [hn']) (by simp [hn])⟩
theorem s_ixR {v : Value} {g : List (List Int)} {k : IntKind} {n : Nat} (hT : SlT P T E) (hE : Ty1 P E) (hd : Nat.blt d1 N = true) (hx : ev N σ x = v) (hi : ev N σ i = .int k (n : Int)) (hs : Rows w v g) (hn : n < g.length)
    (h : ∀ pv u, Ints w u (g.getD n []) → WL r P ops Q rest (mk N (upd (upd σ d1 pv) d2 u) ds) w) :
    WL r P ops Q (⟨some d1, .indexAddr T x i, ty, pos, after, none⟩ :: ⟨some d2, .load E (.tmp d1), ty2, pos2, after2, none⟩ :: rest) (mk N σ ds) w := by
  obtain ⟨vs, u, hs', hu, hI⟩ := hs.row hn
  exact s_ix hT hE hd hx hi hs' hu fun pv => h pv u hI

/-- The address of an array's element. -/
theorem s_iaV {b L : Nat} {k : IntKind} {n : Nat} (hT : P.underlying T = some (.array L E)) (hE : Ty1 P E) (hx : ev N σ x = .pointer (some ⟨b, 0, none⟩)) (hi : ev N σ i = .int k (n : Int)) (hn : n < L)
    (h : WL r P ops Q rest (mk N (upd σ d (.pointer (some ⟨b, n, none⟩))) ds) w) : WL r P ops Q (⟨some d, .indexAddr T x i, ty, pos, after, none⟩ :: rest) (mk N σ ds) w := by
  refine l_val (v := .pointer (some ⟨b, n, none⟩)) (by intro c e; cases e) ?_ h
  simp [execOp, hx, hi, Instr.indexAt, Instr.sureAddr, asIntOf, run_underlying hT, hn, run_sizeOf1 hE, go_sem]
theorem s_ldA {b n : Nat} {B : TypeId} {cs : List Value} {u : Value} (hE : Ty1 P E) (hx : ev N σ x = .pointer (some ⟨b, n, none⟩)) (hA : At w b B cs) (hc : cs[n]? = some u) (h : WL r P ops Q rest (mk N (upd σ d u) ds) w) :
    WL r P ops Q (⟨some d, .load E x, ty, pos, after, none⟩ :: rest) (mk N σ ds) w := s_ld hE hx (by rw [hA.cell]; exact hc) h
theorem set_heap {w : World} {b n : Nat} {B : TypeId} {cs : List Value} (u : Value) (hA : At w b B cs) : At (w.setCell ⟨b, n, none⟩ u) b B (cs.set n u) := by
  unfold At
  rw [heap_setCell_same w b n cs.toArray B u hA]
  simp
theorem grown_setCell (w : World) (a : Addr) (u : Value) : w.grownBy (w.setCell a u) (some a.block) :=
  ⟨rfl, rfl, rfl, by simp [World.setCell], fun k _ hne => heap_setCell_other w a k u (fun e => hne (by rw [e]))⟩
theorem s_stA {b n : Nat} {B : TypeId} {cs : List Value} {u : Value} (hE : Ty1 P E) (hx : ev N σ x = .pointer (some ⟨b, n, none⟩)) (hy : ev N σ y = u) (hu : u.oneCell' = true) (hA : At w b B cs) (hn : n < cs.length)
    (h : ∀ w', At w' b B (cs.set n u) → w.grownBy w' (some b) → WL r P ops Q rest (mk N σ ds) w') :
    WL r P ops Q (⟨none, .store E x y, ty, pos, after, none⟩ :: rest) (mk N σ ds) w := by
  have hc : w.cell? ⟨b, n, none⟩ = some cs[n] := by rw [hA.cell]; simp [hn]
  refine l_eff (w' := w.setCell ⟨b, n, none⟩ u) (by intro c e; cases e) ?_ (h _ (set_heap u hA) (grown_setCell w ⟨b, n, none⟩ u))
  simp [execOp, hx, hy, Instr.storeAt, Instr.sureAddr, run_storeVar1 hE hu hc (frozen_of_row w b n cs.toArray B hA)]

theorem at_new (w : World) (cs : List Value) (E : TypeId) : At (w.alloc (.cells cs.toArray E)) w.heap.size E cs := heap_alloc_new w _
theorem size_new (w : World) (o : Obj) : (w.alloc o).heap.size = w.heap.size + 1 := by simp
/-- A new variable with its zero value. -/
theorem s_alloc {ti : TypeInfo} {z : Value} {cs : List Value} (hi : P.info? E = some ti) (hz : ti.zero = some z) (hcs : z.cells = cs.toArray)
    (h : ∀ b w', b = w.heap.size → At w' b E cs → Ex w w' → w'.heap.size = b + 1 → WL r P ops Q rest (mk N (upd σ d (.pointer (some ⟨b, 0, none⟩))) ds) w') :
    WL r P ops Q (⟨some d, .alloc E, ty, pos, after, none⟩ :: rest) (mk N σ ds) w := by
  refine l_val (v := .pointer (some ⟨w.heap.size, 0, none⟩)) (w' := w.alloc (.cells cs.toArray E)) (by intro c e; cases e) ?_ (h _ _ rfl (at_new w cs E) (Ex.alloc w _) (size_new w _))
  simp [execOp, Instr.alloc, zeroValue, typeInfo, hi, hz, newVar, newRow, hcs]
theorem s_box {v : Value} {cs : List Value} (hx : ev N σ x = v) (hcs : v.cells = cs.toArray)
    (h : ∀ b w', b = w.heap.size → At w' b E cs → Ex w w' → w'.heap.size = b + 1 → WL r P ops Q rest (mk N (upd σ d (.pointer (some ⟨b, 0, none⟩))) ds) w') :
    WL r P ops Q (⟨some d, .box E x, ty, pos, after, none⟩ :: rest) (mk N σ ds) w := by
  refine l_val (v := .pointer (some ⟨w.heap.size, 0, none⟩)) (w' := w.alloc (.cells cs.toArray E)) (by intro c e; cases e) ?_ (h _ _ rfl (at_new w cs E) (Ex.alloc w _) (size_new w _))
  simp [execOp, hx, Instr.box, newVar, newRow, hcs]
theorem s_mkfn {f : FuncId} {caps : List Operand} {vs : List Value} (hc : caps.map (ev N σ) = vs) (h : WL r P ops Q rest (mk N (upd σ d (.func (.func f) #[] vs.toArray)) ds) w) :
    WL r P ops Q (⟨some d, .makeFunc (.func f) #[] caps.toArray, ty, pos, after, none⟩ :: rest) (mk N σ ds) w :=
  l_val (by intro c e; cases e) (by subst hc; simp [execOp, Instr.makeFunc]) h
/-- make([]T, n). -/
theorem s_make {ti : TypeInfo} {z : Value} {n : Nat} (hT : SlT P T E) (hi : P.info? E = some ti) (hz : ti.zero = some z) (hs : ti.size = 1) (hzc : z.cells = #[z]) (hb : ti.bytes ≤ 64) (hx : ev N σ x = .int .i64 (n : Int)) (hn : n ≤ 1000000)
    (h : ∀ b w', b = w.heap.size → At w' b E (List.replicate n z) → Ex w w' → w'.heap.size = b + 1 → WL r P ops Q rest (mk N (upd σ d (.slice (some ⟨b, 0, none⟩) n n)) ds) w') :
    WL r P ops Q (⟨some d, .makeSlice T x x, ty, pos, after, none⟩ :: rest) (mk N σ ds) w := by
  have hbytes : (ti.bytes : Int) * (n : Int) ≤ 281474976710656 := by
    have h1 : ti.bytes * n ≤ 64 * 1000000 := Nat.mul_le_mul hb hn
    have h2 : ((ti.bytes * n : Nat) : Int) ≤ 64000000 := by omega
    rw [Int.natCast_mul] at h2; omega
  have hr := run_make (P := P) w T E ti z hT hi hz .i64 .i64 n n (by omega) (by omega) hbytes (by omega)
  have hm : madeCells z.cells ((n : Int).toNat * ti.size) = (List.replicate n z).toArray := by
    rw [hs, hzc]; simp [madeCells]
    apply Array.ext
    · simp
    · intro j h1 h2; simp [Nat.mod_one]
  rw [hm] at hr
  simp only [Int.toNat_natCast] at hr
  refine l_val (w' := w.alloc (.cells (List.replicate n z).toArray E)) (by intro c e; cases e) ?_ (h _ _ rfl (at_new w _ E) (Ex.alloc w _) (size_new w _))
  simp [execOp, hx, hr]
end ops
end Go.Proofs.YtkhnohnkcdcajaaDoor.Sal
