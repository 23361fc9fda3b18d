/- Core5: append, slices of slices, arrays, literals of slices. -/
import Derived.Test.YtkhnohnkcdcajaaDoorCore4
import Derived.Deep.Upon
set_option maxRecDepth 100000
namespace Go.Proofs.YtkhnohnkcdcajaaDoor.Sal
set_option linter.all false
open Go.RowKit

/-- A slice of the call's own, to which more may be put. -/
def Rw (w : World) (E : TypeId) (v : Value) (vs : List Value) : Prop := w.ownsRow 0 E 1 v vs.length vs
theorem Rw.nil (w : World) (E : TypeId) : Rw w E (.slice none 0 0) [] := World.ownsRow_nil w 0 E 1
theorem Rw.form {w : World} {E : TypeId} {v : Value} {vs : List Value} (h : Rw w E v vs) : (v = .slice none 0 0 ∧ vs = []) ∨ ∃ b cap sp, v = .slice (some ⟨b, 0, none⟩) vs.length cap ∧ At w b E (vs ++ sp) ∧ vs.length ≤ cap := by
  obtain ⟨h1, h2⟩ := h
  rcases h2 with ⟨hv, hn⟩ | ⟨g, cap, cur, hv, _, hh, hc, _, hcs, ht⟩
  · exact .inl ⟨hv, List.eq_nil_of_length_eq_zero hn⟩
  · refine .inr ⟨g, cap, cur.toList.drop vs.length, hv, ?_, hc⟩
    unfold At
    rw [hh]
    rw [Nat.mul_one] at ht
    have : vs ++ cur.toList.drop vs.length = cur.toList := by
      conv => lhs; lhs; rw [← ht]
      exact List.take_append_drop _ _
    rw [this]
theorem Rw.slen {w : World} {E : TypeId} {v : Value} {vs : List Value} (h : Rw w E v vs) : ∃ a c, v = .slice a vs.length c := by
  rcases h.form with ⟨hv, rfl⟩ | ⟨b, cap, sp, hv, _⟩
  · exact ⟨none, 0, hv⟩
  · exact ⟨_, _, hv⟩
theorem Rw.sl {w : World} {E : TypeId} {v : Value} {vs : List Value} (h : Rw w E v vs) (hm : vs.length ≤ 140737488355328) : Sl w v vs := by
  rcases h.form with ⟨rfl, rfl⟩ | ⟨b, cap, sp, rfl, hA, hc⟩
  · exact Sl.nil w
  · have := hA.sl (n := vs.length) (c := cap) (by simp) hm hc
    rwa [List.take_left] at this
theorem Rw.ints {w : World} {E : TypeId} {v : Value} {l : List Int} (h : Rw w E v (l.map (Value.int .i64))) (hm : l.length ≤ 140737488355328) : Ints w v l := Rw.sl h (by simpa using hm)
theorem Rw.kept {w w' : World} {E : TypeId} {v : Value} {vs : List Value} {o : Option Nat} (h : Rw w E v vs) (hg : w.grownBy w' o) (hne : v.ownBlock = none ∨ v.ownBlock ≠ o) : Rw w' E v vs := World.ownsRow.kept h hg hne
theorem Rw.ex {w w' : World} {E : TypeId} {v : Value} {vs : List Value} (h : Rw w E v vs) (hx : Ex w w') : Rw w' E v vs := h.kept hx.grown (by cases hv : v.ownBlock <;> simp)
theorem Rw.lt {w : World} {E : TypeId} {v : Value} {vs : List Value} (h : Rw w E v vs) : ∀ k, v.ownBlock = some k → k < w.heap.size := fun k hk => (World.ownsRow.lt h k hk).2
theorem At.rw {w : World} {b : Nat} {E : TypeId} {cs : List Value} {n c : Nat} (h : At w b E cs) (hl : cs.length = c) (hn : n ≤ c) (hc : c ≤ 9223372036854775807) : Rw w E (.slice (some ⟨b, 0, none⟩) n c) (cs.take n) := by
  have hl' : (cs.take n).length = n := by simp; omega
  unfold Rw
  rw [hl']
  exact ⟨by simp; omega, .inr ⟨b, c, cs.toArray, rfl, Nat.zero_le _, h, hn, by simp [maxLen]; omega, by simp [hl], by simp⟩⟩
theorem ownBlock_slice (b o n c : Nat) : (Value.slice (some ⟨b, o, none⟩) n c).ownBlock = some b := rfl

section shapes
variable {r : Option Nat} {P : Program} {ops : Array Oper} {Q : Exit → Act → World → Prop} {a : Act} {w : World} {rest : List Oper} {o : Oper} {c : Code}
theorem isC (h : CW r P c Q a w) : CW r P c Q a w := h
theorem isO (h : WL r P ops Q (o :: rest) a w) : WL r P ops Q (o :: rest) a w := h
theorem isG {d : Option Tmp} {op : Op} {ty : TypeId} {pos : String} {after : Array Edge} {j : Nat} {b : Bool} (h : WL r P ops Q (⟨d, op, ty, pos, after, some (j, b)⟩ :: rest) a w) : WL r P ops Q (⟨d, op, ty, pos, after, some (j, b)⟩ :: rest) a w := h
theorem isBin {d : Option Tmp} {op : BinOp} {x y : Operand} {t t' ty : TypeId} {pos : String} {after : Array Edge} (h : WL r P ops Q (⟨d, .binOp op t x y t', ty, pos, after, none⟩ :: rest) a w) : WL r P ops Q (⟨d, .binOp op t x y t', ty, pos, after, none⟩ :: rest) a w := h
theorem isCall {d : Option Tmp} {cl : Call} {ty : TypeId} {pos : String} {after : Array Edge} (h : WL r P ops Q (⟨d, .call cl, ty, pos, after, none⟩ :: rest) a w) : WL r P ops Q (⟨d, .call cl, ty, pos, after, none⟩ :: rest) a w := h
theorem isIA {d : Option Tmp} {x y : Operand} {t ty : TypeId} {pos : String} {after : Array Edge} (h : WL r P ops Q (⟨d, .indexAddr t x y, ty, pos, after, none⟩ :: rest) a w) : WL r P ops Q (⟨d, .indexAddr t x y, ty, pos, after, none⟩ :: rest) a w := h
theorem isPick {d : Option Tmp} {x y z : Operand} {ty : TypeId} {pos : String} {after : Array Edge} (h : WL r P ops Q (⟨d, .pick x y z, ty, pos, after, none⟩ :: rest) a w) : WL r P ops Q (⟨d, .pick x y z, ty, pos, after, none⟩ :: rest) a w := h
theorem isLD {d : Option Tmp} {x : Operand} {t ty : TypeId} {pos : String} {after : Array Edge} (h : WL r P ops Q (⟨d, .load t x, ty, pos, after, none⟩ :: rest) a w) : WL r P ops Q (⟨d, .load t x, ty, pos, after, none⟩ :: rest) a w := h
/-- A region and what follows it, in one step. -/
theorem c_sr {id : Nat} {l : List Oper} {y : Code} (h : WL r P l.toArray (Exit.then (CW r P y Q) Q) l a w) : CW r P (.seq (.region id l.toArray false) y) Q a w := c_seq (c_region h)
theorem l_th {K : Act → World → Prop} (h : K a w) : WL r P ops (Exit.then K Q) [] a w := h
theorem c_th {K : Act → World → Prop} (h : K a w) : CW r P .skip (Exit.then K Q) a w := c_skip h
end shapes
section runs
variable {P : Program} {w : World}
theorem Sl.src {tx e' : TypeId} {xv : Value} {news : List Value} (hk : P.underlying tx = some (.slice e')) (h : Sl w xv news) (h1 : ∀ u ∈ news, u.oneCell' = true) : Src P 1 tx xv news.length news w := by
  obtain ⟨_, a, n, c, rfl, hn, hnc, hc⟩ := h
  subst hn
  cases a with
  | none =>
    have : news = [] := by
      cases news with
      | nil => rfl
      | cons u l => obtain ⟨ad, h, _⟩ := hc 0 u rfl; cases h
    subst this
    exact Src.ofNil w hk c
  | some ad =>
    refine Src.ofSlice w hk ad news.length c news (by simp) (fun j u hj => ?_) h1
    obtain ⟨ad', h, hcell⟩ := hc j u hj
    cases h; exact hcell
/-- append(s, x...): s a row of the call's own, x whatever reads as a list. -/
theorem run_app {T E : TypeId} {ti : TypeInfo} {z v xv : Value} {vs news : List Value} {ty : TypeId} (hT : SlT P T E) (hi : P.info? E = some ti) (hz : ti.zero = some z) (hs : ti.size = 1) (hzc : z.cells = #[z]) (hb : ti.bytes ≤ 64)
    (hv : Rw w E v vs) (hx : Sl w xv news) (h1 : ∀ u ∈ news, u.oneCell' = true) (hbytes : (vs.length + news.length) * 64 ≤ 140737488355328) :
    ∃ v' w', (Builtin.append_ #[T, T] ty #[v, xv]).run P w = .ok v' w' ∧ Rw w' E v' (vs ++ news) ∧ w.grownBy w' v.ownBlock ∧ (v'.ownBlock = v.ownBlock ∨ ∀ b, v'.ownBlock = some b → w.heap.size ≤ b) := by
  have hT' : P.underlying T = some (.slice E) := hT
  have hsrc := hx.src (P := P) (tx := T) hT' h1
  have hsrc' : Src P ti.size T xv news.length news w := by rw [hs]; exact hsrc
  have hm : vs.length + news.length ≤ 140737488355328 := by omega
  have hbytes' : (vs.length + news.length) * ti.bytes ≤ 140737488355328 := Nat.le_trans (Nat.mul_le_mul_left _ hb) hbytes
  by_cases hn0 : news = []
  · subst hn0
    obtain ⟨a, c, hvf⟩ := hv.slen
    have hle : vs.length ≤ c := by
      rcases hv.form with ⟨h, rfl⟩ | ⟨b, cap, sp, h, _, hc⟩
      · rw [hvf] at h; cases h; simp
      · rw [hvf] at h; cases h; exact hc
    refine ⟨v, w, ?_, by simpa using hv, ⟨rfl, rfl, rfl, Nat.le_refl _, fun _ _ _ => rfl⟩, .inl rfl⟩
    rw [hvf]
    exact run_append_nothing w T T ty E ti hT' hi a vs.length c hle xv hsrc'
  · have hnp : 0 < news.length := List.length_pos_iff.2 hn0
    have grow : ∀ (base : Option Addr) (cap : Nat), v = .slice base vs.length cap → (Builtin.firstCells ti.size vs.length (.slice base vs.length cap)).run P w.drew = .ok vs.toArray w.drew → cap < vs.length + news.length →
        ∃ v' w', (Builtin.append_ #[T, T] ty #[v, xv]).run P w = .ok v' w' ∧ Rw w' E v' (vs ++ news) ∧ w.grownBy w' v.ownBlock ∧ (v'.ownBlock = v.ownBlock ∨ ∀ b, v'.ownBlock = some b → w.heap.size ≤ b) := by
      intro base cap hvf hold hcap
      have hr := run_append_grow_src (P := P) w T T ty E ti z hT' hi hz base vs.length cap vs hold xv news.length news hsrc' hcap (by omega) (growslice_fits hcap hbytes')
      have hge := grownCap_ge w (vs.length + news.length) cap E
      have hcm := grownCap_le_maxLen w (vs.length + news.length) cap E (by simp only [maxLen]; omega)
      rw [← hvf] at hr
      have hgr : ∀ o, w.grownBy (w.drew.alloc o) v.ownBlock := fun o => ⟨rfl, rfl, rfl, by simp, fun k hk _ => heap_alloc_old w.drew o hk⟩
      have hown : ∀ (cs : Array Value), cs.size = grownCap w (vs.length + news.length) cap E → cs.toList.take (vs ++ news).length = vs ++ news →
          Rw (w.drew.alloc (.cells cs E)) E (.slice (some ⟨w.heap.size, 0, none⟩) (vs.length + news.length) (grownCap w (vs.length + news.length) cap E)) (vs ++ news) := fun cs hcs ht => by
        unfold Rw
        rw [List.length_append]
        exact ⟨by simp, .inr ⟨w.heap.size, _, cs, rfl, Nat.zero_le _, heap_alloc_new w.drew _, hge, hcm, by rw [hcs, Nat.mul_one], by rw [Nat.mul_one, ← List.length_append]; exact ht⟩⟩
      refine ⟨_, _, hr, hown _ ?_ ?_, hgr _, .inr fun b hb => ?_⟩
      · simp [size_zeroCells, hzc]; omega
      · simp
        rw [← List.length_append, ← List.append_assoc, List.take_left]
      · rw [ownBlock_slice] at hb; cases hb; exact Nat.le_refl _
    rcases hv.form with ⟨hvf, hvs⟩ | ⟨b, cap, sp, hvf, hA, hc⟩
    · subst hvs
      exact grow none 0 hvf (by simp [Builtin.firstCells]) (by simp; omega)
    · by_cases hroom : vs.length + news.length ≤ cap
      · have hown := hv
        unfold Rw at hown
        rw [hvf] at hown
        obtain ⟨_, a, n, c, rfl, hn, hnc, hcell⟩ := hx
        cases a with
        | none =>
          exfalso
          cases news with
          | nil => exact hn0 rfl
          | cons u l => obtain ⟨ad, h, _⟩ := hcell 0 u rfl; cases h
        | some ad =>
          subst hn
          have hnews : ∀ (j : Nat) (u : Value), news[j]? = some u → w.cell? (ad.add j) = some u := fun j u hj => by
            obtain ⟨ad', h, hc'⟩ := hcell j u hj; cases h; exact hc'
          obtain ⟨w', hrun, hown', hg⟩ := run_append_fits (P := P) w 0 T ty E ti 1 hT' hi hs b vs.length cap vs hown ad news.length c news (by simp) hnews h1 hroom
          subst hvf
          exact ⟨_, _, hrun, by unfold Rw; rw [List.length_append]; exact hown', hg, .inl rfl⟩
      · refine grow (some ⟨b, 0, none⟩) cap hvf ?_ (by omega)
        refine run_firstCells_some w.drew ti.size vs.length ⟨b, 0, none⟩ vs.length cap vs (by rw [hs]; simp) (fun j u hj => ?_)
        have : w.cell? ⟨b, j, none⟩ = some u := by
          rw [hA.cell, List.getElem?_append_left (List.getElem?_eq_some_iff.1 hj).1]; exact hj
        rw [add_at, Nat.zero_add]
        exact this
/-- What slicing a slice gives. -/
theorem run_slice {T E : TypeId} {a : Option Addr} {n c lo hi : Nat} (hT : SlT P T E) (hE : Ty1 P E) (h1 : lo ≤ hi) (h2 : hi ≤ c) (l h : Option Value)
    (hl : (∃ k, l = some (.int k (lo : Int))) ∨ (l = none ∧ lo = 0)) (hh : (∃ k, h = some (.int k (hi : Int))) ∨ (h = none ∧ hi = n)) :
    (Instr.sliceAt T (.slice a n c) l h none).run P w = .ok (.slice (if c = lo then a else a.map (·.add lo)) (hi - lo) (c - lo)) w := by
  have hT' : P.underlying T = some (.slice E) := hT
  have b1 : ∀ (k : IntKind) (x y : Nat) (code : BoundsCode), x ≤ y → (Instr.sliceBound (.int k (x : Int)) y code).run P w = .ok x w := fun k x y code hxy => by
    simp [Instr.sliceBound, asIntOf, go_sem]; omega
  have bds : (Instr.sliceBounds true n c l h none).run P w = .ok (lo, hi, c) w := by
    rcases hl with ⟨k, rfl⟩ | ⟨rfl, rfl⟩ <;> rcases hh with ⟨k', rfl⟩ | ⟨rfl, rfl⟩ <;>
      simp [Instr.sliceBounds, Sem.run_bind, b1 _ _ _ _ h1, b1 _ _ _ _ h2, Result.andThen]
  simp [Instr.sliceAt, Instr.slice, run_underlying hT', bds, run_sizeOf1 hE, Sem.run_bind]
theorem Sl.slice {a : Option Addr} {n c lo hi : Nat} {vs : List Value} (h : Sl w (.slice a n c) vs) (h1 : lo ≤ hi) (h2 : hi ≤ n) : Sl w (.slice (if c = lo then a else a.map (·.add lo)) (hi - lo) (c - lo)) ((vs.drop lo).take (hi - lo)) := by
  obtain ⟨hm, a', n', c', hv, hn, hnc, hc⟩ := h
  cases hv
  refine ⟨by simp; omega, _, _, _, rfl, by simp; omega, by omega, fun i u hi' => ?_⟩
  rw [List.getElem?_take] at hi'
  split at hi'
  · rename_i hlt
    rw [List.getElem?_drop] at hi'
    obtain ⟨ad, rfl, hcell⟩ := hc (lo + i) u hi'
    have hne : ¬ c = lo := by omega
    refine ⟨ad.add lo, by simp [hne], ?_⟩
    have e : (ad.add lo).add i = ad.add (lo + i) := by
      unfold Addr.add
      by_cases h0 : lo = 0
      · simp [h0]
      · by_cases h3 : i = 0
        · simp [h0, h3]
        · simp [h0, h3, Nat.add_assoc]
    rw [e]; exact hcell
  · cases hi'
end runs

section ops
variable {r : Option Nat} {P : Program} {ops : Array Oper} {Q : Exit → Act → World → Prop} {N : Nat} {σ : Nat → Value} {ds : List Deferred} {w : World} {rest : List Oper}
variable {d d1 d2 : Nat} {ty ty2 : TypeId} {pos pos2 : String} {after after2 : Array Edge} {T E T' : TypeId} {x i y : Operand}
structure InfoOf (P : Program) (E : TypeId) (z : Value) : Prop where
  ex : ∃ ti, P.info? E = some ti ∧ ti.zero = some z ∧ ti.size = 1 ∧ ti.bytes ≤ 64
  one : z.cells = #[z]
theorem s_app {z v xv : Value} {vs news : List Value} (hT : SlT P T E) (hi : InfoOf P E z) (hR : Rw w E v vs) (hS : Sl w xv news) (hv : ev N σ x = v) (hxv : ev N σ y = xv) (h1 : ∀ u ∈ news, u.oneCell' = true) (hbytes : (vs.length + news.length) * 64 ≤ 140737488355328)
    (h : ∀ v' w', Rw w' E v' (vs ++ news) → w.grownBy w' v.ownBlock → (v'.ownBlock = v.ownBlock ∨ ∀ b, v'.ownBlock = some b → w.heap.size ≤ b) → WL r P ops Q rest (mk N (upd σ d v') ds) w') :
    WL r P ops Q (⟨some d, .call { callee := .builtin .append, args := #[x, y], argTypes := #[T, T] }, ty, pos, after, none⟩ :: rest) (mk N σ ds) w := by
  obtain ⟨ti, h1i, h2i, h3i, h4i⟩ := hi.ex
  obtain ⟨v', w', hr, a1, a2, a3⟩ := run_app (ty := ty) hT h1i h2i h3i hi.one h4i hR hS h1 hbytes
  refine l_val (by intro c e; cases e) ?_ (h v' w' a1 a2 a3)
  simp [execOp, resolve, invoke, builtin, hv, hxv, hr, Result.andThen]
/-- The head of a row of the call's own. -/
theorem s_head {b n c hi : Nat} {h : Operand} {k : IntKind} (hT : SlT P T E) (hE : Ty1 P E) (hx : ev N σ x = .slice (some ⟨b, 0, none⟩) n c) (hh : ev N σ h = .int k (hi : Int)) (hc : hi ≤ c)
    (hK : WL r P ops Q rest (mk N (upd σ d (.slice (some ⟨b, 0, none⟩) hi c)) ds) w) : WL r P ops Q (⟨some d, .slice T x none (some h) none, ty, pos, after, none⟩ :: rest) (mk N σ ds) w := by
  refine l_val (v := .slice (some ⟨b, 0, none⟩) hi c) (by intro c e; cases e) ?_ hK
  have := run_slice (P := P) (w := w) (a := some ⟨b, 0, none⟩) (n := n) hT hE (Nat.zero_le hi) hc none (some (.int k (hi : Int))) (.inr ⟨rfl, rfl⟩) (.inl ⟨k, rfl⟩)
  simp [execOp, hx, hh, this, Addr.add_zero']
theorem s_bs1 {u : Value} {z : Value} {op1 : Operand} (hT : SlT P T E) (hi : InfoOf P E z) (h1 : ev N σ op1 = u) (hu : u.oneCell' = true)
    (h : ∀ b w', b = w.heap.size → At w' b E [u] → Ex w w' → w'.heap.size = b + 1 → WL r P ops Q rest (mk N (upd σ d (.slice (some ⟨b, 0, none⟩) 1 1)) ds) w') :
    WL r P ops Q (⟨some d, .buildSlice T 1 #[(0, op1)], ty, pos, after, none⟩ :: rest) (mk N σ ds) w := by
  obtain ⟨ti, h1i, h2i, h3i, h4i⟩ := hi.ex
  have hT' : P.underlying T = some (.slice E) := hT
  have hcu : u.cells = #[u] := by cases u <;> first | rfl | (simp [Value.oneCell'] at hu)
  refine l_val (v := .slice (some ⟨w.heap.size, 0, none⟩) 1 1) (w' := w.alloc (.cells [u].toArray E)) (by intro c e; cases e) ?_ (h _ _ rfl (at_new w _ E) (Ex.alloc w _) (size_new w _))
  simp [execOp, Instr.buildSlice, run_underlying hT', sizeOf, typeInfo, h1i, h2i, h3i, zeroValue, Instr.fill, h1, hcu, newRow, hi.one, Array.range_succ, Array.range_zero']
/-! ### Whole arrays and structs -/
theorem s_ldV {b : Nat} {B : TypeId} {cs : List Value} {dd : TypeDesc} (hu : P.underlying E = some dd) (hd : (match dd with | .struct _ | .array _ _ => true | _ => false) = true) (hi : (P.info? E).map (·.size) = some cs.length)
    (hx : ev N σ x = .pointer (some ⟨b, 0, none⟩)) (hA : At w b B cs) (h : WL r P ops Q rest (mk N (upd σ d (.agg cs.toArray)) ds) w) :
    WL r P ops Q (⟨some d, .load E x, ty, pos, after, none⟩ :: rest) (mk N σ ds) w :=
  l_val (by intro c e; cases e) (by
    simp [execOp, hx, Instr.loadAt, Instr.sureAddr, run_loadVar_row (P := P) w b B E cs.toArray (0, 0) dd hA hu hd (by simpa using hi)]) h
theorem s_stV {b : Nat} {B : TypeId} {cs old : List Value} (hi : (P.info? E).map (·.size) = some cs.length) (hx : ev N σ x = .pointer (some ⟨b, 0, none⟩)) (hy : ev N σ y = .agg cs.toArray) (hA : At w b B old) (hl : old.length = cs.length) (h1 : cs.all (·.oneCell') = true)
    (h : ∀ w', At w' b B cs → w.grownBy w' (some b) → w'.heap.size = w.heap.size → WL r P ops Q rest (mk N σ ds) w') :
    WL r P ops Q (⟨none, .store E x y, ty, pos, after, none⟩ :: rest) (mk N σ ds) w := by
  have hr := run_storeVar_row (P := P) w b B E old.toArray cs.toArray hA (by simpa using hi) (by simpa using hl) (by simpa using h1)
  refine l_eff (w' := w.setRow b cs.toArray) (by intro c e; cases e) ?_ (h _ ?_ ⟨rfl, rfl, rfl, by simp, fun k hk hne => setRow_other w b k cs.toArray (fun e => hne (by rw [e]))⟩ (by simp))
  · simp [execOp, hx, hy, Instr.storeAt, Instr.sureAddr, hr]
  · exact setRow_heap w b old.toArray cs.toArray B (0, 0) hA
theorem s_fa {b o : Nat} {fs : Array Field} {f : Nat} {fl : Field} (hT : P.underlying T = some (.struct fs)) (hf : fs[f]? = some fl) (hE : Ty1 P fl.type) (hx : ev N σ x = .pointer (some ⟨b, o, none⟩))
    (h : WL r P ops Q rest (mk N (upd σ d (.pointer (some ⟨b, o + fl.offset, none⟩))) ds) w) : WL r P ops Q (⟨some d, .fieldAddr T x f, ty, pos, after, none⟩ :: rest) (mk N σ ds) w := by
  refine l_val (v := .pointer (some ⟨b, o + fl.offset, none⟩)) (by intro c e; cases e) ?_ h
  simp [execOp, hx, Instr.fieldAt, run_underlying hT, hf, Instr.sureAddr, fieldPlace, run_sizeOf1 hE, add_at]
end ops
end Go.Proofs.YtkhnohnkcdcajaaDoor.Sal
