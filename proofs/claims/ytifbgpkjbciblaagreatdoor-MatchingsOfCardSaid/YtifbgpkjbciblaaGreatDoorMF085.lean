/- Texts that YtifbgpkjbciblaaGreatDoorF08 leans on, laid together: Core17 Core18 BK1 BK2 BK3 BK4. -/
import Derived.Test.YtifbgpkjbciblaaGreatDoorMF082
import Derived.Test.YtifbgpkjbciblaaGreatDoorMF083
import Derived.Deep.MidRow
/- Core17: slices of a call's own with room, of elements of any size. -/
set_option maxRecDepth 100000
namespace Go.Proofs.YtifbgpkjbciblaaGreatDoor.Sal
set_option linter.all false
open Go.RowKit
/-- A slice over a block of the call's own: what it holds; room up to its capacity, perhaps more behind. -/
def Wd (w : World) (E : TypeId) (s : Nat) (v : Value) (n : Nat) (xs : List Value) : Prop :=
  xs.length = n * s ∧ ((v = .slice none 0 0 ∧ n = 0) ∨ ∃ b c sp, v = .slice (some ⟨b, 0, none⟩) n c ∧ At w b E (xs ++ sp) ∧ n ≤ c ∧ c ≤ 9223372036854775807 ∧ c * s ≤ (xs ++ sp).length)
theorem Wd.nil (w : World) (E : TypeId) (s : Nat) : Wd w E s (.slice none 0 0) 0 [] := ⟨by simp, .inl ⟨rfl, rfl⟩⟩
theorem Wd.kept {w w' : World} {E : TypeId} {s n : Nat} {v : Value} {xs : List Value} (h : Wd w E s v n xs) (hk : ∀ b, v.ownBlock = some b → b < w.heap.size → w'.heap[b]? = w.heap[b]?) : Wd w' E s v n xs := by
  obtain ⟨h1, h2⟩ := h
  rcases h2 with h2 | ⟨b, c, sp, hv, hA, h3⟩
  · exact ⟨h1, .inl h2⟩
  · exact ⟨h1, .inr ⟨b, c, sp, hv, (hk b (by rw [hv]; rfl) hA.lt).trans hA, h3⟩⟩
theorem Wd.ex {w w' : World} {E : TypeId} {s n : Nat} {v : Value} {xs : List Value} (h : Wd w E s v n xs) (hx : Ex w w') : Wd w' E s v n xs := h.kept fun b _ hb => hx.block b hb
theorem Wd.grown {w w' : World} {E : TypeId} {s n : Nat} {v : Value} {xs : List Value} {o : Option Nat} (h : Wd w E s v n xs) (hg : w.grownBy w' o) (hne : ∀ b, v.ownBlock = some b → o ≠ some b) : Wd w' E s v n xs := h.kept fun b hb hl => hg.block b hl (fun e => hne b hb e.symm)
theorem Wd.lt {w : World} {E : TypeId} {s n : Nat} {v : Value} {xs : List Value} (h : Wd w E s v n xs) : ∀ b, v.ownBlock = some b → b < w.heap.size := fun b hb => by
  rcases h.2 with ⟨rfl, _⟩ | ⟨b', c, sp, rfl, hA, _⟩
  · cases hb
  · cases hb; exact hA.lt
theorem Wd.slen {w : World} {E : TypeId} {s n : Nat} {v : Value} {xs : List Value} (h : Wd w E s v n xs) : ∃ a c, v = .slice a n c := by
  rcases h.2 with ⟨rfl, rfl⟩ | ⟨b', c, sp, rfl, hA, _⟩
  · exact ⟨_, _, rfl⟩
  · exact ⟨_, _, rfl⟩
theorem Wd.one {w : World} {E : TypeId} {s n : Nat} {v : Value} {xs : List Value} (h : Wd w E s v n xs) : v.oneCell' = true := by
  obtain ⟨a, c, rfl⟩ := h.slen; rfl
theorem Wd.pos {w : World} {E : TypeId} {s n : Nat} {v : Value} {xs : List Value} (h : Wd w E s v n xs) (hn : 0 < n) : ∃ b c sp, v = .slice (some ⟨b, 0, none⟩) n c ∧ At w b E (xs ++ sp) ∧ n ≤ c ∧ c ≤ 9223372036854775807 ∧ c * s ≤ (xs ++ sp).length := by
  rcases h.2 with ⟨_, h0⟩ | h2
  · omega
  · exact h2
theorem Wd.sl {w : World} {E : TypeId} {n : Nat} {v : Value} {xs : List Value} (h : Wd w E 1 v n xs) (hm : n ≤ 140737488355328) : Sl w v xs := by
  obtain ⟨h1, h2⟩ := h
  rw [Nat.mul_one] at h1
  rcases h2 with ⟨rfl, rfl⟩ | ⟨b, c, sp, rfl, hA, hc, _⟩
  · have : xs = [] := List.eq_nil_of_length_eq_zero h1
    subst this; exact Sl.nil w
  · have := hA.sl (n := n) (c := c) (by simp; omega) hm hc
    rwa [List.take_left' h1] at this
/-- The head of one. -/
theorem Wd.head {w : World} {E : TypeId} {n k c : Nat} {a : Option Addr} {ys : List Value} (h : Wd w E 1 (.slice a (n + k) c) (n + k) ys) : Wd w E 1 (.slice a n c) n (ys.take n) := by
  obtain ⟨h1, h2⟩ := h
  refine ⟨by rw [List.length_take, h1]; omega, ?_⟩
  rcases h2 with ⟨h3, h4⟩ | ⟨b, c', sp, h3, hA, h4, h5, h6⟩
  · left
    have e : n = 0 := by omega
    have e2 : k = 0 := by omega
    subst e; subst e2
    exact ⟨h3, rfl⟩
  · right
    cases h3
    refine ⟨b, c, ys.drop n ++ sp, rfl, ?_, by omega, h5, ?_⟩
    · rw [← List.append_assoc, List.take_append_drop]; exact hA
    · simp only [List.length_append, List.length_take, List.length_drop] at h6 ⊢; omega
/-- Another cell. -/
theorem Wd.set {w w' : World} {E : TypeId} {s n k : Nat} {b c : Nat} {xs sp : List Value} {u : Value} (h1 : xs.length = n * s) (hk : k < xs.length) (hA : At w' b E ((xs ++ sp).set k u)) (hc : n ≤ c) (hm : c ≤ 9223372036854775807) (hs : c * s ≤ (xs ++ sp).length) : Wd w' E s (.slice (some ⟨b, 0, none⟩) n c) n (xs.set k u) := by
  refine ⟨by rw [List.length_set]; exact h1, .inr ⟨b, c, sp, rfl, ?_, hc, hm, by simpa using hs⟩⟩
  rw [List.set_append_left _ _ hk] at hA
  exact hA
section runs
variable {P : Program} {w : World}
/-- append(s, x...) to a slice of the call's own. -/
theorem run_appW {T E : TypeId} {ti : TypeInfo} {z v xv : Value} {n m s : Nat} {xs news : List Value} {ty : TypeId} (hT : SlT P T E) (hi : P.info? E = some ti) (hz : ti.zero = some z) (hs : ti.size = s) (hzc : z.cells.size = s) (hs1 : 0 < s)
    (hv : Wd w E s v n xs) (hx : ∃ b c, xv = .slice (some ⟨b, 0, none⟩) m c ∧ ∃ sp, At w b E (news ++ sp)) (hl : news.length = m * s) (hm0 : 0 < m) (h1 : ∀ u ∈ news, u.oneCell' = true) (hm : n + m ≤ 140737488355328) (hbytes : (n + m) * ti.bytes ≤ 140737488355328) :
    ∃ v' w', (Builtin.append_ #[T, T] ty #[v, xv]).run P w = .ok v' w' ∧ Wd w' E s v' (n + m) (xs ++ news) ∧ w.grownBy w' v.ownBlock ∧ ((∃ a c, v = .slice a n c ∧ v' = .slice a (n + m) c) ∨ ((∀ b, v'.ownBlock = some b → w.heap.size ≤ b) ∧ Ex w w')) := by
  have hT' : P.underlying T = some (.slice E) := hT
  subst hs
  obtain ⟨xb, xc, rfl, xsp, hxA⟩ := hx
  have hnews : ∀ (j : Nat) (u : Value), news[j]? = some u → w.cell? ((⟨xb, 0, none⟩ : Addr).add j) = some u := fun j u hj => by
    rw [add_at, Nat.zero_add, hxA.cell, List.getElem?_append_left (List.getElem?_eq_some_iff.1 hj).1]; exact hj
  have hsrc : Src P ti.size T (.slice (some ⟨xb, 0, none⟩) m xc) m news w := Src.ofSlice w hT' ⟨xb, 0, none⟩ m xc news hl hnews h1
  have hxl := hv.1
  have grow : ∀ (base : Option Addr) (cap : Nat), v = .slice base n cap → (Builtin.firstCells ti.size n (.slice base n cap)).run P w.drew = .ok xs.toArray w.drew → cap < n + m →
      ∃ v' w', (Builtin.append_ #[T, T] ty #[v, .slice (some ⟨xb, 0, none⟩) m xc]).run P w = .ok v' w' ∧ Wd w' E ti.size v' (n + m) (xs ++ news) ∧ w.grownBy w' v.ownBlock ∧ ((∃ a c, v = .slice a n c ∧ v' = .slice a (n + m) c) ∨ ((∀ b, v'.ownBlock = some b → w.heap.size ≤ b) ∧ Ex w w')) := by
    intro base cap hvf hold hcap
    have hr := run_append_grow_src (P := P) w T T ty E ti z hT' hi hz base n cap xs hold (.slice (some ⟨xb, 0, none⟩) m xc) m news hsrc hcap (by omega) (growslice_fits hcap hbytes)
    have hge := grownCap_ge w (n + m) cap E
    have hcm := grownCap_le_maxLen w (n + m) cap E (by simp only [maxLen]; omega)
    rw [← hvf] at hr
    have hgr : ∀ o, w.grownBy (w.drew.alloc o) v.ownBlock := fun o => ⟨rfl, rfl, rfl, by simp, fun k hk _ => heap_alloc_old w.drew o hk⟩
    refine ⟨_, _, hr, ⟨by rw [List.length_append, hxl, hl, Nat.add_mul], .inr ⟨w.heap.size, _, (Builtin.zeroCells z.cells (grownCap w (n + m) cap E - (n + m))).toList, rfl, ?_, hge, by simpa [maxLen] using hcm, ?_⟩⟩, hgr _, .inr ⟨fun b hb => ?_, ⟨rfl, rfl, rfl, by simp, fun k hk => heap_alloc_old w.drew _ hk⟩⟩⟩
    · have h9 := at_new w.drew ((xs ++ news) ++ (Builtin.zeroCells z.cells (grownCap w (n + m) cap E - (n + m))).toList) E
      have e : ((xs ++ news) ++ (Builtin.zeroCells z.cells (grownCap w (n + m) cap E - (n + m))).toList).toArray = (xs ++ news).toArray ++ Builtin.zeroCells z.cells (grownCap w (n + m) cap E - (n + m)) := by
        apply Array.ext'
        simp
      rw [e] at h9
      exact h9
    · rw [List.length_append, List.length_append, hxl, hl]
      have e : (Builtin.zeroCells z.cells (grownCap w (n + m) cap E - (n + m))).toList.length = (grownCap w (n + m) cap E - (n + m)) * ti.size := by
        simp [size_zeroCells, hzc]
      rw [e, ← Nat.add_mul, ← Nat.add_mul]
      exact Nat.mul_le_mul_right _ (by omega)
    · rw [ownBlock_slice] at hb; cases hb; exact Nat.le_refl _
  rcases hv.2 with ⟨hvf, h0⟩ | ⟨b, cap, sp, hvf, hA, hc, hcm, hcs⟩
  · subst h0
    have : xs = [] := List.eq_nil_of_length_eq_zero (by rw [hxl]; simp)
    subst this
    exact grow none 0 hvf (by simp [Builtin.firstCells]) (by omega)
  · by_cases hroom : n + m ≤ cap
    · have hfit : n * ti.size + news.length ≤ (xs ++ sp).toArray.size := by
        rw [hl, ← Nat.add_mul]
        have := Nat.mul_le_mul_right ti.size hroom
        simp only [List.size_toArray]; omega
      have hr := run_append_room (P := P) w T ty E ti hT' hi b n cap (xs ++ sp).toArray hA ⟨xb, 0, none⟩ m xc news hl hnews h1 hroom hfit
      subst hvf
      refine ⟨_, _, hr, ⟨by rw [List.length_append, hxl, hl, Nat.add_mul], .inr ⟨b, cap, sp.drop news.length, rfl, ?_, hroom, hcm, ?_⟩⟩, ⟨rfl, rfl, rfl, by simp, fun k _ hk => setRow_other w b k _ (fun e => hk (by rw [e]; rfl))⟩, .inl ⟨_, _, rfl, rfl⟩⟩
      · have := setRow_heap w b (xs ++ sp).toArray ((xs ++ sp).take (n * ti.size) ++ news ++ (xs ++ sp).drop (n * ti.size + news.length)).toArray E (0, 0) hA
        have e1 : (xs ++ sp).take (n * ti.size) = xs := List.take_left' hxl
        have e2 : (xs ++ sp).drop (n * ti.size + news.length) = sp.drop news.length := by rw [← hxl, List.drop_append]; simp
        rw [e1, e2] at this
        unfold At
        simpa [e1, e2] using this
      · simp only [List.size_toArray, List.length_append] at hfit hcs
        simp only [List.length_append, List.length_drop]
        omega
    · refine grow (some ⟨b, 0, none⟩) cap hvf ?_ (by omega)
      refine run_firstCells_some w.drew ti.size n ⟨b, 0, none⟩ n cap xs (by rw [hxl]) (fun j u hj => ?_)
      have : w.cell? ⟨b, j, none⟩ = some u := by
        rw [hA.cell, List.getElem?_append_left (List.getElem?_eq_some_iff.1 hj).1]; exact hj
      rw [add_at, Nat.zero_add]
      exact this
end runs
end Go.Proofs.YtifbgpkjbciblaaGreatDoor.Sal
/- Core18: slices of structs; a struct read out of the middle of a block. -/
set_option maxRecDepth 100000
namespace Go.Proofs.YtifbgpkjbciblaaGreatDoor.Sal
set_option linter.all false
open Go.RowKit
def SzN (P : Program) (E : TypeId) (s : Nat) : Prop := ∃ i, P.info? E = some i ∧ i.size = s
theorem run_sizeOfS {P : Program} {E : TypeId} {s : Nat} (h : SzN P E s) (w : World) : (sizeOf E).run P w = .ok s w := by
  obtain ⟨i, hi, hs⟩ := h
  simp [sizeOf, typeInfo, hi, hs]
/-- What a type of a slice's elements is. -/
structure InfoW (P : Program) (E : TypeId) (s : Nat) (z : Value) (B : Nat) : Prop where
  ex : ∃ ti, P.info? E = some ti ∧ ti.zero = some z ∧ ti.size = s ∧ ti.bytes ≤ B
  cs : z.cells.size = s
section ops
variable {r : Option Nat} {P : Program} {ops : Array Oper} {Q : Exit → Act → World → Prop} {N : Nat} {σ : Nat → Value} {ds : List Deferred} {w : World} {rest : List Oper}
variable {d d1 d2 : Nat} {ty ty2 : TypeId} {pos pos2 : String} {after after2 : Array Edge} {T E T' : TypeId} {x i y : Operand}
theorem s_bsV3 {a b c z0 z1 z2 : Value} {op1 : Operand} {B : Nat} (hT : SlT P T E) (hi : InfoW P E 3 (.agg #[z0, z1, z2]) B) (h1 : ev N σ op1 = .agg #[a, b, c])
    (h : ∀ bb w', bb = w.heap.size → At w' bb E [a, b, c] → Ex w w' → w'.heap.size = bb + 1 → WL r P ops Q rest (mk N (upd σ d (.slice (some ⟨bb, 0, none⟩) 1 1)) ds) w') :
    WL r P ops Q (⟨some d, .buildSlice T 1 #[(0, op1)], ty, pos, after, none⟩ :: rest) (mk N σ ds) w := by
  obtain ⟨ti, h1i, h2i, h3i, h4i⟩ := hi.ex
  have hT' : P.underlying T = some (.slice E) := hT
  have hc1 : (Value.agg #[a, b, c]).cells = #[a, b, c] := rfl
  have hc2 : (Value.agg #[z0, z1, z2]).cells = #[z0, z1, z2] := rfl
  refine l_val (v := .slice (some ⟨w.heap.size, 0, none⟩) 1 1) (w' := w.alloc (.cells [a, b, c].toArray E)) (by intro c e; cases e) ?_ (h _ _ rfl (at_new w _ E) (Ex.alloc w _) (size_new w _))
  simp [execOp, Instr.buildSlice, run_underlying hT', sizeOf, typeInfo, h1i, h2i, h3i, zeroValue, Instr.fill, h1, hc1, hc2, newRow, Array.range_succ, Array.range_zero', Array.zipIdx]
theorem s_appW {z v xv : Value} {n m s B : Nat} {xs news : List Value} (hT : SlT P T E) (hi : InfoW P E s z B) (hs : 0 < s) (hR : Wd w E s v n xs) (hx : ∃ b c, xv = .slice (some ⟨b, 0, none⟩) m c ∧ ∃ sp, At w b E (news ++ sp)) (hl : news.length = m * s) (hm0 : 0 < m) (h1 : ∀ u ∈ news, u.oneCell' = true) (hm : n + m ≤ 140737488355328) (hbytes : (n + m) * B ≤ 140737488355328)
    (hv : ev N σ x = v) (hxv : ev N σ y = xv)
    (h : ∀ v' w', Wd w' E s v' (n + m) (xs ++ news) → w.grownBy w' v.ownBlock → ((∃ a c, v = .slice a n c ∧ v' = .slice a (n + m) c) ∨ ((∀ b, v'.ownBlock = some b → w.heap.size ≤ b) ∧ Ex w w')) → WL r P ops Q rest (mk N (upd σ d v') ds) w') :
    WL r P ops Q (⟨some d, .call { callee := .builtin .append, args := #[x, y], argTypes := #[T, T] }, ty, pos, after, none⟩ :: rest) (mk N σ ds) w := by
  obtain ⟨ti, h1i, h2i, h3i, h4i⟩ := hi.ex
  obtain ⟨v', w', hr, a1, a2, a3⟩ := run_appW (ty := ty) hT h1i h2i h3i hi.cs hs hR hx hl hm0 h1 hm (Nat.le_trans (Nat.mul_le_mul_left _ h4i) hbytes)
  refine l_val (by intro c e; cases e) ?_ (h v' w' a1 a2 a3)
  simp [execOp, resolve, invoke, builtin, hv, hxv, hr, Result.andThen]
theorem s_iaW {b len c s : Nat} {k : IntKind} {n : Nat} (hT : SlT P T E) (hE : SzN P E s) (hx : ev N σ x = .slice (some ⟨b, 0, none⟩) len c) (hi : ev N σ i = .int k (n : Int)) (hn : n < len)
    (h : WL r P ops Q rest (mk N (upd σ d (.pointer (some ⟨b, n * s, none⟩))) ds) w) : WL r P ops Q (⟨some d, .indexAddr T x i, ty, pos, after, none⟩ :: rest) (mk N σ ds) w := by
  refine l_val (v := .pointer (some ⟨b, n * s, none⟩)) (by intro c e; cases e) ?_ h
  have hT' : P.underlying T = some (.slice E) := hT
  simp [execOp, hx, hi, Instr.indexAt, asIntOf, run_underlying hT', hn, run_sizeOfS hE, go_sem, add_at]
theorem s_ldM {b o : Nat} {B : TypeId} {cs all : List Value} {dd : TypeDesc} (hu : P.underlying E = some dd) (hd : dd.isRow = true) (hsz : (P.info? E).map (·.size) = some cs.length)
    (hx : ev N σ x = .pointer (some ⟨b, o, none⟩)) (hA : At w b B all) (hc : ∀ j v, cs[j]? = some v → all[o + j]? = some v) (h : WL r P ops Q rest (mk N (upd σ d (.agg cs.toArray)) ds) w) :
    WL r P ops Q (⟨some d, .load E x, ty, pos, after, none⟩ :: rest) (mk N σ ds) w :=
  l_val (by intro c e; cases e) (by
    simp [execOp, hx, Instr.loadAt, Instr.sureAddr, run_loadVar_mid (P := P) w b o E cs dd (fun j v hj => by rw [hA.cell]; exact hc j v hj) hu hd hsz]) h
theorem s_bldW {parts : List (Nat × Operand)} {cells : List Value} (h : P.built T (parts.map fun p => (p.1, ev N σ p.2)) = some cells.toArray) (hK : WL r P ops Q rest (mk N (upd σ d (.agg cells.toArray)) ds) w) :
    WL r P ops Q (⟨some d, .build T parts.toArray, ty, pos, after, none⟩ :: rest) (mk N σ ds) w :=
  l_val (by intro c e; cases e) (by
    have := run_build (P := P) w T (parts.map fun p => (p.1, ev N σ p.2)).toArray cells.toArray h
    simp [execOp, this]) hK
theorem s_neg {k : IntKind} {a : Int} {t : TypeId} (hx : ev N σ x = .int k a) (h : WL r P ops Q rest (mk N (upd σ d (.int k (k.wrap (-a)))) ds) w) : WL r P ops Q (⟨some d, .unOp .neg t x, ty, pos, after, none⟩ :: rest) (mk N σ ds) w :=
  l_val (by intro c e; cases e) (by simp [execOp, hx, go_sem]) h
theorem s_cap {a : Option Addr} {n c : Nat} (hT : SlT P T E) (hx : ev N σ x = .slice a n c) (h : WL r P ops Q rest (mk N (upd σ d (.int .i64 (c : Int))) ds) w) :
    WL r P ops Q (⟨some d, .call { callee := .builtin .cap, args := #[x], argTypes := #[T] }, ty, pos, after, none⟩ :: rest) (mk N σ ds) w := by
  have hT' : P.underlying T = some (.slice E) := hT
  exact l_val (by intro c e; cases e) (by simp [execOp, resolve, invoke, builtin, hx, go_sem, Result.andThen, Builtin.cap_, run_underlying hT', Sem.run_bind]) h
end ops
end Go.Proofs.YtifbgpkjbciblaaGreatDoor.Sal
/- The Book of salesroomlaw01: what lies where; keep. -/
set_option maxRecDepth 100000
namespace Go.Proofs.YtifbgpkjbciblaaGreatDoor.Sal
open Go.RowKit
set_option linter.all false
/-! ### What turns, but for some blocks -/
structure KtS (S : Nat → Prop) (w w' : World) : Prop where
  os : w'.os = w.os
  tape : w'.tape = w.tape
  output : w'.output = w.output
  size : w.heap.size ≤ w'.heap.size
  block : ∀ k, k < w.heap.size → ¬ S k → w'.heap[k]? = w.heap[k]?
theorem KtS.refl (S : Nat → Prop) (w : World) : KtS S w w := ⟨rfl, rfl, rfl, Nat.le_refl _, fun _ _ _ => rfl⟩
theorem KtS.trans {S : Nat → Prop} {a b c : World} (h : KtS S a b) (k : KtS S b c) : KtS S a c := ⟨k.os.trans h.os, k.tape.trans h.tape, k.output.trans h.output, Nat.le_trans h.size k.size, fun q hq hn => (k.block q (Nat.lt_of_lt_of_le hq h.size) hn).trans (h.block q hq hn)⟩
theorem KtS.mono {S S' : Nat → Prop} {a b : World} (h : KtS S a b) (hs : ∀ k, S k → S' k) : KtS S' a b := ⟨h.os, h.tape, h.output, h.size, fun q hq hn => h.block q hq (fun e => hn (hs q e))⟩
theorem KtS.of_ex {S : Nat → Prop} {a b : World} (h : Ex a b) : KtS S a b := ⟨h.os, h.tape, h.output, h.size, fun q hq _ => h.block q hq⟩
theorem KtS.of_grown {S : Nat → Prop} {a b : World} {o : Option Nat} (h : a.grownBy b o) (hs : ∀ k, o = some k → S k) : KtS S a b := ⟨h.os, h.tape, h.output, h.size, fun q hq hn => h.block q hq (fun e => hn (hs q e.symm))⟩
/-- The set may grow by blocks that were not there. -/
theorem KtS.later {S S' : Nat → Prop} {a b c : World} (h : KtS S a b) (k : KtS S' b c) (hs : ∀ q, S' q → S q ∨ a.heap.size ≤ q) : KtS S a c :=
  ⟨k.os.trans h.os, k.tape.trans h.tape, k.output.trans h.output, Nat.le_trans h.size k.size, fun q hq hn => (k.block q (Nat.lt_of_lt_of_le hq h.size) (fun e => by rcases hs q e with e | e; exact hn e; omega)).trans (h.block q hq hn)⟩
theorem KtS.ex {S : Nat → Prop} {w0 a b : World} (h : Ex w0 a) (k : KtS S a b) (hs : ∀ q, S q → w0.heap.size ≤ q) : Ex w0 b :=
  ⟨k.os.trans h.os, k.tape.trans h.tape, k.output.trans h.output, Nat.le_trans h.size k.size, fun q hq => (k.block q (Nat.lt_of_lt_of_le hq h.size) (fun e => by have := hs q e; omega)).trans (h.block q hq)⟩
theorem Wd.kt {S : Nat → Prop} {w w' : World} {E : TypeId} {s n : Nat} {v : Value} {xs : List Value} (h : Wd w E s v n xs) (k : KtS S w w') (hs : ∀ b, v.ownBlock = some b → ¬ S b) : Wd w' E s v n xs := h.kept fun b hb hl => k.block b hl (hs b hb)
theorem At.kt {S : Nat → Prop} {w w' : World} {E : TypeId} {b : Nat} {cs : List Value} (h : At w b E cs) (k : KtS S w w') (hs : ¬ S b) : At w' b E cs := (k.block b h.lt hs).trans h
/-! ### What is held -/
def nilV : Value := .slice none 0 0
/-- The cells of what is held. -/
def flat3 (L G : Nat → Value) : List Nat → List Value
  | [] => []
  | q :: ns => L q :: G q :: .int .i64 (q : Int) :: flat3 L G ns
theorem flat3_len (L G : Nat → Value) : ∀ ns, (flat3 L G ns).length = ns.length * 3
  | [] => rfl
  | q :: ns => by simp [flat3, flat3_len L G ns]; omega
theorem flat3_app (L G : Nat → Value) : ∀ (ns ms : List Nat), flat3 L G (ns ++ ms) = flat3 L G ns ++ flat3 L G ms
  | [], ms => rfl
  | q :: ns, ms => by simp [flat3, flat3_app L G ns ms]
theorem flat3_get (L G : Nat → Value) : ∀ (ns : List Nat) (i : Nat) (q : Nat), ns[i]? = some q → ∀ j v, [L q, G q, Value.int .i64 (q : Int)][j]? = some v → (flat3 L G ns)[i * 3 + j]? = some v
  | p :: ns, 0, q, h, j, v, hj => by
    simp at h; subst h
    match j with
    | 0 => simpa [flat3] using hj
    | 1 => simpa [flat3] using hj
    | 2 => simpa [flat3] using hj
    | j + 3 => simp at hj
  | p :: ns, i + 1, q, h, j, v, hj => by
    have ih := flat3_get L G ns i q (by simpa using h) j v hj
    have e : (i + 1) * 3 + j = (i * 3 + j) + 3 := by omega
    rw [e]
    simpa [flat3] using ih
theorem flat3_congr {L G L' G' : Nat → Value} : ∀ (ns : List Nat), (∀ q ∈ ns, L q = L' q ∧ G q = G' q) → flat3 L G ns = flat3 L' G' ns
  | [], _ => rfl
  | q :: ns, h => by
    have h1 := h q (by simp)
    simp [flat3, h1.1, h1.2, flat3_congr ns (fun p hp => h p (by simp [hp]))]
def fset1 (G : Nat → Value) (q : Nat) (v : Value) (p : Nat) : Value := if p = q then v else G p
theorem flat3_set (L G : Nat → Value) (v : Value) : ∀ (ns : List Nat) (i q : Nat), ns.Nodup → ns[i]? = some q → (flat3 L G ns).set (i * 3 + 1) v = flat3 L (fset1 G q v) ns
  | p :: ns, 0, q, hn, h => by
    simp at h; subst h
    rw [List.nodup_cons] at hn
    have := flat3_congr (L := L) (G := fset1 G p v) (L' := L) (G' := G) ns (fun x hx => ⟨rfl, by unfold fset1; rw [if_neg (fun e : x = p => hn.1 (by rw [← e]; exact hx))]⟩)
    simp [flat3, this, fset1]
  | p :: ns, i + 1, q, hn, h => by
    rw [List.nodup_cons] at hn
    have hq : q ∈ ns := List.mem_iff_getElem?.2 ⟨i, by simpa using h⟩
    have ih := flat3_set L G v ns i q hn.2 (by simpa using h)
    have e : (i + 1) * 3 + 1 = (i * 3 + 1) + 3 := by omega
    have e2 : fset1 G q v p = G p := by unfold fset1; rw [if_neg (fun e : p = q => hn.1 (by rw [e]; exact hq))]
    rw [e]
    simp [flat3, ih, e2]
def bkc (M : Nat) (vi vl : Value) : List Value := [.int .i64 (M : Int), nilV, vi, nilV, vl, nilV, nilV, nilV, nilV, nilV]
attribute [local irreducible] Go.Code.wpIn Go.wpListIn Ct Ints Rows Sl At Rw WJ
attribute [local irreducible] Wd
theorem ok_keepInt : CallOK Tryz.prog 43 := callOK Tryz.func43 (by kernel_rfl) rfl
theorem ok_keepIntList : CallOK Tryz.prog 42 := callOK Tryz.func42 (by kernel_rfl) rfl
theorem in_w {P : Program} {E : TypeId} {s B : Nat} {z : Value} (h : (P.info? E).map (fun i => (i.zero, i.size, i.bytes)) = some (some z, s, B)) (hz : z.cells.size = s) : InfoW P E s z B := by
  cases hi : P.info? E with
  | none => rw [hi] at h; cases h
  | some ti =>
    rw [hi] at h
    simp only [Option.map_some, Option.some.injEq, Prod.mk.injEq] at h
    exact ⟨⟨ti, hi, h.1, h.2.1, by omega⟩, hz⟩
theorem in_heldInt : InfoW Tryz.prog 107 3 (.agg #[.slice none 0 0, .slice none 0 0, .int .i64 0]) 56 := in_w (by kernel_rfl) rfl
theorem in_heldIntList : InfoW Tryz.prog 105 3 (.agg #[.slice none 0 0, .slice none 0 0, .int .i64 0]) 56 := in_w (by kernel_rfl) rfl
theorem sl_hi : SlT Tryz.prog 37 107 := Tryz.underlying37
theorem sl_hl : SlT Tryz.prog 39 105 := Tryz.underlying39
theorem ty_hi : Ty1 Tryz.prog 37 := ⟨let ⟨i, h, _, hs, _⟩ := info_parts (show (Tryz.prog.info? 37).map (fun i => (i.zero, i.size, i.bytes)) = some (some (.slice none 0 0), 1, 24) by kernel_rfl); ⟨i, h, hs⟩, _, Tryz.underlying37, rfl⟩
theorem ty_hl : Ty1 Tryz.prog 39 := ⟨let ⟨i, h, _, hs, _⟩ := info_parts (show (Tryz.prog.info? 39).map (fun i => (i.zero, i.size, i.bytes)) = some (some (.slice none 0 0), 1, 24) by kernel_rfl); ⟨i, h, hs⟩, _, Tryz.underlying39, rfl⟩
theorem Ty1.n {P : Program} {E : TypeId} (h : Ty1 P E) : TyN P E := let ⟨⟨i, hi, hs⟩, _⟩ := h; ⟨i, hi, by omega⟩
theorem built_hi (a : Option Addr) (n c : Nat) (q : Int) : Tryz.prog.built 107 [(0, .slice a n c), (2, .int .i64 q)] = some [.slice a n c, .slice none 0 0, .int .i64 q].toArray := by kernel_rfl
theorem built_hl (a : Option Addr) (n c : Nat) (q : Int) : Tryz.prog.built 105 [(0, .slice a n c), (2, .int .i64 q)] = some [.slice a n c, .slice none 0 0, .int .i64 q].toArray := by kernel_rfl
theorem keepInt_ct (bk M n : Nat) (xs : List Value) (vi vl : Value) (a : Option Addr) (k c : Nat) (w : World) (hA : At w bk 46 (bkc M vi vl)) (hW : Wd w 107 3 vi n xs) (hne : ∀ b, vi.ownBlock = some b → b ≠ bk) (hM : M ≤ 100000) (hn : n ≤ 100000) :
    Ct Tryz.prog 43 #[.pointer (some ⟨bk, 0, none⟩), .slice a k c] w fun u w' => u = .tuple #[] ∧ ∃ vi', At w' bk 46 (bkc (M + 1) vi' vl) ∧ Wd w' 107 3 vi' (n + 1) (xs ++ [.slice a k c, nilV, .int .i64 ((M + 1 : Nat) : Int)]) ∧ (vi'.ownBlock = vi.ownBlock ∨ ∀ b, vi'.ownBlock = some b → w.heap.size ≤ b) ∧ KtS (fun b => b = bk ∨ vi.ownBlock = some b) w w' := by
  refine enter (N := 26) (vs := [.pointer (some ⟨bk, 0, none⟩), .slice a k c]) Tryz.func43 rfl rfl rfl ?_
  repeat (first | (refine isO ?_; refine s_move ?_) | (refine isC ?_; refine c_sr ?_))
  refine s_nil rfl ?_
  refine s_faN Tryz.underlying46 rfl ty_int.n rfl ?_
  refine s_ldA ty_int rfl hA rfl ?_
  repeat ((refine isO ?_; (refine isBin ?_; refine s_inc rfl (by omega) ?_)))
  refine s_nil rfl ?_
  refine s_faN Tryz.underlying46 rfl ty_int.n rfl ?_
  refine s_stA (n := 0) (u := .int .i64 ((M + 1 : Nat) : Int)) ty_int rfl (vint (by omega)) rfl hA (by simp [bkc]) ?_
  intro w1 hA1 hg1
  have hA1' : At w1 bk 46 (bkc (M + 1) vi vl) := hA1
  have hW1 := hW.grown hg1 (fun b hb e => hne b hb (Option.some.inj e).symm)
  repeat ((refine l_th ?_))
  refine c_drawJ (fun W' => At W' bk 46 (bkc (M + 1) vi vl)) (hA1'.ex (Ex.drew w1)) 15 8 [(0, true), (1, true), (2, true), (3, true), (4, true), (5, true), (6, true), (7, true), (8, true), (9, true), (10, false), (11, false), (12, false), (13, true), (14, true), (15, false)] mixed (by kernel_rfl) ?_
  refine d_move rfl ?_
  refine d_move rfl ?_
  refine d_nilc rfl rfl ?_
  refine d_faN rfl Tryz.underlying46 rfl ty_hi.n rfl ?_
  refine d_ldJ rfl ty_hi rfl (fun _ h => h) rfl ?_
  refine d_move rfl ?_
  refine d_move rfl ?_
  refine d_nilc rfl rfl ?_
  refine d_faN rfl Tryz.underlying46 rfl ty_int.n rfl ?_
  refine d_ldJ rfl ty_int rfl (fun _ h => h) rfl ?_
  refine d_ch rfl ?_
  refine s_bldW (cells := [.slice a k c, .slice none 0 0, .int .i64 ((M + 1 : Nat) : Int)]) (built_hi a k c _) ?_
  refine l_nil ⟨rfl, .inr (hA1'.ex (Ex.drew w1)), ?_⟩
  refine d_ch rfl ?_
  refine s_bsV3 sl_hi in_heldInt rfl ?_
  intro b2 w2 hb2 hA2 hx2 hs2
  have hx12 := (Ex.drew w1).trans hx2
  refine l_nil ⟨rfl, .inr (hA1'.ex hx12), ?_⟩
  refine d_ch rfl ?_
  refine s_appW (n := n) (m := 1) (news := [.slice a k c, .slice none 0 0, .int .i64 ((M + 1 : Nat) : Int)]) sl_hi in_heldInt (by omega) (hW1.ex hx12) ⟨b2, 1, rfl, [], by simpa using hA2⟩ rfl (by omega) (by intro u hu; simp at hu; rcases hu with rfl | rfl | rfl <;> rfl) (by omega) (by omega) rfl rfl ?_
  intro vi' w3 hW3 hg3 hf3'
  have hf3 : vi'.ownBlock = vi.ownBlock ∨ ∀ b, vi'.ownBlock = some b → w2.heap.size ≤ b := hf3'.imp (fun ⟨a, c, h1, h2⟩ => by rw [h1, h2]; cases a <;> rfl) (fun h => h.1)
  have hne3 : ∀ b, vi.ownBlock = some b → b ≠ bk := hne
  have hA3 := (hA1'.ex hx12).grown hg3 (fun e => hne bk e rfl)
  refine l_nil ⟨rfl, .inr hA3, ?_⟩
  refine d_nilc rfl rfl ?_
  refine d_faN rfl Tryz.underlying46 rfl ty_hi.n rfl ?_
  refine d_ch rfl ?_
  refine s_stA (n := 2) (u := vi') ty_hi rfl rfl hW3.one hA3 (by simp [bkc]) ?_
  intro w4 hA4 hg4
  refine l_nil ⟨rfl, .inl rfl, ?_⟩
  refine d_nil ?_
  have z1 := hg1.size
  have z12 := hx12.size
  have z3 := hg3.size
  have hown : vi'.ownBlock = vi.ownBlock ∨ ∀ b, vi'.ownBlock = some b → w.heap.size ≤ b := hf3.imp id (fun h b hb => by have := h b hb; omega)
  have hbk := hA.lt
  refine end0 rfl ⟨rfl, vi', hA4, hW3.grown hg4 (fun b hb e => ?_), hown, ?_⟩
  · have e' := Option.some.inj e
    rcases hown with he | hf
    · exact hne b (he ▸ hb) e'.symm
    · have := hf b hb; omega
  · have k1 : KtS (fun b => b = bk ∨ vi.ownBlock = some b) w w1 := KtS.of_grown hg1 (fun q e => .inl (Option.some.inj e).symm)
    have k2 : KtS (fun b => b = bk ∨ vi.ownBlock = some b) w1 w2 := KtS.of_ex hx12
    have k3 : KtS (fun b => b = bk ∨ vi.ownBlock = some b) w2 w3 := KtS.of_grown hg3 (fun q e => .inr e)
    have k4 : KtS (fun b => b = bk ∨ vi.ownBlock = some b) w3 w4 := KtS.of_grown hg4 (fun q e => .inl (Option.some.inj e).symm)
    exact ((k1.trans k2).trans k3).trans k4
end Go.Proofs.YtifbgpkjbciblaaGreatDoor.Sal
/- The Book of salesroomlaw01: keep, Ints, IntLists. -/
set_option maxRecDepth 100000
namespace Go.Proofs.YtifbgpkjbciblaaGreatDoor.Sal
open Go.RowKit
attribute [local irreducible] Go.Code.wpIn Go.wpListIn Ct Ints Rows Sl At Rw WJ
attribute [local irreducible] Wd
set_option linter.all false
theorem keepIntList_ct (bk M n : Nat) (xs : List Value) (vi vl : Value) (a : Option Addr) (k c : Nat) (w : World) (hA : At w bk 46 (bkc M vl vi)) (hW : Wd w 105 3 vi n xs) (hne : ∀ b, vi.ownBlock = some b → b ≠ bk) (hM : M ≤ 100000) (hn : n ≤ 100000) :
    Ct Tryz.prog 42 #[.pointer (some ⟨bk, 0, none⟩), .slice a k c] w fun u w' => u = .tuple #[] ∧ ∃ vi', At w' bk 46 (bkc (M + 1) vl vi') ∧ Wd w' 105 3 vi' (n + 1) (xs ++ [.slice a k c, nilV, .int .i64 ((M + 1 : Nat) : Int)]) ∧ (vi'.ownBlock = vi.ownBlock ∨ ∀ b, vi'.ownBlock = some b → w.heap.size ≤ b) ∧ KtS (fun b => b = bk ∨ vi.ownBlock = some b) w w' := by
  refine enter (N := 26) (vs := [.pointer (some ⟨bk, 0, none⟩), .slice a k c]) Tryz.func42 rfl rfl rfl ?_
  repeat (first | (refine isO ?_; refine s_move ?_) | (refine isC ?_; refine c_sr ?_))
  refine s_nil rfl ?_
  refine s_faN Tryz.underlying46 rfl ty_int.n rfl ?_
  refine s_ldA ty_int rfl hA rfl ?_
  repeat ((refine isO ?_; (refine isBin ?_; refine s_inc rfl (by omega) ?_)))
  refine s_nil rfl ?_
  refine s_faN Tryz.underlying46 rfl ty_int.n rfl ?_
  refine s_stA (n := 0) (u := .int .i64 ((M + 1 : Nat) : Int)) ty_int rfl (vint (by omega)) rfl hA (by simp [bkc]) ?_
  intro w1 hA1 hg1
  have hA1' : At w1 bk 46 (bkc (M + 1) vl vi) := hA1
  have hW1 := hW.grown hg1 (fun b hb e => hne b hb (Option.some.inj e).symm)
  repeat ((refine l_th ?_))
  refine c_drawJ (fun W' => At W' bk 46 (bkc (M + 1) vl vi)) (hA1'.ex (Ex.drew w1)) 15 8 [(0, true), (1, true), (2, true), (3, true), (4, true), (5, true), (6, true), (7, true), (8, true), (9, true), (10, false), (11, false), (12, false), (13, true), (14, true), (15, false)] mixed (by kernel_rfl) ?_
  refine d_move rfl ?_
  refine d_move rfl ?_
  refine d_nilc rfl rfl ?_
  refine d_faN rfl Tryz.underlying46 rfl ty_hl.n rfl ?_
  refine d_ldJ rfl ty_hl rfl (fun _ h => h) rfl ?_
  refine d_move rfl ?_
  refine d_move rfl ?_
  refine d_nilc rfl rfl ?_
  refine d_faN rfl Tryz.underlying46 rfl ty_int.n rfl ?_
  refine d_ldJ rfl ty_int rfl (fun _ h => h) rfl ?_
  refine d_ch rfl ?_
  refine s_bldW (cells := [.slice a k c, .slice none 0 0, .int .i64 ((M + 1 : Nat) : Int)]) (built_hl a k c _) ?_
  refine l_nil ⟨rfl, .inr (hA1'.ex (Ex.drew w1)), ?_⟩
  refine d_ch rfl ?_
  refine s_bsV3 sl_hl in_heldIntList rfl ?_
  intro b2 w2 hb2 hA2 hx2 hs2
  have hx12 := (Ex.drew w1).trans hx2
  refine l_nil ⟨rfl, .inr (hA1'.ex hx12), ?_⟩
  refine d_ch rfl ?_
  refine s_appW (n := n) (m := 1) (news := [.slice a k c, .slice none 0 0, .int .i64 ((M + 1 : Nat) : Int)]) sl_hl in_heldIntList (by omega) (hW1.ex hx12) ⟨b2, 1, rfl, [], by simpa using hA2⟩ rfl (by omega) (by intro u hu; simp at hu; rcases hu with rfl | rfl | rfl <;> rfl) (by omega) (by omega) rfl rfl ?_
  intro vi' w3 hW3 hg3 hf3'
  have hf3 : vi'.ownBlock = vi.ownBlock ∨ ∀ b, vi'.ownBlock = some b → w2.heap.size ≤ b := hf3'.imp (fun ⟨a, c, h1, h2⟩ => by rw [h1, h2]; cases a <;> rfl) (fun h => h.1)
  have hne3 : ∀ b, vi.ownBlock = some b → b ≠ bk := hne
  have hA3 := (hA1'.ex hx12).grown hg3 (fun e => hne bk e rfl)
  refine l_nil ⟨rfl, .inr hA3, ?_⟩
  refine d_nilc rfl rfl ?_
  refine d_faN rfl Tryz.underlying46 rfl ty_hl.n rfl ?_
  refine d_ch rfl ?_
  refine s_stA (n := 4) (u := vi') ty_hl rfl rfl hW3.one hA3 (by simp [bkc]) ?_
  intro w4 hA4 hg4
  refine l_nil ⟨rfl, .inl rfl, ?_⟩
  refine d_nil ?_
  have z1 := hg1.size
  have z12 := hx12.size
  have z3 := hg3.size
  have hown : vi'.ownBlock = vi.ownBlock ∨ ∀ b, vi'.ownBlock = some b → w.heap.size ≤ b := hf3.imp id (fun h b hb => by have := h b hb; omega)
  have hbk := hA.lt
  refine end0 rfl ⟨rfl, vi', hA4, hW3.grown hg4 (fun b hb e => ?_), hown, ?_⟩
  · have e' := Option.some.inj e
    rcases hown with he | hf
    · exact hne b (he ▸ hb) e'.symm
    · have := hf b hb; omega
  · have k1 : KtS (fun b => b = bk ∨ vi.ownBlock = some b) w w1 := KtS.of_grown hg1 (fun q e => .inl (Option.some.inj e).symm)
    have k2 : KtS (fun b => b = bk ∨ vi.ownBlock = some b) w1 w2 := KtS.of_ex hx12
    have k3 : KtS (fun b => b = bk ∨ vi.ownBlock = some b) w2 w3 := KtS.of_grown hg3 (fun q e => .inr e)
    have k4 : KtS (fun b => b = bk ∨ vi.ownBlock = some b) w3 w4 := KtS.of_grown hg4 (fun q e => .inl (Option.some.inj e).symm)
    exact ((k1.trans k2).trans k3).trans k4
theorem ok_bInts : CallOK Tryz.prog 17 := callOK Tryz.func17 (by kernel_rfl) rfl
theorem ok_bIntLists : CallOK Tryz.prog 16 := callOK Tryz.func16 (by kernel_rfl) rfl
/-- What a Book holds: lists by their numbers. -/
structure Bk (wB w : World) (bk M : Nat) (ns nl : List Nat) (L : Nat → Value) (vi vl : Value) : Prop where
  ex : Ex wB w
  lo : wB.heap.size ≤ bk
  hd : At w bk 46 (bkc M vi vl)
  wi : Wd w 107 3 vi ns.length (flat3 L (fun _ => nilV) ns)
  wl : Wd w 105 3 vl nl.length (flat3 L (fun _ => nilV) nl)
  oi : ∀ b, vi.ownBlock = some b → wB.heap.size ≤ b ∧ b ≠ bk ∧ vl.ownBlock ≠ some b
  ol : ∀ b, vl.ownBlock = some b → wB.heap.size ≤ b ∧ b ≠ bk
theorem Bk.exd {wB w w' : World} {bk M : Nat} {ns nl : List Nat} {L : Nat → Value} {vi vl : Value} (h : Bk wB w bk M ns nl L vi vl) (hx : Ex w w') : Bk wB w' bk M ns nl L vi vl := ⟨h.ex.trans hx, h.lo, h.hd.ex hx, h.wi.ex hx, h.wl.ex hx, h.oi, h.ol⟩
theorem bInts_ct (wB : World) (bk M : Nat) (ns nl : List Nat) (L : Nat → Value) (vi vl : Value) (a : Option Addr) (k c : Nat) (w : World) (hB : Bk wB w bk M ns nl L vi vl) (hL : L (M + 1) = .slice a k c) (hM : M ≤ 100000) (hn : ns.length ≤ 100000) :
    Ct Tryz.prog 17 #[.pointer (some ⟨bk, 0, none⟩), .slice a k c] w fun u w' => u = .tuple #[] ∧ ∃ vi', Bk wB w' bk (M + 1) (ns ++ [M + 1]) nl L vi' vl := by
  refine enter (N := 7) (vs := [.pointer (some ⟨bk, 0, none⟩), .slice a k c]) Tryz.func17 rfl rfl rfl ?_
  repeat (first | (refine isO ?_; refine s_move ?_) | (refine isC ?_; refine c_region ?_))
  refine s_call ok_keepInt rfl (keepInt_ct bk M ns.length (flat3 L (fun _ => nilV) ns) vi vl a k c w hB.hd hB.wi (fun b hb => (hB.oi b hb).2.1) hM hn) ?_
  rintro u w1 ⟨rfl, vi', hA, hW, ho, hk⟩
  repeat ((refine l_nil ?_))
  have z := hB.ex.size
  have hx : Ex wB w1 := KtS.ex hB.ex hk (fun q hq => by
    rcases hq with rfl | hq
    · exact hB.lo
    · exact (hB.oi q hq).1)
  have e : flat3 L (fun _ => nilV) ns ++ [.slice a k c, nilV, .int .i64 ((M + 1 : Nat) : Int)] = flat3 L (fun _ => nilV) (ns ++ [M + 1]) := by
    rw [flat3_app]
    simp [flat3, hL]
  rw [e] at hW
  refine end0 rfl ⟨rfl, vi', hx, hB.lo, hA, by simpa using hW, hB.wl.kt hk (fun b hb hq => ?_), fun b hb => ?_, hB.ol⟩
  · rcases hq with hq | hq
    · exact (hB.ol b hb).2 hq
    · exact (hB.oi b hq).2.2 hb
  · rcases ho with he | hf
    · exact hB.oi b (he ▸ hb)
    · have h1 := hf b hb
      refine ⟨by omega, ?_, ?_⟩
      · have := hB.hd.lt; omega
      · intro e2; have := hB.wl.lt b e2; omega
theorem keptL_ct (wB : World) (bk M : Nat) (ns nl : List Nat) (L : Nat → Value) (vi vl : Value) (a : Option Addr) (k c : Nat) (w : World) (hB : Bk wB w bk M ns nl L vi vl) (hL : L (M + 1) = .slice a k c) (hM : M ≤ 100000) (hn : nl.length ≤ 100000) :
    Ct Tryz.prog 42 #[.pointer (some ⟨bk, 0, none⟩), .slice a k c] w fun u w' => u = .tuple #[] ∧ ∃ vl', Bk wB w' bk (M + 1) ns (nl ++ [M + 1]) L vi vl' :=
  (keepIntList_ct bk M nl.length (flat3 L (fun _ => nilV) nl) vl vi a k c w hB.hd hB.wl (fun b hb => (hB.ol b hb).2) hM hn).mono fun u w1 ⟨hu, vl', hA, hW, ho, hk⟩ => by
    have z := hB.ex.size
    have hx : Ex wB w1 := KtS.ex hB.ex hk (fun q hq => by
      rcases hq with rfl | hq
      · exact hB.lo
      · exact (hB.ol q hq).1)
    have e : flat3 L (fun _ => nilV) nl ++ [.slice a k c, nilV, .int .i64 ((M + 1 : Nat) : Int)] = flat3 L (fun _ => nilV) (nl ++ [M + 1]) := by
      rw [flat3_app]
      simp [flat3, hL]
    rw [e] at hW
    refine ⟨hu, vl', hx, hB.lo, hA, hB.wi.kt hk (fun b hb hq => ?_), by simpa using hW, fun b hb => ?_, fun b hb => ?_⟩
    · rcases hq with hq | hq
      · exact (hB.oi b hb).2.1 hq
      · exact (hB.oi b hb).2.2 hq
    · refine ⟨(hB.oi b hb).1, (hB.oi b hb).2.1, fun e2 => ?_⟩
      rcases ho with he | hf
      · exact (hB.oi b hb).2.2 (he ▸ e2)
      · have h1 := hf b e2
        have := hB.wi.lt b hb; omega
    · rcases ho with he | hf
      · exact hB.ol b (he ▸ hb)
      · have h1 := hf b hb
        have := hB.hd.lt
        exact ⟨by omega, by omega⟩
def upN (M i : Nat) : List Nat := (List.range i).map (fun j => M + 1 + j)
theorem upN_succ (M i : Nat) : upN M (i + 1) = upN M i ++ [M + i + 1] := by simp [upN, List.range_succ]; omega
theorem upN_len (M i : Nat) : (upN M i).length = i := by simp [upN]
set_option maxHeartbeats 1000000 in
theorem bIntLists_ct (wB : World) (bk M : Nat) (ns nl : List Nat) (L : Nat → Value) (vi vl : Value) (vs : List Value) (v : Value) (w : World) (hB : Bk wB w bk M ns nl L vi vl) (hs : Sl wB v vs) (hvs : ∀ (i : Nat) u, vs[i]? = some u → (∃ a k c, u = .slice a k c) ∧ L (M + 1 + i) = u) (hL : L (M + vs.length + 1) = v) (hM : M + vs.length ≤ 100000) (hn : ns.length + vs.length ≤ 100000) (hn2 : nl.length ≤ 100000) :
    Ct Tryz.prog 16 #[.pointer (some ⟨bk, 0, none⟩), v] w fun u w' => u = .tuple #[] ∧ ∃ vi' vl', Bk wB w' bk (M + vs.length + 1) (ns ++ upN M vs.length) (nl ++ [M + vs.length + 1]) L vi' vl' := by
  obtain ⟨a, c, hv⟩ := hs.form
  refine enter (N := 20) (vs := [.pointer (some ⟨bk, 0, none⟩), v]) Tryz.func16 rfl rfl rfl ?_
  repeat (first | (refine isO ?_; refine s_assign ?_) | (refine isC ?_; first | refine c_sr ?_ | refine c_seq ?_ | refine c_block ?_) | (refine l_th ?_))
  refine c_loop (γ := Nat) 131056 (fun i => [(4, .int .i64 (i : Int))]) (fun i W => i ≤ vs.length ∧ ∃ vi', Bk wB W bk (M + i) (ns ++ upN M i) nl L vi' vl) (fun i => vs.length - i) 0 ⟨rfl, trivial⟩ ⟨Nat.zero_le _, vi, by simpa [upN] using hB⟩ ?_
  rintro i ρ W ⟨hi, hBe⟩
  refine Exists.elim hBe fun vi' hBW => ?_
  have hsW := hs.ex hBW.ex
  repeat (first | (refine isO ?_; refine s_move ?_) | (refine isC ?_; first | refine c_sr ?_ | refine c_seq ?_))
  refine s_re (v' := v) rfl ?_
  refine s_len (n := vs.length) (a := a) (c := c) sl_rows hv ?_
  repeat (first | (refine isO ?_; (refine isBin ?_; refine s_lss rfl rfl ?_)) | (refine l_th ?_))
  refine c_ifd rfl (fun h => ?_) (fun h => ?_)
  · have hi' : i < vs.length := by omega
    have hu := hvs i vs[i] (List.getElem?_eq_getElem hi')
    refine Exists.elim hu.1 fun ua hu1 => Exists.elim hu1 fun uk hu2 => Exists.elim hu2 fun uc hu3 => ?_
    repeat (first | (refine isO ?_; refine s_move ?_) | (refine isC ?_; first | refine c_th ?_ | refine c_seq ?_ | refine c_region ?_ | refine c_block ?_))
    refine s_ix (n := i) (u := .slice ua uk uc) sl_rows ty_ints rfl rfl rfl hsW (by rw [List.getElem?_eq_getElem hi', hu3]) ?_
    intro _
    refine s_call ok_bInts rfl (bInts_ct wB bk (M + i) (ns ++ upN M i) nl L vi' vl ua uk uc W hBW (by rw [← hu3, ← hu.2]; congr 1; omega) (by omega) (by rw [List.length_append, upN_len]; omega)) ?_
    rintro u w1 ⟨rfl, hB1⟩
    repeat (first | (refine isO ?_; first | refine s_move ?_ | refine s_assign ?_ | (refine isBin ?_; refine s_inc rfl (by omega) ?_)) | (refine isC ?_; refine c_region ?_) | (first | refine l_th ?_ | refine l_nil ?_))
    refine loop_end (i + 1) (by (repeat (first | exact agree_refl _ _ | refine agree_upd rfl ?_ | refine agree_ext rfl ?_ | refine agree_mask rfl ?_))) ⟨rfl, trivial⟩ ⟨hi', ?_⟩ (by omega)
    rw [upN_succ, ← List.append_assoc]
    exact hB1
  · have hie : i = vs.length := by omega
    subst hie
    repeat (first | (refine isO ?_; refine s_move ?_) | (refine isC ?_; first | refine c_region ?_ | refine c_exit ?_))
    subst hv
    refine s_call ok_keepIntList rfl (keptL_ct wB bk (M + vs.length) _ nl L vi' vl a vs.length c W hBW hL hM hn2) ?_
    rintro u w1 ⟨rfl, hB1⟩
    repeat ((refine l_nil ?_))
    exact end0 rfl ⟨rfl, vi', hB1⟩
end Go.Proofs.YtifbgpkjbciblaaGreatDoor.Sal
/- The Book of salesroomlaw01: fill. -/
set_option maxRecDepth 100000
namespace Go.Proofs.YtifbgpkjbciblaaGreatDoor.Sal
open Go.RowKit
attribute [local irreducible] Go.Code.wpIn Go.wpListIn Ct Ints Rows Sl At Rw WJ
attribute [local irreducible] Wd
set_option linter.all false
theorem Wd.len {w : World} {E : TypeId} {s n : Nat} {v : Value} {xs : List Value} (h : Wd w E s v n xs) : xs.length = n * s := by unfold Wd at h; exact h.1
theorem nodup_inj : ∀ {ns : List Nat} {i j q : Nat}, ns.Nodup → ns[i]? = some q → ns[j]? = some q → i = j := by
  intro ns i j q hn hi hj
  obtain ⟨a1, a2⟩ := List.getElem?_eq_some_iff.1 hi
  obtain ⟨b1, b2⟩ := List.getElem?_eq_some_iff.1 hj
  have hp := List.pairwise_iff_getElem.1 hn
  rcases Nat.lt_trichotomy i j with h | h | h
  · exact absurd (a2.trans b2.symm) (hp i j a1 b1 h)
  · exact h
  · exact absurd (b2.trans a2.symm) (hp j i b1 a1 h)
/-- A mark of a list of numbers; of a list of lists. -/
def MKi (lo : Nat) (w : World) (q : Nat) (u : Value) : Prop := u = .int .i64 (-(q : Int))
def MKl (lo : Nat) (w : World) (q : Nat) (u : Value) : Prop := ∃ b, lo ≤ b ∧ u = sv b 1 1 ∧ At w b 3 [.int .i64 (q : Int)]
theorem MKi.ex {lo : Nat} {w w' : World} {q : Nat} {u : Value} (h : MKi lo w q u) (hx : Ex w w') : MKi lo w' q u := h
theorem MKl.ex {lo : Nat} {w w' : World} {q : Nat} {u : Value} (h : MKl lo w q u) (hx : Ex w w') : MKl lo w' q u := let ⟨b, h1, h2, h3⟩ := h; ⟨b, h1, h2, h3.ex hx⟩
theorem MKi.grown {lo : Nat} {w w' : World} {q : Nat} {u : Value} {o : Option Nat} (h : MKi lo w q u) (hg : w.grownBy w' o) (ho : ∀ b, o = some b → b < lo) : MKi lo w' q u := h
theorem MKl.grown {lo : Nat} {w w' : World} {q : Nat} {u : Value} {o : Option Nat} (h : MKl lo w q u) (hg : w.grownBy w' o) (ho : ∀ b, o = some b → b < lo) : MKl lo w' q u := by
  obtain ⟨b, h1, h2, h3⟩ := h
  exact ⟨b, h1, h2, h3.grown hg (fun e => by have := ho b e; omega)⟩
theorem MKi.kt {lo : Nat} {S : Nat → Prop} {w w' : World} {q : Nat} {u : Value} (h : MKi lo w q u) (hk : KtS S w w') (hs : ∀ b, S b → b < lo) : MKi lo w' q u := h
theorem MKl.kt {lo : Nat} {S : Nat → Prop} {w w' : World} {q : Nat} {u : Value} (h : MKl lo w q u) (hk : KtS S w w') (hs : ∀ b, S b → b < lo) : MKl lo w' q u := by
  obtain ⟨b, h1, h2, h3⟩ := h
  exact ⟨b, h1, h2, h3.kt hk (fun e => by have := hs b e; omega)⟩
theorem MKi.one {lo : Nat} {w : World} {q : Nat} {u : Value} (h : MKi lo w q u) : u.oneCell' = true := by rw [h]; rfl
theorem MKl.one {lo : Nat} {w : World} {q : Nat} {u : Value} (h : MKl lo w q u) : u.oneCell' = true := by obtain ⟨b, _, rfl, _⟩ := h; rfl
theorem ok_markInt : CallOK Tryz.prog 98 := callOK Tryz.func98 (by kernel_rfl) rfl
theorem ok_markIntList : CallOK Tryz.prog 100 := callOK Tryz.func100 (by kernel_rfl) rfl
theorem wrap_small {q : Nat} (h : q ≤ 200000) : IntKind.i64.wrap (-(q : Int)) = -(q : Int) := by
  simp only [IntKind.wrap, IntKind.signed, IntKind.bits]
  simp
  omega
theorem markInt_ct (lo q : Nat) (w : World) (hq : q ≤ 200000) (hlo : lo ≤ w.heap.size) : Ct Tryz.prog 98 #[.int .i64 (q : Int)] w fun u w' => MKi lo w' q u ∧ u.oneCell' = true ∧ Ex w w' := by
  refine enter (N := 5) (vs := [.int .i64 (q : Int)]) Tryz.func98 rfl rfl rfl ?_
  repeat (first | (refine isO ?_; first | refine s_move ?_ | refine s_assign ?_) | (refine isC ?_; refine c_sr ?_) | (refine l_th ?_))
  refine s_neg rfl ?_
  refine s_re (v' := .int .i64 (-(q : Int))) (vint (wrap_small hq)) ?_
  repeat (first | (refine isO ?_; refine s_assign ?_) | (refine isC ?_; refine c_ret ?_) | (refine l_th ?_))
  exact ret1 rfl rfl ⟨rfl, rfl, Ex.refl _⟩
theorem markIntList_ct (lo q : Nat) (w : World) (hq : q ≤ 200000) (hlo : lo ≤ w.heap.size) : Ct Tryz.prog 100 #[.int .i64 (q : Int)] w fun u w' => MKl lo w' q u ∧ u.oneCell' = true ∧ Ex w w' := by
  refine enter (N := 5) (vs := [.int .i64 (q : Int)]) Tryz.func100 rfl rfl rfl ?_
  repeat (first | (refine isO ?_; first | refine s_move ?_ | refine s_assign ?_) | (refine isC ?_; refine c_sr ?_) | (refine l_th ?_))
  refine s_bs1 sl_ints in_int rfl rfl ?_
  intro b1 w1 hb1 hA1 hx1 hs1
  repeat (first | (refine isO ?_; refine s_assign ?_) | (refine isC ?_; refine c_ret ?_) | (refine l_th ?_))
  exact ret1 rfl rfl ⟨⟨b1, by omega, rfl, hA1⟩, rfl, hx1⟩
theorem ok_fillInt : CallOK Tryz.prog 45 := callOK Tryz.func45 (by kernel_rfl) rfl
set_option maxHeartbeats 2000000 in
theorem fillInt_ct (bk M : Nat) (ns : List Nat) (L G : Nat → Value) (ln : Nat → Nat) (cs : Nat → List Value) (vi vl : Value) (w : World) (hA : At w bk 46 (bkc M vi vl)) (hW : Wd w 107 3 vi ns.length (flat3 L G ns)) (hN : ns.length ≤ 100000) (hq : ∀ q ∈ ns, q ≤ 200000)
    (hL : ∀ q ∈ ns, Wd w 3 1 (L q) (ln q) (cs q)) (hln : ∀ q ∈ ns, ln q ≤ 100000) (hLone : ∀ q ∈ ns, (L q).oneCell' = true) (hGone : ∀ q ∈ ns, (G q).oneCell' = true) (hnd : ns.Nodup) (hd : ∀ p ∈ ns, ∀ q ∈ ns, p ≠ q → ∀ b, (L p).ownBlock = some b → (L q).ownBlock ≠ some b) (hbk : ∀ q ∈ ns, ∀ b, (L q).ownBlock = some b → b ≠ bk ∧ vi.ownBlock ≠ some b) :
    Ct Tryz.prog 45 #[.pointer (some ⟨bk, 0, none⟩)] w fun u w' => u = .tuple #[] ∧ KtS (fun b => ∃ q ∈ ns, (L q).ownBlock = some b) w w' ∧ ∀ q ∈ ns, ∃ xs, Wd w' 3 1 (L q) (ln q) xs ∧ ∀ u ∈ xs, MKi w.heap.size w' q u := by
  obtain ⟨va, vc, hvf⟩ := hW.slen
  refine Exists.elim in_heldInt.ex fun ti hti => ?_
  have hS : ∀ b, (∃ q ∈ ns, (L q).ownBlock = some b) → b < w.heap.size := fun b ⟨q, h1, h2⟩ => (hL q h1).lt b h2
  refine enter (N := 35) (vs := [.pointer (some ⟨bk, 0, none⟩)]) Tryz.func45 rfl rfl rfl ?_
  repeat (first | (refine isO ?_; refine s_assign ?_) | (refine isC ?_; first | refine c_sr ?_ | refine c_block ?_) | (refine l_th ?_))
  refine c_loop (γ := Nat) 34359738364 (fun i => [(2, .int .i64 (i : Int))]) (fun i W => i ≤ ns.length ∧ KtS (fun b => ∃ q ∈ ns, (L q).ownBlock = some b) w W ∧ ∀ j q, ns[j]? = some q → (j < i → ∃ xs, Wd W 3 1 (L q) (ln q) xs ∧ ∀ u ∈ xs, MKi w.heap.size W q u) ∧ (i ≤ j → Wd W 3 1 (L q) (ln q) (cs q))) (fun i => ns.length - i) 0 ⟨rfl, trivial⟩ ⟨Nat.zero_le _, KtS.refl _ _, fun j q h => ⟨fun h => by omega, fun _ => hL q (List.mem_of_getElem? h)⟩⟩ ?_
  rintro i ρ W ⟨hi, hK, hI⟩
  have hAW := hA.kt hK (fun ⟨q, h1, h2⟩ => (hbk q h1 bk h2).1 rfl)
  have hWW := hW.kt hK (fun b hb ⟨q, h1, h2⟩ => (hbk q h1 b h2).2 hb)
  repeat (first | (refine isO ?_; refine s_move ?_) | (refine isC ?_; first | refine c_sr ?_ | refine c_seq ?_))
  refine s_nil rfl ?_
  refine s_faN Tryz.underlying46 rfl ty_hi.n rfl ?_
  refine s_ldA ty_hi rfl hAW rfl ?_
  refine s_len (n := ns.length) (a := va) (c := vc) sl_hi hvf ?_
  repeat (first | (refine isO ?_; (refine isBin ?_; refine s_lss rfl rfl ?_)) | (refine l_th ?_))
  refine c_ifd rfl (fun h => ?_) (fun h => ?_)
  · have hi' : i < ns.length := by omega
    have hqe : ∃ q, ns[i]? = some q := ⟨_, List.getElem?_eq_getElem hi'⟩
    refine Exists.elim hqe fun q hqi => ?_
    have hqm := List.mem_of_getElem? hqi
    refine Exists.elim (hWW.pos (by omega)) fun ib he1 => Exists.elim he1 fun ic he2 => Exists.elim he2 fun isp he3 => ?_
    have hcell : ∀ j v, [L q, G q, Value.int .i64 (q : Int)][j]? = some v → (flat3 L G ns ++ isp)[i * 3 + j]? = some v := fun j v hj => by
      have h1 := flat3_get L G ns i q hqi j v hj
      rw [List.getElem?_append_left (List.getElem?_eq_some_iff.1 h1).1]; exact h1
    repeat (first | (refine isO ?_; refine s_move ?_) | (refine isC ?_; first | refine c_sr ?_ | refine c_th ?_ | refine c_seq ?_ | refine c_block ?_))
    refine s_nil rfl ?_
    refine s_faN Tryz.underlying46 rfl ty_hi.n rfl ?_
    refine s_ldA ty_hi rfl hAW rfl ?_
    refine s_re (v' := .slice (some ⟨ib, 0, none⟩) ns.length ic) he3.1 ?_
    repeat ((refine isO ?_; refine s_move ?_))
    refine s_iaW (n := i) (s := 3) sl_hi ⟨ti, hti.1, hti.2.2.1⟩ rfl rfl hi' ?_
    refine s_ldM (cs := [L q, G q, .int .i64 (q : Int)]) Tryz.underlying107 rfl (by kernel_rfl) rfl he3.2.1 hcell ?_
    refine s_alloc (cs := [.slice none 0 0, .slice none 0 0, .int .i64 0]) hti.1 hti.2.1 rfl ?_
    intro b3 w3 hb3 hA3 hx3 hs3
    refine s_stV (cs := [L q, G q, .int .i64 (q : Int)]) (by kernel_rfl) rfl rfl hA3 rfl (by rw [List.all_cons, List.all_cons, hLone q hqm, hGone q hqm]; rfl) ?_
    intro w4 hA4 hg4 hz4
    have hWq := hW
    have z3 := hx3.size
    have hK4 : KtS (fun b => (L q).ownBlock = some b) W w4 := (KtS.of_ex hx3).later (KtS.of_grown (S := fun b => b3 = b) hg4 (fun k e => Option.some.inj e)) (fun k e => .inr (by omega))
    have hLq := ((hI i q hqi).2 (Nat.le_refl _))
    have hLq4 := hLq.kt ((KtS.of_ex (S := fun _ => False) hx3).later (KtS.of_grown (S := fun b => b3 = b) hg4 (fun k e => Option.some.inj e)) (fun k e => .inr (by omega))) (fun _ _ h => h)
    have hqb := hq q hqm
    have hlq := hln q hqm
    have hxl : (cs q).length = ln q := by have := hLq.len; simpa using this
    have hb3L : ∀ b, (L q).ownBlock = some b → b ≠ b3 := fun b hb e => by have := hLq.lt b hb; omega
    refine Exists.elim hLq.slen fun la hl1 => Exists.elim hl1 fun lc hlf => ?_
    repeat (first | (refine isO ?_; refine s_assign ?_) | (refine isC ?_; first | refine c_sr ?_ | refine c_block ?_) | (refine l_th ?_))
    refine c_loop (γ := Nat) 34357641232 (fun k => [(4, .int .i64 (k : Int))]) (fun k W2 => k ≤ ln q ∧ KtS (fun b => (L q).ownBlock = some b) w4 W2 ∧ ∃ xs, xs.length = k ∧ Wd W2 3 1 (L q) (ln q) (xs ++ (cs q).drop k) ∧ ∀ u ∈ xs, MKi w.heap.size W2 q u) (fun k => ln q - k) 0 ⟨rfl, trivial⟩ ⟨Nat.zero_le _, KtS.refl _ _, [], rfl, by simpa using hLq4, fun u hu => by cases hu⟩ ?_
    rintro k ρ2 W2 ⟨hk, hK2, hxe⟩
    refine Exists.elim hxe fun xs hxs => ?_
    have hA5 := hA4.kt hK2 (fun e => hb3L b3 e rfl)
    repeat (first | (refine isO ?_; refine s_move ?_) | (refine isC ?_; first | refine c_sr ?_ | refine c_seq ?_))
    refine s_faN Tryz.underlying107 rfl ty_ints.n rfl ?_
    refine s_ldA ty_ints rfl hA5 rfl ?_
    refine s_len (n := ln q) (a := la) (c := lc) sl_ints hlf ?_
    repeat (first | (refine isO ?_; (refine isBin ?_; refine s_lss rfl rfl ?_)) | (refine l_th ?_))
    refine c_ifd rfl (fun h2 => ?_) (fun h2 => ?_)
    · have hk' : k < ln q := by omega
      refine Exists.elim (hxs.2.1.pos (by omega)) fun lb hf1 => Exists.elim hf1 fun lc2 hf2 => Exists.elim hf2 fun lsp hf3 => ?_
      have hlb : (L q).ownBlock = some lb := by rw [hf3.1]; rfl
      have hlbb := hb3L lb hlb
      repeat ((refine isC ?_; first | refine c_th ?_ | refine c_seq ?_ | refine c_block ?_))
      refine c_drawO (Ex.refl W2) 7 8 [(0, true), (1, true), (2, true), (3, true), (4, true), (5, false), (6, true), (7, false)] mixed (by kernel_rfl) ?_
      refine d_faN rfl Tryz.underlying107 rfl ty_ints.n rfl ?_
      refine d_ldA rfl ty_ints rfl hA5 rfl ?_
      refine d_re (v' := .slice (some ⟨lb, 0, none⟩) (ln q) lc2) hf3.1 ?_
      refine d_move rfl ?_
      refine d_faN rfl Tryz.underlying107 rfl ty_int.n rfl ?_
      refine d_ldA rfl ty_int rfl hA5 rfl ?_
      refine d_ch rfl ?_
      refine s_call ok_markInt rfl (markInt_ct w.heap.size q W2.drew hqb (by have := hK.size; have := hK2.size; have := (Ex.drew W2).size; omega)) ?_
      rintro x w5 ⟨hmk, hone, hx5⟩
      have hx25 := (Ex.drew W2).trans hx5
      refine l_nil ⟨rfl, .inr hx25, ?_⟩
      refine d_iaA (n := k) rfl sl_ints ty_int rfl rfl hk' ?_
      refine d_ch rfl ?_
      refine s_stA (n := k) (u := x) ty_int rfl rfl hone (hf3.2.1.ex hx25) (by simp [hxs.1]; omega) ?_
      intro w6 hA6 hg6
      refine l_nil ⟨rfl, .inl rfl, ?_⟩
      refine d_nil ?_
      have hset : Wd w6 3 1 (.slice (some ⟨lb, 0, none⟩) (ln q) lc2) (ln q) ((xs ++ (cs q).drop k).set k x) := Wd.set (w := w6) (by simp [hxs.1]; omega) (by simp [hxs.1]; omega) hA6 hf3.2.2.1 hf3.2.2.2.1 hf3.2.2.2.2
      rw [← hf3.1] at hset
      have e : (xs ++ (cs q).drop k).set k x = (xs ++ [x]) ++ (cs q).drop (k + 1) := by
        rw [List.set_append_right _ _ (by omega), hxs.1, Nat.sub_self]
        have : (cs q).drop k = (cs q)[k] :: (cs q).drop (k + 1) := List.drop_eq_getElem_cons (by omega)
        rw [this, List.set_cons_zero, List.append_assoc]; rfl
      rw [e] at hset
      have hlo : lb < w.heap.size := hS lb ⟨q, hqm, hlb⟩
      repeat (first | (refine isO ?_; first | refine s_move ?_ | refine s_assign ?_ | (refine isBin ?_; refine s_inc rfl (by omega) ?_)) | (refine isC ?_; refine c_region ?_) | (refine l_th ?_))
      refine loop_end (k + 1) (by (repeat (first | exact agree_refl _ _ | refine agree_upd rfl ?_ | refine agree_ext rfl ?_ | refine agree_mask rfl ?_))) ⟨rfl, trivial⟩ ⟨hk', (hK2.trans (KtS.of_ex hx25)).trans (KtS.of_grown hg6 (fun b e => by rw [← e]; exact hlb)), xs ++ [x], by simp [hxs.1], hset, fun u hu => ?_⟩ (by omega)
      have hlt6 : ∀ b, some lb = some b → b < w.heap.size := fun b e => by cases e; exact hlo
      rcases List.mem_append.1 hu with hu | hu
      · exact MKi.grown ((hxs.2.2 u hu).ex hx25) hg6 hlt6
      · simp at hu; subst hu; exact MKi.grown hmk hg6 hlt6
    · have hke : k = ln q := by omega
      subst hke
      have hK6 : KtS (fun b => (L q).ownBlock = some b) W W2 := hK4.trans hK2
      repeat (first | (refine isO ?_; first | refine s_move ?_ | refine s_assign ?_ | (refine isBin ?_; refine s_inc rfl (by omega) ?_)) | (refine isC ?_; first | refine c_region ?_ | refine c_exit ?_) | (refine l_th ?_))
      refine loop_end (i + 1) (by (repeat (first | exact agree_refl _ _ | refine agree_upd rfl ?_ | refine agree_ext rfl ?_ | refine agree_mask rfl ?_))) ⟨rfl, trivial⟩ ⟨hi', hK.trans (hK6.mono fun b hb => ⟨q, hqm, hb⟩), fun j p hp => ⟨fun hj => ?_, fun hj => ?_⟩⟩ (by omega)
      · by_cases e : j = i
        · subst e
          rw [hqi] at hp
          have e2 := Option.some.inj hp
          subst e2
          exact ⟨xs, by have := hxs.2.1; rwa [List.drop_eq_nil_of_le (by omega), List.append_nil] at this, hxs.2.2⟩
        · have hpm := List.mem_of_getElem? hp
          have hpq : p ≠ q := fun e2 => e (nodup_inj hnd hp (e2 ▸ hqi))
          obtain ⟨ys, h1, h2⟩ := (hI j p hp).1 (by omega)
          exact ⟨ys, h1.kt hK6 (fun b hb hb2 => hd p hpm q hqm hpq b hb hb2), fun u hu => MKi.kt (h2 u hu) hK6 (fun b hb => hS b ⟨q, hqm, hb⟩)⟩
      · have hpm := List.mem_of_getElem? hp
        have hpq : p ≠ q := fun e2 => by have := nodup_inj hnd hp (e2 ▸ hqi); omega
        exact ((hI j p hp).2 (by omega)).kt hK6 (fun b hb hb2 => hd p hpm q hqm hpq b hb hb2)
  · have hie : i = ns.length := by omega
    subst hie
    repeat (first | (refine isC ?_; refine c_exit ?_) | (first | refine ib_exit ?_ | refine th_exit ?_))
    refine end0 rfl ⟨rfl, hK, fun q hqm => ?_⟩
    obtain ⟨j, hj⟩ := List.mem_iff_getElem?.1 hqm
    exact (hI j q hj).1 (List.getElem?_eq_some_iff.1 hj).1
theorem ok_fillIntList : CallOK Tryz.prog 47 := callOK Tryz.func47 (by kernel_rfl) rfl
set_option maxHeartbeats 2000000 in
theorem fillIntList_ct (bk M : Nat) (ns : List Nat) (L G : Nat → Value) (ln : Nat → Nat) (cs : Nat → List Value) (vi vl : Value) (w : World) (hA : At w bk 46 (bkc M vl vi)) (hW : Wd w 105 3 vi ns.length (flat3 L G ns)) (hN : ns.length ≤ 100000) (hq : ∀ q ∈ ns, q ≤ 200000)
    (hL : ∀ q ∈ ns, Wd w 25 1 (L q) (ln q) (cs q)) (hln : ∀ q ∈ ns, ln q ≤ 100000) (hLone : ∀ q ∈ ns, (L q).oneCell' = true) (hGone : ∀ q ∈ ns, (G q).oneCell' = true) (hnd : ns.Nodup) (hd : ∀ p ∈ ns, ∀ q ∈ ns, p ≠ q → ∀ b, (L p).ownBlock = some b → (L q).ownBlock ≠ some b) (hbk : ∀ q ∈ ns, ∀ b, (L q).ownBlock = some b → b ≠ bk ∧ vi.ownBlock ≠ some b) :
    Ct Tryz.prog 47 #[.pointer (some ⟨bk, 0, none⟩)] w fun u w' => u = .tuple #[] ∧ KtS (fun b => ∃ q ∈ ns, (L q).ownBlock = some b) w w' ∧ ∀ q ∈ ns, ∃ xs, Wd w' 25 1 (L q) (ln q) xs ∧ ∀ u ∈ xs, MKl w.heap.size w' q u := by
  obtain ⟨va, vc, hvf⟩ := hW.slen
  refine Exists.elim in_heldIntList.ex fun ti hti => ?_
  have hS : ∀ b, (∃ q ∈ ns, (L q).ownBlock = some b) → b < w.heap.size := fun b ⟨q, h1, h2⟩ => (hL q h1).lt b h2
  refine enter (N := 35) (vs := [.pointer (some ⟨bk, 0, none⟩)]) Tryz.func47 rfl rfl rfl ?_
  repeat (first | (refine isO ?_; refine s_assign ?_) | (refine isC ?_; first | refine c_sr ?_ | refine c_block ?_) | (refine l_th ?_))
  refine c_loop (γ := Nat) 34359738364 (fun i => [(2, .int .i64 (i : Int))]) (fun i W => i ≤ ns.length ∧ KtS (fun b => ∃ q ∈ ns, (L q).ownBlock = some b) w W ∧ ∀ j q, ns[j]? = some q → (j < i → ∃ xs, Wd W 25 1 (L q) (ln q) xs ∧ ∀ u ∈ xs, MKl w.heap.size W q u) ∧ (i ≤ j → Wd W 25 1 (L q) (ln q) (cs q))) (fun i => ns.length - i) 0 ⟨rfl, trivial⟩ ⟨Nat.zero_le _, KtS.refl _ _, fun j q h => ⟨fun h => by omega, fun _ => hL q (List.mem_of_getElem? h)⟩⟩ ?_
  rintro i ρ W ⟨hi, hK, hI⟩
  have hAW := hA.kt hK (fun ⟨q, h1, h2⟩ => (hbk q h1 bk h2).1 rfl)
  have hWW := hW.kt hK (fun b hb ⟨q, h1, h2⟩ => (hbk q h1 b h2).2 hb)
  repeat (first | (refine isO ?_; refine s_move ?_) | (refine isC ?_; first | refine c_sr ?_ | refine c_seq ?_))
  refine s_nil rfl ?_
  refine s_faN Tryz.underlying46 rfl ty_hl.n rfl ?_
  refine s_ldA ty_hl rfl hAW rfl ?_
  refine s_len (n := ns.length) (a := va) (c := vc) sl_hl hvf ?_
  repeat (first | (refine isO ?_; (refine isBin ?_; refine s_lss rfl rfl ?_)) | (refine l_th ?_))
  refine c_ifd rfl (fun h => ?_) (fun h => ?_)
  · have hi' : i < ns.length := by omega
    have hqe : ∃ q, ns[i]? = some q := ⟨_, List.getElem?_eq_getElem hi'⟩
    refine Exists.elim hqe fun q hqi => ?_
    have hqm := List.mem_of_getElem? hqi
    refine Exists.elim (hWW.pos (by omega)) fun ib he1 => Exists.elim he1 fun ic he2 => Exists.elim he2 fun isp he3 => ?_
    have hcell : ∀ j v, [L q, G q, Value.int .i64 (q : Int)][j]? = some v → (flat3 L G ns ++ isp)[i * 3 + j]? = some v := fun j v hj => by
      have h1 := flat3_get L G ns i q hqi j v hj
      rw [List.getElem?_append_left (List.getElem?_eq_some_iff.1 h1).1]; exact h1
    repeat (first | (refine isO ?_; refine s_move ?_) | (refine isC ?_; first | refine c_sr ?_ | refine c_th ?_ | refine c_seq ?_ | refine c_block ?_))
    refine s_nil rfl ?_
    refine s_faN Tryz.underlying46 rfl ty_hl.n rfl ?_
    refine s_ldA ty_hl rfl hAW rfl ?_
    refine s_re (v' := .slice (some ⟨ib, 0, none⟩) ns.length ic) he3.1 ?_
    repeat ((refine isO ?_; refine s_move ?_))
    refine s_iaW (n := i) (s := 3) sl_hl ⟨ti, hti.1, hti.2.2.1⟩ rfl rfl hi' ?_
    refine s_ldM (cs := [L q, G q, .int .i64 (q : Int)]) Tryz.underlying105 rfl (by kernel_rfl) rfl he3.2.1 hcell ?_
    refine s_alloc (cs := [.slice none 0 0, .slice none 0 0, .int .i64 0]) hti.1 hti.2.1 rfl ?_
    intro b3 w3 hb3 hA3 hx3 hs3
    refine s_stV (cs := [L q, G q, .int .i64 (q : Int)]) (by kernel_rfl) rfl rfl hA3 rfl (by rw [List.all_cons, List.all_cons, hLone q hqm, hGone q hqm]; rfl) ?_
    intro w4 hA4 hg4 hz4
    have hWq := hW
    have z3 := hx3.size
    have hK4 : KtS (fun b => (L q).ownBlock = some b) W w4 := (KtS.of_ex hx3).later (KtS.of_grown (S := fun b => b3 = b) hg4 (fun k e => Option.some.inj e)) (fun k e => .inr (by omega))
    have hLq := ((hI i q hqi).2 (Nat.le_refl _))
    have hLq4 := hLq.kt ((KtS.of_ex (S := fun _ => False) hx3).later (KtS.of_grown (S := fun b => b3 = b) hg4 (fun k e => Option.some.inj e)) (fun k e => .inr (by omega))) (fun _ _ h => h)
    have hqb := hq q hqm
    have hlq := hln q hqm
    have hxl : (cs q).length = ln q := by have := hLq.len; simpa using this
    have hb3L : ∀ b, (L q).ownBlock = some b → b ≠ b3 := fun b hb e => by have := hLq.lt b hb; omega
    refine Exists.elim hLq.slen fun la hl1 => Exists.elim hl1 fun lc hlf => ?_
    repeat (first | (refine isO ?_; refine s_assign ?_) | (refine isC ?_; first | refine c_sr ?_ | refine c_block ?_) | (refine l_th ?_))
    refine c_loop (γ := Nat) 34357641232 (fun k => [(4, .int .i64 (k : Int))]) (fun k W2 => k ≤ ln q ∧ KtS (fun b => (L q).ownBlock = some b) w4 W2 ∧ ∃ xs, xs.length = k ∧ Wd W2 25 1 (L q) (ln q) (xs ++ (cs q).drop k) ∧ ∀ u ∈ xs, MKl w.heap.size W2 q u) (fun k => ln q - k) 0 ⟨rfl, trivial⟩ ⟨Nat.zero_le _, KtS.refl _ _, [], rfl, by simpa using hLq4, fun u hu => by cases hu⟩ ?_
    rintro k ρ2 W2 ⟨hk, hK2, hxe⟩
    refine Exists.elim hxe fun xs hxs => ?_
    have hA5 := hA4.kt hK2 (fun e => hb3L b3 e rfl)
    repeat (first | (refine isO ?_; refine s_move ?_) | (refine isC ?_; first | refine c_sr ?_ | refine c_seq ?_))
    refine s_faN Tryz.underlying105 rfl ty_rows.n rfl ?_
    refine s_ldA ty_rows rfl hA5 rfl ?_
    refine s_len (n := ln q) (a := la) (c := lc) sl_rows hlf ?_
    repeat (first | (refine isO ?_; (refine isBin ?_; refine s_lss rfl rfl ?_)) | (refine l_th ?_))
    refine c_ifd rfl (fun h2 => ?_) (fun h2 => ?_)
    · have hk' : k < ln q := by omega
      refine Exists.elim (hxs.2.1.pos (by omega)) fun lb hf1 => Exists.elim hf1 fun lc2 hf2 => Exists.elim hf2 fun lsp hf3 => ?_
      have hlb : (L q).ownBlock = some lb := by rw [hf3.1]; rfl
      have hlbb := hb3L lb hlb
      repeat ((refine isC ?_; first | refine c_th ?_ | refine c_seq ?_ | refine c_block ?_))
      refine c_drawO (Ex.refl W2) 7 8 [(0, true), (1, true), (2, true), (3, true), (4, true), (5, false), (6, true), (7, false)] mixed (by kernel_rfl) ?_
      refine d_faN rfl Tryz.underlying105 rfl ty_rows.n rfl ?_
      refine d_ldA rfl ty_rows rfl hA5 rfl ?_
      refine d_re (v' := .slice (some ⟨lb, 0, none⟩) (ln q) lc2) hf3.1 ?_
      refine d_move rfl ?_
      refine d_faN rfl Tryz.underlying105 rfl ty_int.n rfl ?_
      refine d_ldA rfl ty_int rfl hA5 rfl ?_
      refine d_ch rfl ?_
      refine s_call ok_markIntList rfl (markIntList_ct w.heap.size q W2.drew hqb (by have := hK.size; have := hK2.size; have := (Ex.drew W2).size; omega)) ?_
      rintro x w5 ⟨hmk, hone, hx5⟩
      have hx25 := (Ex.drew W2).trans hx5
      refine l_nil ⟨rfl, .inr hx25, ?_⟩
      refine d_iaA (n := k) rfl sl_rows ty_ints rfl rfl hk' ?_
      refine d_ch rfl ?_
      refine s_stA (n := k) (u := x) ty_ints rfl rfl hone (hf3.2.1.ex hx25) (by simp [hxs.1]; omega) ?_
      intro w6 hA6 hg6
      refine l_nil ⟨rfl, .inl rfl, ?_⟩
      refine d_nil ?_
      have hset : Wd w6 25 1 (.slice (some ⟨lb, 0, none⟩) (ln q) lc2) (ln q) ((xs ++ (cs q).drop k).set k x) := Wd.set (w := w6) (by simp [hxs.1]; omega) (by simp [hxs.1]; omega) hA6 hf3.2.2.1 hf3.2.2.2.1 hf3.2.2.2.2
      rw [← hf3.1] at hset
      have e : (xs ++ (cs q).drop k).set k x = (xs ++ [x]) ++ (cs q).drop (k + 1) := by
        rw [List.set_append_right _ _ (by omega), hxs.1, Nat.sub_self]
        have : (cs q).drop k = (cs q)[k] :: (cs q).drop (k + 1) := List.drop_eq_getElem_cons (by omega)
        rw [this, List.set_cons_zero, List.append_assoc]; rfl
      rw [e] at hset
      have hlo : lb < w.heap.size := hS lb ⟨q, hqm, hlb⟩
      repeat (first | (refine isO ?_; first | refine s_move ?_ | refine s_assign ?_ | (refine isBin ?_; refine s_inc rfl (by omega) ?_)) | (refine isC ?_; refine c_region ?_) | (refine l_th ?_))
      refine loop_end (k + 1) (by (repeat (first | exact agree_refl _ _ | refine agree_upd rfl ?_ | refine agree_ext rfl ?_ | refine agree_mask rfl ?_))) ⟨rfl, trivial⟩ ⟨hk', (hK2.trans (KtS.of_ex hx25)).trans (KtS.of_grown hg6 (fun b e => by rw [← e]; exact hlb)), xs ++ [x], by simp [hxs.1], hset, fun u hu => ?_⟩ (by omega)
      have hlt6 : ∀ b, some lb = some b → b < w.heap.size := fun b e => by cases e; exact hlo
      rcases List.mem_append.1 hu with hu | hu
      · exact MKl.grown ((hxs.2.2 u hu).ex hx25) hg6 hlt6
      · simp at hu; subst hu; exact MKl.grown hmk hg6 hlt6
    · have hke : k = ln q := by omega
      subst hke
      have hK6 : KtS (fun b => (L q).ownBlock = some b) W W2 := hK4.trans hK2
      repeat (first | (refine isO ?_; first | refine s_move ?_ | refine s_assign ?_ | (refine isBin ?_; refine s_inc rfl (by omega) ?_)) | (refine isC ?_; first | refine c_region ?_ | refine c_exit ?_) | (refine l_th ?_))
      refine loop_end (i + 1) (by (repeat (first | exact agree_refl _ _ | refine agree_upd rfl ?_ | refine agree_ext rfl ?_ | refine agree_mask rfl ?_))) ⟨rfl, trivial⟩ ⟨hi', hK.trans (hK6.mono fun b hb => ⟨q, hqm, hb⟩), fun j p hp => ⟨fun hj => ?_, fun hj => ?_⟩⟩ (by omega)
      · by_cases e : j = i
        · subst e
          rw [hqi] at hp
          have e2 := Option.some.inj hp
          subst e2
          exact ⟨xs, by have := hxs.2.1; rwa [List.drop_eq_nil_of_le (by omega), List.append_nil] at this, hxs.2.2⟩
        · have hpm := List.mem_of_getElem? hp
          have hpq : p ≠ q := fun e2 => e (nodup_inj hnd hp (e2 ▸ hqi))
          obtain ⟨ys, h1, h2⟩ := (hI j p hp).1 (by omega)
          exact ⟨ys, h1.kt hK6 (fun b hb hb2 => hd p hpm q hqm hpq b hb hb2), fun u hu => MKl.kt (h2 u hu) hK6 (fun b hb => hS b ⟨q, hqm, hb⟩)⟩
      · have hpm := List.mem_of_getElem? hp
        have hpq : p ≠ q := fun e2 => by have := nodup_inj hnd hp (e2 ▸ hqi); omega
        exact ((hI j p hp).2 (by omega)).kt hK6 (fun b hb hb2 => hd p hpm q hqm hpq b hb hb2)
  · have hie : i = ns.length := by omega
    subst hie
    repeat (first | (refine isC ?_; refine c_exit ?_) | (first | refine ib_exit ?_ | refine th_exit ?_))
    refine end0 rfl ⟨rfl, hK, fun q hqm => ?_⟩
    obtain ⟨j, hj⟩ := List.mem_iff_getElem?.1 hqm
    exact (hI j q hj).1 (List.getElem?_eq_some_iff.1 hj).1
end Go.Proofs.YtifbgpkjbciblaaGreatDoor.Sal
/- The Book of salesroomlaw01: grow. -/
set_option maxRecDepth 100000
namespace Go.Proofs.YtifbgpkjbciblaaGreatDoor.Sal
open Go.RowKit
attribute [local irreducible] Go.Code.wpIn Go.wpListIn Ct Ints Rows Sl At Rw WJ
attribute [local irreducible] Wd
set_option linter.all false
theorem in_wint : InfoW Tryz.prog 3 1 (.int .i64 0) 8 := in_w inf_int rfl
theorem in_wints : InfoW Tryz.prog 25 1 (.slice none 0 0) 24 := in_w inf_ints rfl
/-- Marks stand when another list is written. -/
theorem MKi.app {lo n : Nat} {w w' : World} {q : Nat} {u v : Value} {xs : List Value} (h : MKi lo w q u) (hW : Wd w 3 1 v n xs) (hg : w.grownBy w' v.ownBlock) : MKi lo w' q u := h
theorem MKl.app {lo n : Nat} {w w' : World} {q : Nat} {u v : Value} {xs : List Value} (h : MKl lo w q u) (hW : Wd w 25 1 v n xs) (hg : w.grownBy w' v.ownBlock) : MKl lo w' q u := by
  obtain ⟨b, h1, h2, h3⟩ := h
  refine ⟨b, h1, h2, h3.grown hg (fun e => ?_)⟩
  unfold Wd at hW
  rcases hW.2 with ⟨rfl, _⟩ | ⟨b', c, sp, rfl, hA, _⟩
  · cases e
  · cases e
    unfold At at hA h3
    rw [hA] at h3
    have h4 := Option.some.inj h3
    rw [Obj.cells.injEq] at h4
    exact absurd h4.2.1 (by decide)
theorem own_case {a : Option Addr} {n n' c : Nat} : (Value.slice a n c).ownBlock = (Value.slice a n' c).ownBlock := by cases a <;> rfl
theorem ok_growInt : CallOK Tryz.prog 54 := callOK Tryz.func54 (by kernel_rfl) rfl
set_option maxHeartbeats 2000000 in
theorem growInt_ct (bk M lo : Nat) (ns : List Nat) (L G : Nat → Value) (ln : Nat → Nat) (vi vl : Value) (w : World) (hA : At w bk 46 (bkc M vi vl)) (hW : Wd w 107 3 vi ns.length (flat3 L G ns)) (hN : ns.length ≤ 100000) (hq : ∀ q ∈ ns, q ≤ 200000)
    (hL : ∀ q ∈ ns, ∃ xs, Wd w 3 1 (L q) (ln q) xs ∧ ∀ u ∈ xs, MKi lo w q u) (hln : ∀ q ∈ ns, ln q ≤ 100000) (hGone : ∀ q ∈ ns, (G q).oneCell' = true) (hnd : ns.Nodup) (hd : ∀ p ∈ ns, ∀ q ∈ ns, p ≠ q → ∀ b, (L p).ownBlock = some b → (L q).ownBlock ≠ some b) (hbk : ∀ q ∈ ns, ∀ b, (L q).ownBlock = some b → b ≠ bk ∧ vi.ownBlock ≠ some b ∧ b < lo) (hvb : ∀ b, vi.ownBlock = some b → b ≠ bk ∧ b < lo) (hlo : lo ≤ w.heap.size) :
    Ct Tryz.prog 54 #[.pointer (some ⟨bk, 0, none⟩)] w fun u w' => u = .tuple #[] ∧ KtS (fun b => (∃ q ∈ ns, (L q).ownBlock = some b) ∨ vi.ownBlock = some b) w w' ∧ ∃ G', Wd w' 107 3 vi ns.length (flat3 L G' ns) ∧ ∀ q ∈ ns, (∃ xs, Wd w' 3 1 (L q) (ln q) xs ∧ ∀ u ∈ xs, MKi lo w' q u) ∧ (∃ ys, Wd w' 3 1 (G' q) (ln q + 40) ys ∧ ∀ u ∈ ys, MKi lo w' q u) ∧ ∀ b, (G' q).ownBlock = some b → (L q).ownBlock = some b ∨ w.heap.size ≤ b := by
  obtain ⟨va, vc, hvf⟩ := hW.slen
  refine Exists.elim in_heldInt.ex fun ti hti => ?_
  have hLw : ∀ q ∈ ns, ∀ b, (L q).ownBlock = some b → b < w.heap.size := fun q h1 b h2 => by obtain ⟨xs, h3, _⟩ := hL q h1; exact h3.lt b h2
  have hLone : ∀ q ∈ ns, (L q).oneCell' = true := fun q h1 => by obtain ⟨xs, h3, _⟩ := hL q h1; exact h3.one
  have hSlo : ∀ b, ((∃ q ∈ ns, (L q).ownBlock = some b) ∨ vi.ownBlock = some b) → b < lo := fun b h => by
    rcases h with ⟨q, h1, h2⟩ | h
    · exact (hbk q h1 b h2).2.2
    · exact (hvb b h).2
  refine enter (N := 42) (vs := [.pointer (some ⟨bk, 0, none⟩)]) Tryz.func54 rfl rfl rfl ?_
  repeat (first | (refine isO ?_; refine s_assign ?_) | (refine isC ?_; first | refine c_sr ?_ | refine c_block ?_) | (refine l_th ?_))
  refine c_loop (γ := Nat) 4398046511100 (fun i => [(2, .int .i64 (i : Int))]) (fun i W => i ≤ ns.length ∧ KtS (fun b => (∃ q ∈ ns, (L q).ownBlock = some b) ∨ vi.ownBlock = some b) w W ∧ ∃ G', Wd W 107 3 vi ns.length (flat3 L G' ns) ∧ (∀ q ∈ ns, (G' q).oneCell' = true) ∧ ∀ j q, ns[j]? = some q → (∃ xs, Wd W 3 1 (L q) (ln q) xs ∧ ∀ u ∈ xs, MKi lo W q u) ∧ (j < i → (∃ ys, Wd W 3 1 (G' q) (ln q + 40) ys ∧ ∀ u ∈ ys, MKi lo W q u) ∧ ∀ b, (G' q).ownBlock = some b → (L q).ownBlock = some b ∨ w.heap.size ≤ b)) (fun i => ns.length - i) 0 ⟨rfl, trivial⟩ ⟨Nat.zero_le _, KtS.refl _ _, G, hW, hGone, fun j q h => ⟨hL q (List.mem_of_getElem? h), fun h => by omega⟩⟩ ?_
  rintro i ρ W ⟨hi, hK, hGe⟩
  refine Exists.elim hGe fun G' hG => ?_
  have hWW := hG.1
  have hI := hG.2.2
  have hAW := hA.kt hK (fun h => by
    rcases h with ⟨q, h1, h2⟩ | h
    · exact (hbk q h1 bk h2).1 rfl
    · exact (hvb bk h).1 rfl)
  repeat (first | (refine isO ?_; refine s_move ?_) | (refine isC ?_; first | refine c_sr ?_ | refine c_seq ?_))
  refine s_nil rfl ?_
  refine s_faN Tryz.underlying46 rfl ty_hi.n rfl ?_
  refine s_ldA ty_hi rfl hAW rfl ?_
  refine s_len (n := ns.length) (a := va) (c := vc) sl_hi hvf ?_
  repeat (first | (refine isO ?_; (refine isBin ?_; refine s_lss rfl rfl ?_)) | (refine l_th ?_))
  refine c_ifd rfl (fun h => ?_) (fun h => ?_)
  · have hi' : i < ns.length := by omega
    have hqe : ∃ q, ns[i]? = some q := ⟨_, List.getElem?_eq_getElem hi'⟩
    refine Exists.elim hqe fun q hqi => ?_
    have hqm := List.mem_of_getElem? hqi
    refine Exists.elim (hWW.pos (by omega)) fun ib he1 => Exists.elim he1 fun ic he2 => Exists.elim he2 fun isp he3 => ?_
    have hcell : ∀ j v, [L q, G' q, Value.int .i64 (q : Int)][j]? = some v → (flat3 L G' ns ++ isp)[i * 3 + j]? = some v := fun j v hj => by
      have h1 := flat3_get L G' ns i q hqi j v hj
      rw [List.getElem?_append_left (List.getElem?_eq_some_iff.1 h1).1]; exact h1
    have hib : vi.ownBlock = some ib := by rw [he3.1]; rfl
    repeat (first | (refine isO ?_; refine s_move ?_) | (refine isC ?_; first | refine c_sr ?_ | refine c_th ?_ | refine c_seq ?_ | refine c_block ?_))
    refine s_nil rfl ?_
    refine s_faN Tryz.underlying46 rfl ty_hi.n rfl ?_
    refine s_ldA ty_hi rfl hAW rfl ?_
    refine s_re (v' := .slice (some ⟨ib, 0, none⟩) ns.length ic) he3.1 ?_
    repeat ((refine isO ?_; refine s_move ?_))
    refine s_iaW (n := i) (s := 3) sl_hi ⟨ti, hti.1, hti.2.2.1⟩ rfl rfl hi' ?_
    refine s_ldM (cs := [L q, G' q, .int .i64 (q : Int)]) Tryz.underlying107 rfl (by kernel_rfl) rfl he3.2.1 hcell ?_
    refine s_alloc (cs := [.slice none 0 0, .slice none 0 0, .int .i64 0]) hti.1 hti.2.1 rfl ?_
    intro b3 w3 hb3 hA3 hx3 hs3
    refine s_stV (cs := [L q, G' q, .int .i64 (q : Int)]) (by kernel_rfl) rfl rfl hA3 rfl (by rw [List.all_cons, List.all_cons, hLone q hqm, hG.2.1 q hqm]; rfl) ?_
    intro w4 hA4 hg4 hz4
    have z3 := hx3.size
    have hK4 : KtS (fun _ => False) W w4 := (KtS.of_ex hx3).later (KtS.of_grown (S := fun b => b3 = b) hg4 (fun k e => Option.some.inj e)) (fun k e => .inr (by omega))
    have hxW4 : Ex W w4 := ⟨hK4.os, hK4.tape, hK4.output, hK4.size, fun k hk => hK4.block k hk (fun h => h)⟩
    have hLq := (hI i q hqi).1
    refine Exists.elim hLq fun cs hcs => ?_
    have hLq4 := hcs.1.ex hxW4
    have hqb := hq q hqm
    have hlq := hln q hqm
    have hb3L : ∀ b, (L q).ownBlock = some b → b ≠ b3 := fun b hb e => by have := hcs.1.lt b hb; omega
    refine Exists.elim hcs.1.slen fun la hl1 => Exists.elim hl1 fun lc hlf => ?_
    have zW := hK.size
    repeat (first | (refine isC ?_; refine c_sr ?_) | (refine l_th ?_))
    refine s_faN Tryz.underlying107 rfl ty_ints.n rfl ?_
    refine s_ldA ty_ints rfl hA4 rfl ?_
    repeat (first | (refine isO ?_; refine s_assign ?_) | (refine isC ?_; first | refine c_sr ?_ | refine c_seq ?_ | refine c_block ?_) | (refine l_th ?_))
    refine c_loop2 17163092016 (fun (k : Nat) (v4 : Value) => [(5, .int .i64 (k : Int)), (4, v4)]) (fun k v4 W2 => k ≤ 40 ∧ KtS (fun b => (L q).ownBlock = some b) w4 W2 ∧ (∃ ys, Wd W2 3 1 v4 (ln q + k) ys ∧ ∀ u ∈ ys, MKi lo W2 q u) ∧ ((v4 = .slice la (ln q + k) lc) ∨ ((∀ b, v4.ownBlock = some b → w4.heap.size ≤ b) ∧ ∃ xs, Wd W2 3 1 (L q) (ln q) xs ∧ ∀ u ∈ xs, MKi lo W2 q u))) (fun k _ => 40 - k) 0 (L q) ⟨rfl, rfl, trivial⟩ ⟨Nat.zero_le _, KtS.refl _ _, ⟨cs, hLq4, fun u hu => MKi.ex (hcs.2 u hu) hxW4⟩, .inl hlf⟩ ?_
    rintro k v4 ρ2 W2 ⟨hk, hK2, hye, hcase⟩
    refine Exists.elim hye fun ys hys => ?_
    have hA5 := hA4.kt hK2 (fun e => hb3L b3 e rfl)
    have z2 := hK2.size
    have z4 := hxW4.size
    repeat (first | (refine isO ?_; first | refine s_move ?_ | (refine isBin ?_; refine s_lss rfl rfl ?_)) | (refine isC ?_; first | refine c_sr ?_ | refine c_seq ?_) | (refine l_th ?_))
    refine c_ifd rfl (fun h2 => ?_) (fun h2 => ?_)
    · have hk' : k < 40 := by omega
      repeat (first | (refine isO ?_; refine s_move ?_) | (refine isC ?_; first | refine c_th ?_ | refine c_seq ?_ | refine c_region ?_ | refine c_block ?_))
      refine s_faN Tryz.underlying107 rfl ty_int.n rfl ?_
      refine s_ldA ty_int rfl hA5 rfl ?_
      refine s_call ok_markInt rfl (markInt_ct lo q W2 hqb (by omega)) ?_
      rintro x w5 ⟨hmk, hone, hx5⟩
      refine s_bs1 (u := x) sl_ints in_int rfl hone ?_
      intro b6 w6 hb6 hA6 hx6 hs6
      have hx26 := hx5.trans hx6
      refine s_appW (n := ln q + k) (m := 1) (news := [x]) sl_ints in_wint (by omega) (hys.1.ex hx26) ⟨b6, 1, rfl, [], by simpa using hA6⟩ rfl (by omega) (by intro u hu; simp at hu; subst hu; exact hone) (by omega) (by omega) rfl rfl ?_
      intro v5 w7 hW7 hg7 hf7
      have hys7 : ∀ u ∈ ys ++ [x], MKi lo w7 q u := fun u hu => by
        rcases List.mem_append.1 hu with hu | hu
        · exact MKi.app ((hys.2 u hu).ex hx26) (hys.1.ex hx26) hg7
        · simp at hu; subst hu; exact MKi.app (hmk.ex hx6) (hys.1.ex hx26) hg7
      have hown : v4.ownBlock = (L q).ownBlock ∨ ∀ b, v4.ownBlock = some b → w4.heap.size ≤ b := by
        rcases hcase with hc | hc
        · left; rw [hc, hlf]; exact own_case
        · exact .inr hc.1
      have hK7 : KtS (fun b => (L q).ownBlock = some b) w4 w7 := (hK2.trans (KtS.of_ex hx26)).later (KtS.of_grown (S := fun b => v4.ownBlock = some b) hg7 (fun b e => e)) (fun b hb => by
        rcases hown with he | hf
        · exact .inl (he ▸ hb)
        · exact .inr (hf b hb))
      have z26 := hx26.size
      have hnext : (v5 = .slice la (ln q + (k + 1)) lc) ∨ ((∀ b, v5.ownBlock = some b → w4.heap.size ≤ b) ∧ ∃ xs, Wd w7 3 1 (L q) (ln q) xs ∧ ∀ u ∈ xs, MKi lo w7 q u) := by
        rcases hcase with hc | hc
        · rcases hf7 with ⟨a, c, h5, h6⟩ | ⟨h5, h6⟩
          · left
            rw [hc] at h5; cases h5
            rw [h6]; rfl
          · right
            refine ⟨fun b hb => by have := h5 b hb; omega, ys.take (ln q), ?_, fun u hu => ?_⟩
            · have h9 := hys.1
              rw [hc] at h9
              have h8 := h9.head
              rw [← hlf] at h8
              exact (h8.ex hx26).ex h6
            · exact hys7 u (List.mem_append_left _ (List.mem_of_mem_take hu))
        · right
          refine ⟨fun b hb => ?_, ?_⟩
          · rcases hf7 with ⟨a, c, h5, h6⟩ | ⟨h5, h6⟩
            · exact hc.1 b (by rw [h5, own_case (n' := ln q + k + 1), ← h6]; exact hb)
            · have := h5 b hb; omega
          · obtain ⟨xs, h8, h9⟩ := hc.2
            refine ⟨xs, (h8.ex hx26).grown hg7 (fun b hb e => ?_), fun u hu => ?_⟩
            · have := hc.1 b e
              have := hLq4.lt b hb
              omega
            · exact MKi.app ((h9 u hu).ex hx26) (hys.1.ex hx26) hg7
      repeat (first | (refine isO ?_; first | refine s_move ?_ | refine s_assign ?_ | (refine isBin ?_; refine s_inc rfl (by omega) ?_)) | (refine isC ?_; refine c_region ?_) | (first | refine l_th ?_ | refine l_nil ?_))
      exact loop_end2 (k + 1) v5 (by (repeat (first | exact agree_refl _ _ | refine agree_upd rfl ?_ | refine agree_ext rfl ?_ | refine agree_mask rfl ?_))) ⟨rfl, rfl, trivial⟩ ⟨hk', hK7, ⟨ys ++ [x], hW7, hys7⟩, hnext⟩ (by omega)
    · have hke : k = 40 := by omega
      subst hke
      have hK6 : KtS (fun b => (L q).ownBlock = some b) W W2 := (hK4.mono (fun _ h => h.elim)).trans hK2
      have hibL : ∀ b, (L q).ownBlock = some b → b ≠ ib := fun b hb e => (hbk q hqm b hb).2.1 (by rw [hib, e])
      have hAb6 := hAW.kt hK6 (fun e => (hbk q hqm bk e).1 rfl)
      have hAi6 := he3.2.1.kt hK6 (fun e => hibL ib e rfl)
      repeat (first | (refine isO ?_; refine s_move ?_) | (refine isC ?_; first | refine c_region ?_ | refine c_exit ?_))
      refine s_nil rfl ?_
      refine s_faN Tryz.underlying46 rfl ty_hi.n rfl ?_
      refine s_ldA ty_hi rfl hAb6 rfl ?_
      refine s_re (v' := .slice (some ⟨ib, 0, none⟩) ns.length ic) he3.1 ?_
      repeat ((refine isO ?_; refine s_move ?_))
      refine s_iaW (n := i) (s := 3) sl_hi ⟨ti, hti.1, hti.2.2.1⟩ rfl rfl hi' ?_
      refine s_faN Tryz.underlying107 rfl ty_ints.n rfl ?_
      refine s_stA (n := i * 3 + 1) (u := v4) ty_ints rfl rfl hys.1.one hAi6 (by have := flat3_len L G' ns; simp; omega) ?_
      intro w8 hA8 hg8
      have hset : Wd w8 107 3 (.slice (some ⟨ib, 0, none⟩) ns.length ic) ns.length ((flat3 L G' ns).set (i * 3 + 1) v4) := Wd.set (w := w8) (flat3_len _ _ _) (by have := flat3_len L G' ns; omega) hA8 he3.2.2.1 he3.2.2.2.1 he3.2.2.2.2
      rw [← he3.1, flat3_set L G' v4 ns i q hnd hqi] at hset
      have hown : v4.ownBlock = (L q).ownBlock ∨ ∀ b, v4.ownBlock = some b → w4.heap.size ≤ b := by
        rcases hcase with hc | hc
        · left; rw [hc, hlf]; exact own_case
        · exact .inr hc.1
      have hibW := hWW.lt ib hib
      have hv4 : ∀ b, v4.ownBlock = some b → b ≠ ib := fun b hb e => by
        rcases hown with he | hf
        · exact hibL b (he ▸ hb) e
        · have := hf b hb; omega
      have hK8 : KtS (fun b => (L q).ownBlock = some b ∨ vi.ownBlock = some b) W w8 := (hK6.mono (fun _ h => .inl h)).trans (KtS.of_grown hg8 (fun b e => .inr (by rw [← e]; exact hib)))
      have hKw : KtS (fun b => (∃ q ∈ ns, (L q).ownBlock = some b) ∨ vi.ownBlock = some b) w w8 := hK.trans (hK8.mono (fun b h => h.imp (fun h => ⟨q, hqm, h⟩) id))
      have hiblo : ∀ b, some ib = some b → b < lo := fun b e => (hvb b (by rw [hib]; exact e)).2
      have hk8lo : ∀ b, ((L q).ownBlock = some b ∨ vi.ownBlock = some b) → b < lo := fun b h => h.elim (fun h => (hbk q hqm b h).2.2) (fun h => (hvb b h).2)
      repeat (first | (refine isO ?_; first | refine s_move ?_ | refine s_assign ?_ | (refine isBin ?_; refine s_inc rfl (by omega) ?_)) | (refine isC ?_; refine c_region ?_) | (first | refine l_th ?_ | refine l_nil ?_))
      refine loop_end (i + 1) (by (repeat (first | exact agree_refl _ _ | refine agree_upd rfl ?_ | refine agree_ext rfl ?_ | refine agree_mask rfl ?_))) ⟨rfl, trivial⟩ ⟨hi', hKw, fset1 G' q v4, hset, fun p hp => ?_, fun j p hp => ⟨?_, fun hj => ?_⟩⟩ (by omega)
      · unfold fset1
        split
        · exact hys.1.one
        · exact hG.2.1 p hp
      · by_cases e : p = q
        · subst e
          have h9 : ∃ xs, Wd W2 3 1 (L p) (ln p) xs ∧ ∀ u ∈ xs, MKi lo W2 p u := by
            rcases hcase with hc | hc
            · have h9 := hys.1
              rw [hc] at h9
              have h8 := h9.head
              rw [← hlf] at h8
              exact ⟨_, h8, fun u hu => hys.2 u (List.mem_of_mem_take hu)⟩
            · exact hc.2
          obtain ⟨xs, h1, h2⟩ := h9
          exact ⟨xs, h1.grown hg8 (fun b hb e => hibL b hb (Option.some.inj e).symm), fun u hu => MKi.grown (h2 u hu) hg8 hiblo⟩
        · have hpm := List.mem_of_getElem? hp
          obtain ⟨xs, h1, h2⟩ := (hI j p hp).1
          refine ⟨xs, h1.kt hK8 (fun b hb hb2 => ?_), fun u hu => MKi.kt (h2 u hu) hK8 hk8lo⟩
          rcases hb2 with hb2 | hb2
          · exact hd p hpm q hqm e b hb hb2
          · exact (hbk p hpm b hb).2.1 hb2
      · by_cases e : p = q
        · subst e
          have e9 : fset1 G' p v4 p = v4 := by unfold fset1; rw [if_pos rfl]
          rw [e9]
          refine ⟨⟨ys, hys.1.grown hg8 (fun b hb e => hv4 b hb (Option.some.inj e).symm), fun u hu => MKi.grown (hys.2 u hu) hg8 hiblo⟩, fun b hb => ?_⟩
          rcases hown with he | hf
          · exact .inl (he ▸ hb)
          · have := hf b hb; exact .inr (by omega)
        · have hpm := List.mem_of_getElem? hp
          have e9 : fset1 G' q v4 p = G' p := by unfold fset1; rw [if_neg e]
          have hji : j ≠ i := fun e2 => by subst e2; rw [hqi] at hp; exact e (Option.some.inj hp).symm
          rw [e9]
          obtain ⟨⟨zs, h1, h2⟩, h3⟩ := (hI j p hp).2 (by omega)
          refine ⟨⟨zs, h1.kt hK8 (fun b hb hb2 => ?_), fun u hu => MKi.kt (h2 u hu) hK8 hk8lo⟩, h3⟩
          rcases h3 b hb with h4 | h4
          · rcases hb2 with hb2 | hb2
            · exact hd p hpm q hqm e b h4 hb2
            · exact (hbk p hpm b h4).2.1 hb2
          · have := hk8lo b hb2; omega
  · have hie : i = ns.length := by omega
    subst hie
    repeat (first | (refine isC ?_; refine c_exit ?_) | (first | refine ib_exit ?_ | refine th_exit ?_))
    refine end0 rfl ⟨rfl, hK, G', hWW, fun q hqm => ?_⟩
    obtain ⟨j, hj⟩ := List.mem_iff_getElem?.1 hqm
    have h1 := hI j q hj
    have h2 := h1.2 (List.getElem?_eq_some_iff.1 hj).1
    exact ⟨h1.1, h2.1, h2.2⟩
theorem ok_growIntList : CallOK Tryz.prog 56 := callOK Tryz.func56 (by kernel_rfl) rfl
set_option maxHeartbeats 2000000 in
theorem growIntList_ct (bk M lo : Nat) (ns : List Nat) (L G : Nat → Value) (ln : Nat → Nat) (vi vl : Value) (w : World) (hA : At w bk 46 (bkc M vl vi)) (hW : Wd w 105 3 vi ns.length (flat3 L G ns)) (hN : ns.length ≤ 100000) (hq : ∀ q ∈ ns, q ≤ 200000)
    (hL : ∀ q ∈ ns, ∃ xs, Wd w 25 1 (L q) (ln q) xs ∧ ∀ u ∈ xs, MKl lo w q u) (hln : ∀ q ∈ ns, ln q ≤ 100000) (hGone : ∀ q ∈ ns, (G q).oneCell' = true) (hnd : ns.Nodup) (hd : ∀ p ∈ ns, ∀ q ∈ ns, p ≠ q → ∀ b, (L p).ownBlock = some b → (L q).ownBlock ≠ some b) (hbk : ∀ q ∈ ns, ∀ b, (L q).ownBlock = some b → b ≠ bk ∧ vi.ownBlock ≠ some b ∧ b < lo) (hvb : ∀ b, vi.ownBlock = some b → b ≠ bk ∧ b < lo) (hlo : lo ≤ w.heap.size) :
    Ct Tryz.prog 56 #[.pointer (some ⟨bk, 0, none⟩)] w fun u w' => u = .tuple #[] ∧ KtS (fun b => (∃ q ∈ ns, (L q).ownBlock = some b) ∨ vi.ownBlock = some b) w w' ∧ ∃ G', Wd w' 105 3 vi ns.length (flat3 L G' ns) ∧ ∀ q ∈ ns, (∃ xs, Wd w' 25 1 (L q) (ln q) xs ∧ ∀ u ∈ xs, MKl lo w' q u) ∧ (∃ ys, Wd w' 25 1 (G' q) (ln q + 40) ys ∧ ∀ u ∈ ys, MKl lo w' q u) ∧ ∀ b, (G' q).ownBlock = some b → (L q).ownBlock = some b ∨ w.heap.size ≤ b := by
  obtain ⟨va, vc, hvf⟩ := hW.slen
  refine Exists.elim in_heldIntList.ex fun ti hti => ?_
  have hLw : ∀ q ∈ ns, ∀ b, (L q).ownBlock = some b → b < w.heap.size := fun q h1 b h2 => by obtain ⟨xs, h3, _⟩ := hL q h1; exact h3.lt b h2
  have hLone : ∀ q ∈ ns, (L q).oneCell' = true := fun q h1 => by obtain ⟨xs, h3, _⟩ := hL q h1; exact h3.one
  have hSlo : ∀ b, ((∃ q ∈ ns, (L q).ownBlock = some b) ∨ vi.ownBlock = some b) → b < lo := fun b h => by
    rcases h with ⟨q, h1, h2⟩ | h
    · exact (hbk q h1 b h2).2.2
    · exact (hvb b h).2
  refine enter (N := 42) (vs := [.pointer (some ⟨bk, 0, none⟩)]) Tryz.func56 rfl rfl rfl ?_
  repeat (first | (refine isO ?_; refine s_assign ?_) | (refine isC ?_; first | refine c_sr ?_ | refine c_block ?_) | (refine l_th ?_))
  refine c_loop (γ := Nat) 4398046511100 (fun i => [(2, .int .i64 (i : Int))]) (fun i W => i ≤ ns.length ∧ KtS (fun b => (∃ q ∈ ns, (L q).ownBlock = some b) ∨ vi.ownBlock = some b) w W ∧ ∃ G', Wd W 105 3 vi ns.length (flat3 L G' ns) ∧ (∀ q ∈ ns, (G' q).oneCell' = true) ∧ ∀ j q, ns[j]? = some q → (∃ xs, Wd W 25 1 (L q) (ln q) xs ∧ ∀ u ∈ xs, MKl lo W q u) ∧ (j < i → (∃ ys, Wd W 25 1 (G' q) (ln q + 40) ys ∧ ∀ u ∈ ys, MKl lo W q u) ∧ ∀ b, (G' q).ownBlock = some b → (L q).ownBlock = some b ∨ w.heap.size ≤ b)) (fun i => ns.length - i) 0 ⟨rfl, trivial⟩ ⟨Nat.zero_le _, KtS.refl _ _, G, hW, hGone, fun j q h => ⟨hL q (List.mem_of_getElem? h), fun h => by omega⟩⟩ ?_
  rintro i ρ W ⟨hi, hK, hGe⟩
  refine Exists.elim hGe fun G' hG => ?_
  have hWW := hG.1
  have hI := hG.2.2
  have hAW := hA.kt hK (fun h => by
    rcases h with ⟨q, h1, h2⟩ | h
    · exact (hbk q h1 bk h2).1 rfl
    · exact (hvb bk h).1 rfl)
  repeat (first | (refine isO ?_; refine s_move ?_) | (refine isC ?_; first | refine c_sr ?_ | refine c_seq ?_))
  refine s_nil rfl ?_
  refine s_faN Tryz.underlying46 rfl ty_hl.n rfl ?_
  refine s_ldA ty_hl rfl hAW rfl ?_
  refine s_len (n := ns.length) (a := va) (c := vc) sl_hl hvf ?_
  repeat (first | (refine isO ?_; (refine isBin ?_; refine s_lss rfl rfl ?_)) | (refine l_th ?_))
  refine c_ifd rfl (fun h => ?_) (fun h => ?_)
  · have hi' : i < ns.length := by omega
    have hqe : ∃ q, ns[i]? = some q := ⟨_, List.getElem?_eq_getElem hi'⟩
    refine Exists.elim hqe fun q hqi => ?_
    have hqm := List.mem_of_getElem? hqi
    refine Exists.elim (hWW.pos (by omega)) fun ib he1 => Exists.elim he1 fun ic he2 => Exists.elim he2 fun isp he3 => ?_
    have hcell : ∀ j v, [L q, G' q, Value.int .i64 (q : Int)][j]? = some v → (flat3 L G' ns ++ isp)[i * 3 + j]? = some v := fun j v hj => by
      have h1 := flat3_get L G' ns i q hqi j v hj
      rw [List.getElem?_append_left (List.getElem?_eq_some_iff.1 h1).1]; exact h1
    have hib : vi.ownBlock = some ib := by rw [he3.1]; rfl
    repeat (first | (refine isO ?_; refine s_move ?_) | (refine isC ?_; first | refine c_sr ?_ | refine c_th ?_ | refine c_seq ?_ | refine c_block ?_))
    refine s_nil rfl ?_
    refine s_faN Tryz.underlying46 rfl ty_hl.n rfl ?_
    refine s_ldA ty_hl rfl hAW rfl ?_
    refine s_re (v' := .slice (some ⟨ib, 0, none⟩) ns.length ic) he3.1 ?_
    repeat ((refine isO ?_; refine s_move ?_))
    refine s_iaW (n := i) (s := 3) sl_hl ⟨ti, hti.1, hti.2.2.1⟩ rfl rfl hi' ?_
    refine s_ldM (cs := [L q, G' q, .int .i64 (q : Int)]) Tryz.underlying105 rfl (by kernel_rfl) rfl he3.2.1 hcell ?_
    refine s_alloc (cs := [.slice none 0 0, .slice none 0 0, .int .i64 0]) hti.1 hti.2.1 rfl ?_
    intro b3 w3 hb3 hA3 hx3 hs3
    refine s_stV (cs := [L q, G' q, .int .i64 (q : Int)]) (by kernel_rfl) rfl rfl hA3 rfl (by rw [List.all_cons, List.all_cons, hLone q hqm, hG.2.1 q hqm]; rfl) ?_
    intro w4 hA4 hg4 hz4
    have z3 := hx3.size
    have hK4 : KtS (fun _ => False) W w4 := (KtS.of_ex hx3).later (KtS.of_grown (S := fun b => b3 = b) hg4 (fun k e => Option.some.inj e)) (fun k e => .inr (by omega))
    have hxW4 : Ex W w4 := ⟨hK4.os, hK4.tape, hK4.output, hK4.size, fun k hk => hK4.block k hk (fun h => h)⟩
    have hLq := (hI i q hqi).1
    refine Exists.elim hLq fun cs hcs => ?_
    have hLq4 := hcs.1.ex hxW4
    have hqb := hq q hqm
    have hlq := hln q hqm
    have hb3L : ∀ b, (L q).ownBlock = some b → b ≠ b3 := fun b hb e => by have := hcs.1.lt b hb; omega
    refine Exists.elim hcs.1.slen fun la hl1 => Exists.elim hl1 fun lc hlf => ?_
    have zW := hK.size
    repeat (first | (refine isC ?_; refine c_sr ?_) | (refine l_th ?_))
    refine s_faN Tryz.underlying105 rfl ty_rows.n rfl ?_
    refine s_ldA ty_rows rfl hA4 rfl ?_
    repeat (first | (refine isO ?_; refine s_assign ?_) | (refine isC ?_; first | refine c_sr ?_ | refine c_seq ?_ | refine c_block ?_) | (refine l_th ?_))
    refine c_loop2 17163092016 (fun (k : Nat) (v4 : Value) => [(5, .int .i64 (k : Int)), (4, v4)]) (fun k v4 W2 => k ≤ 40 ∧ KtS (fun b => (L q).ownBlock = some b) w4 W2 ∧ (∃ ys, Wd W2 25 1 v4 (ln q + k) ys ∧ ∀ u ∈ ys, MKl lo W2 q u) ∧ ((v4 = .slice la (ln q + k) lc) ∨ ((∀ b, v4.ownBlock = some b → w4.heap.size ≤ b) ∧ ∃ xs, Wd W2 25 1 (L q) (ln q) xs ∧ ∀ u ∈ xs, MKl lo W2 q u))) (fun k _ => 40 - k) 0 (L q) ⟨rfl, rfl, trivial⟩ ⟨Nat.zero_le _, KtS.refl _ _, ⟨cs, hLq4, fun u hu => MKl.ex (hcs.2 u hu) hxW4⟩, .inl hlf⟩ ?_
    rintro k v4 ρ2 W2 ⟨hk, hK2, hye, hcase⟩
    refine Exists.elim hye fun ys hys => ?_
    have hA5 := hA4.kt hK2 (fun e => hb3L b3 e rfl)
    have z2 := hK2.size
    have z4 := hxW4.size
    repeat (first | (refine isO ?_; first | refine s_move ?_ | (refine isBin ?_; refine s_lss rfl rfl ?_)) | (refine isC ?_; first | refine c_sr ?_ | refine c_seq ?_) | (refine l_th ?_))
    refine c_ifd rfl (fun h2 => ?_) (fun h2 => ?_)
    · have hk' : k < 40 := by omega
      repeat (first | (refine isO ?_; refine s_move ?_) | (refine isC ?_; first | refine c_th ?_ | refine c_seq ?_ | refine c_region ?_ | refine c_block ?_))
      refine s_faN Tryz.underlying105 rfl ty_int.n rfl ?_
      refine s_ldA ty_int rfl hA5 rfl ?_
      refine s_call ok_markIntList rfl (markIntList_ct lo q W2 hqb (by omega)) ?_
      rintro x w5 ⟨hmk, hone, hx5⟩
      refine s_bs1 (u := x) sl_rows in_ints rfl hone ?_
      intro b6 w6 hb6 hA6 hx6 hs6
      have hx26 := hx5.trans hx6
      refine s_appW (n := ln q + k) (m := 1) (news := [x]) sl_rows in_wints (by omega) (hys.1.ex hx26) ⟨b6, 1, rfl, [], by simpa using hA6⟩ rfl (by omega) (by intro u hu; simp at hu; subst hu; exact hone) (by omega) (by omega) rfl rfl ?_
      intro v5 w7 hW7 hg7 hf7
      have hys7 : ∀ u ∈ ys ++ [x], MKl lo w7 q u := fun u hu => by
        rcases List.mem_append.1 hu with hu | hu
        · exact MKl.app ((hys.2 u hu).ex hx26) (hys.1.ex hx26) hg7
        · simp at hu; subst hu; exact MKl.app (hmk.ex hx6) (hys.1.ex hx26) hg7
      have hown : v4.ownBlock = (L q).ownBlock ∨ ∀ b, v4.ownBlock = some b → w4.heap.size ≤ b := by
        rcases hcase with hc | hc
        · left; rw [hc, hlf]; exact own_case
        · exact .inr hc.1
      have hK7 : KtS (fun b => (L q).ownBlock = some b) w4 w7 := (hK2.trans (KtS.of_ex hx26)).later (KtS.of_grown (S := fun b => v4.ownBlock = some b) hg7 (fun b e => e)) (fun b hb => by
        rcases hown with he | hf
        · exact .inl (he ▸ hb)
        · exact .inr (hf b hb))
      have z26 := hx26.size
      have hnext : (v5 = .slice la (ln q + (k + 1)) lc) ∨ ((∀ b, v5.ownBlock = some b → w4.heap.size ≤ b) ∧ ∃ xs, Wd w7 25 1 (L q) (ln q) xs ∧ ∀ u ∈ xs, MKl lo w7 q u) := by
        rcases hcase with hc | hc
        · rcases hf7 with ⟨a, c, h5, h6⟩ | ⟨h5, h6⟩
          · left
            rw [hc] at h5; cases h5
            rw [h6]; rfl
          · right
            refine ⟨fun b hb => by have := h5 b hb; omega, ys.take (ln q), ?_, fun u hu => ?_⟩
            · have h9 := hys.1
              rw [hc] at h9
              have h8 := h9.head
              rw [← hlf] at h8
              exact (h8.ex hx26).ex h6
            · exact hys7 u (List.mem_append_left _ (List.mem_of_mem_take hu))
        · right
          refine ⟨fun b hb => ?_, ?_⟩
          · rcases hf7 with ⟨a, c, h5, h6⟩ | ⟨h5, h6⟩
            · exact hc.1 b (by rw [h5, own_case (n' := ln q + k + 1), ← h6]; exact hb)
            · have := h5 b hb; omega
          · obtain ⟨xs, h8, h9⟩ := hc.2
            refine ⟨xs, (h8.ex hx26).grown hg7 (fun b hb e => ?_), fun u hu => ?_⟩
            · have := hc.1 b e
              have := hLq4.lt b hb
              omega
            · exact MKl.app ((h9 u hu).ex hx26) (hys.1.ex hx26) hg7
      repeat (first | (refine isO ?_; first | refine s_move ?_ | refine s_assign ?_ | (refine isBin ?_; refine s_inc rfl (by omega) ?_)) | (refine isC ?_; refine c_region ?_) | (first | refine l_th ?_ | refine l_nil ?_))
      exact loop_end2 (k + 1) v5 (by (repeat (first | exact agree_refl _ _ | refine agree_upd rfl ?_ | refine agree_ext rfl ?_ | refine agree_mask rfl ?_))) ⟨rfl, rfl, trivial⟩ ⟨hk', hK7, ⟨ys ++ [x], hW7, hys7⟩, hnext⟩ (by omega)
    · have hke : k = 40 := by omega
      subst hke
      have hK6 : KtS (fun b => (L q).ownBlock = some b) W W2 := (hK4.mono (fun _ h => h.elim)).trans hK2
      have hibL : ∀ b, (L q).ownBlock = some b → b ≠ ib := fun b hb e => (hbk q hqm b hb).2.1 (by rw [hib, e])
      have hAb6 := hAW.kt hK6 (fun e => (hbk q hqm bk e).1 rfl)
      have hAi6 := he3.2.1.kt hK6 (fun e => hibL ib e rfl)
      repeat (first | (refine isO ?_; refine s_move ?_) | (refine isC ?_; first | refine c_region ?_ | refine c_exit ?_))
      refine s_nil rfl ?_
      refine s_faN Tryz.underlying46 rfl ty_hl.n rfl ?_
      refine s_ldA ty_hl rfl hAb6 rfl ?_
      refine s_re (v' := .slice (some ⟨ib, 0, none⟩) ns.length ic) he3.1 ?_
      repeat ((refine isO ?_; refine s_move ?_))
      refine s_iaW (n := i) (s := 3) sl_hl ⟨ti, hti.1, hti.2.2.1⟩ rfl rfl hi' ?_
      refine s_faN Tryz.underlying105 rfl ty_rows.n rfl ?_
      refine s_stA (n := i * 3 + 1) (u := v4) ty_rows rfl rfl hys.1.one hAi6 (by have := flat3_len L G' ns; simp; omega) ?_
      intro w8 hA8 hg8
      have hset : Wd w8 105 3 (.slice (some ⟨ib, 0, none⟩) ns.length ic) ns.length ((flat3 L G' ns).set (i * 3 + 1) v4) := Wd.set (w := w8) (flat3_len _ _ _) (by have := flat3_len L G' ns; omega) hA8 he3.2.2.1 he3.2.2.2.1 he3.2.2.2.2
      rw [← he3.1, flat3_set L G' v4 ns i q hnd hqi] at hset
      have hown : v4.ownBlock = (L q).ownBlock ∨ ∀ b, v4.ownBlock = some b → w4.heap.size ≤ b := by
        rcases hcase with hc | hc
        · left; rw [hc, hlf]; exact own_case
        · exact .inr hc.1
      have hibW := hWW.lt ib hib
      have hv4 : ∀ b, v4.ownBlock = some b → b ≠ ib := fun b hb e => by
        rcases hown with he | hf
        · exact hibL b (he ▸ hb) e
        · have := hf b hb; omega
      have hK8 : KtS (fun b => (L q).ownBlock = some b ∨ vi.ownBlock = some b) W w8 := (hK6.mono (fun _ h => .inl h)).trans (KtS.of_grown hg8 (fun b e => .inr (by rw [← e]; exact hib)))
      have hKw : KtS (fun b => (∃ q ∈ ns, (L q).ownBlock = some b) ∨ vi.ownBlock = some b) w w8 := hK.trans (hK8.mono (fun b h => h.imp (fun h => ⟨q, hqm, h⟩) id))
      have hiblo : ∀ b, some ib = some b → b < lo := fun b e => (hvb b (by rw [hib]; exact e)).2
      have hk8lo : ∀ b, ((L q).ownBlock = some b ∨ vi.ownBlock = some b) → b < lo := fun b h => h.elim (fun h => (hbk q hqm b h).2.2) (fun h => (hvb b h).2)
      repeat (first | (refine isO ?_; first | refine s_move ?_ | refine s_assign ?_ | (refine isBin ?_; refine s_inc rfl (by omega) ?_)) | (refine isC ?_; refine c_region ?_) | (first | refine l_th ?_ | refine l_nil ?_))
      refine loop_end (i + 1) (by (repeat (first | exact agree_refl _ _ | refine agree_upd rfl ?_ | refine agree_ext rfl ?_ | refine agree_mask rfl ?_))) ⟨rfl, trivial⟩ ⟨hi', hKw, fset1 G' q v4, hset, fun p hp => ?_, fun j p hp => ⟨?_, fun hj => ?_⟩⟩ (by omega)
      · unfold fset1
        split
        · exact hys.1.one
        · exact hG.2.1 p hp
      · by_cases e : p = q
        · subst e
          have h9 : ∃ xs, Wd W2 25 1 (L p) (ln p) xs ∧ ∀ u ∈ xs, MKl lo W2 p u := by
            rcases hcase with hc | hc
            · have h9 := hys.1
              rw [hc] at h9
              have h8 := h9.head
              rw [← hlf] at h8
              exact ⟨_, h8, fun u hu => hys.2 u (List.mem_of_mem_take hu)⟩
            · exact hc.2
          obtain ⟨xs, h1, h2⟩ := h9
          exact ⟨xs, h1.grown hg8 (fun b hb e => hibL b hb (Option.some.inj e).symm), fun u hu => MKl.grown (h2 u hu) hg8 hiblo⟩
        · have hpm := List.mem_of_getElem? hp
          obtain ⟨xs, h1, h2⟩ := (hI j p hp).1
          refine ⟨xs, h1.kt hK8 (fun b hb hb2 => ?_), fun u hu => MKl.kt (h2 u hu) hK8 hk8lo⟩
          rcases hb2 with hb2 | hb2
          · exact hd p hpm q hqm e b hb hb2
          · exact (hbk p hpm b hb).2.1 hb2
      · by_cases e : p = q
        · subst e
          have e9 : fset1 G' p v4 p = v4 := by unfold fset1; rw [if_pos rfl]
          rw [e9]
          refine ⟨⟨ys, hys.1.grown hg8 (fun b hb e => hv4 b hb (Option.some.inj e).symm), fun u hu => MKl.grown (hys.2 u hu) hg8 hiblo⟩, fun b hb => ?_⟩
          rcases hown with he | hf
          · exact .inl (he ▸ hb)
          · have := hf b hb; exact .inr (by omega)
        · have hpm := List.mem_of_getElem? hp
          have e9 : fset1 G' q v4 p = G' p := by unfold fset1; rw [if_neg e]
          have hji : j ≠ i := fun e2 => by subst e2; rw [hqi] at hp; exact e (Option.some.inj hp).symm
          rw [e9]
          obtain ⟨⟨zs, h1, h2⟩, h3⟩ := (hI j p hp).2 (by omega)
          refine ⟨⟨zs, h1.kt hK8 (fun b hb hb2 => ?_), fun u hu => MKl.kt (h2 u hu) hK8 hk8lo⟩, h3⟩
          rcases h3 b hb with h4 | h4
          · rcases hb2 with hb2 | hb2
            · exact hd p hpm q hqm e b h4 hb2
            · exact (hbk p hpm b h4).2.1 hb2
          · have := hk8lo b hb2; omega
  · have hie : i = ns.length := by omega
    subst hie
    repeat (first | (refine isC ?_; refine c_exit ?_) | (first | refine ib_exit ?_ | refine th_exit ?_))
    refine end0 rfl ⟨rfl, hK, G', hWW, fun q hqm => ?_⟩
    obtain ⟨j, hj⟩ := List.mem_iff_getElem?.1 hqm
    have h1 := hI j q hj
    have h2 := h1.2 (List.getElem?_eq_some_iff.1 hj).1
    exact ⟨h1.1, h2.1, h2.2⟩
end Go.Proofs.YtifbgpkjbciblaaGreatDoor.Sal
