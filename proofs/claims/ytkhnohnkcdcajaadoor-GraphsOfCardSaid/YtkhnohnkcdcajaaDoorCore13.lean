/- Core13: slices with three indexes, elements of arrays as values, marks. -/
import Derived.Test.YtkhnohnkcdcajaaDoorCore11
set_option maxRecDepth 100000
namespace Go.Proofs.YtkhnohnkcdcajaaDoor.Sal
set_option linter.all false
open Go.RowKit
section
variable {r : Option Nat} {P : Program} {ops : Array Oper} {Q : Exit → Act → World → Prop} {N : Nat} {σ : Nat → Value} {ds : List Deferred} {w : World} {rest : List Oper}
variable {d : Nat} {ty : TypeId} {pos : String} {after : Array Edge} {T E : TypeId} {x i y z : Operand}
theorem run_slice3 {a : Option Addr} {n c : Nat} (hT : SlT P T E) (hE : Ty1 P E) (h : n ≤ c) : (Instr.sliceAt T (.slice a n c) none (some (.int .i64 (n : Int))) (some (.int .i64 (n : Int)))).run P w = .ok (.slice a n n) w := by
  have hT' : P.underlying T = some (.slice E) := hT
  have b1 : ∀ (x y : Nat) (code : BoundsCode), x ≤ y → (Instr.sliceBound (.int .i64 (x : Int)) y code).run P w = .ok x w := fun x y code hxy => by
    simp [Instr.sliceBound, asIntOf, go_sem]; omega
  have bds : (Instr.sliceBounds true n c none (some (.int .i64 (n : Int))) (some (.int .i64 (n : Int)))).run P w = .ok (0, n, n) w := by
    simp [Instr.sliceBounds, Sem.run_bind, b1 _ _ _ h, b1 _ _ _ (Nat.le_refl n), Result.andThen]
  cases a with
  | none => simp [Instr.sliceAt, Instr.slice, run_underlying hT', bds, run_sizeOf1 hE, Sem.run_bind]
  | some a => simp [Instr.sliceAt, Instr.slice, run_underlying hT', bds, run_sizeOf1 hE, Sem.run_bind, Addr.add_zero']
theorem s_clip {a : Option Addr} {n c : Nat} (hT : SlT P T E) (hE : Ty1 P E) (hx : ev N σ x = .slice a n c) (hy : ev N σ y = .int .i64 (n : Int)) (hz : ev N σ z = .int .i64 (n : Int)) (h : n ≤ c)
    (hK : WL r P ops Q rest (mk N (upd σ d (.slice a n n)) ds) w) : WL r P ops Q (⟨some d, .slice T x none (some y) (some z), ty, pos, after, none⟩ :: rest) (mk N σ ds) w := by
  refine l_val (v := .slice a n n) (by intro c e; cases e) ?_ hK
  have := run_slice3 (P := P) (w := w) (a := a) hT hE h
  simp [execOp, hx, hy, hz, this]
theorem s_idxV {cs : List Value} {L n : Nat} {k : IntKind} {u : Value} (hT : P.underlying T = some (.array L E)) (hE : Ty1 P E) (hx : ev N σ x = .agg cs.toArray) (hi : ev N σ i = .int k (n : Int)) (hn : n < L) (hu : cs[n]? = some u)
    (hK : WL r P ops Q rest (mk N (upd σ d u) ds) w) : WL r P ops Q (⟨some d, .index T x i, ty, pos, after, none⟩ :: rest) (mk N σ ds) w := by
  refine l_val (v := u) (by intro c e; cases e) ?_ hK
  have hA := run_isAgg1 (P := P) hE w
  obtain ⟨⟨ti, h1, h2⟩, _⟩ := hE
  simp [execOp, hx, hi, Instr.index, asIntOf, run_underlying hT, hn, Sem.run_bind, sizeOf, typeInfo, h1, h2, go_sem, part, hu, hA]
end
/-- A region whose order Go leaves open, walked with what is known all through it. -/
theorem c_drawJ {r : Option Nat} {P : Program} {Q : Exit → Act → World → Prop} {N : Nat} {σ : Nat → Value} {ds : List Deferred} {w : World} {id : Nat} {l : List Oper} (J : World → Prop) (hJ : J w.drew) (z k : Nat) (π : List (Nat × Bool)) (hm : P.follows .mixedOrders = true) (hok : regionOK l.toArray z k π = true)
    (h : WJ r P l.toArray J z Q π (mk N σ ds) w.drew) : CW r P (.region id l.toArray true) Q (mk N σ ds) w := by
  simp only [regionOK, Bool.and_eq_true] at hok
  obtain ⟨⟨⟨h1, h2⟩, h3⟩, h4⟩ := hok
  refine wpIn_region_any hm (wpAny_of_RAJ _ _ _ _ (raj_of_wj (J := J) (fun j o ho => ?_) h2 π _ _ _ _ h3 ?_ (.inr hJ) (Nat.le_of_ble_eq_true h4) h))
  · exact (Array.all_eq_true_iff_forall_mem.1 h1) o (Array.mem_of_getElem? ho)
  · intro k hk
    exfalso
    by_cases hlt : k < l.toArray.size
    · simp at hlt; simp [hlt] at hk
    · simp at hlt; simp [Nat.not_lt.2 hlt] at hk
theorem d_ldJ {r : Option Nat} {P : Program} {J : World → Prop} {z : Nat} {Q : Exit → Act → World → Prop} {N : Nat} {σ : Nat → Value} {ds : List Deferred} {w : World} {gd : Option (Nat × Bool)} {ops : Array Oper} {i d : Nat} {π : List (Nat × Bool)} {ty : TypeId} {pos : String} {after : Array Edge}
    {E B : TypeId} {x : Operand} {b n : Nat} {cs : List Value} {u : Value} (hop : ops[i]? = some ⟨some d, .load E x, ty, pos, after, gd⟩) (hE : Ty1 P E) (hx : ev N σ x = .pointer (some ⟨b, n, none⟩)) (hA : ∀ w', J w' → At w' b B cs) (hc : cs[n]? = some u)
    (h : WJ r P ops J z Q π (mk N (upd σ d u) ds) w) (hgd : GOK ops (ev N σ) gd := by first | exact trivial | exact ⟨_, rfl, rfl⟩) : WJ r P ops J z Q ((i, true) :: π) (mk N σ ds) w :=
  d_val hop (fun w' hw => by simp [execOp, hx, Instr.loadAt, Instr.sureAddr, run_loadVar1 hE (show w'.cell? ⟨b, n, none⟩ = some u by rw [(hA w' hw).cell]; exact hc)]) h hgd
/-- The mark of a loop over a function lies as it lay. -/
theorem mark_ex {w w' : World} {D : Nat} (h : w.heap[D]? = some (.deferred (some []))) (hx : Ex w w') : w'.heap[D]? = some (.deferred (some [])) :=
  (hx.block D (Array.getElem?_eq_some_iff.1 h).1).trans h
theorem mark_gr {w w' : World} {D b : Nat} {E : TypeId} {cs : List Value} (h : w.heap[D]? = some (.deferred (some []))) (hA : At w b E cs) (hg : w.grownBy w' (some b)) : w'.heap[D]? = some (.deferred (some [])) := by
  refine (hg.block D (Array.getElem?_eq_some_iff.1 h).1 (fun e => ?_)).trans h
  cases e
  unfold At at hA
  rw [h] at hA; cases hA
/-- The end of the marks: whatever is cells reads as it did. -/
theorem mark_kc {w : World} {D : Nat} (h : w.heap[D]? = some (.deferred (some []))) : KC w (w.putObj D (.deferred none)) := KC.put h rfl
theorem mark_out {w0 w : World} {D : Nat} (hx : Ex w0 w) (hD : w0.heap.size ≤ D) : Ex w0 (w.putObj D (.deferred none)) := hx.storeo (grownBy_putObj' w D _) (fun b e => by cases e; exact hD)
theorem KeepsFrom.ex {B : Nat} {w w' : World} (h : Ex w w') : KeepsFrom B w w' := KeepsFrom.of_grownBy h.grown (fun j e => by cases e)
theorem At.own {β : Type} {b : Nat} {E : TypeId} (f : β → List Value) : Own (fun (s : β) W => At W b E (f s)) := by
  intro s W W' row hs hg hr
  refine hs.grown hg (fun e => ?_)
  obtain ⟨o, ho, hc⟩ := hr b e
  unfold At at hs
  rw [ho] at hs; cases hs; cases hc
theorem Rw.own {β : Type} {E : TypeId} {v : Value} {vs : List Value} : Own (fun (_ : β) W => Rw W E v vs) := by
  intro s W W' row hs hg hr
  refine hs.kept hg ?_
  rcases hs.form with ⟨rfl, _⟩ | ⟨b, cap, sp, rfl, hA, _⟩
  · exact .inl rfl
  · refine .inr (fun e => ?_)
    obtain ⟨o, ho, hc⟩ := hr b e.symm
    unfold At at hA
    rw [ho] at hA; cases hA; cases hc
/-- Lists that are built side by side, their values in one block. -/
structure MBv (W : World) (T E : TypeId) (bo base n : Nat) (f : Nat → List Int) (vs : Nat → Value) : Prop where
  at' : At W bo T ((List.range n).map vs)
  rw' : ∀ k, k < n → Rw W E (vs k) ((f k).map (Value.int .i64))
  low : ∀ k, k < n → ∀ b, (vs k).ownBlock = some b → base ≤ b
  dis : ∀ k j, k < n → j < n → k ≠ j → ∀ b, (vs k).ownBlock = some b → (vs j).ownBlock ≠ some b
def fs {α : Type} (f : Nat → α) (k : Nat) (x : α) : Nat → α := fun j => if j = k then x else f j
theorem map_fs {α : Type} (f : Nat → α) {n k : Nat} (x : α) (hk : k < n) : ((List.range n).map f).set k x = (List.range n).map (fs f k x) := by
  apply List.ext_getElem?
  intro i
  rw [List.getElem?_set]
  simp only [List.length_map, List.length_range]
  by_cases hi : k = i
  · subst hi; simp [hk, fs]
  · have : ¬ i = k := fun e => hi e.symm
    simp only [if_neg hi]
    by_cases h8 : i < n <;> simp [h8, this, fs]
theorem MBv.put {W W1 W2 W3 : World} {T E : TypeId} {bo base n k : Nat} {f : Nat → List Int} {vs : Nat → Value} {l : List Int} {v' : Value} (h : MBv W T E bo base n f vs) (hk : k < n) (hx : Ex W W1) (hR : Rw W2 E v' (l.map (Value.int .i64))) (hg : W1.grownBy W2 (vs k).ownBlock)
    (hf : v'.ownBlock = (vs k).ownBlock ∨ ∀ b, v'.ownBlock = some b → W1.heap.size ≤ b) (hA : At W3 bo T (((List.range n).map vs).set k v')) (hg3 : W2.grownBy W3 (some bo)) (hbase : base ≤ W.heap.size) (hbo : bo < base) : MBv W3 T E bo base n (fs f k l) (fs vs k v') := by
  have hv' : ∀ b, v'.ownBlock = some b → base ≤ b := fun b hb => by
    rcases hf with he | hf
    · exact h.low k hk b (he ▸ hb)
    · have := hf b hb; have := hx.size; omega
  have hlt : ∀ j, j < n → ∀ b, (vs j).ownBlock = some b → b < W1.heap.size := fun j hj b hb => by
    have := (h.rw' j hj).lt b hb; have := hx.size; omega
  refine ⟨by rw [← map_fs _ _ hk]; exact hA, fun j hj => ?_, fun j hj b hb => ?_, fun i j hi hj hij b hb => ?_⟩
  · by_cases e : j = k
    · subst e
      simp only [fs, if_true]
      refine hR.kept hg3 ?_
      cases hb : v'.ownBlock with
      | none => exact .inl rfl
      | some b => exact .inr (fun e => by have e' := Option.some.inj e; have := hv' b hb; omega)
    · simp only [fs, if_neg e]
      have hne : (vs j).ownBlock = none ∨ (vs j).ownBlock ≠ (vs k).ownBlock := by
        cases hb : (vs j).ownBlock with
        | none => exact .inl rfl
        | some b => exact .inr (fun e2 => h.dis j k hj hk e b hb e2.symm)
      have h1 := ((h.rw' j hj).ex hx).kept hg hne
      refine h1.kept hg3 ?_
      cases hb : (vs j).ownBlock with
      | none => exact .inl rfl
      | some b => exact .inr (fun e => by have e' := Option.some.inj e; have := h.low j hj b hb; omega)
  · by_cases e : j = k
    · subst e
      simp only [fs, if_true] at hb
      exact hv' b hb
    · simp only [fs, if_neg e] at hb
      exact h.low j hj b hb
  · by_cases e : i = k
    · subst e
      have e2 : ¬ j = i := fun e2 => hij e2.symm
      simp only [fs, if_true] at hb
      simp only [fs, if_neg e2]
      rcases hf with he | hf
      · exact h.dis i j hi hj hij b (he ▸ hb)
      · intro hb2
        have := hf b hb; have := hlt j hj b hb2; omega
    · simp only [fs, if_neg e] at hb
      by_cases e2 : j = k
      · subst e2
        simp only [fs, if_true]
        rcases hf with he | hf
        · rw [he]; exact h.dis i j hi hj hij b hb
        · intro hb2
          have := hf b hb2; have := hlt i hi b hb; omega
      · simp only [fs, if_neg e2]
        exact h.dis i j hi hj hij b hb
theorem MBv.own {β : Type} {T E : TypeId} {bo base n : Nat} (f : β → Nat → List Int) : Own (fun (s : β) W => ∃ vs, MBv W T E bo base n (f s) vs) := by
  intro s W W' row hs hg hr
  obtain ⟨vs, h⟩ := hs
  exact ⟨vs, At.own (fun _ : Unit => (List.range n).map vs) () W W' row h.at' hg hr, fun k hk => Rw.own () W W' row (h.rw' k hk) hg hr, h.low, h.dis⟩
theorem MBv.nil {W : World} {T E : TypeId} {bo base n : Nat} (hA : At W bo T (List.replicate n (.slice none 0 0))) : MBv W T E bo base n (fun _ => []) (fun _ => .slice none 0 0) := by
  refine ⟨?_, fun k _ => Rw.nil W E, fun k _ b h => (by cases h), fun k j _ _ _ b h => (by cases h)⟩
  have e : (List.range n).map (fun _ => Value.slice none 0 0) = List.replicate n (.slice none 0 0) := by
    apply List.ext_getElem
    · simp
    · intro i h1 h2; simp
  rw [e]; exact hA
end Go.Proofs.YtkhnohnkcdcajaaDoor.Sal
