/- Core8: how arguments read; the step from a law's contract to its row. -/
import Derived.Test.YtkhnohnkcdcajaaDoorCore7
import Derived.Deep.Matrix
import Derived.Lib.SmallJoins
import Derived.SizedLaws
import Derived.OpenShut
import Derived.ChangeOld
import Derived.ProofKit
set_option maxRecDepth 100000
namespace Go.Proofs.YtkhnohnkcdcajaaDoor.Sal
set_option linter.all false
open Go.RowKit Go.Deep Go.ChangeShapes Go.WideShapes Go.ChangeAt
section
variable {H : Type} {enc : TypeId × Value → H} {P : Program} {w : World} {base : Nat} {spare : Nat → Bool} {held : Bool} {fuel : Nat} {x : DataW H × List MemPlace}
theorem read_sl {t e : TypeId} {v : Value} (ht : P.underlying t = some (.slice e)) (ce : P.cellsOf e = 1) (cb : 1 ≤ P.bytesOf e) (h : DataW.trod enc P w base spare held fuel t [v] = some x) (hw : ∀ n ∈ x.1.weights P t, n ≤ reachBytes) :
    ∃ vs : List Value, Sl w v vs ∧ ∀ (i : Nat) (u : Value), vs[i]? = some u → ∃ n d p, DataW.trod enc P w base spare held n e [u] = some (d, p) ∧ ∀ b ∈ d.weights P e, b ≤ reachBytes := by
  rcases open_slice1 ht ce h with ⟨hv, hx⟩ | ⟨a, len, cap, m, n, V, D, Pl, hv, _, hl, hm, hmm, hx, hel⟩
  · simp at hv; subst hv
    exact ⟨[], Sl.nil w, fun i u h => by simp at h⟩
  · simp at hv; subst hv
    have hlm : len ≤ m := by rw [hmm]; split <;> omega
    subst hx
    have hlen : len ≤ 140737488355328 := by
      have h1 := hw ((((List.range len).map D).length + ((List.range (m - len)).map fun j => D (len + j)).length) * P.bytesOf e) (by simp [DataW.weights, ht])
      simp only [List.length_map, List.length_range] at h1
      have h2 : len * 1 ≤ (len + (m - len)) * P.bytesOf e := Nat.mul_le_mul (by omega) cb
      have h3 := reachBytes_lt
      omega
    refine ⟨(List.range len).map V, ⟨by simp; exact hlen, some a, len, cap, rfl, by simp, hl, fun i u hi => ?_⟩, fun i u hi => ?_⟩
    · rw [List.getElem?_map] at hi
      obtain ⟨j, hj, rfl⟩ := Option.map_eq_some_iff.1 hi
      obtain ⟨hlt, rfl⟩ := List.getElem?_eq_some_iff.1 hj
      simp only [List.getElem_range]
      simp only [List.length_range] at hlt
      exact ⟨a, rfl, (hel i (by omega)).1⟩
    · rw [List.getElem?_map] at hi
      obtain ⟨j, hj, rfl⟩ := Option.map_eq_some_iff.1 hi
      obtain ⟨hlt, rfl⟩ := List.getElem?_eq_some_iff.1 hj
      simp only [List.getElem_range]
      simp only [List.length_range] at hlt
      refine ⟨n, D i, Pl i, (hel i (by omega)).2, fun b hb => hw b ?_⟩
      have hall : ∀ (L : List (DataW H)) (d : DataW H), d ∈ L → ∀ b ∈ d.weights P e, b ∈ DataW.weightsAll P e L := by
        intro L
        induction L with
        | nil => intro d hd; cases hd
        | cons d0 L ih =>
          intro d hd b hb
          simp only [DataW.weightsAll, List.mem_append]
          rcases List.mem_cons.1 hd with rfl | hd
          · exact .inl hb
          · exact .inr (ih d hd b hb)
      simp only [DataW.weights, ht, List.mem_cons, List.mem_append]
      exact .inr (.inl (hall _ (D i) (List.mem_map.2 ⟨i, List.mem_range.2 hlt, rfl⟩) b hb))
theorem in64_of_wf {n : Int} (h : (Lit.int .i64 n).wf = true) : In64 n := by
  simp [Lit.wf, IntKind.min, IntKind.max, IntKind.signed, IntKind.bits] at h
  exact ⟨by omega, by omega⟩
theorem vals_ints {k : IntKind} : ∀ (vs : List Value), (∀ (i : Nat) (u : Value), vs[i]? = some u → ∃ n : Int, u = .int k n ∧ (Lit.int k n).wf = true) → ∃ l : List Int, vs = l.map (Value.int k) ∧ ∀ n ∈ l, (Lit.int k n).wf = true
  | [], _ => ⟨[], rfl, fun n h => by cases h⟩
  | v :: vs, h => by
    obtain ⟨n, rfl, hn⟩ := h 0 v rfl
    obtain ⟨l, rfl, hl⟩ := vals_ints vs fun i u hu => h (i + 1) u (by simpa using hu)
    exact ⟨n :: l, rfl, fun m hm => by (rcases List.mem_cons.1 hm with h | h; (subst h; exact hn); exact hl m h)⟩
theorem read_intsK {k : IntKind} {t e : TypeId} {v : Value} (ht : P.underlying t = some (.slice e)) (he : P.underlying e = some (.int k)) (ce : P.cellsOf e = 1) (cb : 1 ≤ P.bytesOf e) (h : DataW.trod enc P w base spare held fuel t [v] = some x) (hw : ∀ n ∈ x.1.weights P t, n ≤ reachBytes) :
    ∃ l : List Int, Sl w v (l.map (Value.int k)) ∧ ∀ n ∈ l, (Lit.int k n).wf = true := by
  obtain ⟨vs, hs, hel⟩ := read_sl ht ce cb h hw
  obtain ⟨l, rfl, hl⟩ := vals_ints (k := k) vs fun i u hu => by
    obtain ⟨n, d, p, hd, _⟩ := hel i u hu
    obtain ⟨m, hm, _, hwf⟩ := DataW.trod_int he hd
    simp at hm; exact ⟨m, hm, hwf⟩
  exact ⟨l, hs, hl⟩
theorem read_ints {t e : TypeId} {v : Value} (ht : P.underlying t = some (.slice e)) (he : P.underlying e = some (.int .i64)) (ce : P.cellsOf e = 1) (cb : 1 ≤ P.bytesOf e) (h : DataW.trod enc P w base spare held fuel t [v] = some x) (hw : ∀ n ∈ x.1.weights P t, n ≤ reachBytes) :
    ∃ l : List Int, Ints w v l ∧ ∀ n ∈ l, In64 n := by
  obtain ⟨l, hs, hl⟩ := read_intsK ht he ce cb h hw
  exact ⟨l, hs, fun n hn => in64_of_wf (hl n hn)⟩
theorem vals_rows {w : World} : ∀ (vs : List Value), (∀ (i : Nat) (u : Value), vs[i]? = some u → ∃ l, Ints w u l ∧ ∀ n ∈ l, In64 n) → ∃ g : List (List Int), vs.length = g.length ∧ (∀ (i : Nat) (u : Value) (l : List Int), vs[i]? = some u → g[i]? = some l → Ints w u l) ∧ ∀ l ∈ g, ∀ n ∈ l, In64 n
  | [], _ => ⟨[], rfl, fun i u l h => by simp at h, fun l h => by cases h⟩
  | v :: vs, h => by
    obtain ⟨l0, h0, hw0⟩ := h 0 v rfl
    obtain ⟨g, hg1, hg2, hg3⟩ := vals_rows vs fun i u hu => h (i + 1) u (by simpa using hu)
    refine ⟨l0 :: g, by simp [hg1], fun i u l hu hl => ?_, fun l hl => ?_⟩
    · cases i with
      | zero => simp at hu hl; subst hu; subst hl; exact h0
      | succ i => exact hg2 i u l (by simpa using hu) (by simpa using hl)
    · rcases List.mem_cons.1 hl with rfl | hl
      · exact hw0
      · exact hg3 l hl
theorem read_rows {t q e : TypeId} {v : Value} (ht : P.underlying t = some (.slice q)) (hq : P.underlying q = some (.slice e)) (he : P.underlying e = some (.int .i64)) (cq : P.cellsOf q = 1) (ce : P.cellsOf e = 1) (bq : 1 ≤ P.bytesOf q) (be : 1 ≤ P.bytesOf e)
    (h : DataW.trod enc P w base spare held fuel t [v] = some x) (hw : ∀ n ∈ x.1.weights P t, n ≤ reachBytes) : ∃ g : List (List Int), Rows w v g ∧ ∀ l ∈ g, ∀ n ∈ l, In64 n := by
  obtain ⟨vs, hs, hel⟩ := read_sl ht cq bq h hw
  obtain ⟨g, hg1, hg2, hg3⟩ := vals_rows (w := w) vs fun i u hu => by
    obtain ⟨n, d, p, hd, hb⟩ := hel i u hu
    exact read_ints hq he ce be hd hb
  exact ⟨g, ⟨vs, hs, hg1, hg2⟩, hg3⟩
end
/-- Of an argument in the list of all: how heavy it may be. -/
theorem weigh {H : Type} {P : Program} {ts : List TypeId} {ds : List (DataW H)} (h : (DataW.weightsEach P ts ds).all (· ≤ reachBytes) = true) {j : Nat} {t : TypeId} {d : DataW H} (ht : ts[j]? = some t) (hd : ds[j]? = some d) : ∀ n ∈ d.weights P t, n ≤ reachBytes := fun n hn => by
  have := List.all_eq_true.1 h n (DataW.weights_mem_each ht hd n hn)
  simpa using this
end Go.Proofs.YtkhnohnkcdcajaaDoor.Sal
