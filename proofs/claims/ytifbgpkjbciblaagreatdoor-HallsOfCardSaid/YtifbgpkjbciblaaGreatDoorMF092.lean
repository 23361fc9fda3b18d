/- Texts that YtifbgpkjbciblaaGreatDoorF09 leans on, laid together: Core8 Core9 Core10 Core12 Core11 Core13 Ops GF SL M1 GM1. -/
import Derived.Test.YtifbgpkjbciblaaGreatDoorMF091
import Derived.Deep.Matrix
import Derived.Lib.SmallJoins
import Derived.SizedLaws
import Derived.OpenShut
import Derived.ChangeOld
import Derived.ProofKit
import Derived.RangeFuncNested
import Derived.RangeFuncMany
import Derived.Test.YtifbgpkjbciblaaGreatDoorRows
/- Core8: how arguments read; the step from a law's contract to its row. -/
set_option maxRecDepth 100000
namespace Go.Proofs.YtifbgpkjbciblaaGreatDoor.Sal
set_option linter.all false
open Go.RowKit Go.Deep Go.ChangeShapes Go.WideShapes Go.ChangeAt
section
variable {H : Type} {enc : TypeId × Value → H} {P : Program} {w : World} {base : Nat} {spare : Nat → Bool} {held : Bool} {fuel : Nat} {x : DataW H × List MemPlace}
theorem read_sl {t e : TypeId} {v : Value} (ht : P.underlying t = some (.slice e)) (ce : P.cellsOf e = 1) (cb : 1 ≤ P.bytesOf e) (h : DataW.trod enc P w base spare held fuel t [v] = some x) (hw : ∀ n ∈ x.1.weights P t, n ≤ reachBytes) :
    ∃ vs : List Value, Sl w v vs ∧ ∀ (i : Nat) (u : Value), vs[i]? = some u → ∃ n d p, DataW.trod enc P w base spare held n e [u] = some (d, p) ∧ ∀ b ∈ d.weights P e, b ≤ reachBytes := by
  rcases open_slice1 ht ce h with ⟨hv, hx⟩ | ⟨a, len, cap, m, n, V, D, Pl, hv, _, hl, hm, hmm, hx, hel⟩
  · simp at hv; subst hv
    exact ⟨[], Sl.nil w, fun i u h => by simp at h⟩
  · simp at hv; subst hv
    have hlm : len ≤ m := by rw [hmm]; split <;> omega
    subst hx
    have hlen : len ≤ 140737488355328 := by
      have h1 := hw ((((List.range len).map D).length + ((List.range (m - len)).map fun j => D (len + j)).length) * P.bytesOf e) (by simp [DataW.weights, ht])
      simp only [List.length_map, List.length_range] at h1
      have h2 : len * 1 ≤ (len + (m - len)) * P.bytesOf e := Nat.mul_le_mul (by omega) cb
      have h3 := reachBytes_lt
      omega
    refine ⟨(List.range len).map V, ⟨by simp; exact hlen, some a, len, cap, rfl, by simp, hl, fun i u hi => ?_⟩, fun i u hi => ?_⟩
    · rw [List.getElem?_map] at hi
      obtain ⟨j, hj, rfl⟩ := Option.map_eq_some_iff.1 hi
      obtain ⟨hlt, rfl⟩ := List.getElem?_eq_some_iff.1 hj
      simp only [List.getElem_range]
      simp only [List.length_range] at hlt
      exact ⟨a, rfl, (hel i (by omega)).1⟩
    · rw [List.getElem?_map] at hi
      obtain ⟨j, hj, rfl⟩ := Option.map_eq_some_iff.1 hi
      obtain ⟨hlt, rfl⟩ := List.getElem?_eq_some_iff.1 hj
      simp only [List.getElem_range]
      simp only [List.length_range] at hlt
      refine ⟨n, D i, Pl i, (hel i (by omega)).2, fun b hb => hw b ?_⟩
      have hall : ∀ (L : List (DataW H)) (d : DataW H), d ∈ L → ∀ b ∈ d.weights P e, b ∈ DataW.weightsAll P e L := by
        intro L
        induction L with
        | nil => intro d hd; cases hd
        | cons d0 L ih =>
          intro d hd b hb
          simp only [DataW.weightsAll, List.mem_append]
          rcases List.mem_cons.1 hd with rfl | hd
          · exact .inl hb
          · exact .inr (ih d hd b hb)
      simp only [DataW.weights, ht, List.mem_cons, List.mem_append]
      exact .inr (.inl (hall _ (D i) (List.mem_map.2 ⟨i, List.mem_range.2 hlt, rfl⟩) b hb))
theorem in64_of_wf {n : Int} (h : (Lit.int .i64 n).wf = true) : In64 n := by
  simp [Lit.wf, IntKind.min, IntKind.max, IntKind.signed, IntKind.bits] at h
  exact ⟨by omega, by omega⟩
theorem vals_ints {k : IntKind} : ∀ (vs : List Value), (∀ (i : Nat) (u : Value), vs[i]? = some u → ∃ n : Int, u = .int k n ∧ (Lit.int k n).wf = true) → ∃ l : List Int, vs = l.map (Value.int k) ∧ ∀ n ∈ l, (Lit.int k n).wf = true
  | [], _ => ⟨[], rfl, fun n h => by cases h⟩
  | v :: vs, h => by
    obtain ⟨n, rfl, hn⟩ := h 0 v rfl
    obtain ⟨l, rfl, hl⟩ := vals_ints vs fun i u hu => h (i + 1) u (by simpa using hu)
    exact ⟨n :: l, rfl, fun m hm => by (rcases List.mem_cons.1 hm with h | h; (subst h; exact hn); exact hl m h)⟩
theorem read_intsK {k : IntKind} {t e : TypeId} {v : Value} (ht : P.underlying t = some (.slice e)) (he : P.underlying e = some (.int k)) (ce : P.cellsOf e = 1) (cb : 1 ≤ P.bytesOf e) (h : DataW.trod enc P w base spare held fuel t [v] = some x) (hw : ∀ n ∈ x.1.weights P t, n ≤ reachBytes) :
    ∃ l : List Int, Sl w v (l.map (Value.int k)) ∧ ∀ n ∈ l, (Lit.int k n).wf = true := by
  obtain ⟨vs, hs, hel⟩ := read_sl ht ce cb h hw
  obtain ⟨l, rfl, hl⟩ := vals_ints (k := k) vs fun i u hu => by
    obtain ⟨n, d, p, hd, _⟩ := hel i u hu
    obtain ⟨m, hm, _, hwf⟩ := DataW.trod_int he hd
    simp at hm; exact ⟨m, hm, hwf⟩
  exact ⟨l, hs, hl⟩
theorem read_ints {t e : TypeId} {v : Value} (ht : P.underlying t = some (.slice e)) (he : P.underlying e = some (.int .i64)) (ce : P.cellsOf e = 1) (cb : 1 ≤ P.bytesOf e) (h : DataW.trod enc P w base spare held fuel t [v] = some x) (hw : ∀ n ∈ x.1.weights P t, n ≤ reachBytes) :
    ∃ l : List Int, Ints w v l ∧ ∀ n ∈ l, In64 n := by
  obtain ⟨l, hs, hl⟩ := read_intsK ht he ce cb h hw
  exact ⟨l, hs, fun n hn => in64_of_wf (hl n hn)⟩
theorem vals_rows {w : World} : ∀ (vs : List Value), (∀ (i : Nat) (u : Value), vs[i]? = some u → ∃ l, Ints w u l ∧ ∀ n ∈ l, In64 n) → ∃ g : List (List Int), vs.length = g.length ∧ (∀ (i : Nat) (u : Value) (l : List Int), vs[i]? = some u → g[i]? = some l → Ints w u l) ∧ ∀ l ∈ g, ∀ n ∈ l, In64 n
  | [], _ => ⟨[], rfl, fun i u l h => by simp at h, fun l h => by cases h⟩
  | v :: vs, h => by
    obtain ⟨l0, h0, hw0⟩ := h 0 v rfl
    obtain ⟨g, hg1, hg2, hg3⟩ := vals_rows vs fun i u hu => h (i + 1) u (by simpa using hu)
    refine ⟨l0 :: g, by simp [hg1], fun i u l hu hl => ?_, fun l hl => ?_⟩
    · cases i with
      | zero => simp at hu hl; subst hu; subst hl; exact h0
      | succ i => exact hg2 i u l (by simpa using hu) (by simpa using hl)
    · rcases List.mem_cons.1 hl with rfl | hl
      · exact hw0
      · exact hg3 l hl
theorem read_rows {t q e : TypeId} {v : Value} (ht : P.underlying t = some (.slice q)) (hq : P.underlying q = some (.slice e)) (he : P.underlying e = some (.int .i64)) (cq : P.cellsOf q = 1) (ce : P.cellsOf e = 1) (bq : 1 ≤ P.bytesOf q) (be : 1 ≤ P.bytesOf e)
    (h : DataW.trod enc P w base spare held fuel t [v] = some x) (hw : ∀ n ∈ x.1.weights P t, n ≤ reachBytes) : ∃ g : List (List Int), Rows w v g ∧ ∀ l ∈ g, ∀ n ∈ l, In64 n := by
  obtain ⟨vs, hs, hel⟩ := read_sl ht cq bq h hw
  obtain ⟨g, hg1, hg2, hg3⟩ := vals_rows (w := w) vs fun i u hu => by
    obtain ⟨n, d, p, hd, hb⟩ := hel i u hu
    exact read_ints hq he ce be hd hb
  exact ⟨g, ⟨vs, hs, hg1, hg2⟩, hg3⟩
end
/-- Of an argument in the list of all: how heavy it may be. -/
theorem weigh {H : Type} {P : Program} {ts : List TypeId} {ds : List (DataW H)} (h : (DataW.weightsEach P ts ds).all (· ≤ reachBytes) = true) {j : Nat} {t : TypeId} {d : DataW H} (ht : ts[j]? = some t) (hd : ds[j]? = some d) : ∀ n ∈ d.weights P t, n ≤ reachBytes := fun n hn => by
  have := List.all_eq_true.1 h n (DataW.weights_mem_each ht hd n hn)
  simpa using this
end Go.Proofs.YtifbgpkjbciblaaGreatDoor.Sal
/- Core9: rows built by append, copies of one's own, parameters in boxes. -/
set_option maxRecDepth 100000
namespace Go.Proofs.YtifbgpkjbciblaaGreatDoor.Sal
set_option linter.all false
open Go.RowKit

section ops
variable {r : Option Nat} {P : Program} {ops : Array Oper} {Q : Exit → Act → World → Prop} {N : Nat} {σ : Nat → Value} {ds : List Deferred} {w : World} {rest : List Oper}
variable {d d1 d2 : Nat} {ty ty2 : TypeId} {pos pos2 : String} {after after2 : Array Edge} {T E T' : TypeId} {x i y : Operand}
theorem s_mk0 {ti : TypeInfo} {z : Value} {n : Nat} (hT : SlT P T E) (hi : P.info? E = some ti) (hz : ti.zero = some z) (hs : ti.size = 1) (hzc : z.cells = #[z]) (hb : ti.bytes ≤ 64) (h0 : ev N σ x = .int .i64 0) (hx : ev N σ y = .int .i64 (n : Int)) (hn : n ≤ 1000000)
    (h : ∀ b w', b = w.heap.size → Rw w' E (.slice (some ⟨b, 0, none⟩) 0 n) [] → Ex w w' → w'.heap.size = b + 1 → WL r P ops Q rest (mk N (upd σ d (.slice (some ⟨b, 0, none⟩) 0 n)) ds) w') :
    WL r P ops Q (⟨some d, .makeSlice T x y, ty, pos, after, none⟩ :: rest) (mk N σ ds) w := by
  have hbytes : (ti.bytes : Int) * (n : Int) ≤ 281474976710656 := by
    have h1 : ti.bytes * n ≤ 64 * 1000000 := Nat.mul_le_mul hb hn
    have h2 : ((ti.bytes * n : Nat) : Int) ≤ 64000000 := by omega
    rw [Int.natCast_mul] at h2; omega
  have hr := run_make (P := P) w T E ti z hT hi hz .i64 .i64 0 n (by omega) (by omega) hbytes (by omega)
  have hm : madeCells z.cells ((n : Int).toNat * ti.size) = (List.replicate n z).toArray := by
    rw [hs, hzc]; simp [madeCells]
    apply Array.ext
    · simp
    · intro j h1 h2; simp [Nat.mod_one]
  rw [hm] at hr
  simp only [Int.toNat_natCast] at hr
  have hA := at_new w (List.replicate n z) E
  have hR := hA.rw (n := 0) (c := n) (by simp) (Nat.zero_le _) (by omega)
  refine l_val (w' := w.alloc (.cells (List.replicate n z).toArray E)) (by intro c e; cases e) ?_ (h _ _ rfl (by simpa using hR) (Ex.alloc w _) (size_new w _))
  simp [execOp, h0, hx, hr]
/-- A load of what lies in a block, told of in an older world. -/
theorem s_ldO {w0 : World} {b n : Nat} {B : TypeId} {cs : List Value} {u : Value} (hE : Ty1 P E) (hA : At w0 b B cs) (hw : Ex w0 w) (hx : ev N σ x = .pointer (some ⟨b, n, none⟩)) (hc : cs[n]? = some u) (h : WL r P ops Q rest (mk N (upd σ d u) ds) w) :
    WL r P ops Q (⟨some d, .load E x, ty, pos, after, none⟩ :: rest) (mk N σ ds) w := s_ldA hE hx (hA.ex hw) hc h
theorem s_iaI {v : Value} {l : List Int} {k : IntKind} {n : Nat} (hT : SlT P T E) (hE : Ty1 P E) (hx : ev N σ x = v) (hi : ev N σ i = .int k (n : Int)) (hs : Ints w v l) (hn : n < l.length)
    (h : ∀ ad, w.cell? ad = some (.int .i64 (l.getD n 0)) → WL r P ops Q rest (mk N (upd σ d (.pointer (some ad))) ds) w) : WL r P ops Q (⟨some d, .indexAddr T x i, ty, pos, after, none⟩ :: rest) (mk N σ ds) w :=
  s_ia hT hE hx hi hs (by simp [hn]) h
end ops

/-- Where ways meet again: what is known of the slots that were written, and of the world. -/
def JoinEnd {γ : Type} (N : Nat) (ds : List Deferred) (M : Nat) (σ : Nat → Value) (vals : γ → List (Nat × Value)) (Inv : γ → World → Prop) (a' : Act) (w' : World) : Prop :=
  ∃ x' σ', a' = mk N σ' ds ∧ Agree M σ' σ ∧ Has σ' (vals x') ∧ Inv x' w'
theorem join_end {γ : Type} {N : Nat} {ds : List Deferred} {M : Nat} {σ σ' : Nat → Value} {vals : γ → List (Nat × Value)} {Inv : γ → World → Prop} {w' : World} (x' : γ)
    (ha : Agree M σ' σ) (hv : Has σ' (vals x')) (hi : Inv x' w') : JoinEnd N ds M σ vals Inv (mk N σ' ds) w' := ⟨x', σ', rfl, ha, hv, hi⟩
theorem c_joinK {r : Option Nat} {P : Program} {Q : Exit → Act → World → Prop} {w : World} {γ : Type} (M : Nat) (vals : γ → List (Nat × Value)) (Inv : γ → World → Prop) {N : Nat} {σ : Nat → Value} {ds : List Deferred} {x : Code}
    (h1 : CW r P x (Exit.then (JoinEnd N ds M σ vals Inv) Q) (mk N σ ds) w)
    (h2 : ∀ (g : γ) (ρ : Nat → Value) (w' : World), Inv g w' → Q .normal (mk N (ext (vals g) (mask M ρ σ)) ds) w') : CW r P x Q (mk N σ ds) w := by
  refine c_mono h1 fun e a w' h => ?_
  cases e with
  | normal =>
    obtain ⟨g, σ', rfl, hag, hhas, hI⟩ := h
    have := h2 g σ' w' hI
    rw [mask_self hag, ext_has hhas] at this
    exact this
  | _ => exact h

section draws
variable {r : Option Nat} {P : Program} {ops : Array Oper} {Q : Exit → Act → World → Prop} {N : Nat} {σ : Nat → Value} {ds : List Deferred} {w : World} {J : World → Prop} {z i d : Nat} {gd : Option (Nat × Bool)} {π : List (Nat × Bool)} {ty : TypeId} {pos : String} {after : Array Edge} {x y : Operand}
end draws

theorem Sl.kept {w w' : World} {v : Value} {vs : List Value} {o : Option Nat} (h : Sl w v vs) (hg : w.grownBy w' o) (hne : vs = [] ∨ v.ownBlock ≠ o) : Sl w' v vs := by
  obtain ⟨hm, a, n, c, rfl, hn, hnc, hc⟩ := h
  refine ⟨hm, a, n, c, rfl, hn, hnc, fun i u hi => ?_⟩
  obtain ⟨ad, rfl, hcell⟩ := hc i u hi
  have hne' : some ad.block ≠ o := by
    rcases hne with rfl | h
    · simp at hi
    · exact h
  refine ⟨ad, rfl, ?_⟩
  have hb : (ad.add i).block = ad.block := by unfold Addr.add; split <;> rfl
  have hlt := block_lt_of_cell hcell
  have := hg.block (ad.add i).block hlt (by rw [hb]; exact hne')
  unfold World.cell? at hcell ⊢
  rw [this]; exact hcell
theorem Ints.kept {w w' : World} {v : Value} {l : List Int} {o : Option Nat} (h : Ints w v l) (hg : w.grownBy w' o) (hne : l = [] ∨ v.ownBlock ≠ o) : Ints w' v l := Sl.kept h hg (hne.imp (by rintro rfl; rfl) id)
theorem Sl.block {w : World} {v : Value} {vs : List Value} (h : Sl w v vs) : vs = [] ∨ ∃ b, v.ownBlock = some b ∧ b < w.heap.size := by
  obtain ⟨_, a, n, c, rfl, hn, hnc, hc⟩ := h
  cases vs with
  | nil => exact .inl rfl
  | cons u vs =>
    obtain ⟨ad, rfl, hcell⟩ := hc 0 u rfl
    exact .inr ⟨ad.block, rfl, block_lt_of_cell hcell⟩
theorem Ints.block {w : World} {v : Value} {l : List Int} (h : Ints w v l) : l = [] ∨ ∃ b, v.ownBlock = some b ∧ b < w.heap.size := by
  rcases Sl.block h with h | h
  · exact .inl (by simpa using h)
  · exact .inr h

theorem Rows.rowlen {w : World} {v : Value} {g : List (List Int)} (h : Rows w v g) (i : Nat) : (g.getD i []).length ≤ 140737488355328 := by
  by_cases hi : i < g.length
  · obtain ⟨vs, u, _, _, hI⟩ := h.row hi
    exact hI.len
  · simp [hi]
/-- Rows that are being put together by append; E the type of a row. -/
def Bld (w : World) (E : TypeId) (v : Value) (g : List (List Int)) : Prop :=
  ∃ vs, Rw w E v vs ∧ vs.length = g.length ∧ (∀ u ∈ vs, u.oneCell' = true) ∧ ∀ (i : Nat) (u : Value) (l : List Int), vs[i]? = some u → g[i]? = some l → Ints w u l ∧ (l = [] ∨ u.ownBlock ≠ v.ownBlock)
theorem Bld.nil (w : World) (E : TypeId) : Bld w E (.slice none 0 0) [] := ⟨[], Rw.nil w E, rfl, by simp, fun i u l h => by simp at h⟩
theorem Bld.ex {w w' : World} {E : TypeId} {v : Value} {g : List (List Int)} (h : Bld w E v g) (hx : Ex w w') : Bld w' E v g := by
  obtain ⟨vs, h1, h2, h3, h4⟩ := h
  exact ⟨vs, h1.ex hx, h2, h3, fun i u l hu hl => ⟨(h4 i u l hu hl).1.ex hx, (h4 i u l hu hl).2⟩⟩
theorem Bld.lt {w : World} {E : TypeId} {v : Value} {g : List (List Int)} (h : Bld w E v g) : ∀ k, v.ownBlock = some k → k < w.heap.size := by
  obtain ⟨vs, h1, _⟩ := h; exact h1.lt
theorem Bld.rows {w : World} {E : TypeId} {v : Value} {g : List (List Int)} (h : Bld w E v g) (hm : g.length ≤ 140737488355328) : Rows w v g := by
  obtain ⟨vs, h1, h2, h3, h4⟩ := h
  exact ⟨vs, h1.sl (by omega), h2, fun i u l hu hl => (h4 i u l hu hl).1⟩
theorem Ints.one {w : World} {v : Value} {l : List Int} (h : Ints w v l) : v.oneCell' = true := by
  obtain ⟨a, c, rfl⟩ := h.form; rfl
section ops2
variable {r : Option Nat} {P : Program} {ops : Array Oper} {Q : Exit → Act → World → Prop} {N : Nat} {σ : Nat → Value} {ds : List Deferred} {w : World} {rest : List Oper}
variable {d d1 d2 : Nat} {ty ty2 : TypeId} {pos pos2 : String} {after after2 : Array Edge} {T E T' : TypeId} {x i y : Operand}
end ops2

/-! ### Copies of one's own -/
abbrev sv (b n c : Nat) : Value := .slice (some ⟨b, 0, none⟩) n c
/-- A list of numbers in a block of its own. -/
def OwnI (w : World) (E : TypeId) (b c : Nat) (l : List Int) : Prop := ∃ sp, At w b E (l.map (Value.int .i64) ++ sp) ∧ l.length ≤ c ∧ l.length ≤ 100000
theorem OwnI.ints {w : World} {E : TypeId} {b c : Nat} {l : List Int} (h : OwnI w E b c l) : Ints w (sv b l.length c) l := by
  obtain ⟨sp, hA, hc, hm⟩ := h
  have := hA.sl (n := l.length) (c := c) (by simp) (by omega) hc
  rwa [List.take_left' (by simp)] at this
theorem OwnI.ex {w w' : World} {E : TypeId} {b c : Nat} {l : List Int} (h : OwnI w E b c l) (hx : Ex w w') : OwnI w' E b c l := by
  obtain ⟨sp, hA, hc⟩ := h; exact ⟨sp, hA.ex hx, hc⟩
theorem OwnI.grown {w w' : World} {E : TypeId} {b c : Nat} {l : List Int} {o : Option Nat} (h : OwnI w E b c l) (hg : w.grownBy w' o) (hne : o ≠ some b) : OwnI w' E b c l := by
  obtain ⟨sp, hA, hc⟩ := h; exact ⟨sp, hA.grown hg hne, hc⟩
theorem OwnI.lt {w : World} {E : TypeId} {b c : Nat} {l : List Int} (h : OwnI w E b c l) : b < w.heap.size := by
  obtain ⟨sp, hA, hc⟩ := h; exact hA.lt
section ops3
variable {r : Option Nat} {P : Program} {ops : Array Oper} {Q : Exit → Act → World → Prop} {N : Nat} {σ : Nat → Value} {ds : List Deferred} {w : World} {rest : List Oper}
variable {d d1 d2 : Nat} {ty ty2 : TypeId} {pos pos2 : String} {after after2 : Array Edge} {T E T' : TypeId} {x i y : Operand}
theorem s_stO {b n c : Nat} {B : TypeId} {l : List Int} {q : Int} (hE : Ty1 P E) (hx : ev N σ x = .pointer (some ⟨b, n, none⟩)) (hy : ev N σ y = .int .i64 q) (hO : OwnI w B b c l) (hn : n < l.length)
    (h : ∀ w', OwnI w' B b c (l.set n q) → w.grownBy w' (some b) → WL r P ops Q rest (mk N σ ds) w') :
    WL r P ops Q (⟨none, .store E x y, ty, pos, after, none⟩ :: rest) (mk N σ ds) w := by
  obtain ⟨sp, hA, hc, hm⟩ := hO
  refine s_stA hE hx hy rfl hA (by simp; omega) ?_
  intro w' hA' hg
  refine h w' ⟨sp, ?_, by simpa using hc, by simpa using hm⟩ hg
  rw [List.set_append_left _ _ (by simpa using hn), ← List.map_set] at hA'
  exact hA'
end ops3
/-- Lists of numbers, each and all in blocks of their own. -/
def Mat (w : World) (T E : TypeId) (b c : Nat) (rb rc : Nat → Nat) (g : List (List Int)) : Prop :=
  (∃ sp, At w b T ((List.range g.length).map (fun i => sv (rb i) (g.getD i []).length (rc i)) ++ sp)) ∧ g.length ≤ c ∧ g.length ≤ 100000 ∧ (∀ i, i < g.length → OwnI w E (rb i) (rc i) (g.getD i []) ∧ rb i ≠ b) ∧ ∀ i j, i < j → j < g.length → rb i < rb j
theorem Mat.ex {w w' : World} {T E : TypeId} {b c : Nat} {rb rc : Nat → Nat} {g : List (List Int)} (h : Mat w T E b c rb rc g) (hx : Ex w w') : Mat w' T E b c rb rc g := by
  obtain ⟨⟨sp, h1⟩, h2, h3, h4, h5⟩ := h
  exact ⟨⟨sp, h1.ex hx⟩, h2, h3, fun i hi => ⟨(h4 i hi).1.ex hx, (h4 i hi).2⟩, h5⟩
theorem Mat.rows {w : World} {T E : TypeId} {b c : Nat} {rb rc : Nat → Nat} {g : List (List Int)} (h : Mat w T E b c rb rc g) : Rows w (sv b g.length c) g := by
  obtain ⟨⟨sp, h1⟩, h2, h3, h4, h5⟩ := h
  have hs := h1.sl (n := g.length) (c := c) (by simp) (by omega) h2
  rw [List.take_left' (by simp)] at hs
  refine ⟨_, hs, by simp, fun i u l hu hl => ?_⟩
  have hi := (List.getElem?_eq_some_iff.1 hl).1
  have e : g.getD i [] = l := by simp [hl]
  have hu' : u = sv (rb i) (g.getD i []).length (rc i) := by
    rw [List.getElem?_map, List.getElem?_range hi] at hu
    exact (Option.some.inj hu).symm
  rw [e] at hu'
  subst hu'
  have := (h4 i hi).1.ints
  rwa [e] at this
theorem Mat.cell {w : World} {T E : TypeId} {b c : Nat} {rb rc : Nat → Nat} {g : List (List Int)} (h : Mat w T E b c rb rc g) {i : Nat} (hi : i < g.length) : ∃ cs, At w b T cs ∧ cs[i]? = some (sv (rb i) (g.getD i []).length (rc i)) := by
  obtain ⟨⟨sp, h1⟩, _⟩ := h
  refine ⟨_, h1, ?_⟩
  rw [List.getElem?_append_left (by simpa using hi)]; simp [hi]
theorem Mat.own {w : World} {T E : TypeId} {b c : Nat} {rb rc : Nat → Nat} {g : List (List Int)} (h : Mat w T E b c rb rc g) {i : Nat} (hi : i < g.length) : OwnI w E (rb i) (rc i) (g.getD i []) := (h.2.2.2.1 i hi).1
theorem Mat.put {w w' : World} {T E : TypeId} {b c : Nat} {rb rc : Nat → Nat} {g : List (List Int)} {i : Nat} {l : List Int} (h : Mat w T E b c rb rc g) (hi : i < g.length) (hl : l.length = (g.getD i []).length) (hO : OwnI w' E (rb i) (rc i) l) (hg : w.grownBy w' (some (rb i))) : Mat w' T E b c rb rc (g.set i l) := by
  obtain ⟨⟨sp, h1⟩, h2, h3, h4, h5⟩ := h
  have hget : ∀ j, (g.set i l).getD j [] = if j = i then l else g.getD j [] := by
    intro j
    simp only [List.getD_eq_getElem?_getD, List.getElem?_set]
    by_cases hj : i = j
    · subst hj; simp [hi]
    · have : ¬ j = i := fun e => hj e.symm
      simp [hj, this]
  refine ⟨⟨sp, ?_⟩, by simpa using h2, by simpa using h3, fun j hj => ?_, fun a j h6 h7 => h5 a j h6 (by simpa using h7)⟩
  · have e : (List.range (g.set i l).length).map (fun j => sv (rb j) ((g.set i l).getD j []).length (rc j)) = (List.range g.length).map (fun j => sv (rb j) (g.getD j []).length (rc j)) := by
      rw [List.length_set]
      apply List.map_congr_left
      intro j _
      rw [hget j]
      by_cases hj : j = i
      · subst hj; rw [if_pos rfl, hl]
      · rw [if_neg hj]
    rw [e]
    exact h1.grown hg (fun e => (h4 i hi).2 (Option.some.inj e))
  · have hj' : j < g.length := by simpa using hj
    rw [hget j]
    refine ⟨?_, (h4 j hj').2⟩
    by_cases hji : j = i
    · subst hji; rw [if_pos rfl]; exact hO
    · rw [if_neg hji]
      refine (h4 j hj').1.grown hg (fun e => ?_)
      have e' := Option.some.inj e
      rcases Nat.lt_or_gt_of_ne hji with h6 | h6
      · have := h5 j i h6 hi; omega
      · have := h5 i j h6 hj'; omega
theorem Rw.pos {w : World} {E : TypeId} {v : Value} {vs : List Value} (h : Rw w E v vs) (hn : 0 < vs.length) : ∃ b cap sp, v = sv b vs.length cap ∧ At w b E (vs ++ sp) ∧ vs.length ≤ cap := by
  rcases h.form with ⟨_, rfl⟩ | h
  · simp at hn
  · exact h
end Go.Proofs.YtifbgpkjbciblaaGreatDoor.Sal
/- Core10: lists and rows that a call builds for itself; slices in drawn regions. -/
set_option maxRecDepth 100000
namespace Go.Proofs.YtifbgpkjbciblaaGreatDoor.Sal
set_option linter.all false
open Go.RowKit

/-! ### Loops over two or three things -/
section loops
variable {r : Option Nat} {P : Program} {Q : Exit → Act → World → Prop} {w : World} {γ δ ε : Type}
def LoopEnd2 (N : Nat) (ds : List Deferred) (M : Nat) (σ : Nat → Value) (vals : γ → δ → List (Nat × Value)) (Inv : γ → δ → World → Prop) (μ : γ → δ → Nat) (x : γ) (y : δ) (a' : Act) (w' : World) : Prop :=
  LoopEnd (γ := γ × δ) N ds M σ (fun p => vals p.1 p.2) (fun p => Inv p.1 p.2) (fun p => μ p.1 p.2) (x, y) a' w'
theorem loop_end2 {N : Nat} {ds : List Deferred} {M : Nat} {σ σ' : Nat → Value} {vals : γ → δ → List (Nat × Value)} {Inv : γ → δ → World → Prop} {μ : γ → δ → Nat} {x : γ} {y : δ} {w' : World} (x' : γ) (y' : δ)
    (ha : Agree M σ' σ) (hv : Has σ' (vals x' y')) (hi : Inv x' y' w') (hm : μ x' y' < μ x y) : LoopEnd2 N ds M σ vals Inv μ x y (mk N σ' ds) w' := ⟨(x', y'), σ', rfl, ha, hv, hi, hm⟩
theorem c_loop2 (M : Nat) (vals : γ → δ → List (Nat × Value)) (Inv : γ → δ → World → Prop) (μ : γ → δ → Nat) {N : Nat} {σ : Nat → Value} {ds : List Deferred} {c : Code} (x₀ : γ) (y₀ : δ)
    (h₀ : Has σ (vals x₀ y₀)) (hI : Inv x₀ y₀ w)
    (round : ∀ (x : γ) (y : δ) (ρ : Nat → Value) (w : World), Inv x y w → CW r P c (Exit.then (LoopEnd2 N ds M σ vals Inv μ x y) Q) (mk N (ext (vals x y) (mask M ρ σ)) ds) w) : CW r P (.loop c) Q (mk N σ ds) w :=
  c_loop (γ := γ × δ) M (fun p => vals p.1 p.2) (fun p => Inv p.1 p.2) (fun p => μ p.1 p.2) (x₀, y₀) h₀ hI (fun p ρ w hi => round p.1 p.2 ρ w hi)
def LoopEnd3 (N : Nat) (ds : List Deferred) (M : Nat) (σ : Nat → Value) (vals : γ → δ → ε → List (Nat × Value)) (Inv : γ → δ → ε → World → Prop) (μ : γ → δ → ε → Nat) (x : γ) (y : δ) (z : ε) (a' : Act) (w' : World) : Prop :=
  LoopEnd (γ := γ × δ × ε) N ds M σ (fun p => vals p.1 p.2.1 p.2.2) (fun p => Inv p.1 p.2.1 p.2.2) (fun p => μ p.1 p.2.1 p.2.2) (x, y, z) a' w'
theorem loop_end3 {N : Nat} {ds : List Deferred} {M : Nat} {σ σ' : Nat → Value} {vals : γ → δ → ε → List (Nat × Value)} {Inv : γ → δ → ε → World → Prop} {μ : γ → δ → ε → Nat} {x : γ} {y : δ} {z : ε} {w' : World} (x' : γ) (y' : δ) (z' : ε)
    (ha : Agree M σ' σ) (hv : Has σ' (vals x' y' z')) (hi : Inv x' y' z' w') (hm : μ x' y' z' < μ x y z) : LoopEnd3 N ds M σ vals Inv μ x y z (mk N σ' ds) w' := ⟨(x', y', z'), σ', rfl, ha, hv, hi, hm⟩
theorem c_loop3 (M : Nat) (vals : γ → δ → ε → List (Nat × Value)) (Inv : γ → δ → ε → World → Prop) (μ : γ → δ → ε → Nat) {N : Nat} {σ : Nat → Value} {ds : List Deferred} {c : Code} (x₀ : γ) (y₀ : δ) (z₀ : ε)
    (h₀ : Has σ (vals x₀ y₀ z₀)) (hI : Inv x₀ y₀ z₀ w)
    (round : ∀ (x : γ) (y : δ) (z : ε) (ρ : Nat → Value) (w : World), Inv x y z w → CW r P c (Exit.then (LoopEnd3 N ds M σ vals Inv μ x y z) Q) (mk N (ext (vals x y z) (mask M ρ σ)) ds) w) : CW r P (.loop c) Q (mk N σ ds) w :=
  c_loop (γ := γ × δ × ε) M (fun p => vals p.1 p.2.1 p.2.2) (fun p => Inv p.1 p.2.1 p.2.2) (fun p => μ p.1 p.2.1 p.2.2) (x₀, y₀, z₀) h₀ hI (fun p ρ w hi => round p.1 p.2.1 p.2.2 ρ w hi)
end loops

/-- A list of numbers that a call builds by append: all its memory was laid since w0. -/
def LI (w0 w : World) (E : TypeId) (v : Value) (l : List Int) : Prop := Rw w E v (l.map (Value.int .i64)) ∧ ∀ b, v.ownBlock = some b → w0.heap.size ≤ b
theorem LI.nil (w0 w : World) (E : TypeId) : LI w0 w E (.slice none 0 0) [] := ⟨Rw.nil w E, fun b h => by cases h⟩
theorem LI.ex {w0 w w' : World} {E : TypeId} {v : Value} {l : List Int} (h : LI w0 w E v l) (hx : Ex w w') : LI w0 w' E v l := ⟨h.1.ex hx, h.2⟩
theorem LI.ints {w0 w : World} {E : TypeId} {v : Value} {l : List Int} (h : LI w0 w E v l) (hm : l.length ≤ 1000000) : Ints w v l := h.1.ints (by omega)
theorem LI.low {w0 w1 w : World} {E : TypeId} {v : Value} {l : List Int} (h : LI w1 w E v l) (hs : w0.heap.size ≤ w1.heap.size) : LI w0 w E v l := ⟨h.1, fun b hb => Nat.le_trans hs (h.2 b hb)⟩
theorem LI.lt {w0 w : World} {E : TypeId} {v : Value} {l : List Int} (h : LI w0 w E v l) : ∀ b, v.ownBlock = some b → b < w.heap.size := h.1.lt
theorem LI.one {w0 w : World} {E : TypeId} {v : Value} {l : List Int} (h : LI w0 w E v l) : v.oneCell' = true := by
  obtain ⟨a, c, rfl⟩ := h.1.slen; rfl
theorem LI.form {w0 w : World} {E : TypeId} {v : Value} {l : List Int} (h : LI w0 w E v l) : ∃ a c, v = .slice a l.length c := by
  obtain ⟨a, c, hv⟩ := h.1.slen; exact ⟨a, c, by simpa using hv⟩
theorem LI.kept {w0 w w' : World} {E : TypeId} {v : Value} {l : List Int} {o : Option Nat} (h : LI w0 w E v l) (hg : w.grownBy w' o) (hne : v.ownBlock = none ∨ v.ownBlock ≠ o) : LI w0 w' E v l := ⟨h.1.kept hg hne, h.2⟩
theorem LI.own {w0 w : World} {E : TypeId} {v : Value} {l : List Int} (h : LI w0 w E v l) (hn : l ≠ []) (hm : l.length ≤ 100000) : ∃ b c, v = sv b l.length c ∧ OwnI w E b c l ∧ w0.heap.size ≤ b := by
  have hp : 0 < (l.map (Value.int .i64)).length := by simp; exact List.length_pos_iff.2 hn
  obtain ⟨b, cap, sp, hv, hA, hc⟩ := h.1.pos hp
  refine ⟨b, cap, by rw [hv]; simp, ⟨sp, hA, by simpa using hc, hm⟩, h.2 b (by rw [hv]; rfl)⟩

/-- Rows that a call builds by append. -/
def BD (w0 w : World) (E : TypeId) (v : Value) (g : List (List Int)) : Prop := Bld w E v g ∧ ∀ b, v.ownBlock = some b → w0.heap.size ≤ b
theorem BD.nil (w0 w : World) (E : TypeId) : BD w0 w E (.slice none 0 0) [] := ⟨Bld.nil w E, fun b h => by cases h⟩
theorem BD.ex {w0 w w' : World} {E : TypeId} {v : Value} {g : List (List Int)} (h : BD w0 w E v g) (hx : Ex w w') : BD w0 w' E v g := ⟨h.1.ex hx, h.2⟩
theorem BD.rows {w0 w : World} {E : TypeId} {v : Value} {g : List (List Int)} (h : BD w0 w E v g) (hm : g.length ≤ 1000000) : Rows w v g := h.1.rows (by omega)
theorem BD.lt {w0 w : World} {E : TypeId} {v : Value} {g : List (List Int)} (h : BD w0 w E v g) : ∀ b, v.ownBlock = some b → b < w.heap.size := h.1.lt

section ops
variable {r : Option Nat} {P : Program} {ops : Array Oper} {Q : Exit → Act → World → Prop} {N : Nat} {σ : Nat → Value} {ds : List Deferred} {w : World} {rest : List Oper}
variable {d d1 d2 : Nat} {ty ty2 : TypeId} {pos pos2 : String} {after after2 : Array Edge} {T E T' : TypeId} {x i y : Operand}
theorem map_one (l : List Int) : ∀ u ∈ l.map (Value.int .i64), u.oneCell' = true := by
  intro u hu; obtain ⟨q, _, rfl⟩ := List.mem_map.1 hu; rfl
/-- append(l, x...) of numbers. -/
theorem s_lapp {w0 : World} {z v xv : Value} {l news : List Int} (hT : SlT P T E) (hi : InfoOf P E z) (hL : LI w0 w E v l) (hS : Ints w xv news) (hv : ev N σ x = v) (hxv : ev N σ y = xv) (hlen : l.length + news.length ≤ 100000) (hw : Ex w0 w)
    (h : ∀ v' w', LI w0 w' E v' (l ++ news) → Ex w0 w' → WL r P ops Q rest (mk N (upd σ d v') ds) w') :
    WL r P ops Q (⟨some d, .call { callee := .builtin .append, args := #[x, y], argTypes := #[T, T] }, ty, pos, after, none⟩ :: rest) (mk N σ ds) w := by
  refine s_app hT hi hL.1 hS hv hxv (map_one news) (by simp; omega) ?_
  intro v' w' hR hg hf
  refine h v' w' ⟨by rw [List.map_append]; exact hR, fun b hb => ?_⟩ (hw.storeo hg hL.2)
  rcases hf with he | hf
  · exact hL.2 b (he ▸ hb)
  · exact Nat.le_trans hw.size (hf b hb)
/-- append(l, q): the literal and the append. -/
theorem s_li {w0 : World} {v : Value} {l : List Int} {q : Int} (hT : SlT P T E) (hi : InfoOf P E (.int .i64 0)) (hd : Nat.blt d1 N = true) (hL : LI w0 w E v l) (hv : ev N σ x = v) (hq : ev N σ y = .int .i64 q) (hx1 : ∀ s, ev N (upd σ d1 s) x = v) (hlen : l.length ≤ 10000) (hw : Ex w0 w)
    (h : ∀ v' w' sl, LI w0 w' E v' (l ++ [q]) → Ex w0 w' → WL r P ops Q rest (mk N (upd (upd σ d1 sl) d2 v') ds) w') :
    WL r P ops Q (⟨some d1, .buildSlice T 1 #[(0, y)], ty, pos, after, none⟩ :: ⟨some d2, .call { callee := .builtin .append, args := #[x, .tmp d1], argTypes := #[T, T] }, ty2, pos2, after2, none⟩ :: rest) (mk N σ ds) w := by
  refine s_bs1 hT hi hq rfl ?_
  intro b1 w1 hb1 hA hx2 hs1
  have hS : Ints w1 (.slice (some ⟨b1, 0, none⟩) 1 1) [q] := hA.sl (n := 1) (c := 1) (Nat.le_refl _) (by omega) (Nat.le_refl _)
  exact s_lapp hT hi (hL.ex hx2) hS (hx1 _) (tmp_upd hd) (by simp; omega) (hw.trans hx2) (fun v' w' h1 h2 => h v' w' _ h1 h2)
/-- The head of the rows: those that came in. -/
theorem Rows.news {w0 w : World} {v xv : Value} {g : List (List Int)} (hR : Rows w0 xv g) (hx : Ex w0 w) (hv : ∀ b, v.ownBlock = some b → w0.heap.size ≤ b) :
    ∃ vs, Sl w xv vs ∧ vs.length = g.length ∧ ∀ (i : Nat) (u : Value) (l : List Int), vs[i]? = some u → g[i]? = some l → Ints w u l ∧ (l = [] ∨ u.ownBlock ≠ v.ownBlock) := by
  obtain ⟨vs, h1, h2, h3⟩ := hR
  refine ⟨vs, h1.ex hx, h2, fun i u l hu hl => ⟨(h3 i u l hu hl).ex hx, ?_⟩⟩
  rcases (h3 i u l hu hl).block with h0 | ⟨b, hb, hlt⟩
  · exact .inl h0
  · exact .inr fun e => by have := hv b (e ▸ hb); omega
theorem Ints.old {w0 w : World} {u v : Value} {l : List Int} (hI : Ints w0 u l) (hv : ∀ b, v.ownBlock = some b → w0.heap.size ≤ b) : l = [] ∨ u.ownBlock ≠ v.ownBlock := by
  rcases hI.block with h0 | ⟨b, hb, hlt⟩
  · exact .inl h0
  · exact .inr fun e => by have := hv b (e ▸ hb); omega
theorem At.one {w : World} {b : Nat} {E : TypeId} {q : Int} (h : At w b E [.int .i64 q]) : Ints w (.slice (some ⟨b, 0, none⟩) 1 1) [q] := h.sl (n := 1) (c := 1) (Nat.le_refl _) (by omega) (Nat.le_refl _)
end ops

/-! ### Rows with the blocks that they take -/
def BF (F : Nat → Prop) (w : World) (E : TypeId) (v : Value) (g : List (List Int)) : Prop :=
  ∃ vs, Rw w E v vs ∧ vs.length = g.length ∧ (∀ u ∈ vs, u.oneCell' = true) ∧ (∀ b, v.ownBlock = some b → F b) ∧ (∀ b, F b → b < w.heap.size) ∧
    ∀ (i : Nat) (u : Value) (l : List Int), vs[i]? = some u → g[i]? = some l → Ints w u l ∧ (l = [] ∨ (u.ownBlock ≠ v.ownBlock ∧ ∃ b, u.ownBlock = some b ∧ F b))
theorem BF.nil (w : World) (E : TypeId) : BF (fun _ => False) w E (.slice none 0 0) [] := ⟨[], Rw.nil w E, rfl, by simp, fun b h => (by cases h), fun b (h : False) => h.elim, fun i u l h => (by simp at h)⟩
theorem BF.kept {F : Nat → Prop} {w w' : World} {E : TypeId} {v : Value} {g : List (List Int)} {o : Option Nat} (h : BF F w E v g) (hg : w.grownBy w' o) (ho : ∀ b, o = some b → ¬ F b) : BF F w' E v g := by
  obtain ⟨vs, h1, h2, h3, h4, h5, h6⟩ := h
  refine ⟨vs, h1.kept hg ?_, h2, h3, h4, fun b hb => Nat.lt_of_lt_of_le (h5 b hb) hg.size, fun i u l hu hl => ?_⟩
  · cases hv : v.ownBlock with
    | none => exact .inl rfl
    | some b => exact .inr fun e => ho b e.symm (h4 b hv)
  · obtain ⟨a, b⟩ := h6 i u l hu hl
    refine ⟨a.kept hg ?_, b⟩
    rcases b with b | ⟨_, q, hq, hF⟩
    · exact .inl b
    · exact .inr fun e => ho q (by rw [← e, hq]) hF
theorem BF.ex {F : Nat → Prop} {w w' : World} {E : TypeId} {v : Value} {g : List (List Int)} (h : BF F w E v g) (hx : Ex w w') : BF F w' E v g := h.kept hx.grown (fun b e => by cases e)
theorem BF.rows {F : Nat → Prop} {w : World} {E : TypeId} {v : Value} {g : List (List Int)} (h : BF F w E v g) (hm : g.length ≤ 1000000) : Rows w v g := by
  obtain ⟨vs, h1, h2, h3, h4, h5, h6⟩ := h
  exact ⟨vs, h1.sl (by omega), h2, fun i u l hu hl => (h6 i u l hu hl).1⟩
theorem BF.own {F : Nat → Prop} {w : World} {E : TypeId} {v : Value} {g : List (List Int)} (h : BF F w E v g) : ∀ b, v.ownBlock = some b → F b := by
  obtain ⟨vs, h1, h2, h3, h4, h5, h6⟩ := h; exact h4
theorem BF.lt {F : Nat → Prop} {w : World} {E : TypeId} {v : Value} {g : List (List Int)} (h : BF F w E v g) : ∀ b, F b → b < w.heap.size := by
  obtain ⟨vs, h1, h2, h3, h4, h5, h6⟩ := h; exact h5
section
variable {r : Option Nat} {P : Program} {ops : Array Oper} {Q : Exit → Act → World → Prop} {N : Nat} {σ : Nat → Value} {ds : List Deferred} {w : World} {rest : List Oper}
variable {d d1 d2 : Nat} {ty ty2 : TypeId} {pos pos2 : String} {after after2 : Array Edge} {T E T' : TypeId} {x i y : Operand}
end

section draw
/-- A region whose order Go leaves open, walked with what is known of an older world. -/
theorem c_drawO {r : Option Nat} {P : Program} {Q : Exit → Act → World → Prop} {N : Nat} {σ : Nat → Value} {ds : List Deferred} {w w0 : World} {id : Nat} {l : List Oper} (hw : Ex w0 w) (z k : Nat) (π : List (Nat × Bool)) (hm : P.follows .mixedOrders = true) (hok : regionOK l.toArray z k π = true)
    (h : WJ r P l.toArray (Ex w0) z Q π (mk N σ ds) w.drew) : CW r P (.region id l.toArray true) Q (mk N σ ds) w := by
  simp only [regionOK, Bool.and_eq_true] at hok
  obtain ⟨⟨⟨h1, h2⟩, h3⟩, h4⟩ := hok
  refine wpIn_region_any hm (wpAny_of_RAJ _ _ _ _ (raj_of_wj (J := Ex w0) (fun j o ho => ?_) h2 π _ _ _ _ h3 ?_ (.inr (hw.trans (Ex.drew w))) (Nat.le_of_ble_eq_true h4) h))
  · exact (Array.all_eq_true_iff_forall_mem.1 h1) o (Array.mem_of_getElem? ho)
  · intro k hk
    exfalso
    by_cases hlt : k < l.toArray.size
    · simp at hlt; simp [hlt] at hk
    · simp at hlt; simp [Nat.not_lt.2 hlt] at hk
variable {r : Option Nat} {P : Program} {J : World → Prop} {z : Nat} {Q : Exit → Act → World → Prop} {N : Nat} {σ : Nat → Value} {ds : List Deferred} {w : World}
variable {gd : Option (Nat × Bool)} {ops : Array Oper} {i d : Nat} {π : List (Nat × Bool)} {ty : TypeId} {pos : String} {after : Array Edge} {T E : TypeId} {x : Operand}
/-- What makes memory, calls or stores: the operation is read off at once. -/
theorem d_ch {a : Act} {dst : Option Tmp} {op : Op} (hop : ops[i]? = some ⟨dst, op, ty, pos, after, gd⟩) (h : WL r P ops (fun e a' w' => e = .normal ∧ (i = z ∨ J w') ∧ WJ r P ops J z Q π a' w') [⟨dst, op, ty, pos, after, gd⟩] a w) : WJ r P ops J z Q ((i, false) :: π) a w := d_chain hop h
theorem d_lenIO {w1 : World} {v : Value} {l : List Int} (hop : ops[i]? = some ⟨some d, .call { callee := .builtin .len, args := #[x], argTypes := #[T] }, ty, pos, after, gd⟩) (hT : SlT P T E) (hx : ev N σ x = v) (hs : Ints w1 v l)
    (h : WJ r P ops J z Q π (mk N (upd σ d (.int .i64 (l.length : Int))) ds) w) (hgd : GOK ops (ev N σ) gd := by first | exact trivial | exact ⟨_, rfl, rfl⟩) : WJ r P ops J z Q ((i, true) :: π) (mk N σ ds) w := by
  obtain ⟨a, c, rfl⟩ := hs.form; exact d_len hop hT hx h hgd
end draw
end Go.Proofs.YtifbgpkjbciblaaGreatDoor.Sal
/- Core12: a region whose order Go leaves open, where at one point two operations that make memory are ready: both orders. -/
set_option maxRecDepth 100000
namespace Go.Proofs.YtifbgpkjbciblaaGreatDoor.Sal
set_option linter.all false
open Go.RowKit
section fork
variable {r : Option Nat} {P : Program} {ops : Array Oper} {J : World → Prop} {Q : Exit → Act → World → Prop} {z : Nat}
def chkF (ops : Array Oper) (z i : Nat) (π2 : List (Nat × Bool)) (j : Nat) (π3 : List (Nat × Bool)) : List (Nat × Bool) → Array Bool → Bool
  | [], listed => (Region.ready .any ops listed == [i, j]) && !(i == z) && !(j == z) && chk ops z π2 (listed.setIfInBounds i true) && chk ops z π3 (listed.setIfInBounds j true)
  | (x, true) :: π, listed => (Region.ready .any ops listed).contains x && apartOK ops x && !(x == z) && chkF ops z i π2 j π3 π (listed.setIfInBounds x true)
  | (_, false) :: _, _ => false
def ForkEnd (r : Option Nat) (P : Program) (ops : Array Oper) (J : World → Prop) (z : Nat) (Q : Exit → Act → World → Prop) (i : Nat) (π2 : List (Nat × Bool)) (j : Nat) (π3 : List (Nat × Bool)) : Exit → Act → World → Prop :=
  fun _ a w => WJ r P ops J z Q ((i, false) :: π2) a w ∧ WJ r P ops J z Q ((j, false) :: π3) a w
theorem raj_of_wjF {k i j : Nat} {π2 π3 : List (Nat × Bool)} (hpl : ∀ (j : Nat) (o : Oper), ops[j]? = some o → plainOp o = true) (hs : sinkOK ops z k = true) :
    ∀ (π : List (Nat × Bool)) (fuel : Nat) (listed : Array Bool) (a : Act) (w : World), chkF ops z i π2 j π3 π listed = true → Closed ops listed → J w → π.length + 1 + π2.length ≤ fuel → π.length + 1 + π3.length ≤ fuel →
      WJ r P ops J z (ForkEnd r P ops J z Q i π2 j π3) π a w → RAJ r P ops J z Q fuel listed a w := by
  intro π
  induction π with
  | nil =>
    intro fuel listed a w hk hc hJ hf1 hf2 h
    simp only [chkF, Bool.and_eq_true] at hk
    obtain ⟨⟨⟨⟨h1, h2⟩, h3⟩, h4⟩, h5⟩ := hk
    have he : Region.ready .any ops listed = [i, j] := by simpa using h1
    have h2' : i ≠ z := by simpa using h2
    have h3' : j ≠ z := by simpa using h3
    cases fuel with
    | zero => simp at hf1
    | succ f =>
      simp at hf1 hf2
      refine ⟨fun h => (by rw [he] at h; simp at h), fun x hx => ?_⟩
      have hrx := hx
      rw [he] at hx
      simp at hx
      have hW : WJ r P ops J z Q ((i, false) :: π2) a w ∧ WJ r P ops J z Q ((j, false) :: π3) a w := h
      rcases hx with rfl | rfl
      · refine wpOpIn_mono ?_ hW.1
        rintro a' w' ⟨hJ', hW'⟩
        have hJw : J w' := hJ'.resolve_left h2'
        exact ⟨.inr hJw, raj_of_wj hpl hs π2 f _ a' w' h4 (closed_set hc hrx) (.inr hJw) (by omega) hW'⟩
      · refine wpOpIn_mono ?_ hW.2
        rintro a' w' ⟨hJ', hW'⟩
        have hJw : J w' := hJ'.resolve_left h3'
        exact ⟨.inr hJw, raj_of_wj hpl hs π3 f _ a' w' h5 (closed_set hc hrx) (.inr hJw) (by omega) hW'⟩
  | cons p π ih =>
    obtain ⟨x, b⟩ := p
    intro fuel listed a w hk hc hJ hf1 hf2 h
    cases b with
    | false => simp [chkF] at hk
    | true =>
      cases fuel with
      | zero => simp at hf1
      | succ f =>
        simp only [List.length_cons] at hf1 hf2
        simp only [chkF, Bool.and_eq_true] at hk
        obtain ⟨⟨⟨h1, h2⟩, h3⟩, h4⟩ := hk
        have hr : x ∈ Region.ready .any ops listed := by simpa using h1
        obtain ⟨o, v, ho, hy, hW⟩ := h
        exact first_mover hpl hs ho h2 (by simpa using h3) f listed a w hc hr hy hJ (ih f _ _ w h4 (closed_set hc hr) hJ (by omega) (by omega) hW)
def regionOKF (ops : Array Oper) (z k : Nat) (π : List (Nat × Bool)) (i : Nat) (π2 : List (Nat × Bool)) (j : Nat) (π3 : List (Nat × Bool)) : Bool :=
  ops.all plainOp && sinkOK ops z k && chkF ops z i π2 j π3 π (Array.replicate ops.size false) && Nat.ble (π.length + 1 + π2.length) ops.size && Nat.ble (π.length + 1 + π3.length) ops.size
end fork
theorem c_drawF {r : Option Nat} {P : Program} {Q : Exit → Act → World → Prop} {N : Nat} {σ : Nat → Value} {ds : List Deferred} {w w0 : World} {id : Nat} {l : List Oper} (hw : Ex w0 w) (z k : Nat) (π : List (Nat × Bool)) (i : Nat) (π2 : List (Nat × Bool)) (j : Nat) (π3 : List (Nat × Bool)) (hm : P.follows .mixedOrders = true) (hok : regionOKF l.toArray z k π i π2 j π3 = true)
    (h : WJ r P l.toArray (Ex w0) z (ForkEnd r P l.toArray (Ex w0) z Q i π2 j π3) π (mk N σ ds) w.drew) : CW r P (.region id l.toArray true) Q (mk N σ ds) w := by
  simp only [regionOKF, Bool.and_eq_true] at hok
  obtain ⟨⟨⟨⟨h1, h2⟩, h3⟩, h4⟩, h5⟩ := hok
  refine wpIn_region_any hm (wpAny_of_RAJ _ _ _ _ (raj_of_wjF (J := Ex w0) (fun j o ho => ?_) h2 π _ _ _ _ h3 ?_ (hw.trans (Ex.drew w)) (Nat.le_of_ble_eq_true h4) (Nat.le_of_ble_eq_true h5) h))
  · exact (Array.all_eq_true_iff_forall_mem.1 h1) o (Array.mem_of_getElem? ho)
  · intro k hk
    exfalso
    by_cases hlt : k < l.toArray.size
    · simp at hlt; simp [hlt] at hk
    · simp at hlt; simp [Nat.not_lt.2 hlt] at hk
theorem d_fork {r : Option Nat} {P : Program} {ops : Array Oper} {J : World → Prop} {Q : Exit → Act → World → Prop} {z : Nat} {N : Nat} {σ : Nat → Value} {ds : List Deferred} {w : World} {i j : Nat} {π2 π3 : List (Nat × Bool)}
    (h1 : WJ r P ops J z Q ((i, false) :: π2) (mk N σ ds) w) (h2 : WJ r P ops J z Q ((j, false) :: π3) (mk N σ ds) w) : WJ r P ops J z (ForkEnd r P ops J z Q i π2 j π3) [] (mk N σ ds) w := ⟨h1, h2⟩
end Go.Proofs.YtifbgpkjbciblaaGreatDoor.Sal
/- Core11: a range over a function, outermost, whose body does not leave it. -/
set_option maxRecDepth 100000
namespace Go.Proofs.YtifbgpkjbciblaaGreatDoor.Sal
set_option linter.all false
open Go.RowKit
theorem wp_n {r : Option Nat} {P : Program} {c : Code} {Q : Exit → Act → World → Prop} {a : Act} {w : World} (n m : Nat) (h : c.wpIn (FW r) n P Q a w) : c.wpIn (FW r) m P Q a w :=
  fun b k cs h1 h2 _ => h b k cs h1 h2 (room_wide _)
def updl : List (Nat × Value) → (Nat → Value) → Nat → Value
  | [], σ => σ
  | (d, v) :: l, σ => updl l (upd σ d v)
theorem fold_mk (N : Nat) : ∀ (l : List (Nat × Value)) (σ : Nat → Value) (ds : List Deferred), ({ tmps := l.foldl (fun t p => t.setIfInBounds p.1 p.2) (mk N σ ds).tmps, defers := [] } : Act) = mk N (updl l σ) []
  | [], σ, ds => rfl
  | (d, v) :: l, σ, ds => by
    have e : (mk N σ ds).tmps.setIfInBounds d v = (mk N (upd σ d v) ds).tmps := by
      have := put_mk N σ ds d v
      unfold Act.put at this
      exact congrArg Act.tmps this
    show ({ tmps := l.foldl (fun t p => t.setIfInBounds p.1 p.2) ((mk N σ ds).tmps.setIfInBounds d v), defers := [] } : Act) = mk N (updl l (upd σ d v)) []
    rw [e]
    exact fold_mk N l (upd σ d v) ds
theorem zip_mk (N : Nat) (ps : Array Tmp) (vs : Array Value) (σ : Nat → Value) (ds : List Deferred) : ({ tmps := (ps.zip vs).foldl (fun t (p, v) => t.setIfInBounds p v) (mk N σ ds).tmps, defers := [] } : Act) = mk N (updl (ps.toList.zip vs.toList) σ) [] := by
  rw [← fold_mk N (ps.toList.zip vs.toList) σ ds]
  congr 1
  rw [← Array.foldl_toList, Array.toList_zip]
abbrev mark (D : Nat) : Deferred := { target := .collected D, args := #[] }
theorem c_range {α : Type} {P : Program} {g : Operand} {ps : Array Tmp} {assign body : Code} {Q : Exit → Act → World → Prop} {N : Nat} {σ : Nat → Value} {ds : List Deferred} {w : World} {gf : Nat} {lb : List Value}
    (hg : ev N σ g = .func (.func gf) #[] lb.toArray) (eg : CallOK P gf)
    {encs : α → Array Value} {Kp : World → World → Prop} {S Sp : List α → Prop} {NN : Nat} {w0 : World} (hseq : SeqStopsK Fence.wide 0 P gf lb.toArray encs Kp S Sp NN w0)
    (hKt : ∀ {A B C : World}, Kp A B → Kp B C → Kp A C) (hKb : ∀ (W : World) (l : Nat) (o o' : Obj), w.heap.size ≤ l → W.heap[l]? = some o → o.isCells = false → o.isWalk = false → Kp W (W.putObj l o')) (hKr : ∀ W, Kp W W) (hb0 : Ex w0 w) (hps : ∀ x, (encs x).size = ps.size)
    (I : List α → World → Prop) (hI : OwnFrom w.heap.size I) (h0 : I [] w) (σ1 : α → (Nat → Value) → Nat → Value)
    (hassign : ∀ (l : Nat) (x : α) (W : World) (K : Act → World → Prop), K (mk N (σ1 x σ) []) W → CW (some l) P assign (Exit.then K (fun _ _ _ => False)) (mk N (updl (ps.toList.zip (encs x).toList) σ) []) W)
    (hbody : ∀ (l : Nat) (pre : List α) (x : α) (W : World), I pre W → pre.length < NN → CW (some l) P body (ownPostG w.heap.size Kp I (fun _ _ _ => False) (pre ++ [x]) W) (mk N (σ1 x σ) []) W)
    (hdone : ∀ (D : Nat) (xs : List α) (W : World), w.heap.size ≤ D → S xs → I xs W → W.heap[D]? = some (.deferred (some [])) → Q .normal (mk N σ (mark D :: ds)) W) :
    CW none P (.rangeFunc g ps assign body) Q (mk N σ ds) w := by
  refine wp_n 1 0 (wpIn_rangeFunc_ownG (F := FW none) (n := 1) (a := mk N σ ds) rfl (Nat.le_refl 1) (gf := gf) (lb := lb.toArray) (by rw [eval_mk]; exact hg) trivial eg hseq (fun h k => hKt h k) hKb hb0 hps I (fun _ _ _ => False) hI (fun _ _ _ _ _ hs _ _ => hs) h0 (fun x => mk N (σ1 x σ) []) ?_ ?_ ?_ ?_)
  · intro l x W K hK
    rw [zip_mk]
    exact hassign l x W K hK
  · intro l pre x W hi hl
    exact hbody l pre x W hi hl
  · intro D xs W hD hS hi hK
    exact hdone D xs W hD hS hi hK
  · intro D c pre W _ _ h _
    exact h.elim
theorem own_norm {α : Type} {B : Nat} {Kp : World → World → Prop} {I : List α → World → Prop} {Ix : Code → List α → World → Prop} {xs : List α} {W W' : World} {a : Act} (h1 : KeepsFrom B W W') (h2 : Kp W W') (h3 : I xs W') : ownPostG B Kp I Ix xs W .normal a W' := ⟨h1, h2, h3⟩
theorem cell_gr {W W' : World} {a : Addr} {v : Value} {b : Nat} (h : W.cell? a = some v) (hg : W.grownBy W' (some b)) (hne : a.block ≠ b) : W'.cell? a = some v :=
  (World.cell?_of_block (hg.block a.block (block_lt_of_cell h) (fun e => hne (by cases e; rfl)))).trans h
/-- A call of yield, within the iterator. -/
theorem s_yield {r : Option Nat} {P : Program} {ops : Array Oper} {Q : Exit → Act → World → Prop} {N : Nat} {σ : Nat → Value} {ds : List Deferred} {w : World} {rest : List Oper} {ty : TypeId} {pos : String} {after : Array Edge}
    {d : Nat} {x : Operand} {l : Nat} {xs : List Operand} {ats : Array TypeId} {vs : List Value} {R : Ending → World → Prop} (hv : ev N σ x = .func (.yield l) #[] #[]) (hargs : xs.map (ev N σ) = vs) (hY : YieldAt Fence.wide 0 P l vs.toArray w R)
    (h : ∀ e w', R e w' → ∃ v, e = .returned v ∧ WL r P ops Q rest (mk N (upd σ d v) ds) w') : WL r P ops Q (⟨some d, .call { callee := .value x, args := xs.toArray, argTypes := ats }, ty, pos, after, none⟩ :: rest) (mk N σ ds) w := by
  obtain ⟨fn, tmps, assign, body, hy, hR⟩ := hY
  refine wpListIn_plain rfl fun K hK => ?_
  refine ⟨fun f _ => trivial, ?_⟩
  have hrun : (execOp (ev N σ) ⟨some d, .call { callee := .value x, args := xs.toArray, argTypes := ats }, ty, pos, after, none⟩).run P w = .ok (.round l fn tmps assign body) w := by
    subst hargs
    simp [execOp, resolve, hv, Deferred.ofValue, invoke, go_sem]
    exact hy
  rw [Oper.semAt_plain (FW r) _ _ (by intro c e; cases e), eval_mk', hrun]
  simp only [Oper.uponIn_round]
  refine ⟨fun hd => by simp [Fence.wide] at hd, ?_⟩
  have hR' : RoundIn (FW r) (0 - 1) P l fn tmps assign body w R := hR
  refine RoundIn.mono hR' ?_
  intro e w' he
  obtain ⟨v, rfl, hW⟩ := h e w' he
  show K ((mk N σ ds).put (some d) v) w'
  rw [put_mk]
  exact hK _ _ hW
theorem Ct.callsIn {P : Program} {f : FuncId} {args : Array Value} {w : World} {R : Value → World → Prop} (h : Ct P f args w R) : CallsIn Fence.wide 0 P f args w (RE R) := h
/-- A function without results runs off its end. -/
theorem end0 {P : Program} {fn : Func} {w : World} {R : Value → World → Prop} {N : Nat} {σ : Nat → Value} (hres : fn.results = #[]) (hR : R (.tuple #[]) w) : Post P fn R .normal (mk N σ []) w := leave_nil (results_none hres _ P w) hR
/-! ### Returns behind such a loop -/
section rets
variable {P : Program} {fn : Func} {w : World} {R : Value → World → Prop} {N : Nat} {σ : Nat → Value}
theorem leave_mark {tmps : Array Value} {v : Value} {D : Nat} (hK : w.heap[D]? = some (.deferred (some []))) (hr : ∀ w', (results fn tmps).run P w' = .ok v w') (hR : R v (w.putObj D (.deferred none))) : LeavesInM (FW none) 0 P fn tmps (RE R) [mark D] .returning w :=
  ⟨by simp, .inl ⟨D, _, rfl, run_takeDeferred hK, leave_nil (hr _) hR⟩⟩
theorem ret2m {t u D : Nat} {v x : Value} (hres : fn.results = #[.tmp t, .tmp u]) (hv : ev N σ (.tmp t) = v) (hx : ev N σ (.tmp u) = x) (hK : w.heap[D]? = some (.deferred (some []))) (hR : R (.tuple #[v, x]) (w.putObj D (.deferred none))) : Post P fn R .ret (mk N σ [mark D]) w :=
  leave_mark hK (fun w' => by rw [results_tmp2 hres, getD_mk' hv, getD_mk' hx]) hR
end rets
/-- The turn of a block that is no cells leaves all lists as they were. -/
def KC (w w' : World) : Prop := (∀ (a : Addr) (v : Value), w.cell? a = some v → w'.cell? a = some v) ∧ ∀ (b : Nat) (o : Obj), w.heap[b]? = some o → o.isCells = true → w'.heap[b]? = some o
theorem KC.sl {w w' : World} {v : Value} {vs : List Value} (hk : KC w w') (h : Sl w v vs) : Sl w' v vs := by
  obtain ⟨hm, a, n, c, hv, hn, hnc, hc⟩ := h
  exact ⟨hm, a, n, c, hv, hn, hnc, fun i u hi => let ⟨ad, ha, hcell⟩ := hc i u hi; ⟨ad, ha, hk.1 _ _ hcell⟩⟩
theorem Rows.parts {w : World} {v : Value} {g : List (List Int)} (h : Rows w v g) : ∃ vs, Sl w v vs ∧ vs.length = g.length ∧ ∀ (i : Nat) (u : Value) (l : List Int), vs[i]? = some u → g[i]? = some l → Ints w u l := h
theorem Ints.parts {w : World} {v : Value} {l : List Int} (h : Ints w v l) : (l.map (Value.int .i64)).length ≤ 140737488355328 ∧ ∃ a n c, v = .slice a n c ∧ (l.map (Value.int .i64)).length = n ∧ n ≤ c ∧ ∀ (i : Nat) (u : Value), (l.map (Value.int .i64))[i]? = some u → ∃ ad, a = some ad ∧ w.cell? (ad.add i) = some u := h
theorem Ints.of_parts {w : World} {a : Option Addr} {l : List Int} (hm : (l.map (Value.int .i64)).length ≤ 140737488355328) (hn : (l.map (Value.int .i64)).length = l.length) (hc : ∀ (i : Nat) (u : Value), (l.map (Value.int .i64))[i]? = some u → ∃ ad, a = some ad ∧ w.cell? (ad.add i) = some u) : Ints w (.slice a l.length l.length) l := ⟨hm, a, l.length, l.length, rfl, hn, Nat.le_refl _, hc⟩
theorem KC.ints {w w' : World} {v : Value} {l : List Int} (hk : KC w w') (h : Ints w v l) : Ints w' v l := KC.sl hk h
theorem KC.rows {w w' : World} {v : Value} {g : List (List Int)} (hk : KC w w') (h : Rows w v g) : Rows w' v g := by
  obtain ⟨vs, hs, hl, hr⟩ := h
  exact ⟨vs, hk.sl hs, hl, fun i u l hi hg => hk.ints (hr i u l hi hg)⟩
theorem KC.turn {w w' : World} {row : Option Nat} (hg : w.grownBy w' row) (hrow : ∀ r, row = some r → ∃ o : Obj, w.heap[r]? = some o ∧ o.isCells = false) : KC w w' :=
  ⟨fun a v h => cell_kept h hg hrow, fun b o ho hc => by
    have hl := (Array.getElem?_eq_some_iff.1 ho).1
    refine (hg.block b hl fun e => ?_).trans ho
    obtain ⟨o2, h2, h3⟩ := hrow b e.symm
    rw [ho] at h2
    cases h2
    rw [hc] at h3; cases h3⟩
theorem KC.put {W : World} {l : Nat} {o o' : Obj} (h : W.heap[l]? = some o) (hc : o.isCells = false) : KC W (W.putObj l o') := KC.turn (grownBy_putObj' W l o') (fun r e => by cases e; exact ⟨o, h, hc⟩)
theorem KC.ex {w w' : World} (h : Ex w w') : KC w w' := ⟨fun a v hc => h.cell hc, fun b o ho _ => (h.block b (Array.getElem?_eq_some_iff.1 ho).1).trans ho⟩
theorem KC.trans {a b c : World} (h : KC a b) (k : KC b c) : KC a c := ⟨fun x v hc => k.1 x v (h.1 x v hc), fun x o ho hc => k.2 x o (h.2 x o ho hc) hc⟩
theorem KC.at {w w' : World} {b : Nat} {E : TypeId} {cs : List Value} (hk : KC w w') (h : At w b E cs) : At w' b E cs := hk.2 b _ h rfl
end Go.Proofs.YtifbgpkjbciblaaGreatDoor.Sal
/- Core13: slices with three indexes, elements of arrays as values, marks. -/
set_option maxRecDepth 100000
namespace Go.Proofs.YtifbgpkjbciblaaGreatDoor.Sal
set_option linter.all false
open Go.RowKit
section
variable {r : Option Nat} {P : Program} {ops : Array Oper} {Q : Exit → Act → World → Prop} {N : Nat} {σ : Nat → Value} {ds : List Deferred} {w : World} {rest : List Oper}
variable {d : Nat} {ty : TypeId} {pos : String} {after : Array Edge} {T E : TypeId} {x i y z : Operand}
theorem run_slice3 {a : Option Addr} {n c : Nat} (hT : SlT P T E) (hE : Ty1 P E) (h : n ≤ c) : (Instr.sliceAt T (.slice a n c) none (some (.int .i64 (n : Int))) (some (.int .i64 (n : Int)))).run P w = .ok (.slice a n n) w := by
  have hT' : P.underlying T = some (.slice E) := hT
  have b1 : ∀ (x y : Nat) (code : BoundsCode), x ≤ y → (Instr.sliceBound (.int .i64 (x : Int)) y code).run P w = .ok x w := fun x y code hxy => by
    simp [Instr.sliceBound, asIntOf, go_sem]; omega
  have bds : (Instr.sliceBounds true n c none (some (.int .i64 (n : Int))) (some (.int .i64 (n : Int)))).run P w = .ok (0, n, n) w := by
    simp [Instr.sliceBounds, Sem.run_bind, b1 _ _ _ h, b1 _ _ _ (Nat.le_refl n), Result.andThen]
  cases a with
  | none => simp [Instr.sliceAt, Instr.slice, run_underlying hT', bds, run_sizeOf1 hE, Sem.run_bind]
  | some a => simp [Instr.sliceAt, Instr.slice, run_underlying hT', bds, run_sizeOf1 hE, Sem.run_bind, Addr.add_zero']
theorem s_clip {a : Option Addr} {n c : Nat} (hT : SlT P T E) (hE : Ty1 P E) (hx : ev N σ x = .slice a n c) (hy : ev N σ y = .int .i64 (n : Int)) (hz : ev N σ z = .int .i64 (n : Int)) (h : n ≤ c)
    (hK : WL r P ops Q rest (mk N (upd σ d (.slice a n n)) ds) w) : WL r P ops Q (⟨some d, .slice T x none (some y) (some z), ty, pos, after, none⟩ :: rest) (mk N σ ds) w := by
  refine l_val (v := .slice a n n) (by intro c e; cases e) ?_ hK
  have := run_slice3 (P := P) (w := w) (a := a) hT hE h
  simp [execOp, hx, hy, hz, this]
theorem s_idxV {cs : List Value} {L n : Nat} {k : IntKind} {u : Value} (hT : P.underlying T = some (.array L E)) (hE : Ty1 P E) (hx : ev N σ x = .agg cs.toArray) (hi : ev N σ i = .int k (n : Int)) (hn : n < L) (hu : cs[n]? = some u)
    (hK : WL r P ops Q rest (mk N (upd σ d u) ds) w) : WL r P ops Q (⟨some d, .index T x i, ty, pos, after, none⟩ :: rest) (mk N σ ds) w := by
  refine l_val (v := u) (by intro c e; cases e) ?_ hK
  have hA := run_isAgg1 (P := P) hE w
  obtain ⟨⟨ti, h1, h2⟩, _⟩ := hE
  simp [execOp, hx, hi, Instr.index, asIntOf, run_underlying hT, hn, Sem.run_bind, sizeOf, typeInfo, h1, h2, go_sem, part, hu, hA]
end
/-- A region whose order Go leaves open, walked with what is known all through it. -/
theorem c_drawJ {r : Option Nat} {P : Program} {Q : Exit → Act → World → Prop} {N : Nat} {σ : Nat → Value} {ds : List Deferred} {w : World} {id : Nat} {l : List Oper} (J : World → Prop) (hJ : J w.drew) (z k : Nat) (π : List (Nat × Bool)) (hm : P.follows .mixedOrders = true) (hok : regionOK l.toArray z k π = true)
    (h : WJ r P l.toArray J z Q π (mk N σ ds) w.drew) : CW r P (.region id l.toArray true) Q (mk N σ ds) w := by
  simp only [regionOK, Bool.and_eq_true] at hok
  obtain ⟨⟨⟨h1, h2⟩, h3⟩, h4⟩ := hok
  refine wpIn_region_any hm (wpAny_of_RAJ _ _ _ _ (raj_of_wj (J := J) (fun j o ho => ?_) h2 π _ _ _ _ h3 ?_ (.inr hJ) (Nat.le_of_ble_eq_true h4) h))
  · exact (Array.all_eq_true_iff_forall_mem.1 h1) o (Array.mem_of_getElem? ho)
  · intro k hk
    exfalso
    by_cases hlt : k < l.toArray.size
    · simp at hlt; simp [hlt] at hk
    · simp at hlt; simp [Nat.not_lt.2 hlt] at hk
theorem d_ldJ {r : Option Nat} {P : Program} {J : World → Prop} {z : Nat} {Q : Exit → Act → World → Prop} {N : Nat} {σ : Nat → Value} {ds : List Deferred} {w : World} {gd : Option (Nat × Bool)} {ops : Array Oper} {i d : Nat} {π : List (Nat × Bool)} {ty : TypeId} {pos : String} {after : Array Edge}
    {E B : TypeId} {x : Operand} {b n : Nat} {cs : List Value} {u : Value} (hop : ops[i]? = some ⟨some d, .load E x, ty, pos, after, gd⟩) (hE : Ty1 P E) (hx : ev N σ x = .pointer (some ⟨b, n, none⟩)) (hA : ∀ w', J w' → At w' b B cs) (hc : cs[n]? = some u)
    (h : WJ r P ops J z Q π (mk N (upd σ d u) ds) w) (hgd : GOK ops (ev N σ) gd := by first | exact trivial | exact ⟨_, rfl, rfl⟩) : WJ r P ops J z Q ((i, true) :: π) (mk N σ ds) w :=
  d_val hop (fun w' hw => by simp [execOp, hx, Instr.loadAt, Instr.sureAddr, run_loadVar1 hE (show w'.cell? ⟨b, n, none⟩ = some u by rw [(hA w' hw).cell]; exact hc)]) h hgd
/-- The mark of a loop over a function lies as it lay. -/
theorem mark_ex {w w' : World} {D : Nat} (h : w.heap[D]? = some (.deferred (some []))) (hx : Ex w w') : w'.heap[D]? = some (.deferred (some [])) :=
  (hx.block D (Array.getElem?_eq_some_iff.1 h).1).trans h
theorem mark_gr {w w' : World} {D b : Nat} {E : TypeId} {cs : List Value} (h : w.heap[D]? = some (.deferred (some []))) (hA : At w b E cs) (hg : w.grownBy w' (some b)) : w'.heap[D]? = some (.deferred (some [])) := by
  refine (hg.block D (Array.getElem?_eq_some_iff.1 h).1 (fun e => ?_)).trans h
  cases e
  unfold At at hA
  rw [h] at hA; cases hA
/-- The end of the marks: whatever is cells reads as it did. -/
theorem mark_kc {w : World} {D : Nat} (h : w.heap[D]? = some (.deferred (some []))) : KC w (w.putObj D (.deferred none)) := KC.put h rfl
theorem mark_out {w0 w : World} {D : Nat} (hx : Ex w0 w) (hD : w0.heap.size ≤ D) : Ex w0 (w.putObj D (.deferred none)) := hx.storeo (grownBy_putObj' w D _) (fun b e => by cases e; exact hD)
theorem KeepsFrom.ex {B : Nat} {w w' : World} (h : Ex w w') : KeepsFrom B w w' := KeepsFrom.of_grownBy h.grown (fun j e => by cases e)
theorem At.own {β : Type} {b : Nat} {E : TypeId} (f : β → List Value) : Own (fun (s : β) W => At W b E (f s)) := by
  intro s W W' row hs hg hr
  refine hs.grown hg (fun e => ?_)
  obtain ⟨o, ho, hc⟩ := hr b e
  unfold At at hs
  rw [ho] at hs; cases hs; cases hc
theorem Rw.own {β : Type} {E : TypeId} {v : Value} {vs : List Value} : Own (fun (_ : β) W => Rw W E v vs) := by
  intro s W W' row hs hg hr
  refine hs.kept hg ?_
  rcases hs.form with ⟨rfl, _⟩ | ⟨b, cap, sp, rfl, hA, _⟩
  · exact .inl rfl
  · refine .inr (fun e => ?_)
    obtain ⟨o, ho, hc⟩ := hr b e.symm
    unfold At at hA
    rw [ho] at hA; cases hA; cases hc
/-- Lists that are built side by side, their values in one block. -/
structure MBv (W : World) (T E : TypeId) (bo base n : Nat) (f : Nat → List Int) (vs : Nat → Value) : Prop where
  at' : At W bo T ((List.range n).map vs)
  rw' : ∀ k, k < n → Rw W E (vs k) ((f k).map (Value.int .i64))
  low : ∀ k, k < n → ∀ b, (vs k).ownBlock = some b → base ≤ b
  dis : ∀ k j, k < n → j < n → k ≠ j → ∀ b, (vs k).ownBlock = some b → (vs j).ownBlock ≠ some b
def fs {α : Type} (f : Nat → α) (k : Nat) (x : α) : Nat → α := fun j => if j = k then x else f j
theorem map_fs {α : Type} (f : Nat → α) {n k : Nat} (x : α) (hk : k < n) : ((List.range n).map f).set k x = (List.range n).map (fs f k x) := by
  apply List.ext_getElem?
  intro i
  rw [List.getElem?_set]
  simp only [List.length_map, List.length_range]
  by_cases hi : k = i
  · subst hi; simp [hk, fs]
  · have : ¬ i = k := fun e => hi e.symm
    simp only [if_neg hi]
    by_cases h8 : i < n <;> simp [h8, this, fs]
theorem MBv.put {W W1 W2 W3 : World} {T E : TypeId} {bo base n k : Nat} {f : Nat → List Int} {vs : Nat → Value} {l : List Int} {v' : Value} (h : MBv W T E bo base n f vs) (hk : k < n) (hx : Ex W W1) (hR : Rw W2 E v' (l.map (Value.int .i64))) (hg : W1.grownBy W2 (vs k).ownBlock)
    (hf : v'.ownBlock = (vs k).ownBlock ∨ ∀ b, v'.ownBlock = some b → W1.heap.size ≤ b) (hA : At W3 bo T (((List.range n).map vs).set k v')) (hg3 : W2.grownBy W3 (some bo)) (hbase : base ≤ W.heap.size) (hbo : bo < base) : MBv W3 T E bo base n (fs f k l) (fs vs k v') := by
  have hv' : ∀ b, v'.ownBlock = some b → base ≤ b := fun b hb => by
    rcases hf with he | hf
    · exact h.low k hk b (he ▸ hb)
    · have := hf b hb; have := hx.size; omega
  have hlt : ∀ j, j < n → ∀ b, (vs j).ownBlock = some b → b < W1.heap.size := fun j hj b hb => by
    have := (h.rw' j hj).lt b hb; have := hx.size; omega
  refine ⟨by rw [← map_fs _ _ hk]; exact hA, fun j hj => ?_, fun j hj b hb => ?_, fun i j hi hj hij b hb => ?_⟩
  · by_cases e : j = k
    · subst e
      simp only [fs, if_true]
      refine hR.kept hg3 ?_
      cases hb : v'.ownBlock with
      | none => exact .inl rfl
      | some b => exact .inr (fun e => by have e' := Option.some.inj e; have := hv' b hb; omega)
    · simp only [fs, if_neg e]
      have hne : (vs j).ownBlock = none ∨ (vs j).ownBlock ≠ (vs k).ownBlock := by
        cases hb : (vs j).ownBlock with
        | none => exact .inl rfl
        | some b => exact .inr (fun e2 => h.dis j k hj hk e b hb e2.symm)
      have h1 := ((h.rw' j hj).ex hx).kept hg hne
      refine h1.kept hg3 ?_
      cases hb : (vs j).ownBlock with
      | none => exact .inl rfl
      | some b => exact .inr (fun e => by have e' := Option.some.inj e; have := h.low j hj b hb; omega)
  · by_cases e : j = k
    · subst e
      simp only [fs, if_true] at hb
      exact hv' b hb
    · simp only [fs, if_neg e] at hb
      exact h.low j hj b hb
  · by_cases e : i = k
    · subst e
      have e2 : ¬ j = i := fun e2 => hij e2.symm
      simp only [fs, if_true] at hb
      simp only [fs, if_neg e2]
      rcases hf with he | hf
      · exact h.dis i j hi hj hij b (he ▸ hb)
      · intro hb2
        have := hf b hb; have := hlt j hj b hb2; omega
    · simp only [fs, if_neg e] at hb
      by_cases e2 : j = k
      · subst e2
        simp only [fs, if_true]
        rcases hf with he | hf
        · rw [he]; exact h.dis i j hi hj hij b hb
        · intro hb2
          have := hf b hb2; have := hlt i hi b hb; omega
      · simp only [fs, if_neg e2]
        exact h.dis i j hi hj hij b hb
theorem MBv.own {β : Type} {T E : TypeId} {bo base n : Nat} (f : β → Nat → List Int) : Own (fun (s : β) W => ∃ vs, MBv W T E bo base n (f s) vs) := by
  intro s W W' row hs hg hr
  obtain ⟨vs, h⟩ := hs
  exact ⟨vs, At.own (fun _ : Unit => (List.range n).map vs) () W W' row h.at' hg hr, fun k hk => Rw.own () W W' row (h.rw' k hk) hg hr, h.low, h.dis⟩
theorem MBv.nil {W : World} {T E : TypeId} {bo base n : Nat} (hA : At W bo T (List.replicate n (.slice none 0 0))) : MBv W T E bo base n (fun _ => []) (fun _ => .slice none 0 0) := by
  refine ⟨?_, fun k _ => Rw.nil W E, fun k _ b h => (by cases h), fun k j _ _ _ b h => (by cases h)⟩
  have e : (List.range n).map (fun _ => Value.slice none 0 0) = List.replicate n (.slice none 0 0) := by
    apply List.ext_getElem
    · simp
    · intro i h1 h2; simp
  rw [e]; exact hA
end Go.Proofs.YtifbgpkjbciblaaGreatDoor.Sal
/- The types of this translation, and the functions' numbers. -/
set_option maxRecDepth 100000
namespace Go.Proofs.YtifbgpkjbciblaaGreatDoor.Sal
set_option linter.all false
open Go.RowKit
theorem inf_int : (Tryz.prog.info? 3).map (fun i => (i.zero, i.size, i.bytes)) = some (some (.int .i64 0), 1, 8) := by kernel_rfl
theorem inf_ints : (Tryz.prog.info? 25).map (fun i => (i.zero, i.size, i.bytes)) = some (some (.slice none 0 0), 1, 24) := by kernel_rfl
theorem ty_int : Ty1 Tryz.prog 3 := ⟨let ⟨i, h, _, hs, _⟩ := info_parts inf_int; ⟨i, h, hs⟩, _, Tryz.underlying3, rfl⟩
theorem ty_ints : Ty1 Tryz.prog 25 := ⟨let ⟨i, h, _, hs, _⟩ := info_parts inf_ints; ⟨i, h, hs⟩, _, Tryz.underlying25, rfl⟩
theorem in_int : InfoOf Tryz.prog 3 (.int .i64 0) := ⟨let ⟨i, h, hz, hs, hb⟩ := info_parts inf_int; ⟨i, h, hz, hs, by omega⟩, rfl⟩
theorem in_ints : InfoOf Tryz.prog 25 (.slice none 0 0) := ⟨let ⟨i, h, hz, hs, hb⟩ := info_parts inf_ints; ⟨i, h, hz, hs, by omega⟩, rfl⟩
theorem sl_ints : SlT Tryz.prog 25 3 := Tryz.underlying25
theorem sl_rows : SlT Tryz.prog 22 25 := Tryz.underlying22
theorem mixed : Tryz.prog.follows .mixedOrders = true := by kernel_rfl
end Go.Proofs.YtifbgpkjbciblaaGreatDoor.Sal
/- How the arguments of the laws of the graphs read. -/
set_option maxRecDepth 100000
namespace Go.Proofs.YtifbgpkjbciblaaGreatDoor.Sal
open Go.RowKit Go.Deep Go.ChangeShapes Go.WideShapes Go.ChangeAt Go.Joins
set_option linter.all false
theorem own : ownKnob Tryz.prog.godebug = none := by kernel_rfl
theorem laidOut : laidOutB Tryz.prog = true := by kernel_rfl
section
variable {H : Type} {enc : TypeId × Value → H} {w : World} {base : Nat} {spare : Nat → Bool} {held : Bool} {r : Reach} {b0 : Nat} {v : Value} {d : DataW H} {p : List MemPlace}
theorem open_graph (hv : Value.okWide Tryz.prog w r b0 24 v) (h : DataW.Trod enc Tryz.prog w base spare held 24 v d p) (hw : ∀ n ∈ d.weights Tryz.prog 24, n ≤ reachBytes) :
    ∃ (u : Value) (g : List (List Int)) (n : Int), v = .agg #[u, .int .i64 n] ∧ Rows w u g ∧ In64 n ∧ ∀ l ∈ g, ∀ x ∈ l, In64 x := by
  obtain ⟨v0, v1, y0, y1, m, rfl, rfl, rfl, h0, h1⟩ := open_agg2 Tryz.underlying24 (by kernel_rfl) (by kernel_rfl) hv h
  have hw0 : ∀ n ∈ y0.1.weights Tryz.prog 22, n ≤ reachBytes := fun n hn => hw n (by
    simp only [DataW.weights, Tryz.underlying24, List.map, DataW.weightsEach, List.mem_append]
    exact .inl hn)
  obtain ⟨g, hg, hgi⟩ := read_rows Tryz.underlying22 Tryz.underlying25 Tryz.underlying3 (by kernel_rfl) (by kernel_rfl) (of_decide_eq_true (by kernel_rfl)) (of_decide_eq_true (by kernel_rfl)) h0 hw0
  obtain ⟨k, hk, _, hwf⟩ := DataW.trod_int Tryz.underlying3 h1
  simp only [List.cons.injEq, and_true] at hk
  subst hk
  exact ⟨v0, g, k, rfl, hg, in64_of_wf hwf, hgi⟩
theorem cells_slice (a : Option Addr) (n c : Nat) : (Value.slice a n c).cells.toList = [.slice a n c] := rfl
theorem open_intl (hv : Value.okWide Tryz.prog w r b0 25 v) (h : DataW.Trod enc Tryz.prog w base spare held 25 v d p) (hw : ∀ n ∈ d.weights Tryz.prog 25, n ≤ reachBytes) :
    ∃ l : List Int, Ints w v l ∧ ∀ x ∈ l, In64 x := by
  obtain ⟨a, n, c, rfl⟩ := okWide_slice Tryz.underlying25 hv
  obtain ⟨fuel, hf⟩ := h
  rw [cells_slice] at hf
  exact read_ints Tryz.underlying25 Tryz.underlying3 (by kernel_rfl) (of_decide_eq_true (by kernel_rfl)) hf hw
end
end Go.Proofs.YtifbgpkjbciblaaGreatDoor.Sal
/- slices.IndexFunc, ContainsFunc at [][]int and []int; Index, Contains, Clip, Clone at []int. -/
set_option maxRecDepth 100000
namespace Go.Proofs.YtifbgpkjbciblaaGreatDoor.Sal
open Go.RowKit
attribute [local irreducible] Go.Code.wpIn Go.wpListIn Ct Ints Rows Sl At Rw WJ
set_option linter.all false
theorem ok_ifI : CallOK Tryz.prog 115 := callOK Tryz.func115 (by kernel_rfl) rfl
theorem ok_ifR : CallOK Tryz.prog 127 := callOK Tryz.func127 (by kernel_rfl) rfl
theorem ok_cfI : CallOK Tryz.prog 72 := callOK Tryz.func72 (by kernel_rfl) rfl
theorem ok_cfR : CallOK Tryz.prog 88 := callOK Tryz.func88 (by kernel_rfl) rfl
/-- A function value that answers a bool of an int and leaves all as it was. -/
def AskI (P : Program) (g : FuncId) (caps : List Value) (w : World) (p : Int → Bool) : Prop := CallOK P g ∧ ∀ x w1, Ex w w1 → Ct P g ([Value.int .i64 x] ++ caps).toArray w1 fun v w' => v = .bool (p x) ∧ Ex w1 w'
def AskR (P : Program) (g : FuncId) (caps : List Value) (w : World) (p : List Int → Bool) : Prop := CallOK P g ∧ ∀ u l w1, Ex w w1 → Ints w1 u l → Ct P g ([u] ++ caps).toArray w1 fun v w' => v = .bool (p l) ∧ Ex w1 w'
theorem AskI.ex {P : Program} {g : FuncId} {caps : List Value} {w w' : World} {p : Int → Bool} (h : AskI P g caps w p) (hx : Ex w w') : AskI P g caps w' p := ⟨h.1, fun x w1 h1 => h.2 x w1 (hx.trans h1)⟩
theorem AskR.ex {P : Program} {g : FuncId} {caps : List Value} {w w' : World} {p : List Int → Bool} (h : AskR P g caps w p) (hx : Ex w w') : AskR P g caps w' p := ⟨h.1, fun u l w1 h1 => h.2 u l w1 (hx.trans h1)⟩
theorem any_take_succ {α : Type} (l : List α) (p : α → Bool) (k : Nat) (d : α) (hk : k < l.length) : (l.take (k + 1)).any p = ((l.take k).any p || p (l.getD k d)) := by
  rw [List.take_succ_eq_append_getElem hk, List.any_append]; simp [hk]
theorem any_of_getD {α : Type} (l : List α) (p : α → Bool) (k : Nat) (d : α) (hk : k < l.length) (h : p (l.getD k d) = true) : l.any p = true := by
  rw [List.any_eq_true]
  exact ⟨l[k], List.getElem_mem hk, by simpa [hk] using h⟩
theorem ifI_ct (v : Value) (l : List Int) (g : FuncId) (caps : List Value) (p : Int → Bool) (w : World) (hl : Ints w v l) (ha : AskI Tryz.prog g caps w p) :
    Ct Tryz.prog 115 #[v, .func (.func g) #[] caps.toArray] w fun u w' => (∃ n : Int, u = .int .i64 n ∧ (0 ≤ n ↔ l.any p = true)) ∧ Ex w w' := by
  have hlen := hl.len
  refine enter (N := 19) (vs := [v, .func (.func g) #[] caps.toArray]) Tryz.func115 rfl rfl rfl ?_
  repeat (first | (refine isO ?_; first | refine s_move ?_ | refine s_assign ?_ | (refine isCall ?_; refine s_lenI sl_ints rfl (by assumption) ?_)) | (refine isC ?_; first | refine c_sr ?_ | refine c_seq ?_ | refine c_block ?_) | (refine l_th ?_))
  refine c_loop (γ := Nat) 524080 (fun k => [(8, .int .i64 (k : Int))]) (fun k w' => k ≤ l.length ∧ (l.take k).any p = false ∧ Ex w w') (fun k => l.length - k) 0 ⟨rfl, trivial⟩ ⟨Nat.zero_le _, rfl, Ex.refl _⟩ ?_
  rintro k ρ w' ⟨hk, hno, hx⟩
  have hl' := hl.ex hx
  repeat (first | (refine isO ?_; (refine isBin ?_; refine s_lss rfl rfl ?_)) | (refine isC ?_; first | refine c_sr ?_ | refine c_seq ?_) | (refine l_th ?_))
  refine c_ifd rfl (fun h => ?_) (fun h => ?_)
  · have hk' : k < l.length := by omega
    repeat (first | (refine isO ?_; first | refine s_move ?_ | refine s_assign ?_ | (refine isIA ?_; refine s_ixI sl_ints ty_int rfl rfl rfl (by assumption) (by omega) ?_; intro _)) | (refine isC ?_; first | refine c_sr ?_ | refine c_th ?_ | refine c_seq ?_ | refine c_block ?_) | (refine l_th ?_))
    refine s_callv (by intro f e; cases e) rfl ha.1 rfl (ha.2 _ _ hx) ?_
    rintro v1 w1 ⟨rfl, hx1⟩
    cases hp : p (l.getD k 0) with
    | true =>
      repeat (first | (refine isO ?_; first | refine s_move ?_ | refine s_assign ?_) | (refine isC ?_; first | refine c_sr ?_ | refine c_ift rfl ?_ | refine c_ret ?_) | (first | refine l_th ?_ | refine th_ret ?_ | refine ib_ret ?_))
      exact ret1 rfl rfl ⟨⟨_, rfl, fun _ => any_of_getD l p k 0 hk' hp, fun _ => by omega⟩, hx.trans hx1⟩
    | false =>
      repeat (first | (refine isO ?_; first | refine s_move ?_ | (refine isBin ?_; refine s_inc rfl (by omega) ?_)) | (refine isC ?_; first | refine c_region ?_ | refine c_iff rfl ?_ | refine c_skip ?_) | (refine l_th ?_))
      refine loop_end (k + 1) (by (repeat (first | exact agree_refl _ _ | refine agree_upd rfl ?_ | refine agree_ext rfl ?_ | refine agree_mask rfl ?_))) ⟨rfl, trivial⟩ ⟨hk', ?_, hx.trans hx1⟩ (by omega)
      rw [any_take_succ l p k 0 hk', hno, hp]; rfl
  · repeat (first | (refine isO ?_; refine s_assign ?_) | (refine isC ?_; first | refine c_sr ?_ | refine c_ret ?_ | refine c_exit ?_) | (refine l_th ?_))
    refine ret1 rfl rfl ⟨⟨_, rfl, fun h0 => by omega, fun h1 => ?_⟩, hx⟩
    rw [List.take_of_length_le (by omega)] at hno
    rw [hno] at h1; cases h1
theorem ifR_ct (v : Value) (l : List (List Int)) (g : FuncId) (caps : List Value) (p : List Int → Bool) (w : World) (hl : Rows w v l) (ha : AskR Tryz.prog g caps w p) :
    Ct Tryz.prog 127 #[v, .func (.func g) #[] caps.toArray] w fun u w' => (∃ n : Int, u = .int .i64 n ∧ (0 ≤ n ↔ l.any p = true)) ∧ Ex w w' := by
  have hlen := hl.len
  refine enter (N := 19) (vs := [v, .func (.func g) #[] caps.toArray]) Tryz.func127 rfl rfl rfl ?_
  repeat (first | (refine isO ?_; first | refine s_move ?_ | refine s_assign ?_ | (refine isCall ?_; refine s_lenR sl_rows rfl (by assumption) ?_)) | (refine isC ?_; first | refine c_sr ?_ | refine c_seq ?_ | refine c_block ?_) | (refine l_th ?_))
  refine c_loop (γ := Nat) 524080 (fun k => [(8, .int .i64 (k : Int))]) (fun k w' => k ≤ l.length ∧ (l.take k).any p = false ∧ Ex w w') (fun k => l.length - k) 0 ⟨rfl, trivial⟩ ⟨Nat.zero_le _, rfl, Ex.refl _⟩ ?_
  rintro k ρ w' ⟨hk, hno, hx⟩
  have hl' := hl.ex hx
  repeat (first | (refine isO ?_; (refine isBin ?_; refine s_lss rfl rfl ?_)) | (refine isC ?_; first | refine c_sr ?_ | refine c_seq ?_) | (refine l_th ?_))
  refine c_ifd rfl (fun h => ?_) (fun h => ?_)
  · have hk' : k < l.length := by omega
    repeat (first | (refine isO ?_; first | refine s_move ?_ | refine s_assign ?_) | (refine isC ?_; first | refine c_sr ?_ | refine c_th ?_ | refine c_seq ?_ | refine c_block ?_) | (refine l_th ?_))
    refine s_ixR sl_rows ty_ints rfl rfl rfl hl' hk' ?_
    intro _ u hu
    refine s_callv (by intro f e; cases e) rfl ha.1 rfl (ha.2 _ _ _ hx hu) ?_
    rintro v1 w1 ⟨rfl, hx1⟩
    cases hp : p (l.getD k []) with
    | true =>
      repeat (first | (refine isO ?_; first | refine s_move ?_ | refine s_assign ?_) | (refine isC ?_; first | refine c_sr ?_ | refine c_ift rfl ?_ | refine c_ret ?_) | (first | refine l_th ?_ | refine th_ret ?_ | refine ib_ret ?_))
      exact ret1 rfl rfl ⟨⟨_, rfl, fun _ => any_of_getD l p k [] hk' hp, fun _ => by omega⟩, hx.trans hx1⟩
    | false =>
      repeat (first | (refine isO ?_; first | refine s_move ?_ | (refine isBin ?_; refine s_inc rfl (by omega) ?_)) | (refine isC ?_; first | refine c_region ?_ | refine c_iff rfl ?_ | refine c_skip ?_) | (refine l_th ?_))
      refine loop_end (k + 1) (by (repeat (first | exact agree_refl _ _ | refine agree_upd rfl ?_ | refine agree_ext rfl ?_ | refine agree_mask rfl ?_))) ⟨rfl, trivial⟩ ⟨hk', ?_, hx.trans hx1⟩ (by omega)
      rw [any_take_succ l p k [] hk', hno, hp]; rfl
  · repeat (first | (refine isO ?_; refine s_assign ?_) | (refine isC ?_; first | refine c_sr ?_ | refine c_ret ?_ | refine c_exit ?_) | (refine l_th ?_))
    refine ret1 rfl rfl ⟨⟨_, rfl, fun h0 => by omega, fun h1 => ?_⟩, hx⟩
    rw [List.take_of_length_le (by omega)] at hno
    rw [hno] at h1; cases h1
theorem dec_bool {p : Prop} [Decidable p] {b : Bool} (h : p ↔ b = true) : decide p = b := by
  cases b with
  | true => exact decide_eq_true (h.2 rfl)
  | false => exact decide_eq_false (fun hp => by have := h.1 hp; cases this)
theorem cfI_ct (v : Value) (l : List Int) (g : FuncId) (caps : List Value) (p : Int → Bool) (w : World) (hl : Ints w v l) (ha : AskI Tryz.prog g caps w p) :
    Ct Tryz.prog 72 #[v, .func (.func g) #[] caps.toArray] w fun u w' => u = .bool (l.any p) ∧ Ex w w' := by
  refine enter (N := 9) (vs := [v, .func (.func g) #[] caps.toArray]) Tryz.func72 rfl rfl rfl ?_
  repeat (first | (refine isO ?_; first | refine s_move ?_ | refine s_assign ?_) | (refine isC ?_; refine c_sr ?_) | (refine l_th ?_))
  refine s_call ok_ifI rfl (ifI_ct v l g caps p w hl ha) ?_
  rintro u w' ⟨⟨n, rfl, hn⟩, hx⟩
  refine s_geq rfl rfl ?_
  repeat (first | (refine isO ?_; refine s_assign ?_) | (refine isC ?_; refine c_ret ?_) | (refine l_th ?_))
  exact ret1 rfl rfl ⟨vbool (dec_bool hn), hx⟩
theorem cfR_ct (v : Value) (l : List (List Int)) (g : FuncId) (caps : List Value) (p : List Int → Bool) (w : World) (hl : Rows w v l) (ha : AskR Tryz.prog g caps w p) :
    Ct Tryz.prog 88 #[v, .func (.func g) #[] caps.toArray] w fun u w' => u = .bool (l.any p) ∧ Ex w w' := by
  refine enter (N := 9) (vs := [v, .func (.func g) #[] caps.toArray]) Tryz.func88 rfl rfl rfl ?_
  repeat (first | (refine isO ?_; first | refine s_move ?_ | refine s_assign ?_) | (refine isC ?_; refine c_sr ?_) | (refine l_th ?_))
  refine s_call ok_ifR rfl (ifR_ct v l g caps p w hl ha) ?_
  rintro u w' ⟨⟨n, rfl, hn⟩, hx⟩
  refine s_geq rfl rfl ?_
  repeat (first | (refine isO ?_; refine s_assign ?_) | (refine isC ?_; refine c_ret ?_) | (refine l_th ?_))
  exact ret1 rfl rfl ⟨vbool (dec_bool hn), hx⟩
end Go.Proofs.YtifbgpkjbciblaaGreatDoor.Sal
/- Plain: counts, Hall's theorem (by Rado's proof), the duality of the best matching. -/
set_option maxRecDepth 100000
namespace Go.Proofs.YtifbgpkjbciblaaGreatDoor.Sal
set_option linter.all false

/-! ### Counts -/
def cnt (s : Nat → Bool) : Nat → Nat
  | 0 => 0
  | n + 1 => cnt s n + (if s n = true then 1 else 0)
theorem cnt_le {s t : Nat → Bool} : ∀ (n : Nat), (∀ i, i < n → s i = true → t i = true) → cnt s n ≤ cnt t n
  | 0, _ => Nat.le_refl _
  | n + 1, h => by
    have h1 := cnt_le n (fun i hi => h i (by omega))
    have h2 := h n (by omega)
    unfold cnt
    by_cases hs : s n = true
    · simp [hs, h2 hs]; omega
    · simp [hs]; omega
theorem cnt_congr {s t : Nat → Bool} (n : Nat) (h : ∀ i, i < n → s i = t i) : cnt s n = cnt t n :=
  Nat.le_antisymm (cnt_le n fun i hi hs => by rw [← h i hi]; exact hs) (cnt_le n fun i hi hs => by rw [h i hi]; exact hs)
theorem cnt_modular (s t : Nat → Bool) : ∀ n, cnt (fun i => s i || t i) n + cnt (fun i => s i && t i) n = cnt s n + cnt t n
  | 0 => rfl
  | n + 1 => by
    have := cnt_modular s t n
    unfold cnt
    cases s n <;> cases t n <;> simp <;> omega
theorem cnt_bound (s : Nat → Bool) : ∀ n, cnt s n ≤ n
  | 0 => Nat.le_refl _
  | n + 1 => by have := cnt_bound s n; unfold cnt; split <;> omega
theorem cnt_drop {s : Nat → Bool} {i : Nat} : ∀ {n : Nat}, i < n → s i = true → cnt (fun j => s j && !(j == i)) n + 1 = cnt s n
  | n + 1, hi, hs => by
    by_cases h : i = n
    · subst h
      have e : cnt (fun j => s j && !(j == i)) i = cnt s i := cnt_congr i fun j hj => by
        have : (j == i) = false := by simp; omega
        simp [this]
      simp [cnt, hs, e]
    · have ih := cnt_drop (n := n) (by omega) hs
      have : (n == i) = false := by simp; omega
      simp only [cnt, this]
      simp
      omega
theorem cnt_zero {s : Nat → Bool} : ∀ (n : Nat), (∀ i, i < n → s i = false) → cnt s n = 0
  | 0, _ => rfl
  | n + 1, h => by
    have := cnt_zero n (fun i hi => h i (by omega))
    have h2 := h n (by omega)
    simp [cnt, h2, this]
/-! ### Hall's theorem -/
noncomputable def nb (R : Nat → Nat → Bool) (N : Nat) (s : Nat → Bool) (k : Nat) : Bool := @decide (∃ i, i < N ∧ s i = true ∧ R i k = true) (Classical.propDecidable _)
theorem nb_iff {R : Nat → Nat → Bool} {N : Nat} {s : Nat → Bool} {k : Nat} : nb R N s k = true ↔ ∃ i, i < N ∧ s i = true ∧ R i k = true := by
  unfold nb; exact @decide_eq_true_iff _ (Classical.propDecidable _)
def Hall (R : Nat → Nat → Bool) (N M : Nat) : Prop := ∀ s, cnt s N ≤ cnt (nb R N s) M
def edges (R : Nat → Nat → Bool) (M : Nat) : Nat → Nat
  | 0 => 0
  | n + 1 => edges R M n + cnt (R n) M
/-! ### Sums -/
def sm (f : Nat → Int) : Nat → Int
  | 0 => 0
  | n + 1 => sm f n + f n
/-- What a map of columns to rows gains: where the row is none, or nothing is gained, 0. -/
def wt (G : Nat → Nat → Int) (m : Nat) (τ : Nat → Nat) (j : Nat) : Int := if τ j < m then (if 0 ≤ G (τ j) j then G (τ j) j else 0) else 0
def val (G : Nat → Nat → Int) (m L : Nat) (τ : Nat → Nat) : Int := sm (wt G m τ) L
end Go.Proofs.YtifbgpkjbciblaaGreatDoor.Sal
/- Plain: the search of a way to one more: what it finds, and what it shows where it finds none. -/
set_option maxRecDepth 100000
namespace Go.Proofs.YtifbgpkjbciblaaGreatDoor.Sal
set_option linter.all false

/-! ### The search -/
def fset {α : Type} (f : Nat → α) (k : Nat) (x : α) : Nat → α := fun j => if j = k then x else f j
theorem fset_same {α : Type} (f : Nat → α) (k : Nat) (x : α) : fset f k x k = x := by simp [fset]
theorem fset_other {α : Type} {f : Nat → α} {k j : Nat} {x : α} (h : j ≠ k) : fset f k x j = f j := by simp [fset, h]
/-- The items that a bidder may have, rising. -/
def rowN (n : Nat) (p : Nat → Bool) : List Nat := (List.range n).filter p
theorem mem_rowN {n : Nat} {p : Nat → Bool} {k : Nat} : k ∈ rowN n p ↔ k < n ∧ p k = true := by simp [rowN]
/-- One bidder's items, one behind the other. -/
def scanR (hold : Nat → Nat) (b : Nat) : List Nat → (Nat → Nat) → List Nat → Option Nat × (Nat → Nat) × List Nat
  | [], w, ws => (none, w, ws)
  | k :: ks, w, ws => if 0 < w k then scanR hold b ks w ws else if 0 < hold k then scanR hold b ks (fset w k (b + 1)) (ws ++ [hold k - 1]) else (some k, fset w k (b + 1), ws)
def bfsR (R : Nat → Nat → Bool) (n : Nat) (hold : Nat → Nat) : Nat → Nat → (Nat → Nat) → List Nat → Option Nat × (Nat → Nat) × List Nat
  | 0, _, w, ws => (none, w, ws)
  | f + 1, j, w, ws => if j < ws.length then
      match scanR hold (ws.getD j 0) (rowN n (R (ws.getD j 0))) w ws with
      | (some k, w', ws') => (some k, w', ws')
      | (none, w', ws') => bfsR R n hold f (j + 1) w' ws'
    else (none, w, ws)
/-- One more than who has an item; 0: nobody. -/
def holdN (has : List Int) : Nat → Nat → Nat
  | 0, _ => 0
  | j + 1, k => if has.getD j (-1) = (k : Int) then j + 1 else holdN has j k
def augR (w : Nat → Nat) : Nat → Int → List Int → List Int
  | 0, _, has => has
  | f + 1, k, has => if k = -1 then has else augR w f (has.getD (w k.toNat - 1) (-1)) (has.set (w k.toNat - 1) k)
def moreR (R : Nat → Nat → Bool) (n : Nat) (has : List Int) (a : Nat) : Option (List Int) :=
  match bfsR R n (holdN has has.length) 9 0 (fun _ => 0) [a] with
  | (some k, w, _) => some (augR w 9 (k : Int) has)
  | (none, _, _) => none

/-! ### Matchings -/
structure FitR (R : Nat → Nat → Bool) (m n : Nat) (has : List Int) : Prop where
  len : has.length = m
  ok : ∀ i, i < m → has.getD i (-1) = -1 ∨ ∃ k : Nat, k < n ∧ has.getD i (-1) = (k : Int) ∧ R i k = true
  inj : ∀ i j, i < m → j < m → has.getD i (-1) = has.getD j (-1) → has.getD i (-1) ≠ -1 → i = j
theorem getD_setI (l : List Int) (i j : Nat) (x : Int) (hi : i < l.length) : (l.set i x).getD j (-1) = if j = i then x else l.getD j (-1) := by
  simp only [List.getD_eq_getElem?_getD, List.getElem?_set]
  by_cases hj : i = j
  · subst hj; simp [hi]
  · have : ¬ j = i := fun e => hj e.symm
    simp [hj, this]
theorem holdN_pos {has : List Int} {k : Nat} : ∀ {j : Nat}, 0 < holdN has j k → holdN has j k - 1 < j ∧ has.getD (holdN has j k - 1) (-1) = (k : Int)
  | j + 1, h => by
    unfold holdN at h ⊢
    by_cases he : has.getD j (-1) = (k : Int)
    · rw [if_pos he] at h ⊢
      exact ⟨by omega, by simpa using he⟩
    · rw [if_neg he] at h ⊢
      have := holdN_pos h
      exact ⟨by omega, this.2⟩
theorem holdN_zero {has : List Int} {k : Nat} : ∀ {j : Nat}, holdN has j k = 0 → ∀ i, i < j → has.getD i (-1) ≠ (k : Int)
  | j + 1, h, i, hi => by
    unfold holdN at h
    by_cases he : has.getD j (-1) = (k : Int)
    · rw [if_pos he] at h; omega
    · rw [if_neg he] at h
      by_cases hij : i = j
      · subst hij; exact he
      · exact holdN_zero h i (by omega)

/-- What holds all through the search. -/
structure BI (R : Nat → Nat → Bool) (m n : Nat) (has : List Int) (a : Nat) (w : Nat → Nat) (ws : List Nat) : Prop where
  head : ws[0]? = some a
  bnd : ∀ b ∈ ws, b < m
  nodup : ∀ (i j b : Nat), ws[i]? = some b → ws[j]? = some b → i = j
  came : ∀ (j b : Nat), ws[j]? = some b → 0 < j → ∃ k j' : Nat, k < n ∧ has.getD b (-1) = (k : Int) ∧ 0 < w k ∧ j' < j ∧ ws[j']? = some (w k - 1)
  byok : ∀ k, 0 < w k → k < n ∧ (w k - 1) ∈ ws ∧ R (w k - 1) k = true
  full : ws.length ≤ 1 + cnt (fun k => decide (0 < w k)) n
  held : ∀ k, 0 < w k → 0 < holdN has has.length k → holdN has has.length k - 1 ∈ ws
theorem BI.len {R : Nat → Nat → Bool} {m n : Nat} {has : List Int} {a : Nat} {w : Nat → Nat} {ws : List Nat} (h : BI R m n has a w ws) : ws.length ≤ 1 + n :=
  Nat.le_trans h.full (by have := cnt_bound (fun k => decide (0 < w k)) n; omega)
theorem BI.start {R : Nat → Nat → Bool} {m n : Nat} {has : List Int} {a : Nat} (ha : a < m) : BI R m n has a (fun _ => 0) [a] := by
  refine ⟨rfl, by simp [ha], ?_, ?_, ?_, by simp, ?_⟩
  · intro i j b hi hj
    have h1 := (List.getElem?_eq_some_iff.1 hi).1
    have h2 := (List.getElem?_eq_some_iff.1 hj).1
    simp at h1 h2; omega
  · intro j b hj h0
    have h1 := (List.getElem?_eq_some_iff.1 hj).1
    simp at h1; omega
  · intro k h; omega
  · intro k h; omega
theorem cnt_fset {w : Nat → Nat} {n k x : Nat} (hk : k < n) (h0 : ¬ 0 < w k) (hx : 0 < x) : cnt (fun j => decide (0 < w j)) n + 1 = cnt (fun j => decide (0 < fset w k x j)) n := by
  have h1 : (fun j => decide (0 < fset w k x j)) k = true := by simp [fset_same, hx]
  have h2 := cnt_drop (s := fun j => decide (0 < fset w k x j)) hk h1
  rw [← h2]
  congr 1
  apply cnt_congr
  intro j hj
  by_cases e : j = k
  · subst e; simp [fset_same, h0]
  · simp [fset_other e, e]
theorem get_app {ws : List Nat} {x j b : Nat} (h : (ws ++ [x])[j]? = some b) : (j < ws.length ∧ ws[j]? = some b) ∨ (j = ws.length ∧ b = x) := by
  by_cases hj : j < ws.length
  · exact .inl ⟨hj, by rwa [List.getElem?_append_left hj] at h⟩
  · have h1 := (List.getElem?_eq_some_iff.1 h).1
    simp at h1
    have : j = ws.length := by omega
    subst this
    simp at h
    exact .inr ⟨rfl, h.symm⟩
theorem get_app_old {ws : List Nat} {x j b : Nat} (h : ws[j]? = some b) : (ws ++ [x])[j]? = some b := by
  have h1 := (List.getElem?_eq_some_iff.1 h).1
  rw [List.getElem?_append_left h1]; exact h
theorem idx_of {ws : List Nat} {b : Nat} (h : b ∈ ws) : ∃ j : Nat, ws[j]? = some b := List.mem_iff_getElem?.1 h

section search
variable {R : Nat → Nat → Bool} {m n : Nat} {has : List Int} {a : Nat}
/-- An item is come to that somebody has. -/
theorem BI.take {w : Nat → Nat} {ws : List Nat} {b k jb : Nat} (hF : FitR R m n has) (h : BI R m n has a w ws) (ha : has.getD a (-1) = -1) (hb : ws[jb]? = some b) (hk : k < n) (hR : R b k = true) (h0 : ¬ 0 < w k) (hh : 0 < holdN has has.length k) :
    BI R m n has a (fset w k (b + 1)) (ws ++ [holdN has has.length k - 1]) := by
  have hp := holdN_pos hh
  rw [hF.len] at hp
  obtain ⟨hc, hcv⟩ := hp
  rw [← hF.len] at hc hcv
  obtain ⟨c, hce⟩ : ∃ c, c = holdN has has.length k - 1 := ⟨_, rfl⟩
  rw [hF.len] at hce
  have hF' := hF.len
  rw [hF.len, ← hce] at hc hcv
  rw [hF.len, ← hce]
  have hnew : c ∉ ws := fun hm => by
    obtain ⟨j, hj⟩ := idx_of hm
    by_cases hj0 : j = 0
    · subst hj0
      rw [h.head] at hj
      cases hj
      rw [ha] at hcv; omega
    · obtain ⟨k', j', hk', hv, hw, _, _⟩ := h.came j c hj (by omega)
      rw [hcv] at hv
      have : k = k' := by omega
      subst this
      exact h0 hw
  refine ⟨get_app_old h.head, ?_, ?_, ?_, ?_, ?_, ?_⟩
  · intro x hx
    rcases List.mem_append.1 hx with hx | hx
    · exact h.bnd x hx
    · simp at hx; subst hx; exact hc
  · intro i j x hi hj
    rcases get_app hi with ⟨h1, h2⟩ | ⟨h1, h2⟩ <;> rcases get_app hj with ⟨h3, h4⟩ | ⟨h3, h4⟩
    · exact h.nodup i j x h2 h4
    · subst h4; exact absurd (List.mem_iff_getElem?.2 ⟨i, h2⟩) hnew
    · subst h2; exact absurd (List.mem_iff_getElem?.2 ⟨j, h4⟩) hnew
    · omega
  · intro j x hj hj0
    rcases get_app hj with ⟨h1, h2⟩ | ⟨h1, h2⟩
    · obtain ⟨k', j', hk', hv, hw, hlt, hj'⟩ := h.came j x h2 hj0
      have hne : k' ≠ k := fun e => by subst e; exact h0 hw
      exact ⟨k', j', hk', hv, by rw [fset_other hne]; exact hw, hlt, by rw [fset_other hne]; exact get_app_old hj'⟩
    · subst h2
      refine ⟨k, jb, hk, hcv, by rw [fset_same]; omega, ?_, by rw [fset_same]; simpa using get_app_old hb⟩
      have := (List.getElem?_eq_some_iff.1 hb).1
      omega
  · intro k' hw
    by_cases e : k' = k
    · subst e
      rw [fset_same]
      exact ⟨hk, List.mem_append_left _ (by simpa using List.mem_iff_getElem?.2 ⟨jb, hb⟩), by simpa using hR⟩
    · rw [fset_other e] at hw ⊢
      obtain ⟨h1, h2, h3⟩ := h.byok k' hw
      exact ⟨h1, List.mem_append_left _ h2, h3⟩
  · have := cnt_fset (x := b + 1) hk h0 (by omega)
    rw [← this]
    have := h.full
    simp; omega
  · intro k' hw hh'
    by_cases e : k' = k
    · subst e
      rw [hF.len, ← hce]
      simp
    · rw [fset_other e] at hw
      exact List.mem_append_left _ (h.held k' hw hh')
/-- An item is come to that nobody has. -/
theorem BI.free {w : Nat → Nat} {ws : List Nat} {b k jb : Nat} (h : BI R m n has a w ws) (hb : ws[jb]? = some b) (hk : k < n) (hR : R b k = true) (h0 : ¬ 0 < w k) (hh : ¬ 0 < holdN has has.length k) :
    BI R m n has a (fset w k (b + 1)) ws := by
  refine ⟨h.head, h.bnd, h.nodup, ?_, ?_, ?_, ?_⟩
  · intro j x hj hj0
    obtain ⟨k', j', hk', hv, hw, hlt, hj'⟩ := h.came j x hj hj0
    have hne : k' ≠ k := fun e => by subst e; exact h0 hw
    exact ⟨k', j', hk', hv, by rw [fset_other hne]; exact hw, hlt, by rw [fset_other hne]; exact hj'⟩
  · intro k' hw
    by_cases e : k' = k
    · subst e
      rw [fset_same]
      exact ⟨hk, by simpa using List.mem_iff_getElem?.2 ⟨jb, hb⟩, by simpa using hR⟩
    · rw [fset_other e] at hw ⊢
      exact h.byok k' hw
  · have := cnt_fset (x := b + 1) hk h0 (by omega)
    have := h.full
    omega
  · intro k' hw hh'
    by_cases e : k' = k
    · subst e; exact absurd hh' hh
    · rw [fset_other e] at hw
      exact h.held k' hw hh'
def Free (has : List Int) (w : Nat → Nat) : Prop := ∀ k, 0 < w k → 0 < holdN has has.length k
theorem scan_ok (hF : FitR R m n has) (ha : has.getD a (-1) = -1) {b jb : Nat} : ∀ (ks : List Nat) (w : Nat → Nat) (ws : List Nat), BI R m n has a w ws → Free has w → ws[jb]? = some b → (∀ k ∈ ks, k < n ∧ R b k = true) →
    ∃ (o : Option Nat) (w' : Nat → Nat) (ws' : List Nat), scanR (holdN has has.length) b ks w ws = (o, w', ws') ∧ BI R m n has a w' ws' ∧ (∃ ext, ws' = ws ++ ext) ∧ (∀ k, 0 < w k → 0 < w' k) ∧
      (o = none → Free has w' ∧ ∀ k ∈ ks, 0 < w' k) ∧ (∀ k, o = some k → 0 < w' k ∧ holdN has has.length k = 0)
  | [], w, ws, h, hf, hb, hk => ⟨none, w, ws, rfl, h, ⟨[], by simp⟩, fun _ h => h, fun _ => ⟨hf, by simp⟩, fun k e => by cases e⟩
  | k :: ks, w, ws, h, hf, hb, hk => by
    have hk0 := hk k (by simp)
    have hks : ∀ k ∈ ks, k < n ∧ R b k = true := fun x hx => hk x (by simp [hx])
    by_cases h0 : 0 < w k
    · obtain ⟨o, w', ws', he, h1, h2, h3, h4, h5⟩ := scan_ok hF ha ks w ws h hf hb hks
      refine ⟨o, w', ws', by rw [scanR, if_pos h0]; exact he, h1, h2, h3, fun e => ⟨(h4 e).1, fun x hx => ?_⟩, h5⟩
      rcases List.mem_cons.1 hx with rfl | hx
      · exact h3 _ h0
      · exact (h4 e).2 x hx
    · by_cases hh : 0 < holdN has has.length k
      · have hT := h.take hF ha hb hk0.1 hk0.2 h0 hh
        obtain ⟨o, w', ws', he, h1, ⟨ext, h2⟩, h3, h4, h5⟩ := scan_ok hF ha ks _ _ hT (fun k' hw => by
          by_cases e : k' = k
          · subst e; exact hh
          · rw [fset_other e] at hw; exact hf k' hw) (get_app_old hb) hks
        have hmono : ∀ k', 0 < w k' → 0 < w' k' := fun k' hw => h3 k' (by
          by_cases e : k' = k
          · subst e; rw [fset_same]; omega
          · rw [fset_other e]; exact hw)
        refine ⟨o, w', ws', by rw [scanR, if_neg h0, if_pos hh]; exact he, h1, ⟨[holdN has has.length k - 1] ++ ext, by rw [h2]; simp⟩, hmono, fun e => ⟨(h4 e).1, fun x hx => ?_⟩, h5⟩
        rcases List.mem_cons.1 hx with rfl | hx
        · exact h3 _ (by rw [fset_same]; omega)
        · exact (h4 e).2 x hx
      · refine ⟨some k, fset w k (b + 1), ws, by rw [scanR, if_neg h0, if_neg hh], h.free hb hk0.1 hk0.2 h0 hh, ⟨[], by simp⟩, fun k' hw => ?_, fun e => (by cases e), fun k' e => ?_⟩
        · by_cases e : k' = k
          · subst e; rw [fset_same]; omega
          · rw [fset_other e]; exact hw
        · cases e; exact ⟨by rw [fset_same]; omega, by omega⟩
/-- All rows of those who stand ahead of place j have been gone through. -/
def Done (R : Nat → Nat → Bool) (n : Nat) (w : Nat → Nat) (ws : List Nat) (j : Nat) : Prop := ∀ (i b : Nat), i < j → ws[i]? = some b → ∀ k, k < n → R b k = true → 0 < w k
theorem bfs_ok (hn : n ≤ 8) (hF : FitR R m n has) (ha : has.getD a (-1) = -1) : ∀ (f j : Nat) (w : Nat → Nat) (ws : List Nat), j + f = 9 → BI R m n has a w ws → Free has w → Done R n w ws j →
    ∃ (o : Option Nat) (w' : Nat → Nat) (ws' : List Nat), bfsR R n (holdN has has.length) f j w ws = (o, w', ws') ∧ BI R m n has a w' ws' ∧
      (o = none → Free has w' ∧ Done R n w' ws' ws'.length) ∧ (∀ k, o = some k → 0 < w' k ∧ holdN has has.length k = 0)
  | 0, j, w, ws, hj, h, hf, hd => ⟨none, w, ws, rfl, h, fun _ => ⟨hf, fun i b hi hb => by have := h.len; exact hd i b (by omega) hb⟩, fun k e => by cases e⟩
  | f + 1, j, w, ws, hj, h, hf, hd => by
    by_cases hlt : j < ws.length
    · have hb : ws[j]? = some (ws.getD j 0) := by simp [hlt]
      obtain ⟨o, w', ws', he, h1, ⟨ext, h2⟩, h3, h4, h5⟩ := scan_ok hF ha (rowN n (R (ws.getD j 0))) w ws h hf hb (fun k hk => mem_rowN.1 hk)
      cases o with
      | some k => exact ⟨some k, w', ws', by rw [bfsR, if_pos hlt, he], h1, fun e => (by cases e), h5⟩
      | none =>
        have hd' : Done R n w' ws' (j + 1) := by
          intro i b hi hb' k hk hR
          rw [h2] at hb'
          by_cases hij : i = j
          · subst hij
            rw [List.getElem?_append_left hlt, hb] at hb'
            cases hb'
            exact (h4 rfl).2 k (mem_rowN.2 ⟨hk, hR⟩)
          · rw [List.getElem?_append_left (by omega)] at hb'
            exact h3 k (hd i b (by omega) hb' k hk hR)
        obtain ⟨o, w'', ws'', he', h1', h4', h5'⟩ := bfs_ok hn hF ha f (j + 1) w' ws' (by omega) h1 (h4 rfl).1 hd'
        exact ⟨o, w'', ws'', by rw [bfsR, if_pos hlt, he]; exact he', h1', h4', h5'⟩
    · exact ⟨none, w, ws, by rw [bfsR, if_neg hlt], h, fun _ => ⟨hf, fun i b hi hb => hd i b (by omega) hb⟩, fun k e => by cases e⟩

/-- The items go on from one to the next, back to where the search began. -/
theorem aug_ok {has : List Int} {w : Nat → Nat} {ws : List Nat} (hF0 : FitR R m n has) (ha : has.getD a (-1) = -1) (h : BI R m n has a w ws) : ∀ (f : Nat) (k : Nat) (cur : List Int) (j : Nat), j < f → FitR R m n cur → 0 < w k → (∀ i, i < m → cur.getD i (-1) ≠ (k : Int)) →
    ws[j]? = some (w k - 1) → (∀ j' b, j' ≤ j → ws[j']? = some b → cur.getD b (-1) = has.getD b (-1)) →
    FitR R m n (augR w f (k : Int) cur) ∧ ∀ i, i < m → ((augR w f (k : Int) cur).getD i (-1) = -1 ↔ cur.getD i (-1) = -1 ∧ i ≠ a)
  | f + 1, k, cur, j, hj, hF, hw, hno, hpos, hsame => by
    have hne : ¬ ((k : Int) = -1) := by omega
    have hi : w k - 1 < m := h.bnd _ (List.mem_iff_getElem?.2 ⟨j, hpos⟩)
    obtain ⟨hkn, hmem, hRk⟩ := h.byok k hw
    rw [augR, if_neg hne]
    simp only [Int.toNat_natCast]
    obtain ⟨i, hie⟩ : ∃ i, i = w k - 1 := ⟨_, rfl⟩
    rw [← hie] at hi hmem hRk hpos ⊢
    have hil : i < cur.length := by rw [hF.len]; exact hi
    have hF' : FitR R m n (cur.set i (k : Int)) := by
      refine ⟨by rw [List.length_set]; exact hF.len, fun x hx => ?_, fun x y hx hy hxy hx1 => ?_⟩
      · rw [getD_setI _ _ _ _ hil]
        by_cases e : x = i
        · subst e; rw [if_pos rfl]; exact .inr ⟨k, hkn, rfl, hRk⟩
        · rw [if_neg e]; exact hF.ok x hx
      · rw [getD_setI _ _ _ _ hil, getD_setI _ _ _ _ hil] at hxy
        rw [getD_setI _ _ _ _ hil] at hx1
        by_cases e : x = i <;> by_cases e2 : y = i
        · omega
        · rw [if_pos e, if_neg e2] at hxy
          exact absurd hxy.symm (hno y hy)
        · rw [if_neg e, if_pos e2] at hxy
          exact absurd hxy (hno x hx)
        · rw [if_neg e, if_neg e2] at hxy
          rw [if_neg e] at hx1
          exact hF.inj x y hx hy hxy hx1
    have hcur : cur.getD i (-1) = has.getD i (-1) := hsame j i (Nat.le_refl _) hpos
    by_cases hj0 : j = 0
    · subst hj0
      have hia : i = a := by rw [h.head] at hpos; cases hpos; rfl
      have hold : cur.getD i (-1) = -1 := by rw [hcur, hia]; exact ha
      rw [hold]
      have hstop : ∀ f l, augR w f (-1) l = l := fun f l => by cases f <;> simp [augR]
      rw [hstop]
      refine ⟨hF', fun x hx => ?_⟩
      rw [getD_setI _ _ _ _ hil]
      by_cases e : x = i
      · rw [if_pos e]
        constructor
        · intro hh; omega
        · rintro ⟨_, hh⟩; exact absurd (e.trans hia) hh
      · rw [if_neg e]
        constructor
        · intro hh; exact ⟨hh, fun e2 => e (e2.trans hia.symm)⟩
        · exact fun hh => hh.1
    · obtain ⟨k', j', hk', hv, hw', hlt, hj'⟩ := h.came j i hpos (by omega)
      rw [hcur, hv]
      have hino : ∀ x, x < m → (cur.set i (k : Int)).getD x (-1) ≠ (k' : Int) := by
        intro x hx hh
        rw [getD_setI _ _ _ _ hil] at hh
        by_cases e : x = i
        · rw [if_pos e] at hh
          have : cur.getD i (-1) = (k : Int) := by rw [hcur, hv, hh]
          exact hno i hi this
        · rw [if_neg e] at hh
          exact e (hF.inj x i hx hi (by rw [hh, hcur, hv]) (by rw [hh]; omega))
      have hs' : ∀ j'' b, j'' ≤ j' → ws[j'']? = some b → (cur.set i (k : Int)).getD b (-1) = has.getD b (-1) := by
        intro j'' b hle hb
        have hbi : b ≠ i := fun e => by
          subst e
          have := h.nodup j'' j b hb hpos
          omega
        rw [getD_setI _ _ _ _ hil, if_neg hbi]
        exact hsame j'' b (by omega) hb
      obtain ⟨r1, r2⟩ := aug_ok hF0 ha h f k' (cur.set i (k : Int)) j' (by omega) hF' hw' hino hj' hs'
      refine ⟨r1, fun x hx => ?_⟩
      rw [r2 x hx, getD_setI _ _ _ _ hil]
      by_cases e : x = i
      · rw [if_pos e]
        constructor
        · rintro ⟨hh, _⟩; omega
        · rintro ⟨hh, _⟩; rw [e, hcur, hv] at hh; omega
      · rw [if_neg e]

theorem more_some (hn : n ≤ 8) (hF : FitR R m n has) (ham : a < m) (ha : has.getD a (-1) = -1) {out : List Int} (he : moreR R n has a = some out) :
    FitR R m n out ∧ ∀ i, i < m → (out.getD i (-1) = -1 ↔ has.getD i (-1) = -1 ∧ i ≠ a) := by
  obtain ⟨o, w', ws', hb, h1, h4, h5⟩ := bfs_ok hn hF ha 9 0 (fun _ => 0) [a] (by omega) (BI.start ham) (fun k (h : 0 < 0) => by omega) (fun i b hi => by omega)
  unfold moreR at he
  rw [hb] at he
  cases o with
  | none => cases he
  | some k =>
    cases he
    obtain ⟨hw, hh⟩ := h5 k rfl
    obtain ⟨_, hmem, _⟩ := h1.byok k hw
    obtain ⟨j, hj⟩ := idx_of hmem
    have hjl := (List.getElem?_eq_some_iff.1 hj).1
    have := h1.len
    exact aug_ok hF ha h1 9 k has j (by omega) hF hw (fun i hi => holdN_zero hh i (by rw [hF.len]; exact hi)) hj (fun _ _ _ _ => rfl)
theorem more_none (hn : n ≤ 8) (hF : FitR R m n has) (ham : a < m) (ha : has.getD a (-1) = -1) (he : moreR R n has a = none) :
    ∃ T : Nat → Bool, T a = true ∧ (∀ i, T i = true → i < m) ∧ (∀ i, T i = true → i ≠ a → has.getD i (-1) ≠ -1) ∧ ∀ i k, T i = true → k < n → R i k = true → ∃ j, T j = true ∧ j ≠ a ∧ has.getD j (-1) = (k : Int) := by
  obtain ⟨o, w', ws', hb, h1, h4, h5⟩ := bfs_ok hn hF ha 9 0 (fun _ => 0) [a] (by omega) (BI.start ham) (fun k (h : 0 < 0) => by omega) (fun i b hi => by omega)
  unfold moreR at he
  rw [hb] at he
  cases o with
  | some k => cases he
  | none =>
    obtain ⟨hf, hd⟩ := h4 rfl
    refine ⟨fun i => decide (i ∈ ws'), ?_, ?_, ?_, ?_⟩
    · simp; exact List.mem_iff_getElem?.2 ⟨0, h1.head⟩
    · intro i hi; simp at hi; exact h1.bnd i hi
    · intro i hi hia
      simp at hi
      obtain ⟨j, hj⟩ := idx_of hi
      by_cases hj0 : j = 0
      · subst hj0; rw [h1.head] at hj; cases hj; exact absurd rfl hia
      · obtain ⟨k', _, _, hv, _⟩ := h1.came j i hj (by omega)
        rw [hv]; omega
    · intro i k hi hk hR
      simp at hi
      obtain ⟨j, hj⟩ := idx_of hi
      have hw := hd j i (List.getElem?_eq_some_iff.1 hj).1 hj k hk hR
      have hh := hf k hw
      have hp := holdN_pos hh
      refine ⟨holdN has has.length k - 1, by simpa using h1.held k hw hh, fun e => ?_, hp.2⟩
      rw [e, ha] at hp
      have := hp.2
      omega
end search
end Go.Proofs.YtifbgpkjbciblaaGreatDoor.Sal
