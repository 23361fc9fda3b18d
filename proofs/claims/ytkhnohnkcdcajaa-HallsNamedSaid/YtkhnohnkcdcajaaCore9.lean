/- Core9: rows built by append, copies of one's own, parameters in boxes. -/
import Derived.Test.YtkhnohnkcdcajaaCore8
namespace Go.Proofs.Ytkhnohnkcdcajaa.Sal
set_option linter.all false
open Go.RowKit

section ops
variable {r : Option Nat} {P : Program} {ops : Array Oper} {Q : Exit → Act → World → Prop} {N : Nat} {σ : Nat → Value} {ds : List Deferred} {w : World} {rest : List Oper}
variable {d d1 d2 : Nat} {ty ty2 : TypeId} {pos pos2 : String} {after after2 : Array Edge} {T E T' : TypeId} {x i y : Operand}
theorem s_mk0 {ti : TypeInfo} {z : Value} {n : Nat} (hT : SlT P T E) (hi : P.info? E = some ti) (hz : ti.zero = some z) (hs : ti.size = 1) (hzc : z.cells = #[z]) (hb : ti.bytes ≤ 64) (h0 : ev N σ x = .int .i64 0) (hx : ev N σ y = .int .i64 (n : Int)) (hn : n ≤ 1000000)
    (h : ∀ b w', b = w.heap.size → Rw w' E (.slice (some ⟨b, 0, none⟩) 0 n) [] → Ex w w' → w'.heap.size = b + 1 → WL r P ops Q rest (mk N (upd σ d (.slice (some ⟨b, 0, none⟩) 0 n)) ds) w') :
    WL r P ops Q (⟨some d, .makeSlice T x y, ty, pos, after, none⟩ :: rest) (mk N σ ds) w := by
  have hbytes : (ti.bytes : Int) * (n : Int) ≤ 281474976710656 := by
    have h1 : ti.bytes * n ≤ 64 * 1000000 := Nat.mul_le_mul hb hn
    have h2 : ((ti.bytes * n : Nat) : Int) ≤ 64000000 := by omega
    rw [Int.natCast_mul] at h2; omega
  have hr := run_make (P := P) w T E ti z hT hi hz .i64 .i64 0 n (by omega) (by omega) hbytes (by omega)
  have hm : madeCells z.cells ((n : Int).toNat * ti.size) = (List.replicate n z).toArray := by
    rw [hs, hzc]; simp [madeCells]
    apply Array.ext
    · simp
    · intro j h1 h2; simp [Nat.mod_one]
  rw [hm] at hr
  simp only [Int.toNat_natCast] at hr
  have hA := at_new w (List.replicate n z) E
  have hR := hA.rw (n := 0) (c := n) (by simp) (Nat.zero_le _) (by omega)
  refine l_val (w' := w.alloc (.cells (List.replicate n z).toArray E)) (by intro c e; cases e) ?_ (h _ _ rfl (by simpa using hR) (Ex.alloc w _) (size_new w _))
  simp [execOp, h0, hx, hr]
/-- A load of what lies in a block, told of in an older world. -/
theorem s_ldO {w0 : World} {b n : Nat} {B : TypeId} {cs : List Value} {u : Value} (hE : Ty1 P E) (hA : At w0 b B cs) (hw : Ex w0 w) (hx : ev N σ x = .pointer (some ⟨b, n, none⟩)) (hc : cs[n]? = some u) (h : WL r P ops Q rest (mk N (upd σ d u) ds) w) :
    WL r P ops Q (⟨some d, .load E x, ty, pos, after, none⟩ :: rest) (mk N σ ds) w := s_ldA hE hx (hA.ex hw) hc h
/-- A load of a whole struct that lies in a block, told of in an older world. -/
theorem s_ldVO {w0 : World} {b : Nat} {B : TypeId} {cs : List Value} {dd : TypeDesc} (hu : P.underlying E = some dd) (hd : (match dd with | .struct _ | .array _ _ => true | _ => false) = true) (hi : (P.info? E).map (·.size) = some cs.length) (hA : At w0 b B cs) (hw : Ex w0 w)
    (hx : ev N σ x = .pointer (some ⟨b, 0, none⟩)) (h : WL r P ops Q rest (mk N (upd σ d (.agg cs.toArray)) ds) w) :
    WL r P ops Q (⟨some d, .load E x, ty, pos, after, none⟩ :: rest) (mk N σ ds) w := s_ldV hu hd hi hx (hA.ex hw) h
theorem s_max {a c : Int} {k : IntKind} {ats : Array TypeId} (hx : ev N σ x = .int k a) (hy : ev N σ y = .int k c) (h : WL r P ops Q rest (mk N (upd σ d (.int k (if a < c then c else a))) ds) w) :
    WL r P ops Q (⟨some d, .call { callee := .builtin .max, args := #[x, y], argTypes := ats }, ty, pos, after, none⟩ :: rest) (mk N σ ds) w :=
  l_val (by intro c e; cases e) (by simp [execOp, resolve, invoke, builtin, hx, hy, Go.run_max_int2]) h
theorem s_min {a c : Int} {k : IntKind} {ats : Array TypeId} (hx : ev N σ x = .int k a) (hy : ev N σ y = .int k c) (h : WL r P ops Q rest (mk N (upd σ d (.int k (if c < a then c else a))) ds) w) :
    WL r P ops Q (⟨some d, .call { callee := .builtin .min, args := #[x, y], argTypes := ats }, ty, pos, after, none⟩ :: rest) (mk N σ ds) w :=
  l_val (by intro c e; cases e) (by simp [execOp, resolve, invoke, builtin, hx, hy, Go.run_min_int2]) h
theorem s_iaI {v : Value} {l : List Int} {k : IntKind} {n : Nat} (hT : SlT P T E) (hE : Ty1 P E) (hx : ev N σ x = v) (hi : ev N σ i = .int k (n : Int)) (hs : Ints w v l) (hn : n < l.length)
    (h : ∀ ad, w.cell? ad = some (.int .i64 (l.getD n 0)) → WL r P ops Q rest (mk N (upd σ d (.pointer (some ad))) ds) w) : WL r P ops Q (⟨some d, .indexAddr T x i, ty, pos, after, none⟩ :: rest) (mk N σ ds) w :=
  s_ia hT hE hx hi hs (by simp [hn]) h
theorem s_iaR {w0 : World} {v : Value} {g : List (List Int)} {k : IntKind} {n : Nat} (hT : SlT P T E) (hE : Ty1 P E) (hs : Rows w0 v g) (hw : Ex w0 w) (hx : ev N σ x = v) (hi : ev N σ i = .int k (n : Int)) (hn : n < g.length)
    (h : ∀ ad u, w.cell? ad = some u → Ints w u (g.getD n []) → WL r P ops Q rest (mk N (upd σ d (.pointer (some ad))) ds) w) : WL r P ops Q (⟨some d, .indexAddr T x i, ty, pos, after, none⟩ :: rest) (mk N σ ds) w := by
  obtain ⟨vs, u, hs', hu, hI⟩ := hs.row hn
  exact s_ia hT hE hx hi (hs'.ex hw) hu fun ad hc => h ad u hc (hI.ex hw)
end ops

/-- Where ways meet again: what is known of the slots that were written, and of the world. -/
def JoinEnd {γ : Type} (N : Nat) (ds : List Deferred) (M : Nat) (σ : Nat → Value) (vals : γ → List (Nat × Value)) (Inv : γ → World → Prop) (a' : Act) (w' : World) : Prop :=
  ∃ x' σ', a' = mk N σ' ds ∧ Agree M σ' σ ∧ Has σ' (vals x') ∧ Inv x' w'
theorem join_end {γ : Type} {N : Nat} {ds : List Deferred} {M : Nat} {σ σ' : Nat → Value} {vals : γ → List (Nat × Value)} {Inv : γ → World → Prop} {w' : World} (x' : γ)
    (ha : Agree M σ' σ) (hv : Has σ' (vals x')) (hi : Inv x' w') : JoinEnd N ds M σ vals Inv (mk N σ' ds) w' := ⟨x', σ', rfl, ha, hv, hi⟩
theorem c_join {r : Option Nat} {P : Program} {Q : Exit → Act → World → Prop} {w : World} {γ : Type} (M : Nat) (vals : γ → List (Nat × Value)) (Inv : γ → World → Prop) {N : Nat} {σ : Nat → Value} {ds : List Deferred} {x y : Code}
    (h1 : CW r P x (Exit.then (JoinEnd N ds M σ vals Inv) Q) (mk N σ ds) w)
    (h2 : ∀ (g : γ) (ρ : Nat → Value) (w' : World), Inv g w' → CW r P y Q (mk N (ext (vals g) (mask M ρ σ)) ds) w') : CW r P (.seq x y) Q (mk N σ ds) w := by
  refine c_seq (c_mono h1 fun e a w' h => ?_)
  cases e with
  | normal =>
    obtain ⟨g, σ', rfl, hag, hhas, hI⟩ := h
    have := h2 g σ' w' hI
    rw [mask_self hag, ext_has hhas] at this
    exact this
  | _ => exact h

theorem c_joinK {r : Option Nat} {P : Program} {Q : Exit → Act → World → Prop} {w : World} {γ : Type} (M : Nat) (vals : γ → List (Nat × Value)) (Inv : γ → World → Prop) {N : Nat} {σ : Nat → Value} {ds : List Deferred} {x : Code}
    (h1 : CW r P x (Exit.then (JoinEnd N ds M σ vals Inv) Q) (mk N σ ds) w)
    (h2 : ∀ (g : γ) (ρ : Nat → Value) (w' : World), Inv g w' → Q .normal (mk N (ext (vals g) (mask M ρ σ)) ds) w') : CW r P x Q (mk N σ ds) w := by
  refine c_mono h1 fun e a w' h => ?_
  cases e with
  | normal =>
    obtain ⟨g, σ', rfl, hag, hhas, hI⟩ := h
    have := h2 g σ' w' hI
    rw [mask_self hag, ext_has hhas] at this
    exact this
  | _ => exact h

theorem l_mono {r : Option Nat} {P : Program} {ops : Array Oper} {Q Q' : Exit → Act → World → Prop} (hq : ∀ e a w, Q e a w → Q' e a w) : ∀ (l : List Oper) (a : Act) (w : World), WL r P ops Q l a w → WL r P ops Q' l a w
  | [], a, w, h => hq _ _ _ h
  | o :: rest, a, w, h => by
    have ih := l_mono (r := r) (P := P) (ops := ops) hq rest
    have h' : wpListIn (FW r) 0 P ops Q (o :: rest) a w := h
    show wpListIn (FW r) 0 P ops Q' (o :: rest) a w
    unfold wpListIn at h' ⊢
    split
    · rename_i hw
      simp only [hw, if_true] at h'
      have h1 := Oper.wpIn_mono (fun a w hh => ih a w hh) h'
      unfold Oper.wpIn at *
      refine ⟨h1.1, ?_⟩
      have h2 := h1.2
      generalize (o.semAt (FW r).round a.eval).run P w = res at *
      cases res with
      | ok x w' =>
        cases x <;> simp only [Oper.uponIn] at h2 ⊢ <;> first
          | exact h2
          | exact ⟨h2.1, CallsIn.mono h2.2 (fun e w'' he => by cases e <;> first | exact he | exact hq _ _ _ he | exact (let ⟨a, w, hh⟩ := he; ⟨a, w, hq _ _ _ hh⟩))⟩
          | exact ⟨h2.1, RoundIn.mono h2.2 (fun e w'' he => by cases e <;> first | exact he | exact hq _ _ _ he | exact (let ⟨a, w, hh⟩ := he; ⟨a, w, hq _ _ _ hh⟩))⟩
      | halt x w' => cases x <;> simp only [Oper.uponIn] at h2 ⊢ <;> first | exact h2 | exact hq _ _ _ h2
    · rename_i hw; simp only [hw] at h'; exact ⟨h'.1, ih _ _ h'.2⟩
theorem l_join {r : Option Nat} {P : Program} {ops : Array Oper} {Q : Exit → Act → World → Prop} {w : World} {γ : Type} (M : Nat) (vals : γ → List (Nat × Value)) (Inv : γ → World → Prop) {N : Nat} {σ : Nat → Value} {ds : List Deferred} {l : List Oper}
    (h1 : WL r P ops (Exit.then (JoinEnd N ds M σ vals Inv) Q) l (mk N σ ds) w)
    (h2 : ∀ (g : γ) (ρ : Nat → Value) (w' : World), Inv g w' → Q .normal (mk N (ext (vals g) (mask M ρ σ)) ds) w') : WL r P ops Q l (mk N σ ds) w := by
  refine l_mono (fun e a w' h => ?_) l _ _ h1
  cases e with
  | normal =>
    obtain ⟨g, σ', rfl, hag, hhas, hI⟩ := h
    have := h2 g σ' w' hI
    rw [mask_self hag, ext_has hhas] at this
    exact this
  | _ => exact h

section draws
variable {r : Option Nat} {P : Program} {ops : Array Oper} {Q : Exit → Act → World → Prop} {N : Nat} {σ : Nat → Value} {ds : List Deferred} {w : World} {J : World → Prop} {z i d : Nat} {gd : Option (Nat × Bool)} {π : List (Nat × Bool)} {ty : TypeId} {pos : String} {after : Array Edge} {x y : Operand}
theorem d_max {a c : Int} {k : IntKind} {ats : Array TypeId} (hi : ops[i]? = some ⟨some d, .call { callee := .builtin .max, args := #[x, y], argTypes := ats }, ty, pos, after, gd⟩) (hx : ev N σ x = .int k a) (hy : ev N σ y = .int k c) (h : WJ r P ops J z Q π (mk N (upd σ d (.int k (if a < c then c else a))) ds) w)
    (hgd : GOK ops (ev N σ) gd := by first | exact trivial | exact ⟨_, rfl, rfl⟩) : WJ r P ops J z Q ((i, true) :: π) (mk N σ ds) w :=
  d_val hi (fun w' _ => by simp [execOp, resolve, invoke, builtin, hx, hy, Go.run_max_int2]) h hgd
theorem d_min {a c : Int} {k : IntKind} {ats : Array TypeId} (hi : ops[i]? = some ⟨some d, .call { callee := .builtin .min, args := #[x, y], argTypes := ats }, ty, pos, after, gd⟩) (hx : ev N σ x = .int k a) (hy : ev N σ y = .int k c) (h : WJ r P ops J z Q π (mk N (upd σ d (.int k (if c < a then c else a))) ds) w)
    (hgd : GOK ops (ev N σ) gd := by first | exact trivial | exact ⟨_, rfl, rfl⟩) : WJ r P ops J z Q ((i, true) :: π) (mk N σ ds) w :=
  d_val hi (fun w' _ => by simp [execOp, resolve, invoke, builtin, hx, hy, Go.run_min_int2]) h hgd
theorem d_leqT {k : IntKind} {a b : Int} {t t' : TypeId} (hi : ops[i]? = some ⟨some d, .binOp .leq t x y t', ty, pos, after, gd⟩) (hx : ev N σ x = .int k a) (hy : ev N σ y = .int k b) (hh : a ≤ b) (h : WJ r P ops J z Q π (mk N (upd σ d (.bool true)) ds) w)
    (hgd : GOK ops (ev N σ) gd := by first | exact trivial | exact ⟨_, rfl, rfl⟩) : WJ r P ops J z Q ((i, true) :: π) (mk N σ ds) w :=
  d_leq hi hx hy (d_re (vbool (decide_eq_true hh)) h) hgd
theorem d_geqT {k : IntKind} {a b : Int} {t t' : TypeId} (hi : ops[i]? = some ⟨some d, .binOp .geq t x y t', ty, pos, after, gd⟩) (hx : ev N σ x = .int k a) (hy : ev N σ y = .int k b) (hh : b ≤ a) (h : WJ r P ops J z Q π (mk N (upd σ d (.bool true)) ds) w)
    (hgd : GOK ops (ev N σ) gd := by first | exact trivial | exact ⟨_, rfl, rfl⟩) : WJ r P ops J z Q ((i, true) :: π) (mk N σ ds) w :=
  d_geq hi hx hy (d_re (vbool (decide_eq_true hh)) h) hgd
theorem d_eqlT {k : IntKind} {a b : Int} {t t' : TypeId} (hi : ops[i]? = some ⟨some d, .binOp .eql t x y t', ty, pos, after, gd⟩) (hx : ev N σ x = .int k a) (hy : ev N σ y = .int k b) (hh : a = b) (h : WJ r P ops J z Q π (mk N (upd σ d (.bool true)) ds) w)
    (hgd : GOK ops (ev N σ) gd := by first | exact trivial | exact ⟨_, rfl, rfl⟩) : WJ r P ops J z Q ((i, true) :: π) (mk N σ ds) w :=
  d_eql hi hx hy (d_re (vbool (decide_eq_true hh)) h) hgd
theorem d_lssT {k : IntKind} {a b : Int} {t t' : TypeId} (hi : ops[i]? = some ⟨some d, .binOp .lss t x y t', ty, pos, after, gd⟩) (hx : ev N σ x = .int k a) (hy : ev N σ y = .int k b) (hh : a < b) (h : WJ r P ops J z Q π (mk N (upd σ d (.bool true)) ds) w)
    (hgd : GOK ops (ev N σ) gd := by first | exact trivial | exact ⟨_, rfl, rfl⟩) : WJ r P ops J z Q ((i, true) :: π) (mk N σ ds) w :=
  d_lss hi hx hy (d_re (vbool (decide_eq_true hh)) h) hgd
theorem d_gtrT {k : IntKind} {a b : Int} {t t' : TypeId} (hi : ops[i]? = some ⟨some d, .binOp .gtr t x y t', ty, pos, after, gd⟩) (hx : ev N σ x = .int k a) (hy : ev N σ y = .int k b) (hh : b < a) (h : WJ r P ops J z Q π (mk N (upd σ d (.bool true)) ds) w)
    (hgd : GOK ops (ev N σ) gd := by first | exact trivial | exact ⟨_, rfl, rfl⟩) : WJ r P ops J z Q ((i, true) :: π) (mk N σ ds) w :=
  d_gtr hi hx hy (d_re (vbool (decide_eq_true hh)) h) hgd
end draws

theorem Sl.kept {w w' : World} {v : Value} {vs : List Value} {o : Option Nat} (h : Sl w v vs) (hg : w.grownBy w' o) (hne : vs = [] ∨ v.ownBlock ≠ o) : Sl w' v vs := by
  obtain ⟨hm, a, n, c, rfl, hn, hnc, hc⟩ := h
  refine ⟨hm, a, n, c, rfl, hn, hnc, fun i u hi => ?_⟩
  obtain ⟨ad, rfl, hcell⟩ := hc i u hi
  have hne' : some ad.block ≠ o := by
    rcases hne with rfl | h
    · simp at hi
    · exact h
  refine ⟨ad, rfl, ?_⟩
  have hb : (ad.add i).block = ad.block := by unfold Addr.add; split <;> rfl
  have hlt := block_lt_of_cell hcell
  have := hg.block (ad.add i).block hlt (by rw [hb]; exact hne')
  unfold World.cell? at hcell ⊢
  rw [this]; exact hcell
theorem Ints.kept {w w' : World} {v : Value} {l : List Int} {o : Option Nat} (h : Ints w v l) (hg : w.grownBy w' o) (hne : l = [] ∨ v.ownBlock ≠ o) : Ints w' v l := Sl.kept h hg (hne.imp (by rintro rfl; rfl) id)
theorem Sl.block {w : World} {v : Value} {vs : List Value} (h : Sl w v vs) : vs = [] ∨ ∃ b, v.ownBlock = some b ∧ b < w.heap.size := by
  obtain ⟨_, a, n, c, rfl, hn, hnc, hc⟩ := h
  cases vs with
  | nil => exact .inl rfl
  | cons u vs =>
    obtain ⟨ad, rfl, hcell⟩ := hc 0 u rfl
    exact .inr ⟨ad.block, rfl, block_lt_of_cell hcell⟩
theorem Ints.block {w : World} {v : Value} {l : List Int} (h : Ints w v l) : l = [] ∨ ∃ b, v.ownBlock = some b ∧ b < w.heap.size := by
  rcases Sl.block h with h | h
  · exact .inl (by simpa using h)
  · exact .inr h

theorem Rows.rowlen {w : World} {v : Value} {g : List (List Int)} (h : Rows w v g) (i : Nat) : (g.getD i []).length ≤ 140737488355328 := by
  by_cases hi : i < g.length
  · obtain ⟨vs, u, _, _, hI⟩ := h.row hi
    exact hI.len
  · simp [hi]
/-- Rows that are being put together by append; E the type of a row. -/
def Bld (w : World) (E : TypeId) (v : Value) (g : List (List Int)) : Prop :=
  ∃ vs, Rw w E v vs ∧ vs.length = g.length ∧ (∀ u ∈ vs, u.oneCell' = true) ∧ ∀ (i : Nat) (u : Value) (l : List Int), vs[i]? = some u → g[i]? = some l → Ints w u l ∧ (l = [] ∨ u.ownBlock ≠ v.ownBlock)
theorem Bld.nil (w : World) (E : TypeId) : Bld w E (.slice none 0 0) [] := ⟨[], Rw.nil w E, rfl, by simp, fun i u l h => by simp at h⟩
theorem Bld.of_empty {w : World} {E : TypeId} {v : Value} (h : Rw w E v []) : Bld w E v [] := ⟨[], h, rfl, by simp, fun i u l h => by simp at h⟩
theorem Bld.ex {w w' : World} {E : TypeId} {v : Value} {g : List (List Int)} (h : Bld w E v g) (hx : Ex w w') : Bld w' E v g := by
  obtain ⟨vs, h1, h2, h3, h4⟩ := h
  exact ⟨vs, h1.ex hx, h2, h3, fun i u l hu hl => ⟨(h4 i u l hu hl).1.ex hx, (h4 i u l hu hl).2⟩⟩
theorem Bld.lt {w : World} {E : TypeId} {v : Value} {g : List (List Int)} (h : Bld w E v g) : ∀ k, v.ownBlock = some k → k < w.heap.size := by
  obtain ⟨vs, h1, _⟩ := h; exact h1.lt
theorem Bld.rows {w : World} {E : TypeId} {v : Value} {g : List (List Int)} (h : Bld w E v g) (hm : g.length ≤ 140737488355328) : Rows w v g := by
  obtain ⟨vs, h1, h2, h3, h4⟩ := h
  exact ⟨vs, h1.sl (by omega), h2, fun i u l hu hl => (h4 i u l hu hl).1⟩
theorem Ints.one {w : World} {v : Value} {l : List Int} (h : Ints w v l) : v.oneCell' = true := by
  obtain ⟨a, c, rfl⟩ := h.form; rfl
section ops2
variable {r : Option Nat} {P : Program} {ops : Array Oper} {Q : Exit → Act → World → Prop} {N : Nat} {σ : Nat → Value} {ds : List Deferred} {w : World} {rest : List Oper}
variable {d d1 d2 : Nat} {ty ty2 : TypeId} {pos pos2 : String} {after after2 : Array Edge} {T E T' : TypeId} {x i y : Operand}
/-- One row more: the literal and the append. -/
theorem s_bld {w0 : World} {z v u : Value} {g : List (List Int)} {l : List Int} (hT : SlT P T E) (hi : InfoOf P E z) (hd : Nat.blt d1 N = true) (hB : Bld w E v g) (hI : Ints w u l) (hne : l = [] ∨ u.ownBlock ≠ v.ownBlock) (hv : ev N σ x = v) (hu : ev N σ y = u) (hv2 : ev N (upd σ d1 undef) x = v) (hlen : g.length ≤ 100000)
    (hw : Ex w0 w) (hown : ∀ b, v.ownBlock = some b → w0.heap.size ≤ b)
    (h : ∀ v' w' sl, Bld w' E v' (g ++ [l]) → w.grownBy w' v.ownBlock → Ex w0 w' → (∀ b, v'.ownBlock = some b → w0.heap.size ≤ b) → (v'.ownBlock = v.ownBlock ∨ ∀ b, v'.ownBlock = some b → w.heap.size ≤ b) → WL r P ops Q rest (mk N (upd (upd σ d1 sl) d2 v') ds) w') :
    WL r P ops Q (⟨some d1, .buildSlice T 1 #[(0, y)], ty, pos, after, none⟩ :: ⟨some d2, .call { callee := .builtin .append, args := #[x, .tmp d1], argTypes := #[T, T] }, ty2, pos2, after2, none⟩ :: rest) (mk N σ ds) w := by
  refine s_bs1 hT hi hu hI.one ?_
  intro b1 w1 hb1 hA hx1 hs1
  have hB1 := hB.ex hx1
  obtain ⟨vs, h1, h2, h3, h4⟩ := hB1
  have hS : Sl w1 (.slice (some ⟨b1, 0, none⟩) 1 1) [u] := hA.sl (Nat.le_refl _) (by simp) (by simp)
  have hxe : ∀ s, ev N (upd σ d1 s) x = v := by
    intro s
    cases x with
    | tmp t =>
      by_cases ht : t = d1
      · subst ht
        rw [tmp_upd hd] at hv2
        -- the row would be undef
        exfalso
        have := h1.slen
        obtain ⟨a, c, rfl⟩ := this
        simp [undef] at hv2
      · simp only [ev] at hv ⊢
        rw [upd_other ht]; exact hv
    | _ => exact hv
  refine s_app (news := [u]) hT hi h1 hS (hxe _) (tmp_upd hd) (by intro q hq; simp at hq; subst hq; exact hI.one) (by simp; omega) ?_
  intro v' w' hv' hg hown'
  have hgg : w.grownBy w' v.ownBlock := ⟨hg.os.trans hx1.os, hg.tape.trans hx1.tape, hg.output.trans hx1.output, Nat.le_trans hx1.size hg.size, fun k hk hne => (hg.block k (Nat.lt_of_lt_of_le hk hx1.size) hne).trans (hx1.block k hk)⟩
  have hfr : v'.ownBlock = v.ownBlock ∨ ∀ b, v'.ownBlock = some b → w1.heap.size ≤ b := hown'
  refine h v' w' _ ?_ hgg (hw.storeo hgg hown) ?_ ?_
  · refine ⟨vs ++ [u], hv', by simp [h2], ?_, ?_⟩
    · intro q hq; simp at hq; rcases hq with hq | hq
      · exact h3 q hq
      · subst hq; exact hI.one
    · have key : ∀ (u' : Value) (l' : List Int), Ints w1 u' l' → (l' = [] ∨ u'.ownBlock ≠ v.ownBlock) → Ints w' u' l' ∧ (l' = [] ∨ u'.ownBlock ≠ v'.ownBlock) := by
        intro u' l' hI' hne'
        refine ⟨hI'.kept hg hne', ?_⟩
        rcases hfr with he | hf
        · rw [he]; exact hne'
        · rcases hI'.block with h0 | ⟨b, hb, hlt⟩
          · exact .inl h0
          · refine .inr (fun e => ?_)
            have := hf b (e ▸ hb); omega
      intro i q l' hq hl'
      rw [List.getElem?_append] at hq hl'
      rw [← h2] at hl'
      by_cases hi' : i < vs.length
      · rw [if_pos hi'] at hq hl'
        exact key q l' (h4 i q l' hq hl').1 (h4 i q l' hq hl').2
      · rw [if_neg hi'] at hq hl'
        have h0 : i - vs.length = 0 := by
          have := (List.getElem?_eq_some_iff.1 hq).1; simp at this; omega
        rw [h0] at hq hl'
        simp at hq hl'
        subst hq; subst hl'
        exact key u l (hI.ex hx1) hne
  · intro b hb
    rcases hfr with he | hf
    · exact hown b (he ▸ hb)
    · have := hf b hb; have := hw.size; have := hx1.size; omega
  · rcases hfr with he | hf
    · exact .inl he
    · exact .inr fun b hb => by have := hf b hb; have := hx1.size; omega
end ops2

/-! ### Copies of one's own -/
abbrev sv (b n c : Nat) : Value := .slice (some ⟨b, 0, none⟩) n c
/-- A list of numbers in a block of its own. -/
def OwnI (w : World) (E : TypeId) (b c : Nat) (l : List Int) : Prop := ∃ sp, At w b E (l.map (Value.int .i64) ++ sp) ∧ l.length ≤ c ∧ l.length ≤ 100000
theorem OwnI.ints {w : World} {E : TypeId} {b c : Nat} {l : List Int} (h : OwnI w E b c l) : Ints w (sv b l.length c) l := by
  obtain ⟨sp, hA, hc, hm⟩ := h
  have := hA.sl (n := l.length) (c := c) (by simp) (by omega) hc
  rwa [List.take_left' (by simp)] at this
theorem OwnI.ex {w w' : World} {E : TypeId} {b c : Nat} {l : List Int} (h : OwnI w E b c l) (hx : Ex w w') : OwnI w' E b c l := by
  obtain ⟨sp, hA, hc⟩ := h; exact ⟨sp, hA.ex hx, hc⟩
theorem OwnI.grown {w w' : World} {E : TypeId} {b c : Nat} {l : List Int} {o : Option Nat} (h : OwnI w E b c l) (hg : w.grownBy w' o) (hne : o ≠ some b) : OwnI w' E b c l := by
  obtain ⟨sp, hA, hc⟩ := h; exact ⟨sp, hA.grown hg hne, hc⟩
theorem OwnI.lt {w : World} {E : TypeId} {b c : Nat} {l : List Int} (h : OwnI w E b c l) : b < w.heap.size := by
  obtain ⟨sp, hA, hc⟩ := h; exact hA.lt
section ops3
variable {r : Option Nat} {P : Program} {ops : Array Oper} {Q : Exit → Act → World → Prop} {N : Nat} {σ : Nat → Value} {ds : List Deferred} {w : World} {rest : List Oper}
variable {d d1 d2 : Nat} {ty ty2 : TypeId} {pos pos2 : String} {after after2 : Array Edge} {T E T' : TypeId} {x i y : Operand}
theorem s_stO {b n c : Nat} {B : TypeId} {l : List Int} {q : Int} (hE : Ty1 P E) (hx : ev N σ x = .pointer (some ⟨b, n, none⟩)) (hy : ev N σ y = .int .i64 q) (hO : OwnI w B b c l) (hn : n < l.length)
    (h : ∀ w', OwnI w' B b c (l.set n q) → w.grownBy w' (some b) → WL r P ops Q rest (mk N σ ds) w') :
    WL r P ops Q (⟨none, .store E x y, ty, pos, after, none⟩ :: rest) (mk N σ ds) w := by
  obtain ⟨sp, hA, hc, hm⟩ := hO
  refine s_stA hE hx hy rfl hA (by simp; omega) ?_
  intro w' hA' hg
  refine h w' ⟨sp, ?_, by simpa using hc, by simpa using hm⟩ hg
  rw [List.set_append_left _ _ (by simpa using hn), ← List.map_set] at hA'
  exact hA'
end ops3
/-- Lists of numbers, each and all in blocks of their own. -/
def Mat (w : World) (T E : TypeId) (b c : Nat) (rb rc : Nat → Nat) (g : List (List Int)) : Prop :=
  (∃ sp, At w b T ((List.range g.length).map (fun i => sv (rb i) (g.getD i []).length (rc i)) ++ sp)) ∧ g.length ≤ c ∧ g.length ≤ 100000 ∧ (∀ i, i < g.length → OwnI w E (rb i) (rc i) (g.getD i []) ∧ rb i ≠ b) ∧ ∀ i j, i < j → j < g.length → rb i < rb j
theorem Mat.ex {w w' : World} {T E : TypeId} {b c : Nat} {rb rc : Nat → Nat} {g : List (List Int)} (h : Mat w T E b c rb rc g) (hx : Ex w w') : Mat w' T E b c rb rc g := by
  obtain ⟨⟨sp, h1⟩, h2, h3, h4, h5⟩ := h
  exact ⟨⟨sp, h1.ex hx⟩, h2, h3, fun i hi => ⟨(h4 i hi).1.ex hx, (h4 i hi).2⟩, h5⟩
theorem Mat.rows {w : World} {T E : TypeId} {b c : Nat} {rb rc : Nat → Nat} {g : List (List Int)} (h : Mat w T E b c rb rc g) : Rows w (sv b g.length c) g := by
  obtain ⟨⟨sp, h1⟩, h2, h3, h4, h5⟩ := h
  have hs := h1.sl (n := g.length) (c := c) (by simp) (by omega) h2
  rw [List.take_left' (by simp)] at hs
  refine ⟨_, hs, by simp, fun i u l hu hl => ?_⟩
  have hi := (List.getElem?_eq_some_iff.1 hl).1
  have e : g.getD i [] = l := by simp [hl]
  have hu' : u = sv (rb i) (g.getD i []).length (rc i) := by
    rw [List.getElem?_map, List.getElem?_range hi] at hu
    exact (Option.some.inj hu).symm
  rw [e] at hu'
  subst hu'
  have := (h4 i hi).1.ints
  rwa [e] at this
theorem Mat.cell {w : World} {T E : TypeId} {b c : Nat} {rb rc : Nat → Nat} {g : List (List Int)} (h : Mat w T E b c rb rc g) {i : Nat} (hi : i < g.length) : ∃ cs, At w b T cs ∧ cs[i]? = some (sv (rb i) (g.getD i []).length (rc i)) := by
  obtain ⟨⟨sp, h1⟩, _⟩ := h
  refine ⟨_, h1, ?_⟩
  rw [List.getElem?_append_left (by simpa using hi)]; simp [hi]
theorem Mat.own {w : World} {T E : TypeId} {b c : Nat} {rb rc : Nat → Nat} {g : List (List Int)} (h : Mat w T E b c rb rc g) {i : Nat} (hi : i < g.length) : OwnI w E (rb i) (rc i) (g.getD i []) := (h.2.2.2.1 i hi).1
theorem Mat.put {w w' : World} {T E : TypeId} {b c : Nat} {rb rc : Nat → Nat} {g : List (List Int)} {i : Nat} {l : List Int} (h : Mat w T E b c rb rc g) (hi : i < g.length) (hl : l.length = (g.getD i []).length) (hO : OwnI w' E (rb i) (rc i) l) (hg : w.grownBy w' (some (rb i))) : Mat w' T E b c rb rc (g.set i l) := by
  obtain ⟨⟨sp, h1⟩, h2, h3, h4, h5⟩ := h
  have hget : ∀ j, (g.set i l).getD j [] = if j = i then l else g.getD j [] := by
    intro j
    simp only [List.getD_eq_getElem?_getD, List.getElem?_set]
    by_cases hj : i = j
    · subst hj; simp [hi]
    · have : ¬ j = i := fun e => hj e.symm
      simp [hj, this]
  refine ⟨⟨sp, ?_⟩, by simpa using h2, by simpa using h3, fun j hj => ?_, fun a j h6 h7 => h5 a j h6 (by simpa using h7)⟩
  · have e : (List.range (g.set i l).length).map (fun j => sv (rb j) ((g.set i l).getD j []).length (rc j)) = (List.range g.length).map (fun j => sv (rb j) (g.getD j []).length (rc j)) := by
      rw [List.length_set]
      apply List.map_congr_left
      intro j _
      rw [hget j]
      by_cases hj : j = i
      · subst hj; rw [if_pos rfl, hl]
      · rw [if_neg hj]
    rw [e]
    exact h1.grown hg (fun e => (h4 i hi).2 (Option.some.inj e))
  · have hj' : j < g.length := by simpa using hj
    rw [hget j]
    refine ⟨?_, (h4 j hj').2⟩
    by_cases hji : j = i
    · subst hji; rw [if_pos rfl]; exact hO
    · rw [if_neg hji]
      refine (h4 j hj').1.grown hg (fun e => ?_)
      have e' := Option.some.inj e
      rcases Nat.lt_or_gt_of_ne hji with h6 | h6
      · have := h5 j i h6 hi; omega
      · have := h5 i j h6 hj'; omega
theorem Rw.pos {w : World} {E : TypeId} {v : Value} {vs : List Value} (h : Rw w E v vs) (hn : 0 < vs.length) : ∃ b cap sp, v = sv b vs.length cap ∧ At w b E (vs ++ sp) ∧ vs.length ≤ cap := by
  rcases h.form with ⟨_, rfl⟩ | h
  · simp at hn
  · exact h
end Go.Proofs.Ytkhnohnkcdcajaa.Sal
