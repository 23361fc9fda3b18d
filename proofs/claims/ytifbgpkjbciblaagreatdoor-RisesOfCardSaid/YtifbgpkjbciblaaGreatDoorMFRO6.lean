/- Texts that YtifbgpkjbciblaaGreatDoorFRO leans on, laid together: H2 H3 HM H4 HL V2 V3 V4 V5 Core17. -/
import Derived.Test.YtifbgpkjbciblaaGreatDoorMFRO5
import Derived.Test.YtifbgpkjbciblaaGreatDoorMFRO4
import Derived.Test.YtifbgpkjbciblaaGreatDoorMFRO2
import Derived.Test.YtifbgpkjbciblaaGreatDoorMFRO3
import Derived.Deep.MidRow
section
/- halls.Few. -/
set_option maxRecDepth 100000
namespace Go.Proofs.YtifbgpkjbciblaaGreatDoor.Sal
open Go.RowKit
/-- Does one want nothing but these? -/
def wantB (R : Nat → Nat → Bool) (nn : Nat) (l : List Int) (i : Nat) : Bool := !((rowL nn (R i)).any fun k => !l.contains k)
/-- How many of some want nothing but these. -/
def withN (R : Nat → Nat → Bool) (nn : Nat) (sl l : List Int) : Nat := (sl.filter fun q => wantB R nn l q.toNat).length
def withK (R : Nat → Nat → Bool) (nn : Nat) (sl l : List Int) (j : Nat) : Nat := ((sl.take j).filter fun q => wantB R nn l q.toNat).length
theorem withK_succ {R : Nat → Nat → Bool} {nn : Nat} {sl l : List Int} {j p : Nat} (hj : j < sl.length) (hp : sl.getD j 0 = (p : Int)) : withK R nn sl l (j + 1) = withK R nn sl l j + (if wantB R nn l p = true then 1 else 0) := by
  unfold withK
  rw [List.take_succ_eq_append_getElem hj, List.filter_append, List.length_append]
  congr 1
  have e : sl[j].toNat = p := by
    have : sl.getD j 0 = sl[j] := by simp [List.getD_eq_getElem?_getD, hj]
    omega
  by_cases h : wantB R nn l p = true <;> simp [e, h]
theorem withK_le (R : Nat → Nat → Bool) (nn : Nat) (sl l : List Int) (j : Nat) : withK R nn sl l j ≤ j := by
  unfold withK
  exact Nat.le_trans (List.length_filter_le _ _) (by rw [List.length_take]; omega)
theorem withK_all (R : Nat → Nat → Bool) (nn : Nat) (sl l : List Int) {j : Nat} (h : ¬ j < sl.length) : withK R nn sl l j = withN R nn sl l := by
  unfold withK withN
  rw [List.take_of_length_le (by omega)]
/-- Are these too few? -/
def fewB (R : Nat → Nat → Bool) (nn : Nat) (sl l : List Int) : Bool := decide (l.length < withN R nn sl l)
def fewUp (R : Nat → Nat → Bool) (nn : Nat) (sl : List Int) (many : Nat) : Option (List Int) := (setsR many [] 0 nn).find? (fewB R nn sl)
theorem setsR_len : ∀ (many : Nat) (ahead : List Int) (frm items : Nat) (x : List Int), x ∈ setsR many ahead frm items → x.length = ahead.length + many
  | 0, ahead, frm, items, x, h => by simp [setsR] at h; rw [h]; rfl
  | many + 1, ahead, frm, items, x, h => by
    unfold setsR at h
    obtain ⟨d, _, hx⟩ := List.mem_flatMap.1 h
    have := setsR_len many _ _ _ x hx
    simp at this; omega
attribute [local irreducible] Go.Code.wpIn Go.wpListIn Ct Ints Rows Sl At Rw WJ
set_option linter.all false
theorem ok_Few : CallOK Tryz.prog 19 := callOK Tryz.func19 (by kernel_rfl) rfl
theorem ok_Few1 : CallOK Tryz.prog 71 := callOK Tryz.func71 (by kernel_rfl) rfl
theorem ok_Few11 : CallOK Tryz.prog 73 := callOK Tryz.func73 (by kernel_rfl) rfl
theorem Few11_ct (v : Value) (l : List Int) (b : Nat) (q : Int) (w : World) (hA : At w b 25 [v]) (hl : Ints w v l) :
    Ct Tryz.prog 73 #[.int .i64 q, .pointer (some ⟨b, 0, none⟩)] w fun u w' => u = .bool (!l.contains q) ∧ Ex w w' := by
  refine enter (N := 8) (vs := [.int .i64 q, .pointer (some ⟨b, 0, none⟩)]) Tryz.func73 rfl rfl rfl ?_
  repeat (first | (refine isO ?_; first | refine s_move ?_ | refine s_assign ?_ | (refine isLD ?_; refine s_ldA ty_ints rfl (by assumption) rfl ?_)) | (refine isC ?_; refine c_sr ?_) | (refine l_th ?_))
  refine s_call ok_Contains rfl (Contains_ct v l q w hl) ?_
  rintro u w1 ⟨rfl, hx⟩
  repeat (first | (refine isO ?_; first | refine s_assign ?_ | refine s_not rfl ?_) | (refine isC ?_; refine c_ret ?_) | (refine l_th ?_))
  exact ret1 rfl rfl ⟨rfl, hx⟩
/-- What the count of those within has captured. -/
structure FC (w : World) (b1 b2 b3 : Nat) (R : Nat → Nat → Bool) (m nn : Nat) (gv sv' : Value) (sl : List Int) : Prop where
  a1 : At w b1 25 [sv']
  a2 : At w b2 22 [gv]
  a3 : At w b3 3 [.int .i64 (nn : Int)]
  gr : Rows w gv (gL R m nn)
  sr : Ints w sv' sl
theorem FC.ex {w w' : World} {b1 b2 b3 : Nat} {R : Nat → Nat → Bool} {m nn : Nat} {gv sv' : Value} {sl : List Int} (h : FC w b1 b2 b3 R m nn gv sv' sl) (hx : Ex w w') : FC w' b1 b2 b3 R m nn gv sv' sl := ⟨h.a1.ex hx, h.a2.ex hx, h.a3.ex hx, h.gr.ex hx, h.sr.ex hx⟩
set_option maxHeartbeats 2000000 in
theorem Few1_ct {R : Nat → Nat → Bool} {m nn : Nat} (hm : m ≤ 8) (hn : nn ≤ 8) {gv sv' v : Value} {sl l : List Int} {b1 b2 b3 : Nat} {w : World} (hC : FC w b1 b2 b3 R m nn gv sv' sl) (hris : risB (-1) sl (m : Int) = true) (hl : Ints w v l) :
    Ct Tryz.prog 71 #[v, .pointer (some ⟨b1, 0, none⟩), .pointer (some ⟨b2, 0, none⟩), .pointer (some ⟨b3, 0, none⟩)] w fun u w' => u = .int .i64 (withN R nn sl l : Int) ∧ Ex w w' := by
  obtain ⟨a, c, rfl⟩ := hl.form
  have hsl := ris_len hris
  refine enter (N := 36) (vs := [.slice a l.length c, .pointer (some ⟨b1, 0, none⟩), .pointer (some ⟨b2, 0, none⟩), .pointer (some ⟨b3, 0, none⟩)]) Tryz.func71 rfl rfl rfl ?_
  refine c_sr ?_
  refine s_box (cs := [.slice a l.length c]) rfl rfl ?_
  intro b4 w1 hb4 hA4 hx1 hs1
  have hC1 := hC.ex hx1
  have hl1 := hl.ex hx1
  have hsr1 := hC1.sr
  repeat (first | (refine isO ?_; refine s_assign ?_) | (refine isC ?_; first | refine c_sr ?_ | refine c_seq ?_) | (refine l_th ?_))
  refine s_ldA ty_ints rfl hC1.a1 rfl ?_
  repeat (first | (refine isO ?_; first | refine s_move ?_ | (refine isCall ?_; refine s_lenI sl_ints rfl (by assumption) ?_)) | (refine isC ?_; refine c_block ?_) | (refine l_th ?_))
  refine c_loop (γ := Nat) 34359735200 (fun j => [(12, .int .i64 (j : Int)), (5, .int .i64 (withK R nn sl (l) j : Int))]) (fun j W => j ≤ sl.length ∧ Ex w1 W) (fun j => sl.length - j) 0 ⟨rfl, vint rfl, trivial⟩ ⟨Nat.zero_le _, Ex.refl _⟩ ?_
  rintro j ρ W ⟨hj, hxW⟩
  have hCW := hC1.ex hxW
  have hsrW := hCW.sr
  have hwl := withK_le R nn sl l j
  repeat (first | (refine isO ?_; (refine isBin ?_; refine s_lss rfl rfl ?_)) | (refine isC ?_; first | refine c_sr ?_ | refine c_seq ?_) | (refine l_th ?_))
  refine c_ifd rfl (fun h => ?_) (fun h => ?_)
  · have hj' : j < sl.length := by omega
    refine Exists.elim (ris_at hris hj') fun p hp => ?_
    have hp1 := hp.1
    have hp2 := hp.2
    have hst := withK_succ (R := R) (nn := nn) (l := l) hj' hp1
    have hnear : nearP R m [(p : Int)] = R p := funext fun k => nearP_one hp2 k
    repeat (first | (refine isO ?_; first | refine s_assign ?_ | (refine isIA ?_; refine s_ixI sl_ints ty_int rfl rfl rfl (by assumption) (by omega) ?_; intro _)) | (refine isC ?_; first | refine c_sr ?_ | refine c_th ?_ | refine c_seq ?_ | refine c_block ?_) | (refine l_th ?_))
    refine s_ldA ty_rows rfl hCW.a2 rfl ?_
    refine s_ldA ty_int rfl hCW.a3 rfl ?_
    repeat ((refine isO ?_; refine s_move ?_))
    refine s_re (v' := .int .i64 (p : Int)) (vint hp1) ?_
    refine s_bs1 sl_ints in_int rfl rfl ?_
    intro b5 w2 hb5 hA5 hx2 hs2
    have hC2 := hCW.ex hx2
    refine s_call (vs := [gv, .int .i64 (nn : Int), sv b5 1 1]) ok_Near rfl (Near_ok hm hn gv _ [(p : Int)] w2 hC2.gr hA5.one (by simp [risB]; omega)) ?_
    rintro u w3 ⟨vn, an, rfl, hvn, hvnb, hIn, hx3⟩
    rw [hnear] at hIn
    have hx13 := hxW.trans (hx2.trans hx3)
    have hA43 := hA4.ex hx13
    have hl3 := hl1.ex hx13
    repeat (first | (refine isO ?_; first | refine s_move ?_ | refine s_assign ?_ | (refine isG ?_; refine g_yes rfl rfl ?_) | (refine isBin ?_; refine s_eqlT rfl rfl (by omega) ?_) | refine s_extract rfl rfl ?_) | (refine isC ?_; refine c_sr ?_) | (refine l_th ?_))
    refine s_mkfn (vs := [.pointer (some ⟨b4, 0, none⟩)]) rfl ?_
    repeat ((refine isO ?_; (refine isG ?_; refine g_yes rfl rfl ?_)))
    refine s_call ok_cfI rfl (cfI_ct vn _ 73 [.pointer (some ⟨b4, 0, none⟩)] (fun k => !l.contains k) w3 hIn ⟨ok_Few11, fun q w9 hx9 => Few11_ct _ l b4 q w9 (hA43.ex hx9) (hl3.ex hx9)⟩) ?_
    rintro u w4 ⟨rfl, hx4⟩
    have hx14 := hx13.trans hx4
    refine Or.elim (tf8 (wantB R nn l p)) (fun hb => ?_) (fun hb => ?_)
    · rw [hb, if_pos rfl] at hst
      refine s_re (v' := .bool false) (vbool (by unfold wantB at hb; simpa using hb)) ?_
      repeat (first | (refine isO ?_; first | refine s_move ?_ | refine s_assign ?_ | (refine isG ?_; refine g_yes rfl rfl ?_) | (refine isBin ?_; refine s_inc rfl (by omega) ?_) | (refine isPick ?_; refine s_pickt rfl rfl ?_) | refine s_not rfl ?_) | (refine isC ?_; first | refine c_region ?_ | refine c_ift rfl ?_) | (first | refine l_th ?_ | refine l_nil ?_))
      exact loop_end (j + 1) (by (repeat (first | exact agree_refl _ _ | refine agree_upd rfl ?_ | refine agree_ext rfl ?_ | refine agree_mask rfl ?_))) ⟨rfl, vint (by rw [hst]), trivial⟩ ⟨hj', hx14⟩ (by omega)
    · rw [hb, if_neg Bool.false_ne_true] at hst
      refine s_re (v' := .bool true) (vbool (by unfold wantB at hb; simpa using hb)) ?_
      repeat (first | (refine isO ?_; first | refine s_move ?_ | (refine isG ?_; refine g_yes rfl rfl ?_) | (refine isBin ?_; refine s_inc rfl (by omega) ?_) | (refine isPick ?_; refine s_pickt rfl rfl ?_) | refine s_not rfl ?_) | (refine isC ?_; first | refine c_region ?_ | refine c_iff rfl ?_ | refine c_skip ?_) | (refine l_th ?_))
      exact loop_end (j + 1) (by (repeat (first | exact agree_refl _ _ | refine agree_upd rfl ?_ | refine agree_ext rfl ?_ | refine agree_mask rfl ?_))) ⟨rfl, vint (by rw [hst]; rfl), trivial⟩ ⟨hj', hx14⟩ (by omega)
  · have hall := withK_all R nn sl l (show ¬ j < sl.length by omega)
    repeat (first | (refine isO ?_; first | refine s_move ?_ | refine s_assign ?_) | (refine isC ?_; first | refine c_sr ?_ | refine c_ret ?_ | refine c_exit ?_) | (refine l_th ?_))
    exact ret1 rfl rfl ⟨vint (by rw [hall]), hx1.trans hxW⟩
end Go.Proofs.YtifbgpkjbciblaaGreatDoor.Sal
end
section
/- halls.Few. -/
set_option maxRecDepth 100000
namespace Go.Proofs.YtifbgpkjbciblaaGreatDoor.Sal
open Go.RowKit
/-- The first that are too few, of fewer than so many. -/
def fewTo (R : Nat → Nat → Bool) (nn : Nat) (sl : List Int) : Nat → Option (List Int)
  | 0 => none
  | k + 1 => match fewTo R nn sl k with
    | some l => some l
    | none => fewUp R nn sl k
noncomputable def fewR (R : Nat → Nat → Bool) (m nn : Nat) (sl : List Int) : Option (List Int) := if rkm (Rsome sl R) m nn = sl.length then none else fewTo R nn sl (nn + 1)
theorem fewTo_none {R : Nat → Nat → Bool} {nn : Nat} {sl : List Int} {k : Nat} (h : fewTo R nn sl k = none) (h2 : fewUp R nn sl k = none) : fewTo R nn sl (k + 1) = none := by
  simp only [fewTo, h, h2]
theorem fewTo_some {R : Nat → Nat → Bool} {nn : Nat} {sl : List Int} {k : Nat} {l : List Int} (h : fewTo R nn sl k = none) (h2 : fewUp R nn sl k = some l) : ∀ b, k < b → fewTo R nn sl b = some l
  | b + 1, hb => by
    by_cases e : b = k
    · subst e; simp only [fewTo, h, h2]
    · have := fewTo_some h h2 b (by omega)
      simp only [fewTo, this]
theorem find_none {L : List (List Int)} {p : List Int → Bool} (h : ∀ i, i < L.length → ∀ y, L[i]? = some y → p y = false) : L.find? p = none := by
  rw [List.find?_eq_none]
  intro x hx
  obtain ⟨i, hi⟩ := List.mem_iff_getElem?.1 hx
  have := h i (List.getElem?_eq_some_iff.1 hi).1 x hi
  simp [this]
theorem find_at {p : List Int → Bool} : ∀ {L : List (List Int)} {i : Nat} {x : List Int}, L[i]? = some x → p x = true → (∀ j, j < i → ∀ y, L[j]? = some y → p y = false) → L.find? p = some x
  | z :: L, 0, x, hx, hp, _ => by
    simp at hx; subst hx
    rw [List.find?_cons_of_pos hp]
  | z :: L, i + 1, x, hx, hp, h => by
    have h0 := h 0 (by omega) z rfl
    rw [List.find?_cons_of_neg (by simp [h0])]
    exact find_at (by simpa using hx) hp (fun j hj y hy => h (j + 1) (by omega) y (by simpa using hy))
theorem At.below {w w' : World} {b n : Nat} {E : TypeId} {cs : List Value} (h : At w b E cs) (hb : Below n w w') (hn : b < n) : At w' b E cs := (hb.block b hn).trans h
attribute [local irreducible] Go.Code.wpIn Go.wpListIn Ct Ints Rows Sl At Rw WJ
set_option linter.all false
theorem ty_bl : Ty1 Tryz.prog 4 := ⟨let ⟨i, h, _, hs, _⟩ := info_parts (show (Tryz.prog.info? 4).map (fun i => (i.zero, i.size, i.bytes)) = some (some (.bool false), 1, 1) by kernel_rfl); ⟨i, h, hs⟩, _, Tryz.underlying4, rfl⟩
theorem ty_err : Ty1 Tryz.prog 29 := ⟨let ⟨i, h, _, hs, _⟩ := info_parts (show (Tryz.prog.info? 29).map (fun i => (i.zero, i.size, i.bytes)) = some (some (.int .i64 0), 1, 8) by kernel_rfl); ⟨i, h, hs⟩, _, Tryz.underlying29, rfl⟩
theorem ty_fn36 : Ty1 Tryz.prog 62 := ⟨let ⟨i, h, _, hs, _⟩ := info_parts (show (Tryz.prog.info? 62).map (fun i => (i.zero, i.size, i.bytes)) = some (some .nilFunc, 1, 8) by kernel_rfl); ⟨i, h, hs⟩, _, Tryz.underlying62, rfl⟩
theorem in_z {E : TypeId} {z : Value} (h : (Tryz.prog.info? E).map (·.zero) = some (some z)) : ∃ ti, Tryz.prog.info? E = some ti ∧ ti.zero = some z := by
  cases hi : Tryz.prog.info? E with
  | none => rw [hi] at h; cases h
  | some ti => rw [hi] at h; exact ⟨ti, rfl, by simpa using h⟩
theorem in_bl : ∃ ti, Tryz.prog.info? 4 = some ti ∧ ti.zero = some (.bool false) := in_z (by kernel_rfl)
theorem in_err : ∃ ti, Tryz.prog.info? 29 = some ti ∧ ti.zero = some (.int .i64 0) := in_z (by kernel_rfl)
theorem in_fn36 : ∃ ti, Tryz.prog.info? 62 = some ti ∧ ti.zero = some .nilFunc := in_z (by kernel_rfl)
/-- What lies in memory where the search has found some. -/
def FJ (w W0 Wr W' : World) (L : List (List Int)) (p : List Int → Bool) (b6 b7 b8 i : Nat) : Prop :=
  (∃ x v a, L[i]? = some x ∧ p x = true ∧ At W' b6 25 [v] ∧ At W' b7 4 [.bool true] ∧ At W' b8 29 [.int .i64 0] ∧ v = .slice a x.length x.length ∧ (∀ b, v.ownBlock = some b → w.heap.size ≤ b) ∧ Ints W' v x ∧ Ex w W') ∧ Kb W0.heap.size Wr W'
theorem FJ.go {w W0 Wr W W' : World} {L : List (List Int)} {p : List Int → Bool} {b6 b7 b8 i : Nat} (h : FJ w W0 Wr W L p b6 b7 b8 i) (hb : Below Wr.heap.size W W') (hk : KC W W') (h6 : b6 < Wr.heap.size) (h7 : b7 < Wr.heap.size) (h8 : b8 < Wr.heap.size) (hw : w.heap.size ≤ Wr.heap.size) : FJ w W0 Wr W' L p b6 b7 b8 i := by
  obtain ⟨⟨x, v, a, h1, h2, h3, h4, h5, h9, h10, h11, h12⟩, h13⟩ := h
  exact ⟨⟨x, v, a, h1, h2, h3.below hb h6, h4.below hb h7, h5.below hb h8, h9, h10, hk.ints h11, Below.trans h12 (Below.mono hb hw)⟩, Kb.below h13 hb⟩
set_option maxHeartbeats 4000000 in
theorem Few_ok {R : Nat → Nat → Bool} {m nn : Nat} (hm : m ≤ 8) (hn : nn ≤ 8) (gv : Value) (sv' : Value) (sl : List Int) (w : World) (hg : Rows w gv (gL R m nn)) (hs : Ints w sv' sl) (hris : risB (-1) sl (m : Int) = true) :
    Ct Tryz.prog 19 #[gv, .int .i64 (nn : Int), sv'] w fun u w' => Ex w w' ∧ ((fewR R m nn sl = none ∧ u = .tuple #[.slice none 0 0, .bool false, .int .i64 0]) ∨
      ∃ l v a, fewR R m nn sl = some l ∧ u = .tuple #[v, .bool true, .int .i64 0] ∧ v = .slice a l.length l.length ∧ (∀ b, v.ownBlock = some b → w.heap.size ≤ b) ∧ Ints w' v l) := by
  have hgl := gL_len R m nn
  refine Exists.elim hg.form fun ga hga => Exists.elim hga fun gc hgc => ?_
  subst hgc
  refine Exists.elim hs.form fun sa hsa => Exists.elim hsa fun sc hsc => ?_
  subst hsc
  refine Exists.elim in_int' fun ti1 hti1 => ?_
  refine Exists.elim in_ints' fun ti hti => ?_
  refine Exists.elim in_bl fun tb htb => ?_
  refine Exists.elim in_err fun te hte => ?_
  refine Exists.elim in_fn36 fun tf36 htf => ?_
  refine enter (N := 46) (vs := [.slice ga (gL R m nn).length gc, .int .i64 (nn : Int), .slice sa sl.length sc]) Tryz.func19 rfl rfl rfl ?_
  refine c_sr ?_
  refine s_box (cs := [.slice ga (gL R m nn).length gc]) rfl rfl ?_
  intro b3 w3 hb3 hA3 hx3 hs3
  refine s_box (cs := [.int .i64 (nn : Int)]) rfl rfl ?_
  intro b4 w4 hb4 hA4 hx4 hs4
  refine s_box (cs := [.slice sa sl.length sc]) rfl rfl ?_
  intro b5 w5 hb5 hA5 hx5 hs5
  refine s_alloc (cs := [.slice none 0 0]) hti.1 hti.2.1 rfl ?_
  intro b6 w6 hb6 hA6 hx6 hs6
  refine s_alloc (cs := [.bool false]) htb.1 htb.2 rfl ?_
  intro b7 w7 hb7 hA7 hx7 hs7
  refine s_alloc (cs := [.int .i64 0]) hte.1 hte.2 rfl ?_
  intro b8 w8 hb8 hA8 hx8 hs8
  have hx48 := hx5.trans (hx6.trans (hx7.trans hx8))
  have hx08 := hx3.trans (hx4.trans hx48)
  have hA38 := hA3.ex (hx4.trans hx48)
  have hA48 := hA4.ex hx48
  have hA58 := hA5.ex (hx6.trans (hx7.trans hx8))
  have z3 := hx3.size
  have z48 := hx48.size
  repeat (first | (refine isC ?_; refine c_sr ?_) | (refine l_th ?_))
  refine s_ldA ty_rows rfl hA38 rfl ?_
  repeat ((refine isO ?_; (refine isLD ?_; first | refine s_ldA ty_int rfl (by assumption) rfl ?_ | refine s_ldA ty_ints rfl (by assumption) rfl ?_)))
  refine s_call ok_All rfl (All_ok hm hn _ _ sl w8 (hg.ex hx08) (hs.ex hx08) hris) ?_
  rintro u w9 ⟨rfl, hx9⟩
  have hA69 := hA6.ex (hx7.trans (hx8.trans hx9))
  have hA79 := hA7.ex (hx8.trans hx9)
  have hA89 := hA8.ex hx9
  have hx09 := hx08.trans hx9
  have z9 := hx9.size
  by_cases hall : rkm (Rsome sl R) m nn = sl.length
  · have hfr : fewR R m nn sl = none := by unfold fewR; rw [if_pos hall]
    refine s_re (v' := .tuple #[.bool true, .int .i64 0]) (congrArg (fun z : Bool => Value.tuple #[.bool z, .int .i64 0]) (decide_eq_true hall)) ?_
    repeat (first | (refine isO ?_; first | refine s_move ?_ | refine s_assign ?_ | (refine isG ?_; refine g_yes rfl rfl ?_) | (refine isBin ?_; refine s_neqF rfl rfl (by omega) ?_) | (refine isPick ?_; refine s_pickf rfl rfl ?_) | refine s_extract rfl rfl ?_) | (refine isC ?_; first | refine c_sr ?_ | refine c_seq ?_ | refine c_ift rfl ?_) | (refine l_th ?_))
    refine s_stA (n := 0) (u := .slice none 0 0) ty_ints rfl rfl rfl hA69 (by simp) ?_
    intro wa hAa hga
    refine s_stA (n := 0) (u := .bool false) ty_bl rfl rfl rfl (hA79.grown hga (fun e => by have := Option.some.inj e; omega)) (by simp) ?_
    intro wb hAb hgb
    refine s_stA (n := 0) (u := .int .i64 0) ty_err rfl rfl rfl ((hA89.grown hga (fun e => by have := Option.some.inj e; omega)).grown hgb (fun e => by have := Option.some.inj e; omega)) (by simp) ?_
    intro wc hAc hgc
    have hA6c := (hAa.grown hgb (fun e => by have := Option.some.inj e; omega)).grown hgc (fun e => by have := Option.some.inj e; omega)
    have hA7c := hAb.grown hgc (fun e => by have := Option.some.inj e; omega)
    repeat (first | (refine isC ?_; refine c_ret ?_) | (first | refine l_th ?_ | refine th_ret ?_))
    exact ret3d (Ds := []) (va := .slice none 0 0) (vb := .bool false) (vc := .int .i64 0) rfl rfl rfl rfl ty_ints ty_bl ty_err (by rw [hA6c.cell]; rfl) (by rw [hA7c.cell]; rfl) (by rw [hAc.cell]; rfl) List.nodup_nil (fun D hD => by simp at hD) (fun w' hp => ⟨PD.ex (((hx09.store hga (by omega)).store hgb (by omega)).store hgc (by omega)) hp (fun D hD => by simp at hD), .inl ⟨hfr, rfl⟩⟩)
  · have hfr : fewR R m nn sl = fewTo R nn sl (nn + 1) := by unfold fewR; rw [if_neg hall]
    refine s_re (v' := .tuple #[.bool false, .int .i64 0]) (congrArg (fun z : Bool => Value.tuple #[.bool z, .int .i64 0]) (decide_eq_false hall)) ?_
    repeat (first | (refine isO ?_; first | refine s_move ?_ | refine s_assign ?_ | (refine isG ?_; refine g_yes rfl rfl ?_) | (refine isBin ?_; refine s_neqF rfl rfl (by omega) ?_) | (refine isPick ?_; refine s_pickf rfl rfl ?_) | refine s_extract rfl rfl ?_) | (refine isC ?_; first | refine c_sr ?_ | refine c_th ?_ | refine c_seq ?_ | refine c_iff rfl ?_) | (refine l_th ?_))
    refine s_mkfn (vs := [.pointer (some ⟨b5, 0, none⟩), .pointer (some ⟨b3, 0, none⟩), .pointer (some ⟨b4, 0, none⟩)]) rfl ?_
    refine s_alloc (cs := [.nilFunc]) htf.1 htf.2 rfl ?_
    intro b11 wa hb11 hAa hxa hsa
    refine s_stA (n := 0) (u := .func (.func 71) #[] [.pointer (some ⟨b5, 0, none⟩), .pointer (some ⟨b3, 0, none⟩), .pointer (some ⟨b4, 0, none⟩)].toArray) ty_fn36 rfl rfl rfl hAa (by simp) ?_
    intro W0 hA11 hgW0
    have hx9W : Ex w9 W0 := hxa.store hgW0 (by omega)
    have hxW0 := hx09.trans hx9W
    have hxS := hx9.trans hx9W
    have hC0 : FC W0 b5 b3 b4 R m nn _ _ sl := ⟨hA58.ex hxS, hA38.ex hxS, hA48.ex hxS, hg.ex hxW0, hs.ex hxW0⟩
    have hA40 := hA48.ex hxS
    have hA60 := hA69.ex hx9W
    have hA70 := hA79.ex hx9W
    have hA80 := hA89.ex hx9W
    have hl6 := hA60.lt
    have hl7 := hA70.lt
    have hl8 := hA80.lt
    have zW0 := hxW0.size
    repeat (first | (refine isO ?_; first | refine s_move ?_ | (refine isBin ?_; refine s_inc rfl (by omega) ?_) | (refine isLD ?_; refine s_ldA ty_int rfl (by assumption) rfl ?_)) | (refine isC ?_; first | refine c_sr ?_ | refine c_seq ?_ | refine c_block ?_) | (refine l_th ?_))
    refine c_loopD 70367670448128 (fun many => [(30, .int .i64 (many : Int))]) (fun many Ds W => many ≤ nn + 1 ∧ Ex W0 W ∧ fewTo R nn sl many = none ∧ Marks Ds W ∧ Ds.Nodup ∧ ∀ D ∈ Ds, W0.heap.size ≤ D ∧ D < W.heap.size) (fun many => nn + 1 - many) 0 ⟨rfl, trivial⟩
      ⟨Nat.zero_le _, Ex.refl _, rfl, fun D hD => by simp at hD, List.nodup_nil, fun D hD => by simp at hD⟩ ?_
    rintro many Ds ρ W ⟨hmany, hxW, hft, hmk, hnd, hDs⟩
    have hA4W := hA40.ex hxW
    have hA6W := hA60.ex hxW
    have hA7W := hA70.ex hxW
    have hA8W := hA80.ex hxW
    have hx0W := hxW0.trans hxW
    have zW := hxW.size
    repeat (first | (refine isO ?_; (refine isBin ?_; refine s_lss rfl rfl ?_)) | (refine isC ?_; first | refine c_sr ?_ | refine c_seq ?_) | (refine l_th ?_))
    refine c_ifd rfl (fun h => ?_) (fun h => ?_)
    · have hmany' : many < nn + 1 := by omega
      repeat (first | (refine isO ?_; refine s_move ?_) | (refine isC ?_; first | refine c_sr ?_ | refine c_th ?_ | refine c_seq ?_ | refine c_block ?_))
      refine s_alloc (cs := [.int .i64 0]) hti1.1 hti1.2.1 rfl ?_
      intro b12 W1 hb12 hA12 hxW1 hsW1
      refine s_stA (n := 0) (u := .int .i64 (many : Int)) ty_int rfl rfl rfl hA12 (by simp) ?_
      intro W2 hA122 hgW2
      have hxW2 : Ex W W2 := hxW1.store hgW2 (by omega)
      have hA42 := hA4W.ex hxW2
      have hA122' : At W2 b12 3 [.int .i64 (many : Int)] := hA122
      repeat (first | (refine isO ?_; (refine isLD ?_; refine s_ldA ty_int rfl (by assumption) rfl ?_)) | (refine isC ?_; refine c_sr ?_) | (refine l_th ?_))
      refine s_call (vs := [.slice none 0 0, .int .i64 ((0 : Nat) : Int), .int .i64 (nn : Int), .int .i64 (many : Int)]) ok_sets rfl (sets_ct _ [] 0 nn many W2 (Ints.nil W2)) ?_
      rintro u Wr ⟨c1, c2, c3, c4, rfl, hCr, hxr⟩
      have hit := sets_iter many [] 0 nn c1 c2 c3 c4 _ Wr hn (by omega) (by simp; omega) hCr
      have hxWr := hxW2.trans hxr
      have hx0r := hxW.trans hxWr
      have hxwr := hxW0.trans hx0r
      have zr := hx0r.size
      have hA12r := hA122'.ex hxr
      have hA11r := hA11.ex hx0r
      have hCFr := hC0.ex hx0r
      have hA6r := hA60.ex hx0r
      have hA7r := hA70.ex hx0r
      have hA8r := hA80.ex hx0r
      repeat (first | (refine isC ?_; refine c_block ?_) | (refine l_th ?_))
      refine c_rangeX (gf := 117) (lb := capsL c1 c2 c3 c4) (L := setsR many [] 0 nn) (w0 := Wr) rfl ok_sets1 hit (Ex.refl Wr) rfl (fun i => ∀ y, (setsR many [] 0 nn)[i]? = some y → fewB R nn sl y = false) (fun i W' => FJ w W0 Wr W' (setsR many [] 0 nn) (fewB R nn sl) b6 b7 b8 i)
        (fun i W' W'' hJ hb hkc => hJ.go hb hkc (by omega) (by omega) (by omega) (by omega)) (fun v σ => upd (updl [(36, v)] σ) 13 v) ?_ ?_ ?_ ?_
      · intro l' v W' K hK
        repeat (first | (refine isO ?_; refine s_assign ?_) | (refine isC ?_; refine c_region ?_) | (refine l_th ?_))
        exact hK
      · intro l' i x v W' hx hxW' hI'
        have hxl : x.length = many := by have := setsR_len many [] 0 nn x (List.mem_of_getElem? hx); simpa using this
        have hA11' := hA11r.ex hxW'
        have hA12' := hA12r.ex hxW'
        have hCF' := hCFr.ex hxW'
        repeat ((refine isC ?_; first | refine c_seq ?_ | refine c_block ?_))
        refine c_drawO (Ex.refl W') 0 5 [(0, true), (1, true), (3, true), (2, false), (4, true)] mixed (by kernel_rfl) ?_
        have hxd := Ex.drew W'
        refine d_ldA rfl ty_fn36 rfl hA11' rfl ?_
        refine d_move rfl ?_
        refine d_ldA rfl ty_int rfl hA12' rfl ?_
        refine d_ch rfl ?_
        refine s_callv (by intro f e; cases e) rfl ok_Few1 rfl (Few1_ct hm hn (hCF'.ex hxd) hris (hI'.ex hxd)) ?_
        rintro u W3 ⟨rfl, hx3⟩
        have hxd3 := hxd.trans hx3
        refine l_nil ⟨rfl, .inr hxd3, ?_⟩
        refine d_gtr rfl rfl rfl ?_
        have hfe : decide ((many : Int) < (withN R nn sl x : Int)) = fewB R nn sl x := by unfold fewB; rw [hxl, Bool.eq_iff_iff, decide_eq_true_eq, decide_eq_true_eq]; omega
        refine Or.elim (tf8 (fewB R nn sl x)) (fun hb => ?_) (fun hb => ?_)
        · refine d_re (v' := .bool true) (vbool (hfe.trans hb)) ?_
          refine d_nil ?_
          have hI3 := hI'.ex hxd3
          repeat (first | (refine isO ?_; refine s_move ?_) | (refine isC ?_; first | refine c_sr ?_ | refine c_ift rfl ?_))
          refine s_call ok_Clone rfl (Clone_ct v x W3 hI3 (by omega)) ?_
          rintro v4 W4 ⟨hL4, hx4⟩
          refine s_call ok_Clip rfl (Clip_ct v4 x W4 (hL4.ints (by omega))) ?_
          rintro v5 W5 ⟨⟨a5, c5, hv4, rfl⟩, hI5, hx5⟩
          have hxW5 := hxd3.trans (hx4.trans hx5)
          have hxr5 := hxW'.trans hxW5
          have hA65 := hA6r.ex hxr5
          have hA75 := hA7r.ex hxr5
          have hA85 := hA8r.ex hxr5
          have hxw5 := hxwr.trans hxr5
          have zr5 := hxr5.size
          have zrW' := hxW'.size
          have zr3 := (hxW'.trans hxd3).size
          have hown : ∀ b, (Value.slice a5 x.length x.length).ownBlock = some b → W3.heap.size ≤ b := fun b e => hL4.2 b (by rw [hv4]; cases a5 <;> exact e)
          refine s_stA (n := 0) (u := .slice a5 x.length x.length) ty_ints rfl rfl rfl hA65 (by simp) ?_
          intro W6 hA66 hg6
          refine s_stA (n := 0) (u := .bool true) ty_bl rfl rfl rfl (hA75.grown hg6 (fun e => by have := Option.some.inj e; omega)) (by simp) ?_
          intro W7 hA77 hg7
          refine s_stA (n := 0) (u := .int .i64 0) ty_err rfl rfl rfl ((hA85.grown hg6 (fun e => by have := Option.some.inj e; omega)).grown hg7 (fun e => by have := Option.some.inj e; omega)) (by simp) ?_
          intro W8 hA88 hg8
          have hA68 := (hA66.grown hg7 (fun e => by have := Option.some.inj e; omega)).grown hg8 (fun e => by have := Option.some.inj e; omega)
          have hA78 := hA77.grown hg8 (fun e => by have := Option.some.inj e; omega)
          have hI8 : Ints W8 (.slice a5 x.length x.length) x := ((hI5.kept hg6 (.inr fun e => by have := hown _ e; omega)).kept hg7 (.inr fun e => by have := hown _ e; omega)).kept hg8 (.inr fun e => by have := hown _ e; omega)
          have hxw8 : Ex w W8 := ((hxw5.store hg6 (by omega)).store hg7 (by omega)).store hg8 (by omega)
          repeat (first | (refine isC ?_; refine c_ret ?_) | (first | refine l_th ?_ | refine ib_ret ?_))
          refine ⟨⟨⟨x, _, a5, hx, hb, hA68, hA78, hA88, rfl, fun b e => by have := hown b e; omega, hI8, hxw8⟩, ?_⟩, ?_⟩
          · exact ((Kb.ex hxr5).trans (Kb.store hg6 (by omega))).trans ((Kb.store hg7 (by omega)).trans (Kb.store hg8 (by omega)))
          · exact ((Kb.ex hxW5).trans (Kb.store hg6 (by omega))).trans ((Kb.store hg7 (by omega)).trans (Kb.store hg8 (by omega)))
        · refine d_re (v' := .bool false) (vbool (hfe.trans hb)) ?_
          refine d_nil ?_
          repeat (first | (refine isC ?_; first | refine c_iff rfl ?_ | refine c_skip ?_) | (refine ib_norm ?_))
          exact ⟨hxd3, fun y hy => by rw [hx] at hy; cases hy; exact hb⟩
      · intro D W6 hD hx6 hG6 hK6
        have hmk6 : Marks (D :: Ds) W6 := fun E hE => by
          rcases List.mem_cons.1 hE with rfl | hE
          · exact hK6
          · exact (hmk.ex (hxWr.trans hx6)) E hE
        have z5 := hxWr.size
        have z6 := hx6.size
        have hlt6 := (Array.getElem?_eq_some_iff.1 hK6).1
        have hfu : fewUp R nn sl many = none := find_none hG6
        have hft' := fewTo_none hft hfu
        repeat (first | (refine isO ?_; first | refine s_move ?_ | (refine isBin ?_; refine s_inc rfl (by omega) ?_)) | (refine isC ?_; refine c_region ?_) | (refine l_th ?_))
        refine loop_endD (many + 1) (D :: Ds) (by (repeat (first | exact agree_refl _ _ | refine agree_upd rfl ?_ | refine agree_ext rfl ?_ | refine agree_mask rfl ?_))) ⟨rfl, trivial⟩ ⟨hmany', hx0r.trans hx6, hft', hmk6, List.nodup_cons.2 ⟨fun hmm => by have := (hDs D hmm).2; omega, hnd⟩, fun E hE => ?_⟩ (by omega)
        rcases List.mem_cons.1 hE with rfl | hE
        · omega
        · have := hDs E hE; omega
      · intro D i W6 hD hi hG6 hJ6 hKb hK6
        have hlt6 := (Array.getElem?_eq_some_iff.1 hK6).1
        have z5 := hxWr.size
        have hmk6 : Marks (D :: Ds) W6 := fun E hE => by
          rcases List.mem_cons.1 hE with rfl | hE
          · exact hK6
          · have h9 := hDs E hE
            exact (hJ6.2.2 E h9.1 (by omega)).trans ((hmk.ex hxWr) E hE)
        have hB6 : ∀ E ∈ D :: Ds, w.heap.size ≤ E := fun E hE => by
          rcases List.mem_cons.1 hE with rfl | hE
          · omega
          · have := (hDs E hE).1; omega
        refine Exists.elim hJ6.1 fun x hJ => Exists.elim hJ fun v hJ => Exists.elim hJ fun a hJ => ?_
        have j1 := hJ.1
        have j2 := hJ.2.1
        have j3 := hJ.2.2.1
        have j4 := hJ.2.2.2.1
        have j5 := hJ.2.2.2.2.1
        have j6 := hJ.2.2.2.2.2.1
        have j7 := hJ.2.2.2.2.2.2.1
        have j8 := hJ.2.2.2.2.2.2.2.1
        have j9 := hJ.2.2.2.2.2.2.2.2
        have hfu : fewUp R nn sl many = some x := find_at j1 j2 hG6
        have hfin := fewTo_some hft hfu (nn + 1) hmany'
        repeat (first | refine th_ret ?_ | refine ib_ret ?_)
        exact ret3d (Ds := D :: Ds) (va := v) (vb := .bool true) (vc := .int .i64 0) rfl rfl rfl rfl ty_ints ty_bl ty_err (by rw [j3.cell]; rfl) (by rw [j4.cell]; rfl) (by rw [j5.cell]; rfl) (List.nodup_cons.2 ⟨fun hmm => by have := (hDs D hmm).2; omega, hnd⟩) hmk6
          (fun w' hp => ⟨PD.ex j9 hp hB6, .inr ⟨x, v, a, hfr.trans hfin, rfl, j6, j7, hp.2.2.2.2.2.ints j8⟩⟩)
    · have hme : many = nn + 1 := by omega
      rw [hme] at hft
      repeat ((refine isC ?_; first | refine c_sr ?_ | refine c_exit ?_))
      refine s_stA (n := 0) (u := .slice none 0 0) ty_ints rfl rfl rfl hA6W (by simp) ?_
      intro wa hAa hga
      refine s_stA (n := 0) (u := .bool false) ty_bl rfl rfl rfl (hA7W.grown hga (fun e => by have := Option.some.inj e; omega)) (by simp) ?_
      intro wb hAb hgb
      refine s_stA (n := 0) (u := .int .i64 0) ty_err rfl rfl rfl ((hA8W.grown hga (fun e => by have := Option.some.inj e; omega)).grown hgb (fun e => by have := Option.some.inj e; omega)) (by simp) ?_
      intro wc hAc hgc
      have hA6c := (hAa.grown hgb (fun e => by have := Option.some.inj e; omega)).grown hgc (fun e => by have := Option.some.inj e; omega)
      have hA7c := hAb.grown hgc (fun e => by have := Option.some.inj e; omega)
      have hmkc : Marks Ds wc := fun E hE => by
        have h9 := hDs E hE
        exact mark_gr (mark_gr (mark_gr (hmk E hE) hA6W hga) (hA7W.grown hga (fun e => by have := Option.some.inj e; omega)) hgb) ((hA8W.grown hga (fun e => by have := Option.some.inj e; omega)).grown hgb (fun e => by have := Option.some.inj e; omega)) hgc
      repeat (first | (refine isC ?_; refine c_ret ?_) | (refine l_th ?_))
      exact ret3d (Ds := Ds) (va := .slice none 0 0) (vb := .bool false) (vc := .int .i64 0) rfl rfl rfl rfl ty_ints ty_bl ty_err (by rw [hA6c.cell]; rfl) (by rw [hA7c.cell]; rfl) (by rw [hAc.cell]; rfl) hnd hmkc (fun w' hp => ⟨PD.ex (((hx0W.store hga (by omega)).store hgb (by omega)).store hgc (by omega)) hp (fun D hD => by have := (hDs D hD).1; omega), .inl ⟨hfr.trans hft, rfl⟩⟩)
end Go.Proofs.YtifbgpkjbciblaaGreatDoor.Sal
end
section
/- Plain: the sets that are too few: the first of them; Hall's word for them. -/
set_option maxRecDepth 100000
namespace Go.Proofs.YtifbgpkjbciblaaGreatDoor.Sal
set_option linter.all false
theorem setsR_ahead : ∀ (many : Nat) (ahead : List Int) (frm items : Nat), setsR many ahead frm items = (setsR many [] frm items).map (ahead ++ ·)
  | 0, ahead, _, _ => by simp [setsR]
  | many + 1, ahead, frm, items => by
    unfold setsR
    rw [List.map_flatMap]
    congr 1
    funext d
    rw [setsR_ahead many (ahead ++ [((frm + d : Nat) : Int)]), setsR_ahead many ([] ++ [((frm + d : Nat) : Int)]), List.map_map]
    apply List.map_congr_left
    intro y _
    simp
theorem setsR_cons (many frm items : Nat) : setsR (many + 1) [] frm items = (List.range (items - many - frm)).flatMap fun d => (setsR many [] (frm + d + 1) items).map (((frm + d : Nat) : Int) :: ·) := by
  show ((List.range (items - many - frm)).flatMap fun d => setsR many ([] ++ [((frm + d : Nat) : Int)]) (frm + d + 1) items) = _
  congr 1
  funext d
  rw [setsR_ahead many ([] ++ [((frm + d : Nat) : Int)])]
  rfl
theorem setsR_ris : ∀ (many frm items : Nat) (x : List Int), x ∈ setsR many [] frm items → risB ((frm : Int) - 1) x (items : Int) = true
  | 0, frm, items, x, h => by simp [setsR] at h; subst h; rfl
  | many + 1, frm, items, x, h => by
    rw [setsR_cons] at h
    obtain ⟨d, hd, hx⟩ := List.mem_flatMap.1 h
    obtain ⟨y, hy, rfl⟩ := List.mem_map.1 hx
    have ih := setsR_ris many (frm + d + 1) items y hy
    have hd' : d < items - many - frm := by simpa using hd
    simp only [risB, Bool.and_eq_true, Bool.not_eq_true', Bool.or_eq_false_iff, decide_eq_false_iff_not]
    refine ⟨⟨by omega, by omega⟩, ?_⟩
    have e : ((frm + d + 1 : Nat) : Int) - 1 = ((frm + d : Nat) : Int) := by omega
    rw [e] at ih; exact ih
theorem ris_room : ∀ (x : List Int) (a m : Int), risB a x m = true → a + 1 + (x.length : Int) ≤ m ∨ x = []
  | [], _, _, _ => .inr rfl
  | q :: x, a, m, h => by
    left
    simp only [risB, Bool.and_eq_true, Bool.not_eq_true', Bool.or_eq_false_iff, decide_eq_false_iff_not] at h
    rcases ris_room x q m h.2 with h1 | h1
    · simp; omega
    · subst h1; simp; omega
theorem setsR_all : ∀ (x : List Int) (frm items : Nat), risB ((frm : Int) - 1) x (items : Int) = true → x ∈ setsR x.length [] frm items
  | [], _, _, _ => by simp [setsR]
  | q :: x, frm, items, h => by
    have hroom := ris_room _ _ _ h
    simp only [risB, Bool.and_eq_true, Bool.not_eq_true', Bool.or_eq_false_iff, decide_eq_false_iff_not] at h
    obtain ⟨d, hd⟩ : ∃ d : Nat, q = ((frm + d : Nat) : Int) := ⟨(q - frm).toNat, by omega⟩
    subst hd
    rw [List.length_cons, setsR_cons, List.mem_flatMap]
    have e : ((frm + d : Nat) : Int) = ((frm + d + 1 : Nat) : Int) - 1 := by omega
    have h2 := h.2
    rw [e] at h2
    refine ⟨d, ?_, List.mem_map.2 ⟨x, setsR_all x (frm + d + 1) items h2, rfl⟩⟩
    rw [List.mem_range]
    rcases ris_room _ _ _ h.2 with h3 | h3
    · omega
    · subst h3; simp; omega
/-- Does one list stand ahead of another that is as long? -/
def lexB : List Int → List Int → Bool
  | a :: x, b :: y => if a = b then lexB x y else decide (a < b)
  | _, _ => false
theorem lexB_self : ∀ x : List Int, lexB x x = false
  | [] => rfl
  | a :: x => by simp [lexB, lexB_self x]
theorem setsR_sort : ∀ (many frm items : Nat), (setsR many [] frm items).Pairwise (fun a b => lexB b a = false)
  | 0, _, _ => by simp [setsR]
  | many + 1, frm, items => by
    rw [setsR_cons, List.pairwise_flatMap]
    constructor
    · intro d _
      rw [List.pairwise_map]
      refine (setsR_sort many (frm + d + 1) items).imp ?_
      intro a b h
      simp [lexB, h]
    · refine List.pairwise_lt_range.imp ?_
      intro d e hde x hx y hy
      obtain ⟨x', _, rfl⟩ := List.mem_map.1 hx
      obtain ⟨y', _, rfl⟩ := List.mem_map.1 hy
      have h1 : ¬ ((frm + e : Nat) : Int) = ((frm + d : Nat) : Int) := by omega
      simp only [lexB]
      rw [if_neg h1]
      exact decide_eq_false (by omega)
section few
variable {R : Nat → Nat → Bool} {m nn : Nat} {sl : List Int}
theorem fewUp_none {k : Nat} (h : fewUp R nn sl k = none) {x : List Int} (hx : risB (-1) x (nn : Int) = true) (hl : x.length = k) : fewB R nn sl x = false := by
  unfold fewUp at h
  rw [List.find?_eq_none] at h
  have hm := setsR_all x 0 nn (by simpa using hx)
  rw [hl] at hm
  have := h x hm
  simpa using this
theorem fewUp_some {k : Nat} {l : List Int} (h : fewUp R nn sl k = some l) : l.length = k ∧ risB (-1) l (nn : Int) = true ∧ fewB R nn sl l = true ∧ ∀ x, risB (-1) x (nn : Int) = true → x.length = k → lexB x l = true → fewB R nn sl x = false := by
  unfold fewUp at h
  have hm := List.mem_of_find?_eq_some h
  have h1 := setsR_len k [] 0 nn l hm
  have h2 := setsR_ris k 0 nn l hm
  refine ⟨by simpa using h1, by simpa using h2, List.find?_some h, fun x hx hl hlex => ?_⟩
  obtain ⟨_, pr, bs, hL, has⟩ := List.find?_eq_some_iff_append.1 h
  have hxm := setsR_all x 0 nn (by simpa using hx)
  rw [hl] at hxm
  have hsort := setsR_sort k 0 nn
  rw [hL] at hxm hsort
  rcases List.mem_append.1 hxm with h3 | h3
  · have := has x h3; simpa using this
  · rcases List.mem_cons.1 h3 with rfl | h3
    · rw [lexB_self] at hlex; cases hlex
    · have h4 := (List.pairwise_append.1 hsort).2.1
      have h5 := (List.pairwise_cons.1 h4).1 x h3
      rw [h5] at hlex; cases hlex
theorem fewTo_noneAll : ∀ {k : Nat}, fewTo R nn sl k = none → ∀ x, risB (-1) x (nn : Int) = true → x.length < k → fewB R nn sl x = false
  | k + 1, h, x, hx, hl => by
    cases h0 : fewTo R nn sl k with
    | some l => simp only [fewTo, h0] at h; cases h
    | none =>
      simp only [fewTo, h0] at h
      by_cases e : x.length = k
      · exact fewUp_none h hx e
      · exact fewTo_noneAll h0 x hx (by omega)
theorem fewTo_first : ∀ {k : Nat} {l : List Int}, fewTo R nn sl k = some l → risB (-1) l (nn : Int) = true ∧ fewB R nn sl l = true ∧ (∀ x, risB (-1) x (nn : Int) = true → x.length < l.length → fewB R nn sl x = false) ∧ ∀ x, risB (-1) x (nn : Int) = true → x.length = l.length → lexB x l = true → fewB R nn sl x = false
  | k + 1, l, h => by
    cases h0 : fewTo R nn sl k with
    | some l' =>
      simp only [fewTo, h0] at h
      cases h
      exact fewTo_first h0
    | none =>
      simp only [fewTo, h0] at h
      obtain ⟨h1, h2, h3, h4⟩ := fewUp_some h
      exact ⟨h2, h3, fun x hx hl => fewTo_noneAll h0 x hx (by omega), fun x hx hl => h4 x hx (by omega)⟩
theorem few_all (h : fewTo R nn sl (nn + 1) = none) {x : List Int} (hx : risB (-1) x (nn : Int) = true) : fewB R nn sl x = false :=
  fewTo_noneAll h x hx (by have := ris_len hx; omega)
/-! ### Hall -/
theorem wantB_iff {l : List Int} {i : Nat} : wantB R nn l i = true ↔ ∀ k, k < nn → R i k = true → l.contains (k : Int) = true := by
  unfold wantB
  rw [Bool.not_eq_true', List.any_eq_false]
  constructor
  · intro h k hk hR
    have := h (k : Int) (List.contains_iff_mem.1 ((rowL_has nn (R i) (k : Int)).2 ⟨k, hk, hR, rfl⟩))
    simpa using this
  · intro h q hq
    obtain ⟨k, hk, hR, rfl⟩ := (rowL_has nn (R i) q).1 (List.contains_iff_mem.2 hq)
    have h9 := h k hk hR
    rw [h9]; simp
theorem filt_cnt (p : Nat → Bool) : ∀ (m : Nat) (s : Nat → Bool), ((rowL m s).filter fun q => p q.toNat).length = cnt (fun i => s i && p i) m
  | 0, s => rfl
  | m + 1, s => by
    rw [rowL_step, List.filter_append, List.length_append, filt_cnt p m s]
    show _ = cnt (fun i => s i && p i) m + (if (s m && p m) = true then 1 else 0)
    congr 1
    cases hs : s m <;> cases hp : p m <;> simp [hp]
theorem withN_cnt (hs : risB (-1) sl (m : Int) = true) (l : List Int) : withN R nn sl l = cnt (fun i => sl.contains (i : Int) && wantB R nn l i) m := by
  unfold withN
  have h := ris_rowL hs
  conv => lhs; rw [h]
  exact filt_cnt (wantB R nn l) m _
theorem ris_cnt {l : List Int} (h : risB (-1) l (nn : Int) = true) : cnt (fun k => l.contains (k : Int)) nn = l.length := cnt_some h
/-- Where all can have one no set is too few. -/
theorem all_noFew (hn : nn ≤ 8) (hs : risB (-1) sl (m : Int) = true) (h : rkm (Rsome sl R) m nn = sl.length) {l : List Int} (hl : risB (-1) l (nn : Int) = true) : fewB R nn sl l = false := by
  have h1 := rkm_hall (R := R) (m := m) hn (fun i => sl.contains (i : Int))
  rw [cnt_some hs] at h1
  have h2 := h1.2.1 h (fun i => sl.contains (i : Int) && wantB R nn l i) (fun i hi => by simp only [Bool.and_eq_true] at hi; exact hi.1)
  have h3 : cnt (nb R m (fun i => sl.contains (i : Int) && wantB R nn l i)) nn ≤ cnt (fun k => l.contains (k : Int)) nn := cnt_le nn fun k hk hb => by
    obtain ⟨i, _, hi, hR⟩ := nb_iff.1 hb
    simp only [Bool.and_eq_true] at hi
    exact wantB_iff.1 hi.2 k hk hR
  rw [ris_cnt hl] at h3
  unfold fewB
  rw [withN_cnt hs]
  exact decide_eq_false (by omega)
/-- Where not all can there are some. -/
theorem noAll_few (hn : nn ≤ 8) (hs : risB (-1) sl (m : Int) = true) (h : rkm (Rsome sl R) m nn ≠ sl.length) : ∃ l, risB (-1) l (nn : Int) = true ∧ fewB R nn sl l = true := by
  have h1 := rkm_hall (R := R) (m := m) hn (fun i => sl.contains (i : Int))
  rw [cnt_some hs] at h1
  by_cases hh : ∀ S : Nat → Bool, (∀ i, S i = true → sl.contains (i : Int) = true) → cnt S m ≤ cnt (nb R m S) nn
  · exact absurd (h1.2.2 hh) h
  · simp only [Classical.not_forall] at hh
    obtain ⟨S, hS, hc⟩ := hh
    refine ⟨rowL nn (nb R m S), ris_of hn _, ?_⟩
    have h3 : cnt S m ≤ cnt (fun i => sl.contains (i : Int) && wantB R nn (rowL nn (nb R m S)) i) m := cnt_le m fun i hi hSi => by
      simp only [Bool.and_eq_true]
      refine ⟨hS i hSi, wantB_iff.2 fun k hk hR => (rowL_has nn _ _).2 ⟨k, hk, nb_iff.2 ⟨i, hi, hSi, hR⟩, rfl⟩⟩
    unfold fewB
    rw [withN_cnt hs, rowL_cnt]
    exact decide_eq_true (by omega)
theorem few_iff (hn : nn ≤ 8) (hs : risB (-1) sl (m : Int) = true) : fewTo R nn sl (nn + 1) = none ↔ rkm (Rsome sl R) m nn = sl.length := by
  constructor
  · intro h
    apply Classical.byContradiction
    intro h2
    obtain ⟨l, h3, h4⟩ := noAll_few hn hs h2
    rw [few_all h h3] at h4; cases h4
  · intro h
    cases hf : fewTo R nn sl (nn + 1) with
    | none => rfl
    | some l =>
      obtain ⟨h1, h2, _⟩ := fewTo_first hf
      rw [all_noFew hn hs h h1] at h2; cases h2
theorem fewR_eq (hn : nn ≤ 8) (hs : risB (-1) sl (m : Int) = true) : fewR R m nn sl = fewTo R nn sl (nn + 1) := by
  unfold fewR
  by_cases h : rkm (Rsome sl R) m nn = sl.length
  · rw [if_pos h, (few_iff hn hs).2 h]
  · rw [if_neg h]
end few
end Go.Proofs.YtifbgpkjbciblaaGreatDoor.Sal
end
section
/- salesroomlaw09.has, within, alive. -/
set_option maxRecDepth 100000
namespace Go.Proofs.YtifbgpkjbciblaaGreatDoor.Sal
open Go.RowKit
def wJ (R : Nat → Nat → Bool) (nn : Nat) (l : List Int) (p j : Nat) : Bool := !(((rowL nn (R p)).take j).any fun k => !l.contains k)
theorem wJ_succ {R : Nat → Nat → Bool} {nn : Nat} {l : List Int} {p j : Nat} (h : j < (rowL nn (R p)).length) : wJ R nn l p (j + 1) = (wJ R nn l p j && l.contains ((rowL nn (R p)).getD j 0)) := by
  unfold wJ
  rw [any_take_succ _ _ j 0 h]
  cases ((rowL nn (R p)).take j).any fun k => !l.contains k <;> simp
theorem wJ_all {R : Nat → Nat → Bool} {nn : Nat} {l : List Int} {p j : Nat} (h : ¬ j < (rowL nn (R p)).length) : wJ R nn l p j = wantB R nn l p := by
  unfold wJ wantB
  rw [List.take_of_length_le (by omega)]
attribute [local irreducible] Go.Code.wpIn Go.wpListIn Ct Ints Rows Sl At Rw WJ
set_option linter.all false
theorem Few_none {R : Nat → Nat → Bool} {m nn : Nat} (hm : m ≤ 8) (hn : nn ≤ 8) (gv : Value) (sv' : Value) (sl : List Int) (w : World) (hg : Rows w gv (gL R m nn)) (hs : Ints w sv' sl) (hris : risB (-1) sl (m : Int) = true) (h : fewR R m nn sl = none) :
    Ct Tryz.prog 19 #[gv, .int .i64 (nn : Int), sv'] w fun u w' => u = .tuple #[.slice none 0 0, .bool false, .int .i64 0] ∧ Ex w w' :=
  (Few_ok hm hn gv sv' sl w hg hs hris).mono fun u w' ⟨hx, hr⟩ => by
    rcases hr with ⟨_, hu⟩ | ⟨l, v, a, h2, _⟩
    · exact ⟨hu, hx⟩
    · rw [h] at h2; cases h2
theorem Few_some {R : Nat → Nat → Bool} {m nn : Nat} (hm : m ≤ 8) (hn : nn ≤ 8) (gv : Value) (sv' : Value) (sl l : List Int) (w : World) (hg : Rows w gv (gL R m nn)) (hs : Ints w sv' sl) (hris : risB (-1) sl (m : Int) = true) (h : fewR R m nn sl = some l) :
    Ct Tryz.prog 19 #[gv, .int .i64 (nn : Int), sv'] w fun u w' => ∃ v a, u = .tuple #[v, .bool true, .int .i64 0] ∧ v = .slice a l.length l.length ∧ (∀ b, v.ownBlock = some b → w.heap.size ≤ b) ∧ Ints w' v l ∧ Ex w w' :=
  (Few_ok hm hn gv sv' sl w hg hs hris).mono fun u w' ⟨hx, hr⟩ => by
    rcases hr with ⟨h2, _⟩ | ⟨l', v, a, h2, h3, h4, h5, h6⟩
    · rw [h] at h2; cases h2
    · rw [h] at h2; cases h2
      exact ⟨v, a, h3, h4, h5, h6, hx⟩
end Go.Proofs.YtifbgpkjbciblaaGreatDoor.Sal
end
section
/- Plain: what the laws of the halls say. -/
set_option maxRecDepth 100000
namespace Go.Proofs.YtifbgpkjbciblaaGreatDoor.Sal
set_option linter.all false
theorem mem_getD {l : List Int} {q : Int} : q ∈ l ↔ ∃ j, j < l.length ∧ l.getD j 0 = q := by
  constructor
  · intro h
    obtain ⟨j, hj⟩ := List.mem_iff_getElem?.1 h
    have h1 := (List.getElem?_eq_some_iff.1 hj).1
    exact ⟨j, h1, by rw [List.getD_eq_getElem?_getD, hj]; rfl⟩
  · rintro ⟨j, hj, rfl⟩
    rw [List.getD_eq_getElem?_getD, List.getElem?_eq_getElem hj]
    exact List.getElem_mem hj
section
variable {R : Nat → Nat → Bool} {m nn : Nat} {sl : List Int}
end
theorem few_first {R : Nat → Nat → Bool} {m nn : Nat} {sl l : List Int} (hn : nn ≤ 8) (hs : risB (-1) sl (m : Int) = true) (h : fewR R m nn sl = some l) : risB (-1) l (nn : Int) = true ∧ l.length < (sl.filter fun q => wantB R nn l q.toNat).length := by
  rw [fewR_eq hn hs] at h
  have h2 := fewTo_first h
  exact ⟨h2.1, of_decide_eq_true h2.2.1⟩
end Go.Proofs.YtifbgpkjbciblaaGreatDoor.Sal
end
section
/- demands.may, gains, Of. -/
set_option maxRecDepth 100000
namespace Go.Proofs.YtifbgpkjbciblaaGreatDoor.Sal
open Go.RowKit
def badP (n : Int) : Bool := decide (n < 0) || decide (2000000 < n)
def mayD (prices : List Int) (items : Int) : Bool := decide (1 ≤ items) && decide (items ≤ 8) && decide ((prices.length : Int) = items) && !(prices.any badP)
/-- One item asked: what is liked best so far, and how much is gained by it. -/
def stepD (s : List Int × Int) (x : Nat × Int) : List Int × Int := if s.2 < x.2 then ([(x.1 : Int)], x.2) else if x.2 = s.2 then (s.1 ++ [(x.1 : Int)], s.2) else s
def foldD (l : List (Nat × Int)) : List Int × Int := l.foldl stepD ([], 0)
theorem foldD_snoc (l : List (Nat × Int)) (x : Nat × Int) : foldD (l ++ [x]) = stepD (foldD l) x := by simp [foldD]
theorem stepD_len (s : List Int × Int) (x : Nat × Int) : (stepD s x).1.length ≤ s.1.length + 1 := by
  unfold stepD
  split
  · simp
  · split
    · simp
    · simp
theorem foldl_stepD_len : ∀ (l : List (Nat × Int)) (s : List Int × Int), (l.foldl stepD s).1.length ≤ s.1.length + l.length
  | [], s => by simp
  | x :: l, s => by
    have h1 := foldl_stepD_len l (stepD s x)
    have h2 := stepD_len s x
    rw [List.foldl_cons, List.length_cons]; omega
theorem foldD_len (l : List (Nat × Int)) : (foldD l).1.length ≤ l.length := by
  have := foldl_stepD_len l ([], 0)
  unfold foldD; simpa using this
def gpr (bid prices : List Int) (i : Nat) : List (Nat × Int) := (List.range i).map fun k => (k, bid.getD k 0 - prices.getD k 0)
theorem gpr_succ (bid prices : List Int) (i : Nat) : gpr bid prices (i + 1) = gpr bid prices i ++ [(i, bid.getD i 0 - prices.getD i 0)] := by simp [gpr, List.range_succ]
theorem gpr_len (bid prices : List Int) (i : Nat) : (gpr bid prices i).length = i := by simp [gpr]
def encG (x : Nat × Int) : Array Value := #[.int .i64 (x.1 : Int), .int .i64 x.2]
/-- What the iterator over gains reads. -/
def GSr (c1 c2 : Nat) (bv pv : Value) (bid prices : List Int) (W : World) : Prop := (W.cell? ⟨c1, 0, none⟩ = some bv ∧ Ints W bv bid) ∧ W.cell? ⟨c2, 0, none⟩ = some pv ∧ Ints W pv prices
theorem GSr.kc {c1 c2 : Nat} {bv pv : Value} {bid prices : List Int} {w w' : World} (h : GSr c1 c2 bv pv bid prices w) (hk : KC w w') : GSr c1 c2 bv pv bid prices w' := ⟨⟨hk.1 _ _ h.1.1, hk.ints h.1.2⟩, hk.1 _ _ h.2.1, hk.ints h.2.2⟩
attribute [local irreducible] Go.Code.wpIn Go.wpListIn Ct Ints Rows Sl At Rw WJ
set_option linter.all false
theorem ok_dmay : CallOK Tryz.prog 135 := callOK Tryz.func135 (by kernel_rfl) rfl
theorem ok_dmay1 : CallOK Tryz.prog 143 := callOK Tryz.func143 (by kernel_rfl) rfl
theorem ok_gains : CallOK Tryz.prog 145 := callOK Tryz.func145 (by kernel_rfl) rfl
theorem ok_gains1 : CallOK Tryz.prog 148 := callOK Tryz.func148 (by kernel_rfl) rfl
theorem ok_Of : CallOK Tryz.prog 136 := callOK Tryz.func136 (by kernel_rfl) rfl
theorem ok_Of1 : CallOK Tryz.prog 144 := callOK Tryz.func144 (by kernel_rfl) rfl
theorem dmay1_ct (x : Int) (w : World) : Ct Tryz.prog 143 #[.int .i64 x] w fun v w' => v = .bool (badP x) ∧ Ex w w' := by
  refine enter (N := 9) (vs := [.int .i64 x]) Tryz.func143 rfl rfl rfl ?_
  by_cases h1 : x < 0
  · repeat (first | (refine isO ?_; first | refine s_move ?_ | refine s_assign ?_ | (refine isG ?_; refine g_no rfl rfl rfl ?_) | (refine isBin ?_; refine s_lssT rfl rfl (by omega) ?_) | (refine isPick ?_; refine s_pickt rfl rfl ?_)) | (refine isC ?_; first | refine c_sr ?_ | refine c_ret ?_) | (refine l_th ?_))
    exact ret1 rfl rfl ⟨vbool (by unfold badP; rw [decide_eq_true h1]; rfl), Ex.refl _⟩
  · repeat (first | (refine isO ?_; first | refine s_move ?_ | refine s_assign ?_ | (refine isG ?_; refine g_yes rfl rfl ?_) | (refine isBin ?_; first | refine s_lssF rfl rfl (by omega) ?_ | refine s_gtr rfl rfl ?_) | (refine isPick ?_; refine s_pickf rfl rfl ?_)) | (refine isC ?_; first | refine c_sr ?_ | refine c_ret ?_) | (refine l_th ?_))
    exact ret1 rfl rfl ⟨vbool (by unfold badP; rw [decide_eq_false h1]; rfl), Ex.refl _⟩
theorem dmay_ct (v : Value) (prices : List Int) (items : Int) (w : World) (hl : Ints w v prices) :
    Ct Tryz.prog 135 #[v, .int .i64 items] w fun u w' => u = .bool (mayD prices items) ∧ Ex w w' := by
  have hlen := hl.len
  refine enter (N := 22) (vs := [v, .int .i64 items]) Tryz.func135 rfl rfl rfl ?_
  by_cases h1 : 1 ≤ items
  · by_cases h2 : items ≤ 8
    · by_cases h3 : (prices.length : Int) = items
      · repeat (first | (refine isO ?_; first | refine s_move ?_ | refine s_assign ?_ | (refine isG ?_; refine g_yes rfl rfl ?_) | (refine isBin ?_; first | refine s_eqlT rfl rfl (by omega) ?_ | refine s_leqT rfl rfl (by omega) ?_ | refine s_geqT rfl rfl (by omega) ?_) | (refine isCall ?_; refine s_lenI sl_ints rfl (by assumption) ?_) | (refine isPick ?_; refine s_pickt rfl rfl ?_)) | (refine isC ?_; refine c_sr ?_) | (refine l_th ?_))
        refine s_call ok_cfI rfl (cfI_ct v prices 143 [] badP w hl ⟨ok_dmay1, fun x w1 _ => dmay1_ct x w1⟩) ?_
        rintro u w2 ⟨rfl, hx2⟩
        repeat (first | (refine isO ?_; first | refine s_assign ?_ | (refine isG ?_; refine g_yes rfl rfl ?_) | (refine isPick ?_; refine s_pickt rfl rfl ?_) | refine s_not rfl ?_) | (refine isC ?_; refine c_ret ?_) | (refine l_th ?_))
        exact ret1 rfl rfl ⟨vbool (by unfold mayD; rw [decide_eq_true h1, decide_eq_true h2, decide_eq_true h3]; rfl), hx2⟩
      · repeat (first | (refine isO ?_; first | refine s_move ?_ | refine s_assign ?_ | (refine isG ?_; first | refine g_yes rfl rfl ?_ | refine g_no rfl rfl rfl ?_) | (refine isBin ?_; first | refine s_eqlF rfl rfl (by omega) ?_ | refine s_leqT rfl rfl (by omega) ?_ | refine s_geqT rfl rfl (by omega) ?_) | (refine isCall ?_; refine s_lenI sl_ints rfl (by assumption) ?_) | (refine isPick ?_; first | refine s_pickt rfl rfl ?_ | refine s_pickf rfl rfl ?_)) | (refine isC ?_; first | refine c_sr ?_ | refine c_ret ?_) | (refine l_th ?_))
        exact ret1 rfl rfl ⟨vbool (by unfold mayD; rw [decide_eq_false h3]; simp), Ex.refl _⟩
    · repeat (first | (refine isO ?_; first | refine s_move ?_ | refine s_assign ?_ | (refine isG ?_; first | refine g_yes rfl rfl ?_ | refine g_no rfl rfl rfl ?_) | (refine isBin ?_; first | refine s_leqF rfl rfl (by omega) ?_ | refine s_geqT rfl rfl (by omega) ?_) | (refine isPick ?_; first | refine s_pickt rfl rfl ?_ | refine s_pickf rfl rfl ?_)) | (refine isC ?_; first | refine c_sr ?_ | refine c_ret ?_) | (refine l_th ?_))
      exact ret1 rfl rfl ⟨vbool (by unfold mayD; rw [decide_eq_false h2]; simp), Ex.refl _⟩
  · repeat (first | (refine isO ?_; first | refine s_move ?_ | refine s_assign ?_ | (refine isG ?_; refine g_no rfl rfl rfl ?_) | (refine isBin ?_; refine s_geqF rfl rfl (by omega) ?_) | (refine isPick ?_; refine s_pickf rfl rfl ?_)) | (refine isC ?_; first | refine c_sr ?_ | refine c_ret ?_) | (refine l_th ?_))
    exact ret1 rfl rfl ⟨vbool (by unfold mayD; rw [decide_eq_false h1]; rfl), Ex.refl _⟩
theorem gains_ct (bv pv : Value) (bid prices : List Int) (w : World) (hb : Ints w bv bid) (hp : Ints w pv prices) :
    Ct Tryz.prog 145 #[bv, pv] w fun u w' => ∃ c1 c2, u = .func (.func 148) #[] #[.pointer (some ⟨c1, 0, none⟩), .pointer (some ⟨c2, 0, none⟩)] ∧ w.heap.size ≤ c1 ∧ w.heap.size ≤ c2 ∧ GSr c1 c2 bv pv bid prices w' ∧ Ex w w' := by
  obtain ⟨a1, k1, hf1⟩ := hb.form
  obtain ⟨a2, k2, hf2⟩ := hp.form
  refine enter (N := 6) (vs := [bv, pv]) Tryz.func145 rfl rfl rfl ?_
  repeat ((refine isC ?_; refine c_sr ?_))
  refine s_box (cs := [bv]) rfl (by rw [hf1]; rfl) ?_
  intro c1 w1 hc1 hA1 hx1 hs1
  refine s_box (cs := [pv]) rfl (by rw [hf2]; rfl) ?_
  intro c2 w2 hc2 hA2 hx2 hs2
  have hx02 := hx1.trans hx2
  have z1 := hx1.size
  repeat (first | (refine isO ?_; refine s_assign ?_) | (refine isC ?_; refine c_sr ?_) | (refine l_th ?_))
  refine s_mkfn (vs := [.pointer (some ⟨c1, 0, none⟩), .pointer (some ⟨c2, 0, none⟩)]) rfl ?_
  repeat (first | (refine isO ?_; refine s_assign ?_) | (refine isC ?_; refine c_ret ?_) | (refine l_th ?_))
  exact ret1 rfl rfl ⟨c1, c2, rfl, by omega, by omega, ⟨⟨by rw [(hA1.ex hx2).cell]; rfl, hb.ex hx02⟩, by rw [hA2.cell]; rfl, hp.ex hx02⟩, hx02⟩
set_option maxHeartbeats 1000000 in
theorem gains_stops {bid prices : List Int} (hlen : bid.length ≤ 8) (hle : bid.length ≤ prices.length) (hbb : ∀ k, -10000000 ≤ bid.getD k 0 ∧ bid.getD k 0 ≤ 10000000) (hpb : ∀ k, -10000000 ≤ prices.getD k 0 ∧ prices.getD k 0 ≤ 10000000) {c1 c2 : Nat} {bv pv : Value} {w : World} (hS : GSr c1 c2 bv pv bid prices w) :
    SeqStopsK Fence.wide 0 Tryz.prog 148 [Value.pointer (some ⟨c1, 0, none⟩), Value.pointer (some ⟨c2, 0, none⟩)].toArray encG (fun W W' => GSr c1 c2 bv pv bid prices W → GSr c1 c2 bv pv bid prices W') (fun ys => ys = gpr bid prices bid.length) (fun _ => True) 100 w := by
  intro l J Jx W hW hJ hJx hY h0
  have hS0 : GSr c1 c2 bv pv bid prices W := hS.kc (KC.ex hW)
  have key : Ct Tryz.prog 148 [Value.func (.yield l) #[] #[], .pointer (some ⟨c1, 0, none⟩), .pointer (some ⟨c2, 0, none⟩)].toArray W (fun _ W' => (∃ xs, xs = gpr bid prices bid.length ∧ J xs W') ∨ (∃ pre : List (Nat × Int), True ∧ Jx pre W')) := by
    refine enter (N := 24) (vs := [.func (.yield l) #[] #[], .pointer (some ⟨c1, 0, none⟩), .pointer (some ⟨c2, 0, none⟩)]) Tryz.func148 rfl rfl rfl ?_
    have hc0 := hS0.1.1
    have hs0 := hS0.1.2
    repeat ((refine isC ?_; refine c_sr ?_))
    refine s_ld ty_ints rfl hc0 ?_
    repeat (first | (refine isO ?_; first | refine s_move ?_ | (refine isCall ?_; refine s_lenI sl_ints rfl (by assumption) ?_)) | (refine isC ?_; refine c_block ?_) | (refine l_th ?_))
    refine c_loop (γ := Nat) 16777008 (fun i => [(8, .int .i64 (i : Int))]) (fun i w' => i ≤ bid.length ∧ J (gpr bid prices i) w' ∧ GSr c1 c2 bv pv bid prices w') (fun i => bid.length - i) 0 ⟨rfl, trivial⟩ ⟨Nat.zero_le _, h0, hS0⟩ ?_
    rintro i ρ w1 ⟨hi, hj1, hS1⟩
    have hb1 := hS1.1.2
    have hp1 := hS1.2.2
    have hcp := hS1.2.1
    repeat (first | (refine isO ?_; (refine isBin ?_; refine s_lss rfl rfl ?_)) | (refine isC ?_; first | refine c_sr ?_ | refine c_seq ?_) | (refine l_th ?_))
    refine c_ifd rfl (fun h => ?_) (fun h => ?_)
    · have hi' : i < bid.length := by omega
      have hip : i < prices.length := by omega
      have b1 := hbb i
      have b2 := hpb i
      have hl := gpr_len bid prices i
      have hYn := hY (gpr bid prices i) (i, bid.getD i 0 - prices.getD i 0) w1 hj1 (by rw [hl]; omega)
      have henc : encG (i, bid.getD i 0 - prices.getD i 0) = [Value.int .i64 (i : Int), Value.int .i64 (bid.getD i 0 - prices.getD i 0)].toArray := rfl
      rw [henc, ← gpr_succ] at hYn
      repeat (first | (refine isO ?_; first | refine s_move ?_ | refine s_assign ?_ | (refine isIA ?_; refine s_ixI sl_ints ty_int rfl rfl rfl (by assumption) (by omega) ?_; intro _)) | (refine isC ?_; first | refine c_sr ?_ | refine c_th ?_ | refine c_seq ?_ | refine c_block ?_) | (refine l_th ?_))
      refine s_ld ty_ints rfl hcp ?_
      repeat ((refine isO ?_; first | refine s_move ?_ | (refine isBin ?_; refine s_sub rfl rfl ⟨by omega, by omega⟩ ?_) | (refine isIA ?_; refine s_ixI sl_ints ty_int rfl rfl rfl (by assumption) (by omega) ?_; intro _)))
      refine s_yield (vs := [.int .i64 (i : Int), .int .i64 (bid.getD i 0 - prices.getD i 0)]) rfl rfl hYn ?_
      rintro e w3 (⟨rfl, hj3, hk3⟩ | ⟨rfl, hjx⟩)
      · refine ⟨_, rfl, ?_⟩
        have hS3 := hk3 hS1
        repeat (first | (refine isO ?_; first | refine s_move ?_ | (refine isBin ?_; refine s_inc rfl (by omega) ?_) | refine s_not rfl ?_) | (refine isC ?_; first | refine c_region ?_ | refine c_iff rfl ?_ | refine c_skip ?_) | (refine l_th ?_))
        exact loop_end (i + 1) (by (repeat (first | exact agree_refl _ _ | refine agree_upd rfl ?_ | refine agree_ext rfl ?_ | refine agree_mask rfl ?_))) ⟨rfl, trivial⟩ ⟨hi', hj3, hS3⟩ (by omega)
      · refine ⟨_, rfl, ?_⟩
        repeat (first | (refine isO ?_; refine s_not rfl ?_) | (refine isC ?_; first | refine c_ift rfl ?_ | refine c_ret ?_) | (first | refine l_th ?_ | refine th_ret ?_ | refine ib_ret ?_))
        exact ret0 rfl (.inr ⟨_, trivial, hjx⟩)
    · have hie : i = bid.length := by omega
      subst hie
      repeat (first | (refine isC ?_; refine c_exit ?_) | (first | refine ib_exit ?_ | refine th_exit ?_))
      exact end0 rfl (.inl ⟨_, rfl, hj1⟩)
  have e0 : (#[Value.func (.yield l) #[] #[]] ++ [Value.pointer (some ⟨c1, 0, none⟩), Value.pointer (some ⟨c2, 0, none⟩)].toArray : Array Value) = [Value.func (.yield l) #[] #[], .pointer (some ⟨c1, 0, none⟩), .pointer (some ⟨c2, 0, none⟩)].toArray := by simp
  rw [e0]
  refine CallsIn.mono key.callsIn ?_
  rintro e W' ⟨v, rfl, h⟩
  exact ⟨⟨v, rfl⟩, h⟩
end Go.Proofs.YtifbgpkjbciblaaGreatDoor.Sal
end
section
/- demands.Of. -/
set_option maxRecDepth 100000
namespace Go.Proofs.YtifbgpkjbciblaaGreatDoor.Sal
open Go.RowKit
/-- What lies in memory between two items. -/
def OfJ (base c1 c2 b4 b5 b6 : Nat) (bv pv : Value) (bid prices : List Int) (pre : List (Nat × Int)) (W : World) : Prop :=
  GSr c1 c2 bv pv bid prices W ∧ ∃ v, At W b4 25 [v] ∧ At W b5 4 [.bool false] ∧ At W b6 3 [.int .i64 (foldD pre).2] ∧ Rw W 3 v ((foldD pre).1.map (Value.int .i64)) ∧ ∀ b, v.ownBlock = some b → base ≤ b
theorem OfJ.own {base c1 c2 b4 b5 b6 : Nat} {bv pv : Value} {bid prices : List Int} : Own (OfJ base c1 c2 b4 b5 b6 bv pv bid prices) := by
  intro pre A B row hs hg hr
  have hk := KC.turn hg hr
  obtain ⟨h1, v, h2, h3, h4, h5, h6⟩ := hs
  exact ⟨h1.kc hk, v, hk.at h2, hk.at h3, hk.at h4, Rw.own (β := Unit) () A B row h5 hg hr, h6⟩
theorem bd_of {l : List Int} {lo hi : Int} (h0 : lo ≤ 0) (h1 : 0 ≤ hi) (h : ∀ x ∈ l, lo ≤ x ∧ x ≤ hi) (k : Nat) : lo ≤ l.getD k 0 ∧ l.getD k 0 ≤ hi := by
  rw [List.getD_eq_getElem?_getD]
  cases e : l[k]? with
  | none => exact ⟨h0, h1⟩
  | some x => exact h x (List.mem_of_getElem? e)
theorem bd_bid {bid : List Int} {items : Int} (h : badBid items bid = false) (k : Nat) : 0 ≤ bid.getD k 0 ∧ bid.getD k 0 ≤ 1000000 := by
  refine bd_of (by omega) (by omega) (fun x hx => ?_) k
  unfold badBid vecB at h
  have hlen : 0 < bid.length := List.length_pos_of_mem hx
  rw [decide_eq_true hlen, Bool.true_and, Bool.not_eq_false', Bool.and_eq_true, Bool.and_eq_true] at h
  have := List.all_eq_true.1 h.2 x hx
  unfold inM at this
  simpa using this
theorem bd_pr {prices : List Int} {items : Int} (h : mayD prices items = true) (k : Nat) : 0 ≤ prices.getD k 0 ∧ prices.getD k 0 ≤ 2000000 := by
  refine bd_of (by omega) (by omega) (fun x hx => ?_) k
  unfold mayD at h
  rw [Bool.and_eq_true] at h
  have h2 : prices.any badP = false := by simpa using h.2
  have h3 := (List.any_eq_false.1 h2) x hx
  unfold badP at h3
  simp at h3
  omega
theorem len_bid {bid : List Int} {items : Int} (h : badBid items bid = false) : bid.length = 0 ∨ ((bid.length : Int) = items) := by
  rcases Nat.eq_zero_or_pos bid.length with h0 | h0
  · exact .inl h0
  · unfold badBid vecB at h
    rw [decide_eq_true h0, Bool.true_and, Bool.not_eq_false', Bool.and_eq_true, Bool.and_eq_true] at h
    exact .inr (by simpa using h.1.2)
theorem len_pr {prices : List Int} {items : Int} (h : mayD prices items = true) : 1 ≤ items ∧ items ≤ 8 ∧ (prices.length : Int) = items := by
  unfold mayD at h
  simp only [Bool.and_eq_true, decide_eq_true_eq] at h
  exact ⟨h.1.1.1, h.1.1.2, h.1.2⟩
attribute [local irreducible] Go.Code.wpIn Go.wpListIn Ct Ints Rows Sl At Rw WJ
set_option linter.all false
theorem ret4d {P : Program} {fn : Func} {w : World} {R : Value → World → Prop} {N : Nat} {σ : Nat → Value} {D f : Nat} {caps : Array Value} {S : World → Prop} {a b c d : Nat} {ta tb tc : TypeId} {pa pb pc : Addr} {va vb vc vd : Value}
    (hres : fn.results = #[.cell a ta, .cell b tb, .cell c tc, .tmp d]) (ha : ev N σ (.tmp a) = .pointer (some pa)) (hb : ev N σ (.tmp b) = .pointer (some pb)) (hc : ev N σ (.tmp c) = .pointer (some pc)) (hd : ev N σ (.tmp d) = vd)
    (ea : Ty1 P ta) (eb : Ty1 P tb) (ec : Ty1 P tc) (hK : w.heap[D]? = some (.deferred (some []))) (eg : CallOK P f) (hC : CtD P f caps (w.putObj D (.deferred none)) S)
    (hR : ∀ w', S w' → w'.cell? pa = some va ∧ w'.cell? pb = some vb ∧ w'.cell? pc = some vc ∧ R (.tuple #[va, vb, vc, vd]) w') : Post P fn R .ret (mk N σ [mark D, dcall f caps]) w := by
  have key : LeavesInM (FW none) 0 P fn (mk N σ [mark D, dcall f caps]).tmps (RE R) [mark D, dcall f caps] .returning w := by
    refine leave_def (v := .tuple #[va, vb, vc, vd]) hK eg (by rw [Array.empty_append]; exact hC) fun w' hS => ?_
    obtain ⟨h1, h2, h3, h4⟩ := hR w' hS
    refine ⟨?_, h4⟩
    have := results_cells4 (P := P) (tmps := (mk N σ [mark D, dcall f caps]).tmps) hres (getD_mk' ha) (getD_mk' hb) (getD_mk' hc) ea eb ec h1 h2 h3
    rwa [getD_mk' hd] at this
  exact key
def clipV : Value → Value
  | .slice a n _ => .slice a n n
  | v => v
theorem clipV_own (v : Value) : (clipV v).ownBlock = v.ownBlock := by
  cases v <;> first | rfl | (rename_i a _ _; cases a <;> rfl)
/-- What the deferred call leaves. -/
def OfS (w0 : World) (b4 b5 b6 : Nat) (S0 : Nat) (v : Value) (items : List Int) (g : Int) (W : World) : Prop :=
  At W b4 25 [clipV v] ∧ At W b5 4 [.bool (decide (g = 0))] ∧ At W b6 3 [.int .i64 g] ∧ Ints W (clipV v) items ∧ S0 ≤ W.heap.size ∧ Ex w0 W
theorem Of1_ct (b4 b5 b6 : Nat) (v : Value) (items : List Int) (g : Int) (w0 w : World) (h4 : At w b4 25 [v]) (h5 : At w b5 4 [.bool false]) (h6 : At w b6 3 [.int .i64 g]) (hI : Ints w v items) (hown : ∀ b, v.ownBlock = some b → b ≠ b4 ∧ b ≠ b5) (hne : b4 ≠ b5 ∧ b4 ≠ b6 ∧ b5 ≠ b6) (hx0 : Ex w0 w) (hb4 : w0.heap.size ≤ b4) (hb5 : w0.heap.size ≤ b5) :
    CtD Tryz.prog 144 [.pointer (some ⟨b4, 0, none⟩), .pointer (some ⟨b6, 0, none⟩), .pointer (some ⟨b5, 0, none⟩)].toArray w (OfS w0 b4 b5 b6 w.heap.size v items g) := by
  obtain ⟨hne1, hne2, hne3⟩ := hne
  refine enterD (N := 7) (vs := [.pointer (some ⟨b4, 0, none⟩), .pointer (some ⟨b6, 0, none⟩), .pointer (some ⟨b5, 0, none⟩)]) Tryz.func144 rfl rfl rfl ?_
  refine c_drawO (Ex.refl w) 48 6 [(0, true), (2, true), (3, true), (1, false), (4, false), (5, false)] mixed (by kernel_rfl) ?_
  have hxd := Ex.drew w
  refine d_ldA rfl ty_ints rfl h4 rfl ?_
  refine d_ldA rfl ty_int rfl h6 rfl ?_
  refine d_eql rfl rfl rfl ?_
  refine d_ch rfl ?_
  refine s_call ok_Clip rfl (Clip_ct v items w.drew (hI.ex hxd)) ?_
  rintro u w1 ⟨⟨a', c', hv', rfl⟩, hI1, hx1⟩
  subst hv'
  have hx01 := hxd.trans hx1
  refine l_nil ⟨rfl, .inr hx01, ?_⟩
  have h41 := h4.ex hx01
  have h51 := h5.ex hx01
  have h61 := h6.ex hx01
  have hob : ∀ b, (Value.slice a' items.length items.length).ownBlock = some b → b ≠ b4 ∧ b ≠ b5 := fun b hb => hown b (by cases a' <;> exact hb)
  refine d_ch rfl ?_
  refine s_stA (n := 0) (u := .slice a' items.length items.length) ty_ints rfl rfl rfl h41 (by simp) ?_
  intro w2 h42 hg2
  have h52 := h51.grown hg2 (fun e => by cases e; exact hne1 rfl)
  have h62 := h61.grown hg2 (fun e => by cases e; exact hne2 rfl)
  have hI2 := hI1.kept hg2 (.inr fun e => (hob b4 e).1 rfl)
  refine l_nil ⟨rfl, .inl rfl, ?_⟩
  refine d_ch rfl ?_
  refine s_stA (n := 0) (u := .bool (decide (g = 0))) ty_bl rfl rfl rfl h52 (by simp) ?_
  intro w3 h53 hg3
  have h43 : At w3 b4 25 [.slice a' items.length items.length] := At.grown h42 hg3 (fun e => by cases e; exact hne1 rfl)
  have h63 := h62.grown hg3 (fun e => by cases e; exact hne3 rfl)
  have hI3 := hI2.kept hg3 (.inr fun e => (hob b5 e).2 rfl)
  refine l_nil ⟨rfl, .inl rfl, ?_⟩
  refine d_nil ?_
  exact endD rfl ⟨h43, h53, h63, hI3, by have := hx01.size; have := hg2.size; have := hg3.size; omega, ((hx0.trans hx01).store hg2 hb4).store hg3 hb5⟩
set_option maxHeartbeats 4000000 in
theorem Of_ct (bv pv : Value) (bid prices : List Int) (w : World) (hb : Ints w bv bid) (hp : Ints w pv prices) (hm : mayD prices prices.length = true) (hbad : badBid prices.length bid = false) :
    Ct Tryz.prog 136 #[bv, pv] w fun u w' => ∃ v, u = .tuple #[v, .bool (decide ((foldD (gpr bid prices bid.length)).2 = 0)), .int .i64 (foldD (gpr bid prices bid.length)).2, .int .i64 0] ∧ Ints w' v (foldD (gpr bid prices bid.length)).1 ∧ (∀ b, v.ownBlock = some b → w.heap.size ≤ b ∧ b < w'.heap.size) ∧ Ex w w' := by
  have hbl := hb.len
  have hpl := hp.len
  have hbb := bd_bid hbad
  have hpb := bd_pr hm
  have hlp := len_pr hm
  have hlb := len_bid hbad
  obtain ⟨hl1, hl2, _⟩ := hlp
  refine Exists.elim in_ints' fun ti hti => ?_
  refine Exists.elim in_bl fun tb htb => ?_
  refine Exists.elim in_int' fun tn htn => ?_
  refine enter (N := 51) (vs := [bv, pv]) Tryz.func136 rfl rfl rfl ?_
  repeat ((refine isC ?_; refine c_sr ?_))
  refine s_alloc (cs := [.slice none 0 0]) hti.1 hti.2.1 rfl ?_
  intro b4 w1 hb4 hA4 hx1 hs1
  refine s_alloc (cs := [.bool false]) htb.1 htb.2 rfl ?_
  intro b5 w2 hb5 hA5 hx2 hs2
  refine s_alloc (cs := [.int .i64 0]) htn.1 htn.2.1 rfl ?_
  intro b6 w3 hb6 hA6 hx3 hs3
  have hx03 := (hx1.trans hx2).trans hx3
  have hA43 := hA4.ex (hx2.trans hx3)
  have hA53 := hA5.ex hx3
  refine s_assign ?_
  refine l_th ?_
  have hi64 : In64 ((prices.length : Int) - 1) := ⟨by omega, by omega⟩
  refine c_join (γ := Unit) 134216704 (fun _ => [(26, .bool false)]) (fun _ w' => Ex w3 w') ?_ ?_
  · have hp3 := hp.ex hx03
    have hb3 := hb.ex hx03
    repeat (first | (refine isO ?_; first | refine s_move ?_ | (refine isCall ?_; refine s_lenI sl_ints rfl (by assumption) ?_)) | (refine isC ?_; refine c_sr ?_))
    refine s_call ok_dmay rfl (dmay_ct pv prices (prices.length : Int) w3 (hp.ex hx03)) ?_
    rintro u w4 ⟨rfl, hx4⟩
    refine s_re (v' := .bool true) (vbool hm) ?_
    have hb4' := hb.ex (hx03.trans hx4)
    have hp4' := hp.ex (hx03.trans hx4)
    by_cases h0 : 0 < (bid.length : Int)
    · have hv : vecB bid prices.length = true := by
        unfold badBid at hbad
        rw [decide_eq_true (show 0 < bid.length by omega), Bool.true_and, Bool.not_eq_false'] at hbad
        exact hbad
      repeat ((refine isO ?_; first | refine s_move ?_ | (refine isG ?_; refine g_yes rfl rfl ?_) | (refine isBin ?_; refine s_gtrT rfl rfl (by omega) ?_) | (refine isCall ?_; refine s_lenI sl_ints rfl (by assumption) ?_) | refine s_not rfl ?_))
      refine s_call ok_vcheck rfl (vcheck_ct bv bid (prices.length : Int) w4 hb4' hi64) ?_
      rintro u w5 ⟨rfl, hx5⟩
      refine s_re (v' := .bool true) (vbool hv) ?_
      repeat (first | (refine isO ?_; first | (refine isG ?_; refine g_yes rfl rfl ?_) | (refine isPick ?_; first | refine s_pickt rfl rfl ?_ | refine s_pickf rfl rfl ?_) | refine s_not rfl ?_) | (refine isC ?_; first | refine c_th ?_ | refine c_iff rfl ?_) | (refine l_th ?_))
      exact join_end () (by (repeat (first | exact agree_refl _ _ | refine agree_upd rfl ?_))) ⟨rfl, trivial⟩ (hx4.trans hx5)
    · repeat (first | (refine isO ?_; first | refine s_move ?_ | (refine isG ?_; first | refine g_yes rfl rfl ?_ | refine g_no rfl rfl rfl ?_) | (refine isBin ?_; refine s_gtrF rfl rfl (by omega) ?_) | (refine isCall ?_; refine s_lenI sl_ints rfl (by assumption) ?_) | (refine isPick ?_; refine s_pickf rfl rfl ?_) | refine s_not rfl ?_) | (refine isC ?_; first | refine c_th ?_ | refine c_iff rfl ?_) | (refine l_th ?_))
      exact join_end () (by (repeat (first | exact agree_refl _ _ | refine agree_upd rfl ?_))) ⟨rfl, trivial⟩ hx4
  rintro _ ρ w5 hx35
  have hx05 := hx03.trans hx35
  repeat ((refine isC ?_; refine c_sr ?_))
  refine s_mkfn (vs := [.pointer (some ⟨b4, 0, none⟩), .pointer (some ⟨b6, 0, none⟩), .pointer (some ⟨b5, 0, none⟩)]) rfl ?_
  refine s_defer (by intro f e; cases e) (f := 144) (caps := [.pointer (some ⟨b4, 0, none⟩), .pointer (some ⟨b6, 0, none⟩), .pointer (some ⟨b5, 0, none⟩)]) rfl ?_
  repeat (first | (refine isO ?_; refine s_move ?_) | (refine isC ?_; first | refine c_sr ?_ | refine c_seq ?_) | (refine l_th ?_))
  refine s_call ok_gains rfl (gains_ct bv pv bid prices w5 (hb.ex hx05) (hp.ex hx05)) ?_
  rintro u w6 ⟨c1, c2, rfl, hc1, hc2, hS6, hx6⟩
  have hx06 := hx05.trans hx6
  have hx36 := hx35.trans hx6
  have hA46 := hA43.ex hx36
  have hA56 := hA53.ex hx36
  have hA66 := hA6.ex hx36
  have z1 := hx1.size
  have z2 := hx2.size
  have z3 := hx3.size
  have z35 := hx35.size
  have z6 := hx6.size
  have l4 := hA46.lt
  have l5 := hA56.lt
  have l6 := hA66.lt
  have l4' := hA43.lt
  have l5' := hA53.lt
  have l6' := hA6.lt
  have m1 := block_lt_of_cell hS6.1.1
  have m2 := block_lt_of_cell hS6.2.1
  have n45 : b4 ≠ b5 := by have := hA4.lt; omega
  have n46 : b4 ≠ b6 := by have := (hA4.ex hx2).lt; omega
  have n56 : b5 ≠ b6 := by have := hA5.lt; omega
  have hgs : ∀ W, W.cell? ⟨c1, 0, none⟩ = some bv → W.cell? ⟨c2, 0, none⟩ = some pv → Ex w W → GSr c1 c2 bv pv bid prices W := fun W h1 h2 hx => ⟨⟨h1, hb.ex hx⟩, h2, hp.ex hx⟩
  repeat (first | (refine isC ?_; refine c_block ?_) | (refine l_th ?_))
  refine c_range (gf := 148) (lb := [.pointer (some ⟨c1, 0, none⟩), .pointer (some ⟨c2, 0, none⟩)]) rfl ok_gains1 (gains_stops (by omega) (by omega) (fun k => by have := hbb k; omega) (fun k => by have := hpb k; omega) hS6) (fun h k => fun hh => k (h hh)) (fun W l o o' _ hl hc _ hh => hh.kc (KC.put hl hc)) (fun W h => h) (Ex.refl _) (fun _ => rfl)
    (fun pre W => OfJ w6.heap.size c1 c2 b4 b5 b6 bv pv bid prices pre W ∧ Ex w W ∧ w6.heap.size ≤ W.heap.size)
    (OwnFrom.and (Own.from OfJ.own _) (OwnFrom.and (ownFrom_below (Nat.le_refl _) (by omega)) (fun pre A B row hs hg _ => Nat.le_trans hs hg.size)))
    ⟨⟨hS6, _, hA46, hA56, hA66, Rw.nil _ _, fun b h => by cases h⟩, hx06, Nat.le_refl _⟩
    (fun x σ => upd (upd (updl [(31, .int .i64 (x.1 : Int)), (32, .int .i64 x.2)] σ) 8 (.int .i64 (x.1 : Int))) 9 (.int .i64 x.2)) ?_ ?_ ?_
  · intro l x W K hK
    repeat (first | (refine isO ?_; refine s_assign ?_) | (refine isC ?_; first | refine c_sr ?_ | refine c_region ?_) | (refine l_th ?_))
    exact hK
  · rintro l pre x W ⟨⟨hS, v, hA4w, hA5w, hA6w, hR, hv⟩, hxw, hzw⟩ hlt
    have hsn := foldD_snoc pre x
    have hfl := foldD_len pre
    by_cases h1 : (foldD pre).2 < x.2
    · repeat (first | (refine isO ?_; first | refine s_move ?_ | refine s_assign ?_ | (refine isBin ?_; refine s_gtrT rfl rfl (by omega) ?_) | (refine isLD ?_; refine s_ldA ty_int rfl (by assumption) rfl ?_)) | (refine isC ?_; first | refine c_sr ?_ | refine c_region ?_ | refine c_ift rfl ?_ | refine c_block ?_) | (refine l_th ?_))
      refine s_bs1 sl_ints in_int rfl rfl ?_
      intro b7 W1 hb7 hA7 hx7 hs7
      have hA41 := hA4w.ex hx7
      have hA51 := hA5w.ex hx7
      have hA61 := hA6w.ex hx7
      repeat ((refine isO ?_; refine s_move ?_))
      refine s_stA (n := 0) (u := sv b7 1 1) ty_ints rfl rfl rfl hA41 (by simp) ?_
      intro W2 hA42 hg2
      have hA62 := hA61.grown hg2 (fun e => by cases e; omega)
      have hA52 := hA51.grown hg2 (fun e => by cases e; omega)
      have hA72 := hA7.grown hg2 (fun e => by cases e; omega)
      refine s_stA (n := 0) (u := .int .i64 x.2) ty_int rfl rfl rfl hA62 (by simp) ?_
      intro W3 hA63 hg3
      have hA43' : At W3 b4 25 [sv b7 1 1] := At.grown hA42 hg3 (fun e => by cases e; omega)
      have hA53' := hA52.grown hg3 (fun e => by cases e; omega)
      have hA73 := hA72.grown hg3 (fun e => by cases e; omega)
      have hxw3 : Ex w W3 := ((hxw.trans hx7).store hg2 (by omega)).store hg3 (by omega)
      have hS3 := hgs W3 (cell_gr (cell_gr (hx7.cell hS.1.1) hg2 (show c1 ≠ b4 by omega)) hg3 (show c1 ≠ b6 by omega)) (cell_gr (cell_gr (hx7.cell hS.2.1) hg2 (show c2 ≠ b4 by omega)) hg3 (show c2 ≠ b6 by omega)) hxw3
      have hR3 : Rw W3 3 (sv b7 1 1) [.int .i64 (x.1 : Int)] := hA73.rw (n := 1) (c := 1) rfl (Nat.le_refl _) (by omega)
      have hst : stepD (foldD pre) x = ([(x.1 : Int)], x.2) := by unfold stepD; rw [if_pos h1]
      rw [hst] at hsn
      repeat ((first | refine ib_norm ?_ | refine l_nil ?_))
      refine own_norm (((KeepsFrom.ex hx7).trans (KeepsFrom.of_grownBy hg2 (fun j e => by cases e; omega))).trans (KeepsFrom.of_grownBy hg3 (fun j e => by cases e; omega))) (fun _ => hS3) ⟨⟨hS3, _, hA43', hA53', by rw [hsn]; exact hA63, by rw [hsn]; exact hR3, fun b hb => by have := Option.some.inj hb; simp at this; omega⟩, hxw3, by have := hx7.size; have := hg2.size; have := hg3.size; omega⟩
    · by_cases h2 : x.2 = (foldD pre).2
      · repeat (first | (refine isO ?_; first | refine s_move ?_ | refine s_assign ?_ | (refine isBin ?_; first | refine s_eqlT rfl rfl (by omega) ?_ | refine s_gtrF rfl rfl (by omega) ?_) | (refine isLD ?_; first | refine s_ldA ty_int rfl (by assumption) rfl ?_ | refine s_ldA ty_ints rfl (by assumption) rfl ?_)) | (refine isC ?_; first | refine c_sr ?_ | refine c_region ?_ | refine c_ift rfl ?_ | refine c_iff rfl ?_ | refine c_block ?_) | (refine l_th ?_))
        refine s_bs1 sl_ints in_int rfl rfl ?_
        intro b7 W1 hb7 hA7 hx7 hs7
        have hA41 := hA4w.ex hx7
        have hA51 := hA5w.ex hx7
        have hA61 := hA6w.ex hx7
        refine s_app (news := [.int .i64 (x.1 : Int)]) sl_ints in_int (hR.ex hx7) (hA7.sl (Nat.le_refl _) (by simp) (by simp)) rfl rfl (by intro q hq; simp at hq; subst hq; rfl) (by simp; omega) ?_
        intro v' W2 hR2 hg2 hf2
        have hA42 := hA41.grown hg2 (fun e => by have := hv _ e; omega)
        have hA52 := hA51.grown hg2 (fun e => by have := hv _ e; omega)
        have hA62 := hA61.grown hg2 (fun e => by have := hv _ e; omega)
        have hv2 : ∀ b, v'.ownBlock = some b → w6.heap.size ≤ b := fun b hb => by
          rcases hf2 with h | h
          · exact hv b (by rw [← h]; exact hb)
          · have := h b hb; have := hx7.size; omega
        refine s_stA (n := 0) (u := v') ty_ints rfl rfl hR2.one hA42 (by simp) ?_
        intro W3 hA43' hg3
        have hA63 := hA62.grown hg3 (fun e => by cases e; omega)
        have hA53' := hA52.grown hg3 (fun e => by cases e; omega)
        have hxw2 : Ex w W2 := (hxw.trans hx7).storeo hg2 (fun b e => by have := hv b e; omega)
        have hxw3 : Ex w W3 := hxw2.store hg3 (by omega)
        have hcc : ∀ (c : Nat) (q : Value), c < w6.heap.size → W.cell? ⟨c, 0, none⟩ = some q → W2.cell? ⟨c, 0, none⟩ = some q := fun c q hc hq => by
          cases hb : v.ownBlock with
          | none => exact (Ex.of_grown (hb ▸ hg2)).cell (hx7.cell hq)
          | some b => exact cell_gr (hx7.cell hq) (hb ▸ hg2) (show c ≠ b by have := hv b hb; omega)
        have hS3 := hgs W3 (cell_gr (hcc c1 _ m1 hS.1.1) hg3 (show c1 ≠ b4 by omega)) (cell_gr (hcc c2 _ m2 hS.2.1) hg3 (show c2 ≠ b4 by omega)) hxw3
        have hR3 := hR2.kept hg3 (.inr fun e => by have := hv2 b4 e; omega)
        have hst : stepD (foldD pre) x = ((foldD pre).1 ++ [(x.1 : Int)], (foldD pre).2) := by unfold stepD; rw [if_neg h1, if_pos h2]
        rw [hst] at hsn
        have hKF : KeepsFrom w6.heap.size W W3 := by
          refine ((KeepsFrom.ex hx7).trans ?_).trans (KeepsFrom.of_grownBy hg3 (fun j e => by cases e; omega))
          refine ⟨hg2.size, fun k o _ hk ho => ?_⟩
          refine (hg2.block k (Array.getElem?_eq_some_iff.1 hk).1 (fun e => ?_)).trans hk
          rcases (hR.ex hx7).form with ⟨hn1, _⟩ | ⟨b, cap, sp, hn1, hAt, _⟩
          · rw [hn1] at e; cases e
          · rw [hn1] at e; cases e
            unfold At at hAt
            rw [hk] at hAt; cases hAt; cases ho
        repeat ((first | refine ib_norm ?_ | refine l_nil ?_))
        refine own_norm hKF (fun _ => hS3) ⟨⟨hS3, v', hA43', hA53', by rw [hsn]; exact hA63, by rw [hsn, List.map_append]; exact hR3, hv2⟩, hxw3, by have := hx7.size; have := hg2.size; have := hg3.size; omega⟩
      · have hst : stepD (foldD pre) x = foldD pre := by unfold stepD; rw [if_neg h1, if_neg h2]
        rw [hst] at hsn
        repeat (first | (refine isO ?_; first | refine s_move ?_ | refine s_assign ?_ | (refine isBin ?_; first | refine s_eqlF rfl rfl (by omega) ?_ | refine s_gtrF rfl rfl (by omega) ?_) | (refine isLD ?_; refine s_ldA ty_int rfl (by assumption) rfl ?_)) | (refine isC ?_; first | refine c_sr ?_ | refine c_iff rfl ?_ | refine c_block ?_ | refine c_skip ?_) | (first | refine l_th ?_ | refine ib_norm ?_))
        exact own_norm (KeepsFrom.refl _ _) (fun h => h) ⟨⟨hS, v, hA4w, hA5w, by rw [hsn]; exact hA6w, by rw [hsn]; exact hR, hv⟩, hxw, hzw⟩
  · rintro D xs W hD hxs ⟨⟨hS, v, hA4w, hA5w, hA6w, hR, hv⟩, hxw, hzw⟩ hK
    subst hxs
    refine Exists.elim (show ∃ q, q = foldD (gpr bid prices bid.length) from ⟨_, rfl⟩) fun q hq => ?_
    rw [← hq] at hA6w hR ⊢
    have hql : q.1.length ≤ 8 := by rw [hq]; have := foldD_len (gpr bid prices bid.length); have := gpr_len bid prices bid.length; omega
    have hxd := Ex.drew W
    have hA4d := hA4w.ex hxd
    have hA5d := hA5w.ex hxd
    have hA6d := hA6w.ex hxd
    repeat ((refine isC ?_; refine c_seq ?_))
    refine c_drawJ (fun W' => At W' b4 25 [v] ∧ At W' b5 4 [.bool false] ∧ At W' b6 3 [.int .i64 q.2]) ⟨hA4d, hA5d, hA6d⟩ 0 7 [(0, true), (1, true), (2, true), (3, false), (4, false), (5, false), (6, true)] mixed (by kernel_rfl) ?_
    refine d_ldJ rfl ty_ints rfl (fun _ h => h.1) rfl ?_
    refine d_ldJ rfl ty_bl rfl (fun _ h => h.2.1) rfl ?_
    refine d_ldJ rfl ty_int rfl (fun _ h => h.2.2) rfl ?_
    refine d_ch rfl ?_
    refine s_stA (n := 0) (u := v) ty_ints rfl rfl hR.one hA4d (by simp) ?_
    intro W1 hA41' hg1
    have hA41 : At W1 b4 25 [v] := hA41'
    have hA51 := hA5d.grown hg1 (fun e => by cases e; exact n45 rfl)
    have hA61 := hA6d.grown hg1 (fun e => by cases e; exact n46 rfl)
    refine l_nil ⟨rfl, .inr ⟨hA41, hA51, hA61⟩, ?_⟩
    refine d_ch rfl ?_
    refine s_stA (n := 0) (u := .bool false) ty_bl rfl rfl rfl hA51 (by simp) ?_
    intro W2 hA52' hg2
    have hA52 : At W2 b5 4 [.bool false] := hA52'
    have hA42 := hA41.grown hg2 (fun e => by cases e; exact n45 rfl)
    have hA62 := hA61.grown hg2 (fun e => by cases e; exact n56 rfl)
    refine l_nil ⟨rfl, .inr ⟨hA42, hA52, hA62⟩, ?_⟩
    refine d_ch rfl ?_
    refine s_stA (n := 0) (u := .int .i64 q.2) ty_int rfl rfl rfl hA62 (by simp) ?_
    intro W3 hA63' hg3
    have hA63 : At W3 b6 3 [.int .i64 q.2] := hA63'
    have hA43 := hA42.grown hg3 (fun e => by cases e; exact n46 rfl)
    have hA53 := hA52.grown hg3 (fun e => by cases e; exact n56 rfl)
    refine l_nil ⟨rfl, .inr ⟨hA43, hA53, hA63⟩, ?_⟩
    refine d_assign rfl ?_
    refine d_nil ?_
    have hxw3 : Ex w W3 := (((hxw.trans hxd).store hg1 (by omega)).store hg2 (by omega)).store hg3 (by omega)
    have hR3 := (((hR.ex hxd).kept hg1 (.inr fun e => by have := hv b4 e; omega)).kept hg2 (.inr fun e => by have := hv b5 e; omega)).kept hg3 (.inr fun e => by have := hv b6 e; omega)
    have hK3 := mark_gr (mark_gr (mark_gr (mark_ex hK hxd) hA4d hg1) hA51 hg2) hA62 hg3
    have hkm := mark_kc hK3
    have hwD : w.heap.size ≤ D := by omega
    have hI4 := hkm.ints (hR3.ints (by omega))
    have hC := Of1_ct b4 b5 b6 v q.1 q.2 w _ (hkm.at hA43) (hkm.at hA53) (hkm.at hA63) hI4 (fun b hb => by have := hv b hb; exact ⟨by omega, by omega⟩) ⟨n45, n46, n56⟩ (mark_out hxw3 hwD) (by omega) (by omega)
    repeat ((refine isC ?_; refine c_ret ?_))
    refine ret4d (a := 4) (b := 5) (c := 6) (d := 7) (pa := ⟨b4, 0, none⟩) (pb := ⟨b5, 0, none⟩) (pc := ⟨b6, 0, none⟩) (va := clipV v) (vb := .bool (decide (q.2 = 0))) (vc := .int .i64 q.2) (vd := .int .i64 0) (S := OfS w b4 b5 b6 (W3.putObj D (.deferred none)).heap.size v q.1 q.2) (caps := [.pointer (some ⟨b4, 0, none⟩), .pointer (some ⟨b6, 0, none⟩), .pointer (some ⟨b5, 0, none⟩)].toArray) ?_ ?_ ?_ ?_ ?_ ty_ints ty_bl ty_int hK3 ok_Of1 ?_ ?_
    · rfl
    · rfl
    · rfl
    · rfl
    · rfl
    · exact hC
    rintro w' ⟨s4, s5, s6, sI, sz, sx⟩
    exact ⟨by rw [s4.cell]; rfl, by rw [s5.cell]; rfl, by rw [s6.cell]; rfl, clipV v, rfl, sI, (fun b hb => by rw [clipV_own] at hb; have := hv b hb; have := hR3.lt b hb; rw [put_size] at sz; exact ⟨by omega, by omega⟩), sx⟩
end Go.Proofs.YtifbgpkjbciblaaGreatDoor.Sal
end
section
/- demands.All, where it may be asked. -/
set_option maxRecDepth 100000
namespace Go.Proofs.YtifbgpkjbciblaaGreatDoor.Sal
open Go.RowKit
def dI (bids : List (List Int)) (prices : List Int) (i : Nat) : List Int := (foldD (gpr (bids.getD i []) prices (bids.getD i []).length)).1
def dG (bids : List (List Int)) (prices : List Int) (i : Nat) : Int := (foldD (gpr (bids.getD i []) prices (bids.getD i []).length)).2
theorem rep_map {α : Type} (n : Nat) (z : α) : List.replicate n z = (List.range n).map fun _ => z := by
  apply List.ext_getElem
  · simp
  · intro i h1 h2; simp
theorem chk_parts {res : List Int} {bids : List (List Int)} {ord : List Int} (h : chkM res bids ord = true) : vecB res res.length = true ∧ 1 ≤ bids.length ∧ bids.length ≤ 8 ∧ ordB ord bids.length = true ∧ ∀ i, i < bids.length → badBid res.length (bids.getD i []) = false := by
  unfold chkM at h
  simp only [Bool.and_eq_true, decide_eq_true_eq, Bool.not_eq_true'] at h
  obtain ⟨⟨⟨⟨h1, h2⟩, h3⟩, h4⟩, h5⟩ := h
  refine ⟨h1, h2, h3, h4, fun i hi => ?_⟩
  have := (List.any_eq_false.1 h5) (bids.getD i []) (by rw [List.getD_eq_getElem?_getD, List.getElem?_eq_getElem hi]; exact List.getElem_mem hi)
  simpa using this
attribute [local irreducible] Go.Code.wpIn Go.wpListIn Ct Ints Rows Sl At Rw WJ
set_option linter.all false
theorem ok_dAll : CallOK Tryz.prog 118 := callOK Tryz.func118 (by kernel_rfl) rfl
theorem sl_bls : SlT Tryz.prog 82 4 := Tryz.underlying82
theorem in_bls' : ∃ ti, Tryz.prog.info? 4 = some ti ∧ ti.zero = some (.bool false) ∧ ti.size = 1 ∧ ti.bytes ≤ 64 :=
  let ⟨i, h, hz, hs, hb⟩ := info_parts (show (Tryz.prog.info? 4).map (fun i => (i.zero, i.size, i.bytes)) = some (some (.bool false), 1, 1) by kernel_rfl)
  ⟨i, h, hz, hs, by omega⟩
set_option maxHeartbeats 4000000 in
theorem dAll_ct (rv bv ov pv : Value) (res : List Int) (bids : List (List Int)) (ord prices : List Int) (w : World) (hM : Mk w rv bv ov res bids ord) (hp : Ints w pv prices) (hck : chkM res bids ord = true) (hm : mayD prices res.length = true) :
    Ct Tryz.prog 118 #[.agg #[rv, bv, ov], pv] w fun u w' => ∃ b1 b2 vs, u = .tuple #[sv b1 bids.length bids.length, sv b2 bids.length bids.length, .int .i64 0] ∧ w.heap.size ≤ b1 ∧ w.heap.size ≤ b2 ∧ b1 ≠ b2 ∧ At w' b1 25 ((List.range bids.length).map vs) ∧ At w' b2 4 ((List.range bids.length).map fun j => .bool (decide (dG bids prices j = 0))) ∧ (∀ j, j < bids.length → Ints w' (vs j) (dI bids prices j) ∧ ∀ b, (vs j).ownBlock = some b → w.heap.size ≤ b ∧ b ≠ b1 ∧ b < w'.heap.size) ∧ Ex w w' := by
  obtain ⟨hc1, hc2, hc3, hc4, hc5⟩ := chk_parts hck
  have hlp := len_pr hm
  obtain ⟨hl1, hl2, hl3⟩ := hlp
  have hm' : mayD prices prices.length = true := by rw [hl3]; exact hm
  have hrl : res.length = prices.length := by omega
  refine Exists.elim in_ints' fun ti hti => ?_
  refine Exists.elim in_bls' fun tb htb => ?_
  refine enter (N := 54) (vs := [.agg #[rv, bv, ov], pv]) Tryz.func118 rfl rfl rfl ?_
  repeat ((refine isC ?_; refine c_sr ?_))
  refine s_box (cs := [rv, bv, ov]) rfl rfl ?_
  intro b0 w0 hb0 hZ hx0 hs0
  have hM0 := hM.ex hx0
  have hr0 := hM0.r
  have hp0 := hp.ex hx0
  refine s_assign ?_
  refine s_assign ?_
  refine s_assign ?_
  refine l_th ?_
  refine c_join (γ := Unit) 1048064 (fun _ => [(19, .bool false)]) (fun _ w' => Ex w0 w') ?_ ?_
  · repeat ((refine isC ?_; refine c_sr ?_))
    refine s_ldV Tryz.underlying54 rfl (by kernel_rfl) rfl hZ ?_
    refine s_call ok_mcheck rfl (mcheck_ct rv bv ov res bids ord w0 hM0) ?_
    rintro u w1 ⟨rfl, hx1⟩
    refine s_re (v' := .bool true) (vbool hck) ?_
    have hZ1 := hZ.ex hx1
    have hr1 := hr0.ex hx1
    repeat (first | (refine isO ?_; first | refine s_move ?_ | (refine isG ?_; refine g_yes rfl rfl ?_) | (refine isCall ?_; refine s_lenI sl_ints rfl (by assumption) ?_) | (refine isLD ?_; refine s_ldA ty_ints rfl (by assumption) rfl ?_) | refine s_not rfl ?_) | (refine isO ?_; refine s_fa Tryz.underlying54 rfl ty_ints rfl ?_))
    refine s_call ok_dmay rfl (dmay_ct pv prices (res.length : Int) w1 (hp0.ex hx1)) ?_
    rintro u w2 ⟨rfl, hx2⟩
    refine s_re (v' := .bool true) (vbool hm) ?_
    repeat (first | (refine isO ?_; first | (refine isG ?_; refine g_yes rfl rfl ?_) | (refine isPick ?_; refine s_pickf rfl rfl ?_) | refine s_not rfl ?_) | (refine isC ?_; first | refine c_th ?_ | refine c_iff rfl ?_) | (refine l_th ?_))
    exact join_end () (by (repeat (first | exact agree_refl _ _ | refine agree_upd rfl ?_))) ⟨rfl, trivial⟩ (hx1.trans hx2)
  rintro _ ρ w2 hx02
  have hx2 := hx0.trans hx02
  have hM2 := hM.ex hx2
  have hZ2 := hZ.ex hx02
  have hb2 := hM2.b
  repeat ((refine isC ?_; refine c_seq ?_))
  refine c_joinK (γ := Nat × Nat) 267386928 (fun q => [(4, sv q.1 bids.length bids.length), (5, sv q.2 bids.length bids.length)]) (fun q w' => Ex w2 w' ∧ w2.heap.size ≤ q.1 ∧ w2.heap.size ≤ q.2 ∧ q.1 ≠ q.2 ∧ At w' q.1 25 (List.replicate bids.length (.slice none 0 0)) ∧ At w' q.2 4 (List.replicate bids.length (.bool false))) ?_ ?_
  · refine c_drawF (Ex.refl w2) 0 8 [(0, true), (1, true), (2, true), (4, true), (5, true), (6, true)] 3 [(8, true), (7, false), (9, true)] 7 [(3, false), (8, true), (9, true)] mixed (by kernel_rfl) ?_
    have hxd := Ex.drew w2
    have zd := hxd.size
    refine d_fa rfl Tryz.underlying54 rfl ty_rows rfl ?_
    refine d_ldA rfl ty_rows rfl hZ2 rfl ?_
    refine d_lenRO rfl sl_rows rfl hb2 ?_
    refine d_fa rfl Tryz.underlying54 rfl ty_rows rfl ?_
    refine d_ldA rfl ty_rows rfl hZ2 rfl ?_
    refine d_lenRO rfl sl_rows rfl hb2 ?_
    refine d_fork ?_ ?_
    · refine d_ch rfl ?_
      refine s_make sl_rows hti.1 hti.2.1 hti.2.2.1 rfl hti.2.2.2 rfl (by omega) ?_
      intro c1 w3 hc1 hA3 hx3 hs3
      refine l_nil ⟨rfl, .inr (hxd.trans hx3), ?_⟩
      refine d_assign rfl ?_
      refine d_ch rfl ?_
      refine s_make sl_bls htb.1 htb.2.1 htb.2.2.1 rfl htb.2.2.2 rfl (by omega) ?_
      intro c2 w4 hc2 hA4 hx4 hs4
      refine l_nil ⟨rfl, .inr ((hxd.trans hx3).trans hx4), ?_⟩
      refine d_assign rfl ?_
      refine d_nil ?_
      repeat ((refine th_norm ?_))
      exact join_end (c1, c2) (by (repeat (first | exact agree_refl _ _ | refine agree_upd rfl ?_))) ⟨rfl, rfl, trivial⟩ ⟨(hxd.trans hx3).trans hx4, by omega, by omega, by omega, hA3.ex hx4, hA4⟩
    · refine d_ch rfl ?_
      refine s_make sl_bls htb.1 htb.2.1 htb.2.2.1 rfl htb.2.2.2 rfl (by omega) ?_
      intro c2 w3 hc2 hA3 hx3 hs3
      refine l_nil ⟨rfl, .inr (hxd.trans hx3), ?_⟩
      refine d_ch rfl ?_
      refine s_make sl_rows hti.1 hti.2.1 hti.2.2.1 rfl hti.2.2.2 rfl (by omega) ?_
      intro c1 w4 hc1 hA4 hx4 hs4
      refine l_nil ⟨rfl, .inr ((hxd.trans hx3).trans hx4), ?_⟩
      refine d_assign rfl ?_
      refine d_assign rfl ?_
      refine d_nil ?_
      repeat ((refine th_norm ?_))
      exact join_end (c1, c2) (by (repeat (first | exact agree_refl _ _ | refine agree_upd rfl ?_))) ⟨rfl, rfl, trivial⟩ ⟨(hxd.trans hx3).trans hx4, by omega, by omega, by omega, hA4, hA3.ex hx4⟩
  rintro ⟨b1, b2⟩ ρ2 w3 ⟨hx23, hb1, hb2', hne, hA1, hA2⟩
  have hx3 := hx2.trans hx23
  have hM3 := hM.ex hx3
  have hZ3 := hZ2.ex hx23
  have hb3 := hM3.b
  rw [rep_map] at hA1 hA2
  have zx := hx2.size
  refine th_norm ?_
  repeat (first | (refine isO ?_; first | refine s_move ?_ | (refine isCall ?_; refine s_lenR sl_rows rfl (by assumption) ?_)) | (refine isO ?_; first | refine s_fa Tryz.underlying54 rfl ty_rows rfl ?_ | refine s_ldA ty_rows rfl (by assumption) rfl ?_) | (refine isC ?_; first | refine c_sr ?_ | refine c_seq ?_ | refine c_block ?_) | (refine l_th ?_))
  refine c_loop (γ := Nat) 2251797666202048 (fun k => [(31, .int .i64 (k : Int)), (6, .int .i64 0)]) (fun k W => k ≤ bids.length ∧ (∃ vs, At W b1 25 ((List.range bids.length).map vs) ∧ ∀ j, j < k → Ints W (vs j) (dI bids prices j) ∧ ∀ b, (vs j).ownBlock = some b → w.heap.size ≤ b ∧ b ≠ b1 ∧ b ≠ b2 ∧ b < W.heap.size) ∧ (∃ ns : Nat → Bool, At W b2 4 ((List.range bids.length).map fun j => .bool (ns j)) ∧ ∀ j, j < k → ns j = decide (dG bids prices j = 0)) ∧ Ex w W ∧ w3.heap.size ≤ W.heap.size) (fun k => bids.length - k) 0 ⟨rfl, rfl, trivial⟩
    ⟨Nat.zero_le _, ⟨_, hA1, fun j hj => by omega⟩, ⟨fun _ => false, hA2, fun j hj => by omega⟩, hx3, Nat.le_refl _⟩ ?_
  rintro k ρ3 W ⟨hk, hV, hN, hxW, hzW⟩
  refine Exists.elim hV fun vs hvs => ?_
  refine Exists.elim hN fun ns hns => ?_
  have hbW := hM.b.ex hxW
  have hpW := hp.ex hxW
  have hA1W := hvs.1
  have hA2W := hns.1
  have lb1 := hA1.lt
  have lb2 := hA2.lt
  repeat (first | (refine isO ?_; (refine isBin ?_; refine s_lss rfl rfl ?_)) | (refine isC ?_; first | refine c_sr ?_ | refine c_seq ?_) | (refine l_th ?_))
  refine c_ifd rfl (fun h => ?_) (fun h => ?_)
  · have hk' : k < bids.length := by omega
    have hbk := hc5 k hk'
    repeat (first | (refine isO ?_; refine s_move ?_) | (refine isC ?_; first | refine c_sr ?_ | refine c_th ?_ | refine c_seq ?_ | refine c_block ?_))
    refine s_ixR sl_rows ty_ints rfl rfl rfl hbW hk' ?_
    intro pv1 u hu
    repeat (first | (refine isO ?_; first | refine s_move ?_ | refine s_assign ?_) | (refine isC ?_; refine c_region ?_) | (refine l_th ?_))
    refine s_call ok_Of rfl (Of_ct u pv (bids.getD k []) prices W hu hpW hm' (by rw [← hrl]; exact hbk)) ?_
    rintro q W1 ⟨v, rfl, hI1, hv1, hx1⟩
    obtain ⟨va, vc, rfl⟩ := hI1.form
    repeat ((refine isO ?_; first | refine s_move ?_ | refine s_extract rfl rfl ?_))
    refine s_iaA (n := k) sl_rows ty_ints rfl rfl hk' ?_
    refine s_stA (n := k) (u := .slice va _ vc) ty_ints rfl rfl rfl (hA1W.ex hx1) (by simp [hk']) ?_
    intro W2 hA12 hg2
    refine s_iaA (n := k) sl_bls ty_bl rfl rfl hk' ?_
    have hA22 := (hA2W.ex hx1).grown hg2 (fun e => hne (Option.some.inj e))
    refine s_stA (n := k) (u := .bool (decide (dG bids prices k = 0))) ty_bl rfl rfl rfl hA22 (by simp [hk']) ?_
    intro W3 hA23 hg3
    have hA13 := hA12.grown hg3 (fun e => hne (Option.some.inj e).symm)
    rw [map_fs _ _ hk'] at hA13
    have z1 := hx1.size
    have z2 := hg2.size
    have z3 := hg3.size
    have hxW3 : Ex w W3 := ((hxW.trans hx1).store hg2 (by omega)).store hg3 (by omega)
    have e23 : (((List.range bids.length).map fun j => Value.bool (ns j)).set k (.bool (decide (dG bids prices k = 0)))) = (List.range bids.length).map fun j => Value.bool (fs ns k (decide (dG bids prices k = 0)) j) := by
      rw [map_fs _ _ hk']
      apply List.map_congr_left
      intro j _
      unfold fs
      by_cases e : j = k
      · simp [e]
      · simp [e]
    rw [e23] at hA23
    have hkeep : ∀ (v : Value) (l : List Int), Ints W1 v l → (∀ b, v.ownBlock = some b → b ≠ b1 ∧ b ≠ b2) → Ints W3 v l := fun v l hI hb => (hI.kept hg2 (.inr fun e => (hb b1 e).1 rfl)).kept hg3 (.inr fun e => (hb b2 e).2 rfl)
    repeat (first | (refine isO ?_; first | refine s_move ?_ | refine s_assign ?_ | (refine isBin ?_; refine s_inc rfl (by omega) ?_)) | (refine isC ?_; refine c_region ?_) | (first | refine l_th ?_ | refine l_nil ?_))
    refine loop_end (k + 1) (by (repeat (first | exact agree_refl _ _ | refine agree_upd rfl ?_ | refine agree_ext rfl ?_ | refine agree_mask rfl ?_))) ⟨vint (by omega), rfl, trivial⟩ ⟨hk', ⟨_, hA13, fun j hj => ?_⟩, ⟨_, hA23, fun j hj => ?_⟩, hxW3, by omega⟩ (by omega)
    · by_cases e : j = k
      · subst e
        simp only [fs, if_true]
        have hob : ∀ b, (Value.slice va (foldD (gpr (bids.getD j []) prices (bids.getD j []).length)).1.length vc).ownBlock = some b → w.heap.size ≤ b ∧ b ≠ b1 ∧ b ≠ b2 ∧ b < W3.heap.size := fun b hb => by
          have := hv1 b hb
          have := hxW.size
          exact ⟨by omega, by omega, by omega, by omega⟩
        exact ⟨hkeep _ _ hI1 (fun b hb => ⟨(hob b hb).2.1, (hob b hb).2.2.1⟩), hob⟩
      · simp only [fs, if_neg e]
        have hj' : j < k := by omega
        have h1 := hvs.2 j hj'
        exact ⟨hkeep _ _ (h1.1.ex hx1) (fun b hb => ⟨(h1.2 b hb).2.1, (h1.2 b hb).2.2.1⟩), fun b hb => ⟨(h1.2 b hb).1, (h1.2 b hb).2.1, (h1.2 b hb).2.2.1, by have := (h1.2 b hb).2.2.2; omega⟩⟩
    · by_cases e : j = k
      · subst e; simp [fs]
      · simp only [fs, if_neg e]; exact hns.2 j (by omega)
  · have hkn : k = bids.length := by omega
    subst hkn
    have e2 : ((List.range bids.length).map fun j => Value.bool (ns j)) = (List.range bids.length).map fun j => Value.bool (decide (dG bids prices j = 0)) := by
      apply List.map_congr_left
      intro j hj
      rw [hns.2 j (List.mem_range.1 hj)]
    rw [e2] at hA2W
    repeat (first | (refine isO ?_; first | refine s_move ?_ | refine s_assign ?_) | (refine isC ?_; first | refine c_sr ?_ | refine c_ret ?_ | refine c_exit ?_) | (refine l_th ?_))
    exact ret3 rfl rfl rfl rfl ⟨b1, b2, vs, rfl, by omega, by omega, hne, hA1W, hA2W, fun j hj => ⟨(hvs.2 j hj).1, fun b hb => ⟨((hvs.2 j hj).2 b hb).1, ((hvs.2 j hj).2 b hb).2.1, ((hvs.2 j hj).2 b hb).2.2.2⟩⟩, hxW⟩
end Go.Proofs.YtifbgpkjbciblaaGreatDoor.Sal
end
section
/- Plain: what bidders would have at prices. -/
set_option maxRecDepth 100000
namespace Go.Proofs.YtifbgpkjbciblaaGreatDoor.Sal
set_option linter.all false
/-- The most, or nothing. -/
def gmx (f : Nat → Int) : Nat → Int
  | 0 => 0
  | n + 1 => if gmx f n < f n then f n else gmx f n
theorem gmx_succ (f : Nat → Int) (n : Nat) : gmx f (n + 1) = if gmx f n < f n then f n else gmx f n := rfl
theorem gmx_ge (f : Nat → Int) : ∀ n, 0 ≤ gmx f n
  | 0 => Int.le_refl _
  | n + 1 => by have := gmx_ge f n; unfold gmx; split <;> omega
theorem gmx_all (f : Nat → Int) : ∀ n k, k < n → f k ≤ gmx f n
  | n + 1, k, h => by
    unfold gmx
    by_cases e : k = n
    · subst e; split <;> omega
    · have := gmx_all f n k (by omega); split <;> omega
theorem gmx_is (f : Nat → Int) : ∀ n, gmx f n = 0 ∨ ∃ k, k < n ∧ f k = gmx f n
  | 0 => .inl rfl
  | n + 1 => by
    unfold gmx
    split
    · exact .inr ⟨n, by omega, rfl⟩
    · rcases gmx_is f n with h | ⟨k, hk, h⟩
      · exact .inl h
      · exact .inr ⟨k, by omega, h⟩
theorem rowN_snoc (n : Nat) (p : Nat → Bool) : rowN (n + 1) p = rowN n p ++ (if p n = true then [n] else []) := by
  unfold rowN
  rw [List.range_succ, List.filter_append]
  congr 1
  cases h : p n <;> simp [h]
theorem rowL_snoc (n : Nat) (p : Nat → Bool) : rowL (n + 1) p = rowL n p ++ (if p n = true then [(n : Int)] else []) := by
  unfold rowL
  rw [rowN_snoc, List.map_append]
  split <;> rfl
theorem rowL_congr {n : Nat} {p q : Nat → Bool} (h : ∀ k, k < n → p k = q k) : rowL n p = rowL n q := by
  unfold rowL rowN
  congr 1
  exact List.filter_congr fun k hk => h k (List.mem_range.1 hk)
theorem rowL_no {n : Nat} {p : Nat → Bool} (h : ∀ k, k < n → p k = false) : rowL n p = [] := by
  rw [rowL_congr h]; simp [rowL, rowN]
theorem foldD_all (f : Nat → Int) : ∀ n, foldD ((List.range n).map fun k => (k, f k)) = (rowL n (fun k => decide (f k = gmx f n)), gmx f n)
  | 0 => rfl
  | n + 1 => by
    rw [List.range_succ, List.map_append, List.map_cons, List.map_nil, foldD_snoc, foldD_all f n, rowL_snoc, gmx_succ]
    unfold stepD
    by_cases h1 : gmx f n < f n
    · simp only [if_pos h1]
      rw [rowL_no (fun k hk => by have := gmx_all f n k hk; simp; omega)]
      simp
    · simp only [if_neg h1]
      by_cases h2 : f n = gmx f n
      · simp only [if_pos h2]
        simp [h2]
      · simp only [if_neg h2]
        simp [h2]
/-- What one gains by an item. -/
def gD (bids : List (List Int)) (prices : List Int) (i k : Nat) : Int := (bids.getD i []).getD k 0 - prices.getD k 0
def lenB (bids : List (List Int)) (i : Nat) : Nat := (bids.getD i []).length
theorem dG_eq (bids : List (List Int)) (prices : List Int) (i : Nat) : dG bids prices i = gmx (gD bids prices i) (lenB bids i) := by
  unfold dG gpr; rw [show (fun k => (k, (bids.getD i []).getD k 0 - prices.getD k 0)) = fun k => (k, gD bids prices i k) from rfl, foldD_all]; rfl
theorem dI_eq (bids : List (List Int)) (prices : List Int) (i : Nat) : dI bids prices i = rowL (lenB bids i) (fun k => decide (gD bids prices i k = dG bids prices i)) := by
  rw [dG_eq]
  unfold dI gpr; rw [show (fun k => (k, (bids.getD i []).getD k 0 - prices.getD k 0)) = fun k => (k, gD bids prices i k) from rfl, foldD_all]; rfl
/-- Must one have something? -/
def mustB (bids : List (List Int)) (prices : List Int) (i : Nat) : Bool := !decide (dG bids prices i = 0)
/-- Would one that must have something have that? -/
def RD (bids : List (List Int)) (prices : List Int) (i k : Nat) : Bool := mustB bids prices i && (decide (k < lenB bids i) && decide (gD bids prices i k = dG bids prices i))
theorem wants_row (bids : List (List Int)) (prices : List Int) (n i : Nat) (h : lenB bids i = 0 ∨ lenB bids i = n) : (if dG bids prices i = 0 then [] else dI bids prices i) = rowL n (RD bids prices i) := by
  by_cases h0 : dG bids prices i = 0
  · rw [if_pos h0, rowL_no]
    intro k _; simp [RD, mustB, h0]
  · rw [if_neg h0, dI_eq]
    have hn : lenB bids i = n := by
      rcases h with h | h
      · exfalso; apply h0; rw [dG_eq, h]; rfl
      · exact h
    rw [hn]
    exact rowL_congr fun k hk => by simp [RD, mustB, h0, hn, hk]
theorem dG_ge (bids : List (List Int)) (prices : List Int) (i : Nat) : 0 ≤ dG bids prices i := by rw [dG_eq]; exact gmx_ge _ _
end Go.Proofs.YtifbgpkjbciblaaGreatDoor.Sal
end
section
/- Core17: slices of a call's own with room, of elements of any size. -/
set_option maxRecDepth 100000
namespace Go.Proofs.YtifbgpkjbciblaaGreatDoor.Sal
set_option linter.all false
open Go.RowKit
/-- A slice over a block of the call's own: what it holds; room up to its capacity, perhaps more behind. -/
def Wd (w : World) (E : TypeId) (s : Nat) (v : Value) (n : Nat) (xs : List Value) : Prop :=
  xs.length = n * s ∧ ((v = .slice none 0 0 ∧ n = 0) ∨ ∃ b c sp, v = .slice (some ⟨b, 0, none⟩) n c ∧ At w b E (xs ++ sp) ∧ n ≤ c ∧ c ≤ 9223372036854775807 ∧ c * s ≤ (xs ++ sp).length)
theorem Wd.nil (w : World) (E : TypeId) (s : Nat) : Wd w E s (.slice none 0 0) 0 [] := ⟨by simp, .inl ⟨rfl, rfl⟩⟩
theorem Wd.kept {w w' : World} {E : TypeId} {s n : Nat} {v : Value} {xs : List Value} (h : Wd w E s v n xs) (hk : ∀ b, v.ownBlock = some b → b < w.heap.size → w'.heap[b]? = w.heap[b]?) : Wd w' E s v n xs := by
  obtain ⟨h1, h2⟩ := h
  rcases h2 with h2 | ⟨b, c, sp, hv, hA, h3⟩
  · exact ⟨h1, .inl h2⟩
  · exact ⟨h1, .inr ⟨b, c, sp, hv, (hk b (by rw [hv]; rfl) hA.lt).trans hA, h3⟩⟩
theorem Wd.ex {w w' : World} {E : TypeId} {s n : Nat} {v : Value} {xs : List Value} (h : Wd w E s v n xs) (hx : Ex w w') : Wd w' E s v n xs := h.kept fun b _ hb => hx.block b hb
theorem Wd.grown {w w' : World} {E : TypeId} {s n : Nat} {v : Value} {xs : List Value} {o : Option Nat} (h : Wd w E s v n xs) (hg : w.grownBy w' o) (hne : ∀ b, v.ownBlock = some b → o ≠ some b) : Wd w' E s v n xs := h.kept fun b hb hl => hg.block b hl (fun e => hne b hb e.symm)
theorem Wd.lt {w : World} {E : TypeId} {s n : Nat} {v : Value} {xs : List Value} (h : Wd w E s v n xs) : ∀ b, v.ownBlock = some b → b < w.heap.size := fun b hb => by
  rcases h.2 with ⟨rfl, _⟩ | ⟨b', c, sp, rfl, hA, _⟩
  · cases hb
  · cases hb; exact hA.lt
theorem Wd.slen {w : World} {E : TypeId} {s n : Nat} {v : Value} {xs : List Value} (h : Wd w E s v n xs) : ∃ a c, v = .slice a n c := by
  rcases h.2 with ⟨rfl, rfl⟩ | ⟨b', c, sp, rfl, hA, _⟩
  · exact ⟨_, _, rfl⟩
  · exact ⟨_, _, rfl⟩
theorem Wd.one {w : World} {E : TypeId} {s n : Nat} {v : Value} {xs : List Value} (h : Wd w E s v n xs) : v.oneCell' = true := by
  obtain ⟨a, c, rfl⟩ := h.slen; rfl
theorem Wd.pos {w : World} {E : TypeId} {s n : Nat} {v : Value} {xs : List Value} (h : Wd w E s v n xs) (hn : 0 < n) : ∃ b c sp, v = .slice (some ⟨b, 0, none⟩) n c ∧ At w b E (xs ++ sp) ∧ n ≤ c ∧ c ≤ 9223372036854775807 ∧ c * s ≤ (xs ++ sp).length := by
  rcases h.2 with ⟨_, h0⟩ | h2
  · omega
  · exact h2
theorem Wd.sl {w : World} {E : TypeId} {n : Nat} {v : Value} {xs : List Value} (h : Wd w E 1 v n xs) (hm : n ≤ 140737488355328) : Sl w v xs := by
  obtain ⟨h1, h2⟩ := h
  rw [Nat.mul_one] at h1
  rcases h2 with ⟨rfl, rfl⟩ | ⟨b, c, sp, rfl, hA, hc, _⟩
  · have : xs = [] := List.eq_nil_of_length_eq_zero h1
    subst this; exact Sl.nil w
  · have := hA.sl (n := n) (c := c) (by simp; omega) hm hc
    rwa [List.take_left' h1] at this
/-- The head of one. -/
theorem Wd.head {w : World} {E : TypeId} {n k c : Nat} {a : Option Addr} {ys : List Value} (h : Wd w E 1 (.slice a (n + k) c) (n + k) ys) : Wd w E 1 (.slice a n c) n (ys.take n) := by
  obtain ⟨h1, h2⟩ := h
  refine ⟨by rw [List.length_take, h1]; omega, ?_⟩
  rcases h2 with ⟨h3, h4⟩ | ⟨b, c', sp, h3, hA, h4, h5, h6⟩
  · left
    have e : n = 0 := by omega
    have e2 : k = 0 := by omega
    subst e; subst e2
    exact ⟨h3, rfl⟩
  · right
    cases h3
    refine ⟨b, c, ys.drop n ++ sp, rfl, ?_, by omega, h5, ?_⟩
    · rw [← List.append_assoc, List.take_append_drop]; exact hA
    · simp only [List.length_append, List.length_take, List.length_drop] at h6 ⊢; omega
/-- Another cell. -/
theorem Wd.set {w w' : World} {E : TypeId} {s n k : Nat} {b c : Nat} {xs sp : List Value} {u : Value} (h1 : xs.length = n * s) (hk : k < xs.length) (hA : At w' b E ((xs ++ sp).set k u)) (hc : n ≤ c) (hm : c ≤ 9223372036854775807) (hs : c * s ≤ (xs ++ sp).length) : Wd w' E s (.slice (some ⟨b, 0, none⟩) n c) n (xs.set k u) := by
  refine ⟨by rw [List.length_set]; exact h1, .inr ⟨b, c, sp, rfl, ?_, hc, hm, by simpa using hs⟩⟩
  rw [List.set_append_left _ _ hk] at hA
  exact hA
section runs
variable {P : Program} {w : World}
/-- append(s, x...) to a slice of the call's own. -/
theorem run_appW {T E : TypeId} {ti : TypeInfo} {z v xv : Value} {n m s : Nat} {xs news : List Value} {ty : TypeId} (hT : SlT P T E) (hi : P.info? E = some ti) (hz : ti.zero = some z) (hs : ti.size = s) (hzc : z.cells.size = s) (hs1 : 0 < s)
    (hv : Wd w E s v n xs) (hx : ∃ b c, xv = .slice (some ⟨b, 0, none⟩) m c ∧ ∃ sp, At w b E (news ++ sp)) (hl : news.length = m * s) (hm0 : 0 < m) (h1 : ∀ u ∈ news, u.oneCell' = true) (hm : n + m ≤ 140737488355328) (hbytes : (n + m) * ti.bytes ≤ 140737488355328) :
    ∃ v' w', (Builtin.append_ #[T, T] ty #[v, xv]).run P w = .ok v' w' ∧ Wd w' E s v' (n + m) (xs ++ news) ∧ w.grownBy w' v.ownBlock ∧ ((∃ a c, v = .slice a n c ∧ v' = .slice a (n + m) c) ∨ ((∀ b, v'.ownBlock = some b → w.heap.size ≤ b) ∧ Ex w w')) := by
  have hT' : P.underlying T = some (.slice E) := hT
  subst hs
  obtain ⟨xb, xc, rfl, xsp, hxA⟩ := hx
  have hnews : ∀ (j : Nat) (u : Value), news[j]? = some u → w.cell? ((⟨xb, 0, none⟩ : Addr).add j) = some u := fun j u hj => by
    rw [add_at, Nat.zero_add, hxA.cell, List.getElem?_append_left (List.getElem?_eq_some_iff.1 hj).1]; exact hj
  have hsrc : Src P ti.size T (.slice (some ⟨xb, 0, none⟩) m xc) m news w := Src.ofSlice w hT' ⟨xb, 0, none⟩ m xc news hl hnews h1
  have hxl := hv.1
  have grow : ∀ (base : Option Addr) (cap : Nat), v = .slice base n cap → (Builtin.firstCells ti.size n (.slice base n cap)).run P w.drew = .ok xs.toArray w.drew → cap < n + m →
      ∃ v' w', (Builtin.append_ #[T, T] ty #[v, .slice (some ⟨xb, 0, none⟩) m xc]).run P w = .ok v' w' ∧ Wd w' E ti.size v' (n + m) (xs ++ news) ∧ w.grownBy w' v.ownBlock ∧ ((∃ a c, v = .slice a n c ∧ v' = .slice a (n + m) c) ∨ ((∀ b, v'.ownBlock = some b → w.heap.size ≤ b) ∧ Ex w w')) := by
    intro base cap hvf hold hcap
    have hr := run_append_grow_src (P := P) w T T ty E ti z hT' hi hz base n cap xs hold (.slice (some ⟨xb, 0, none⟩) m xc) m news hsrc hcap (by omega) (growslice_fits hcap hbytes)
    have hge := grownCap_ge w (n + m) cap E
    have hcm := grownCap_le_maxLen w (n + m) cap E (by simp only [maxLen]; omega)
    rw [← hvf] at hr
    have hgr : ∀ o, w.grownBy (w.drew.alloc o) v.ownBlock := fun o => ⟨rfl, rfl, rfl, by simp, fun k hk _ => heap_alloc_old w.drew o hk⟩
    refine ⟨_, _, hr, ⟨by rw [List.length_append, hxl, hl, Nat.add_mul], .inr ⟨w.heap.size, _, (Builtin.zeroCells z.cells (grownCap w (n + m) cap E - (n + m))).toList, rfl, ?_, hge, by simpa [maxLen] using hcm, ?_⟩⟩, hgr _, .inr ⟨fun b hb => ?_, ⟨rfl, rfl, rfl, by simp, fun k hk => heap_alloc_old w.drew _ hk⟩⟩⟩
    · have h9 := at_new w.drew ((xs ++ news) ++ (Builtin.zeroCells z.cells (grownCap w (n + m) cap E - (n + m))).toList) E
      have e : ((xs ++ news) ++ (Builtin.zeroCells z.cells (grownCap w (n + m) cap E - (n + m))).toList).toArray = (xs ++ news).toArray ++ Builtin.zeroCells z.cells (grownCap w (n + m) cap E - (n + m)) := by
        apply Array.ext'
        simp
      rw [e] at h9
      exact h9
    · rw [List.length_append, List.length_append, hxl, hl]
      have e : (Builtin.zeroCells z.cells (grownCap w (n + m) cap E - (n + m))).toList.length = (grownCap w (n + m) cap E - (n + m)) * ti.size := by
        simp [size_zeroCells, hzc]
      rw [e, ← Nat.add_mul, ← Nat.add_mul]
      exact Nat.mul_le_mul_right _ (by omega)
    · rw [ownBlock_slice] at hb; cases hb; exact Nat.le_refl _
  rcases hv.2 with ⟨hvf, h0⟩ | ⟨b, cap, sp, hvf, hA, hc, hcm, hcs⟩
  · subst h0
    have : xs = [] := List.eq_nil_of_length_eq_zero (by rw [hxl]; simp)
    subst this
    exact grow none 0 hvf (by simp [Builtin.firstCells]) (by omega)
  · by_cases hroom : n + m ≤ cap
    · have hfit : n * ti.size + news.length ≤ (xs ++ sp).toArray.size := by
        rw [hl, ← Nat.add_mul]
        have := Nat.mul_le_mul_right ti.size hroom
        simp only [List.size_toArray]; omega
      have hr := run_append_room (P := P) w T ty E ti hT' hi b n cap (xs ++ sp).toArray hA ⟨xb, 0, none⟩ m xc news hl hnews h1 hroom hfit
      subst hvf
      refine ⟨_, _, hr, ⟨by rw [List.length_append, hxl, hl, Nat.add_mul], .inr ⟨b, cap, sp.drop news.length, rfl, ?_, hroom, hcm, ?_⟩⟩, ⟨rfl, rfl, rfl, by simp, fun k _ hk => setRow_other w b k _ (fun e => hk (by rw [e]; rfl))⟩, .inl ⟨_, _, rfl, rfl⟩⟩
      · have := setRow_heap w b (xs ++ sp).toArray ((xs ++ sp).take (n * ti.size) ++ news ++ (xs ++ sp).drop (n * ti.size + news.length)).toArray E (0, 0) hA
        have e1 : (xs ++ sp).take (n * ti.size) = xs := List.take_left' hxl
        have e2 : (xs ++ sp).drop (n * ti.size + news.length) = sp.drop news.length := by rw [← hxl, List.drop_append]; simp
        rw [e1, e2] at this
        unfold At
        simpa [e1, e2] using this
      · simp only [List.size_toArray, List.length_append] at hfit hcs
        simp only [List.length_append, List.length_drop]
        omega
    · refine grow (some ⟨b, 0, none⟩) cap hvf ?_ (by omega)
      refine run_firstCells_some w.drew ti.size n ⟨b, 0, none⟩ n cap xs (by rw [hxl]) (fun j u hj => ?_)
      have : w.cell? ⟨b, j, none⟩ = some u := by
        rw [hA.cell, List.getElem?_append_left (List.getElem?_eq_some_iff.1 hj).1]; exact hj
      rw [add_at, Nat.zero_add]
      exact this
end runs
end Go.Proofs.YtifbgpkjbciblaaGreatDoor.Sal
end
