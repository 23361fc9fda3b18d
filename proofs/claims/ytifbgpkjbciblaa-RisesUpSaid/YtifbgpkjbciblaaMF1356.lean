/- Texts that YtifbgpkjbciblaaF135 leans on, laid together: HM H4 HL V2 V3 V4 V5 Core17 Core18 V6 V7. -/
import Derived.Test.YtifbgpkjbciblaaMF1355
import Derived.Test.YtifbgpkjbciblaaMF1354
import Derived.Test.YtifbgpkjbciblaaMF1352
import Derived.Deep.MidRow
section
/- Plain: the sets that are too few: the first of them; Hall's word for them. -/
set_option maxRecDepth 100000
namespace Go.Proofs.Ytifbgpkjbciblaa.Sal
set_option linter.all false
theorem setsR_ahead : ∀ (many : Nat) (ahead : List Int) (frm items : Nat), setsR many ahead frm items = (setsR many [] frm items).map (ahead ++ ·)
  | 0, ahead, _, _ => by simp [setsR]
  | many + 1, ahead, frm, items => by
    unfold setsR
    rw [List.map_flatMap]
    congr 1
    funext d
    rw [setsR_ahead many (ahead ++ [((frm + d : Nat) : Int)]), setsR_ahead many ([] ++ [((frm + d : Nat) : Int)]), List.map_map]
    apply List.map_congr_left
    intro y _
    simp
theorem setsR_cons (many frm items : Nat) : setsR (many + 1) [] frm items = (List.range (items - many - frm)).flatMap fun d => (setsR many [] (frm + d + 1) items).map (((frm + d : Nat) : Int) :: ·) := by
  show ((List.range (items - many - frm)).flatMap fun d => setsR many ([] ++ [((frm + d : Nat) : Int)]) (frm + d + 1) items) = _
  congr 1
  funext d
  rw [setsR_ahead many ([] ++ [((frm + d : Nat) : Int)])]
  rfl
theorem setsR_ris : ∀ (many frm items : Nat) (x : List Int), x ∈ setsR many [] frm items → risB ((frm : Int) - 1) x (items : Int) = true
  | 0, frm, items, x, h => by simp [setsR] at h; subst h; rfl
  | many + 1, frm, items, x, h => by
    rw [setsR_cons] at h
    obtain ⟨d, hd, hx⟩ := List.mem_flatMap.1 h
    obtain ⟨y, hy, rfl⟩ := List.mem_map.1 hx
    have ih := setsR_ris many (frm + d + 1) items y hy
    have hd' : d < items - many - frm := by simpa using hd
    simp only [risB, Bool.and_eq_true, Bool.not_eq_true', Bool.or_eq_false_iff, decide_eq_false_iff_not]
    refine ⟨⟨by omega, by omega⟩, ?_⟩
    have e : ((frm + d + 1 : Nat) : Int) - 1 = ((frm + d : Nat) : Int) := by omega
    rw [e] at ih; exact ih
theorem ris_room : ∀ (x : List Int) (a m : Int), risB a x m = true → a + 1 + (x.length : Int) ≤ m ∨ x = []
  | [], _, _, _ => .inr rfl
  | q :: x, a, m, h => by
    left
    simp only [risB, Bool.and_eq_true, Bool.not_eq_true', Bool.or_eq_false_iff, decide_eq_false_iff_not] at h
    rcases ris_room x q m h.2 with h1 | h1
    · simp; omega
    · subst h1; simp; omega
theorem setsR_all : ∀ (x : List Int) (frm items : Nat), risB ((frm : Int) - 1) x (items : Int) = true → x ∈ setsR x.length [] frm items
  | [], _, _, _ => by simp [setsR]
  | q :: x, frm, items, h => by
    have hroom := ris_room _ _ _ h
    simp only [risB, Bool.and_eq_true, Bool.not_eq_true', Bool.or_eq_false_iff, decide_eq_false_iff_not] at h
    obtain ⟨d, hd⟩ : ∃ d : Nat, q = ((frm + d : Nat) : Int) := ⟨(q - frm).toNat, by omega⟩
    subst hd
    rw [List.length_cons, setsR_cons, List.mem_flatMap]
    have e : ((frm + d : Nat) : Int) = ((frm + d + 1 : Nat) : Int) - 1 := by omega
    have h2 := h.2
    rw [e] at h2
    refine ⟨d, ?_, List.mem_map.2 ⟨x, setsR_all x (frm + d + 1) items h2, rfl⟩⟩
    rw [List.mem_range]
    rcases ris_room _ _ _ h.2 with h3 | h3
    · omega
    · subst h3; simp; omega
/-- Does one list stand ahead of another that is as long? -/
def lexB : List Int → List Int → Bool
  | a :: x, b :: y => if a = b then lexB x y else decide (a < b)
  | _, _ => false
theorem lexB_self : ∀ x : List Int, lexB x x = false
  | [] => rfl
  | a :: x => by simp [lexB, lexB_self x]
theorem setsR_sort : ∀ (many frm items : Nat), (setsR many [] frm items).Pairwise (fun a b => lexB b a = false)
  | 0, _, _ => by simp [setsR]
  | many + 1, frm, items => by
    rw [setsR_cons, List.pairwise_flatMap]
    constructor
    · intro d _
      rw [List.pairwise_map]
      refine (setsR_sort many (frm + d + 1) items).imp ?_
      intro a b h
      simp [lexB, h]
    · refine List.pairwise_lt_range.imp ?_
      intro d e hde x hx y hy
      obtain ⟨x', _, rfl⟩ := List.mem_map.1 hx
      obtain ⟨y', _, rfl⟩ := List.mem_map.1 hy
      have h1 : ¬ ((frm + e : Nat) : Int) = ((frm + d : Nat) : Int) := by omega
      simp only [lexB]
      rw [if_neg h1]
      exact decide_eq_false (by omega)
section few
variable {R : Nat → Nat → Bool} {m nn : Nat} {sl : List Int}
theorem fewUp_none {k : Nat} (h : fewUp R nn sl k = none) {x : List Int} (hx : risB (-1) x (nn : Int) = true) (hl : x.length = k) : fewB R nn sl x = false := by
  unfold fewUp at h
  rw [List.find?_eq_none] at h
  have hm := setsR_all x 0 nn (by simpa using hx)
  rw [hl] at hm
  have := h x hm
  simpa using this
theorem fewUp_some {k : Nat} {l : List Int} (h : fewUp R nn sl k = some l) : l.length = k ∧ risB (-1) l (nn : Int) = true ∧ fewB R nn sl l = true ∧ ∀ x, risB (-1) x (nn : Int) = true → x.length = k → lexB x l = true → fewB R nn sl x = false := by
  unfold fewUp at h
  have hm := List.mem_of_find?_eq_some h
  have h1 := setsR_len k [] 0 nn l hm
  have h2 := setsR_ris k 0 nn l hm
  refine ⟨by simpa using h1, by simpa using h2, List.find?_some h, fun x hx hl hlex => ?_⟩
  obtain ⟨_, pr, bs, hL, has⟩ := List.find?_eq_some_iff_append.1 h
  have hxm := setsR_all x 0 nn (by simpa using hx)
  rw [hl] at hxm
  have hsort := setsR_sort k 0 nn
  rw [hL] at hxm hsort
  rcases List.mem_append.1 hxm with h3 | h3
  · have := has x h3; simpa using this
  · rcases List.mem_cons.1 h3 with rfl | h3
    · rw [lexB_self] at hlex; cases hlex
    · have h4 := (List.pairwise_append.1 hsort).2.1
      have h5 := (List.pairwise_cons.1 h4).1 x h3
      rw [h5] at hlex; cases hlex
theorem fewTo_noneAll : ∀ {k : Nat}, fewTo R nn sl k = none → ∀ x, risB (-1) x (nn : Int) = true → x.length < k → fewB R nn sl x = false
  | k + 1, h, x, hx, hl => by
    cases h0 : fewTo R nn sl k with
    | some l => simp only [fewTo, h0] at h; cases h
    | none =>
      simp only [fewTo, h0] at h
      by_cases e : x.length = k
      · exact fewUp_none h hx e
      · exact fewTo_noneAll h0 x hx (by omega)
theorem fewTo_first : ∀ {k : Nat} {l : List Int}, fewTo R nn sl k = some l → risB (-1) l (nn : Int) = true ∧ fewB R nn sl l = true ∧ (∀ x, risB (-1) x (nn : Int) = true → x.length < l.length → fewB R nn sl x = false) ∧ ∀ x, risB (-1) x (nn : Int) = true → x.length = l.length → lexB x l = true → fewB R nn sl x = false
  | k + 1, l, h => by
    cases h0 : fewTo R nn sl k with
    | some l' =>
      simp only [fewTo, h0] at h
      cases h
      exact fewTo_first h0
    | none =>
      simp only [fewTo, h0] at h
      obtain ⟨h1, h2, h3, h4⟩ := fewUp_some h
      exact ⟨h2, h3, fun x hx hl => fewTo_noneAll h0 x hx (by omega), fun x hx hl => h4 x hx (by omega)⟩
theorem few_all (h : fewTo R nn sl (nn + 1) = none) {x : List Int} (hx : risB (-1) x (nn : Int) = true) : fewB R nn sl x = false :=
  fewTo_noneAll h x hx (by have := ris_len hx; omega)
/-! ### Hall -/
theorem wantB_iff {l : List Int} {i : Nat} : wantB R nn l i = true ↔ ∀ k, k < nn → R i k = true → l.contains (k : Int) = true := by
  unfold wantB
  rw [Bool.not_eq_true', List.any_eq_false]
  constructor
  · intro h k hk hR
    have := h (k : Int) (List.contains_iff_mem.1 ((rowL_has nn (R i) (k : Int)).2 ⟨k, hk, hR, rfl⟩))
    simpa using this
  · intro h q hq
    obtain ⟨k, hk, hR, rfl⟩ := (rowL_has nn (R i) q).1 (List.contains_iff_mem.2 hq)
    have h9 := h k hk hR
    rw [h9]; simp
theorem filt_cnt (p : Nat → Bool) : ∀ (m : Nat) (s : Nat → Bool), ((rowL m s).filter fun q => p q.toNat).length = cnt (fun i => s i && p i) m
  | 0, s => rfl
  | m + 1, s => by
    rw [rowL_step, List.filter_append, List.length_append, filt_cnt p m s]
    show _ = cnt (fun i => s i && p i) m + (if (s m && p m) = true then 1 else 0)
    congr 1
    cases hs : s m <;> cases hp : p m <;> simp [hp]
theorem withN_cnt (hs : risB (-1) sl (m : Int) = true) (l : List Int) : withN R nn sl l = cnt (fun i => sl.contains (i : Int) && wantB R nn l i) m := by
  unfold withN
  have h := ris_rowL hs
  conv => lhs; rw [h]
  exact filt_cnt (wantB R nn l) m _
theorem ris_cnt {l : List Int} (h : risB (-1) l (nn : Int) = true) : cnt (fun k => l.contains (k : Int)) nn = l.length := cnt_some h
/-- Where all can have one no set is too few. -/
theorem all_noFew (hn : nn ≤ 8) (hs : risB (-1) sl (m : Int) = true) (h : rkm (Rsome sl R) m nn = sl.length) {l : List Int} (hl : risB (-1) l (nn : Int) = true) : fewB R nn sl l = false := by
  have h1 := rkm_hall (R := R) (m := m) hn (fun i => sl.contains (i : Int))
  rw [cnt_some hs] at h1
  have h2 := h1.2.1 h (fun i => sl.contains (i : Int) && wantB R nn l i) (fun i hi => by simp only [Bool.and_eq_true] at hi; exact hi.1)
  have h3 : cnt (nb R m (fun i => sl.contains (i : Int) && wantB R nn l i)) nn ≤ cnt (fun k => l.contains (k : Int)) nn := cnt_le nn fun k hk hb => by
    obtain ⟨i, _, hi, hR⟩ := nb_iff.1 hb
    simp only [Bool.and_eq_true] at hi
    exact wantB_iff.1 hi.2 k hk hR
  rw [ris_cnt hl] at h3
  unfold fewB
  rw [withN_cnt hs]
  exact decide_eq_false (by omega)
/-- Where not all can there are some. -/
theorem noAll_few (hn : nn ≤ 8) (hs : risB (-1) sl (m : Int) = true) (h : rkm (Rsome sl R) m nn ≠ sl.length) : ∃ l, risB (-1) l (nn : Int) = true ∧ fewB R nn sl l = true := by
  have h1 := rkm_hall (R := R) (m := m) hn (fun i => sl.contains (i : Int))
  rw [cnt_some hs] at h1
  by_cases hh : ∀ S : Nat → Bool, (∀ i, S i = true → sl.contains (i : Int) = true) → cnt S m ≤ cnt (nb R m S) nn
  · exact absurd (h1.2.2 hh) h
  · simp only [Classical.not_forall] at hh
    obtain ⟨S, hS, hc⟩ := hh
    refine ⟨rowL nn (nb R m S), ris_of hn _, ?_⟩
    have h3 : cnt S m ≤ cnt (fun i => sl.contains (i : Int) && wantB R nn (rowL nn (nb R m S)) i) m := cnt_le m fun i hi hSi => by
      simp only [Bool.and_eq_true]
      refine ⟨hS i hSi, wantB_iff.2 fun k hk hR => (rowL_has nn _ _).2 ⟨k, hk, nb_iff.2 ⟨i, hi, hSi, hR⟩, rfl⟩⟩
    unfold fewB
    rw [withN_cnt hs, rowL_cnt]
    exact decide_eq_true (by omega)
theorem few_iff (hn : nn ≤ 8) (hs : risB (-1) sl (m : Int) = true) : fewTo R nn sl (nn + 1) = none ↔ rkm (Rsome sl R) m nn = sl.length := by
  constructor
  · intro h
    apply Classical.byContradiction
    intro h2
    obtain ⟨l, h3, h4⟩ := noAll_few hn hs h2
    rw [few_all h h3] at h4; cases h4
  · intro h
    cases hf : fewTo R nn sl (nn + 1) with
    | none => rfl
    | some l =>
      obtain ⟨h1, h2, _⟩ := fewTo_first hf
      rw [all_noFew hn hs h h1] at h2; cases h2
theorem fewR_eq (hn : nn ≤ 8) (hs : risB (-1) sl (m : Int) = true) : fewR R m nn sl = fewTo R nn sl (nn + 1) := by
  unfold fewR
  by_cases h : rkm (Rsome sl R) m nn = sl.length
  · rw [if_pos h, (few_iff hn hs).2 h]
  · rw [if_neg h]
end few
end Go.Proofs.Ytifbgpkjbciblaa.Sal
end
section
/- salesroomlaw09.has, within, alive. -/
set_option maxRecDepth 100000
namespace Go.Proofs.Ytifbgpkjbciblaa.Sal
open Go.RowKit
attribute [local irreducible] Go.Code.wpIn Go.wpListIn Ct Ints Rows Sl At Rw WJ
set_option linter.all false
theorem Few_none {R : Nat → Nat → Bool} {m nn : Nat} (hm : m ≤ 8) (hn : nn ≤ 8) (gv : Value) (sv' : Value) (sl : List Int) (w : World) (hg : Rows w gv (gL R m nn)) (hs : Ints w sv' sl) (hris : risB (-1) sl (m : Int) = true) (h : fewR R m nn sl = none) :
    Ct Try.prog 15 #[gv, .int .i64 (nn : Int), sv'] w fun u w' => u = .tuple #[.slice none 0 0, .bool false, .int .i64 0] ∧ Ex w w' :=
  (Few_ok hm hn gv sv' sl w hg hs hris).mono fun u w' ⟨hx, hr⟩ => by
    rcases hr with ⟨_, hu⟩ | ⟨l, v, a, h2, _⟩
    · exact ⟨hu, hx⟩
    · rw [h] at h2; cases h2
theorem Few_some {R : Nat → Nat → Bool} {m nn : Nat} (hm : m ≤ 8) (hn : nn ≤ 8) (gv : Value) (sv' : Value) (sl l : List Int) (w : World) (hg : Rows w gv (gL R m nn)) (hs : Ints w sv' sl) (hris : risB (-1) sl (m : Int) = true) (h : fewR R m nn sl = some l) :
    Ct Try.prog 15 #[gv, .int .i64 (nn : Int), sv'] w fun u w' => ∃ v a, u = .tuple #[v, .bool true, .int .i64 0] ∧ v = .slice a l.length l.length ∧ (∀ b, v.ownBlock = some b → w.heap.size ≤ b) ∧ Ints w' v l ∧ Ex w w' :=
  (Few_ok hm hn gv sv' sl w hg hs hris).mono fun u w' ⟨hx, hr⟩ => by
    rcases hr with ⟨h2, _⟩ | ⟨l', v, a, h2, h3, h4, h5, h6⟩
    · rw [h] at h2; cases h2
    · rw [h] at h2; cases h2
      exact ⟨v, a, h3, h4, h5, h6, hx⟩
end Go.Proofs.Ytifbgpkjbciblaa.Sal
end
section
/- Plain: what the laws of the halls say. -/
set_option maxRecDepth 100000
namespace Go.Proofs.Ytifbgpkjbciblaa.Sal
set_option linter.all false
theorem mem_getD {l : List Int} {q : Int} : q ∈ l ↔ ∃ j, j < l.length ∧ l.getD j 0 = q := by
  constructor
  · intro h
    obtain ⟨j, hj⟩ := List.mem_iff_getElem?.1 h
    have h1 := (List.getElem?_eq_some_iff.1 hj).1
    exact ⟨j, h1, by rw [List.getD_eq_getElem?_getD, hj]; rfl⟩
  · rintro ⟨j, hj, rfl⟩
    rw [List.getD_eq_getElem?_getD, List.getElem?_eq_getElem hj]
    exact List.getElem_mem hj
section
variable {R : Nat → Nat → Bool} {m nn : Nat} {sl : List Int}
end
theorem few_first {R : Nat → Nat → Bool} {m nn : Nat} {sl l : List Int} (hn : nn ≤ 8) (hs : risB (-1) sl (m : Int) = true) (h : fewR R m nn sl = some l) : risB (-1) l (nn : Int) = true ∧ l.length < (sl.filter fun q => wantB R nn l q.toNat).length := by
  rw [fewR_eq hn hs] at h
  have h2 := fewTo_first h
  exact ⟨h2.1, of_decide_eq_true h2.2.1⟩
end Go.Proofs.Ytifbgpkjbciblaa.Sal
end
section
/- demands.may, gains, Of. -/
set_option maxRecDepth 100000
namespace Go.Proofs.Ytifbgpkjbciblaa.Sal
open Go.RowKit
def badP (n : Int) : Bool := decide (n < 0) || decide (2000000 < n)
def mayD (prices : List Int) (items : Int) : Bool := decide (1 ≤ items) && decide (items ≤ 8) && decide ((prices.length : Int) = items) && !(prices.any badP)
/-- One item asked: what is liked best so far, and how much is gained by it. -/
def stepD (s : List Int × Int) (x : Nat × Int) : List Int × Int := if s.2 < x.2 then ([(x.1 : Int)], x.2) else if x.2 = s.2 then (s.1 ++ [(x.1 : Int)], s.2) else s
def foldD (l : List (Nat × Int)) : List Int × Int := l.foldl stepD ([], 0)
theorem foldD_snoc (l : List (Nat × Int)) (x : Nat × Int) : foldD (l ++ [x]) = stepD (foldD l) x := by simp [foldD]
theorem stepD_len (s : List Int × Int) (x : Nat × Int) : (stepD s x).1.length ≤ s.1.length + 1 := by
  unfold stepD
  split
  · simp
  · split
    · simp
    · simp
theorem foldl_stepD_len : ∀ (l : List (Nat × Int)) (s : List Int × Int), (l.foldl stepD s).1.length ≤ s.1.length + l.length
  | [], s => by simp
  | x :: l, s => by
    have h1 := foldl_stepD_len l (stepD s x)
    have h2 := stepD_len s x
    rw [List.foldl_cons, List.length_cons]; omega
theorem foldD_len (l : List (Nat × Int)) : (foldD l).1.length ≤ l.length := by
  have := foldl_stepD_len l ([], 0)
  unfold foldD; simpa using this
def gpr (bid prices : List Int) (i : Nat) : List (Nat × Int) := (List.range i).map fun k => (k, bid.getD k 0 - prices.getD k 0)
theorem gpr_succ (bid prices : List Int) (i : Nat) : gpr bid prices (i + 1) = gpr bid prices i ++ [(i, bid.getD i 0 - prices.getD i 0)] := by simp [gpr, List.range_succ]
theorem gpr_len (bid prices : List Int) (i : Nat) : (gpr bid prices i).length = i := by simp [gpr]
def encG (x : Nat × Int) : Array Value := #[.int .i64 (x.1 : Int), .int .i64 x.2]
/-- What the iterator over gains reads. -/
def GSr (c1 c2 : Nat) (bv pv : Value) (bid prices : List Int) (W : World) : Prop := (W.cell? ⟨c1, 0, none⟩ = some bv ∧ Ints W bv bid) ∧ W.cell? ⟨c2, 0, none⟩ = some pv ∧ Ints W pv prices
theorem GSr.kc {c1 c2 : Nat} {bv pv : Value} {bid prices : List Int} {w w' : World} (h : GSr c1 c2 bv pv bid prices w) (hk : KC w w') : GSr c1 c2 bv pv bid prices w' := ⟨⟨hk.1 _ _ h.1.1, hk.ints h.1.2⟩, hk.1 _ _ h.2.1, hk.ints h.2.2⟩
attribute [local irreducible] Go.Code.wpIn Go.wpListIn Ct Ints Rows Sl At Rw WJ
set_option linter.all false
theorem ok_dmay : CallOK Try.prog 32 := callOK Try.func32 (by kernel_rfl) rfl
theorem ok_dmay1 : CallOK Try.prog 49 := callOK Try.func49 (by kernel_rfl) rfl
theorem ok_gains : CallOK Try.prog 51 := callOK Try.func51 (by kernel_rfl) rfl
theorem ok_gains1 : CallOK Try.prog 67 := callOK Try.func67 (by kernel_rfl) rfl
theorem ok_Of : CallOK Try.prog 33 := callOK Try.func33 (by kernel_rfl) rfl
theorem ok_Of1 : CallOK Try.prog 50 := callOK Try.func50 (by kernel_rfl) rfl
theorem dmay1_ct (x : Int) (w : World) : Ct Try.prog 49 #[.int .i64 x] w fun v w' => v = .bool (badP x) ∧ Ex w w' := by
  refine enter (N := 9) (vs := [.int .i64 x]) Try.func49 rfl rfl rfl ?_
  by_cases h1 : x < 0
  · repeat (first | (refine isO ?_; first | refine s_move ?_ | refine s_assign ?_ | (refine isG ?_; refine g_no rfl rfl rfl ?_) | (refine isBin ?_; refine s_lssT rfl rfl (by omega) ?_) | (refine isPick ?_; refine s_pickt rfl rfl ?_)) | (refine isC ?_; first | refine c_sr ?_ | refine c_ret ?_) | (refine l_th ?_))
    exact ret1 rfl rfl ⟨vbool (by unfold badP; rw [decide_eq_true h1]; rfl), Ex.refl _⟩
  · repeat (first | (refine isO ?_; first | refine s_move ?_ | refine s_assign ?_ | (refine isG ?_; refine g_yes rfl rfl ?_) | (refine isBin ?_; first | refine s_lssF rfl rfl (by omega) ?_ | refine s_gtr rfl rfl ?_) | (refine isPick ?_; refine s_pickf rfl rfl ?_)) | (refine isC ?_; first | refine c_sr ?_ | refine c_ret ?_) | (refine l_th ?_))
    exact ret1 rfl rfl ⟨vbool (by unfold badP; rw [decide_eq_false h1]; rfl), Ex.refl _⟩
theorem dmay_ct (v : Value) (prices : List Int) (items : Int) (w : World) (hl : Ints w v prices) :
    Ct Try.prog 32 #[v, .int .i64 items] w fun u w' => u = .bool (mayD prices items) ∧ Ex w w' := by
  have hlen := hl.len
  refine enter (N := 22) (vs := [v, .int .i64 items]) Try.func32 rfl rfl rfl ?_
  by_cases h1 : 1 ≤ items
  · by_cases h2 : items ≤ 8
    · by_cases h3 : (prices.length : Int) = items
      · repeat (first | (refine isO ?_; first | refine s_move ?_ | refine s_assign ?_ | (refine isG ?_; refine g_yes rfl rfl ?_) | (refine isBin ?_; first | refine s_eqlT rfl rfl (by omega) ?_ | refine s_leqT rfl rfl (by omega) ?_ | refine s_geqT rfl rfl (by omega) ?_) | (refine isCall ?_; refine s_lenI sl_ints rfl (by assumption) ?_) | (refine isPick ?_; refine s_pickt rfl rfl ?_)) | (refine isC ?_; refine c_sr ?_) | (refine l_th ?_))
        refine s_call ok_cfI rfl (cfI_ct v prices 49 [] badP w hl ⟨ok_dmay1, fun x w1 _ => dmay1_ct x w1⟩) ?_
        rintro u w2 ⟨rfl, hx2⟩
        repeat (first | (refine isO ?_; first | refine s_assign ?_ | (refine isG ?_; refine g_yes rfl rfl ?_) | (refine isPick ?_; refine s_pickt rfl rfl ?_) | refine s_not rfl ?_) | (refine isC ?_; refine c_ret ?_) | (refine l_th ?_))
        exact ret1 rfl rfl ⟨vbool (by unfold mayD; rw [decide_eq_true h1, decide_eq_true h2, decide_eq_true h3]; rfl), hx2⟩
      · repeat (first | (refine isO ?_; first | refine s_move ?_ | refine s_assign ?_ | (refine isG ?_; first | refine g_yes rfl rfl ?_ | refine g_no rfl rfl rfl ?_) | (refine isBin ?_; first | refine s_eqlF rfl rfl (by omega) ?_ | refine s_leqT rfl rfl (by omega) ?_ | refine s_geqT rfl rfl (by omega) ?_) | (refine isCall ?_; refine s_lenI sl_ints rfl (by assumption) ?_) | (refine isPick ?_; first | refine s_pickt rfl rfl ?_ | refine s_pickf rfl rfl ?_)) | (refine isC ?_; first | refine c_sr ?_ | refine c_ret ?_) | (refine l_th ?_))
        exact ret1 rfl rfl ⟨vbool (by unfold mayD; rw [decide_eq_false h3]; simp), Ex.refl _⟩
    · repeat (first | (refine isO ?_; first | refine s_move ?_ | refine s_assign ?_ | (refine isG ?_; first | refine g_yes rfl rfl ?_ | refine g_no rfl rfl rfl ?_) | (refine isBin ?_; first | refine s_leqF rfl rfl (by omega) ?_ | refine s_geqT rfl rfl (by omega) ?_) | (refine isPick ?_; first | refine s_pickt rfl rfl ?_ | refine s_pickf rfl rfl ?_)) | (refine isC ?_; first | refine c_sr ?_ | refine c_ret ?_) | (refine l_th ?_))
      exact ret1 rfl rfl ⟨vbool (by unfold mayD; rw [decide_eq_false h2]; simp), Ex.refl _⟩
  · repeat (first | (refine isO ?_; first | refine s_move ?_ | refine s_assign ?_ | (refine isG ?_; refine g_no rfl rfl rfl ?_) | (refine isBin ?_; refine s_geqF rfl rfl (by omega) ?_) | (refine isPick ?_; refine s_pickf rfl rfl ?_)) | (refine isC ?_; first | refine c_sr ?_ | refine c_ret ?_) | (refine l_th ?_))
    exact ret1 rfl rfl ⟨vbool (by unfold mayD; rw [decide_eq_false h1]; rfl), Ex.refl _⟩
theorem gains_ct (bv pv : Value) (bid prices : List Int) (w : World) (hb : Ints w bv bid) (hp : Ints w pv prices) :
    Ct Try.prog 51 #[bv, pv] w fun u w' => ∃ c1 c2, u = .func (.func 67) #[] #[.pointer (some ⟨c1, 0, none⟩), .pointer (some ⟨c2, 0, none⟩)] ∧ w.heap.size ≤ c1 ∧ w.heap.size ≤ c2 ∧ GSr c1 c2 bv pv bid prices w' ∧ Ex w w' := by
  obtain ⟨a1, k1, hf1⟩ := hb.form
  obtain ⟨a2, k2, hf2⟩ := hp.form
  refine enter (N := 6) (vs := [bv, pv]) Try.func51 rfl rfl rfl ?_
  repeat ((refine isC ?_; refine c_sr ?_))
  refine s_box (cs := [bv]) rfl (by rw [hf1]; rfl) ?_
  intro c1 w1 hc1 hA1 hx1 hs1
  refine s_box (cs := [pv]) rfl (by rw [hf2]; rfl) ?_
  intro c2 w2 hc2 hA2 hx2 hs2
  have hx02 := hx1.trans hx2
  have z1 := hx1.size
  repeat (first | (refine isO ?_; refine s_assign ?_) | (refine isC ?_; refine c_sr ?_) | (refine l_th ?_))
  refine s_mkfn (vs := [.pointer (some ⟨c1, 0, none⟩), .pointer (some ⟨c2, 0, none⟩)]) rfl ?_
  repeat (first | (refine isO ?_; refine s_assign ?_) | (refine isC ?_; refine c_ret ?_) | (refine l_th ?_))
  exact ret1 rfl rfl ⟨c1, c2, rfl, by omega, by omega, ⟨⟨by rw [(hA1.ex hx2).cell]; rfl, hb.ex hx02⟩, by rw [hA2.cell]; rfl, hp.ex hx02⟩, hx02⟩
set_option maxHeartbeats 1000000 in
theorem gains_stops {bid prices : List Int} (hlen : bid.length ≤ 8) (hle : bid.length ≤ prices.length) (hbb : ∀ k, -10000000 ≤ bid.getD k 0 ∧ bid.getD k 0 ≤ 10000000) (hpb : ∀ k, -10000000 ≤ prices.getD k 0 ∧ prices.getD k 0 ≤ 10000000) {c1 c2 : Nat} {bv pv : Value} {w : World} (hS : GSr c1 c2 bv pv bid prices w) :
    SeqStopsK Fence.wide 0 Try.prog 67 [Value.pointer (some ⟨c1, 0, none⟩), Value.pointer (some ⟨c2, 0, none⟩)].toArray encG (fun W W' => GSr c1 c2 bv pv bid prices W → GSr c1 c2 bv pv bid prices W') (fun ys => ys = gpr bid prices bid.length) (fun _ => True) 100 w := by
  intro l J Jx W hW hJ hJx hY h0
  have hS0 : GSr c1 c2 bv pv bid prices W := hS.kc (KC.ex hW)
  have key : Ct Try.prog 67 [Value.func (.yield l) #[] #[], .pointer (some ⟨c1, 0, none⟩), .pointer (some ⟨c2, 0, none⟩)].toArray W (fun _ W' => (∃ xs, xs = gpr bid prices bid.length ∧ J xs W') ∨ (∃ pre : List (Nat × Int), True ∧ Jx pre W')) := by
    refine enter (N := 24) (vs := [.func (.yield l) #[] #[], .pointer (some ⟨c1, 0, none⟩), .pointer (some ⟨c2, 0, none⟩)]) Try.func67 rfl rfl rfl ?_
    have hc0 := hS0.1.1
    have hs0 := hS0.1.2
    repeat ((refine isC ?_; refine c_sr ?_))
    refine s_ld ty_ints rfl hc0 ?_
    repeat (first | (refine isO ?_; first | refine s_move ?_ | (refine isCall ?_; refine s_lenI sl_ints rfl (by assumption) ?_)) | (refine isC ?_; refine c_block ?_) | (refine l_th ?_))
    refine c_loop (γ := Nat) 16777008 (fun i => [(8, .int .i64 (i : Int))]) (fun i w' => i ≤ bid.length ∧ J (gpr bid prices i) w' ∧ GSr c1 c2 bv pv bid prices w') (fun i => bid.length - i) 0 ⟨rfl, trivial⟩ ⟨Nat.zero_le _, h0, hS0⟩ ?_
    rintro i ρ w1 ⟨hi, hj1, hS1⟩
    have hb1 := hS1.1.2
    have hp1 := hS1.2.2
    have hcp := hS1.2.1
    repeat (first | (refine isO ?_; (refine isBin ?_; refine s_lss rfl rfl ?_)) | (refine isC ?_; first | refine c_sr ?_ | refine c_seq ?_) | (refine l_th ?_))
    refine c_ifd rfl (fun h => ?_) (fun h => ?_)
    · have hi' : i < bid.length := by omega
      have hip : i < prices.length := by omega
      have b1 := hbb i
      have b2 := hpb i
      have hl := gpr_len bid prices i
      have hYn := hY (gpr bid prices i) (i, bid.getD i 0 - prices.getD i 0) w1 hj1 (by rw [hl]; omega)
      have henc : encG (i, bid.getD i 0 - prices.getD i 0) = [Value.int .i64 (i : Int), Value.int .i64 (bid.getD i 0 - prices.getD i 0)].toArray := rfl
      rw [henc, ← gpr_succ] at hYn
      repeat (first | (refine isO ?_; first | refine s_move ?_ | refine s_assign ?_ | (refine isIA ?_; refine s_ixI sl_ints ty_int rfl rfl rfl (by assumption) (by omega) ?_; intro _)) | (refine isC ?_; first | refine c_sr ?_ | refine c_th ?_ | refine c_seq ?_ | refine c_block ?_) | (refine l_th ?_))
      refine s_ld ty_ints rfl hcp ?_
      repeat ((refine isO ?_; first | refine s_move ?_ | (refine isBin ?_; refine s_sub rfl rfl ⟨by omega, by omega⟩ ?_) | (refine isIA ?_; refine s_ixI sl_ints ty_int rfl rfl rfl (by assumption) (by omega) ?_; intro _)))
      refine s_yield (vs := [.int .i64 (i : Int), .int .i64 (bid.getD i 0 - prices.getD i 0)]) rfl rfl hYn ?_
      rintro e w3 (⟨rfl, hj3, hk3⟩ | ⟨rfl, hjx⟩)
      · refine ⟨_, rfl, ?_⟩
        have hS3 := hk3 hS1
        repeat (first | (refine isO ?_; first | refine s_move ?_ | (refine isBin ?_; refine s_inc rfl (by omega) ?_) | refine s_not rfl ?_) | (refine isC ?_; first | refine c_region ?_ | refine c_iff rfl ?_ | refine c_skip ?_) | (refine l_th ?_))
        exact loop_end (i + 1) (by (repeat (first | exact agree_refl _ _ | refine agree_upd rfl ?_ | refine agree_ext rfl ?_ | refine agree_mask rfl ?_))) ⟨rfl, trivial⟩ ⟨hi', hj3, hS3⟩ (by omega)
      · refine ⟨_, rfl, ?_⟩
        repeat (first | (refine isO ?_; refine s_not rfl ?_) | (refine isC ?_; first | refine c_ift rfl ?_ | refine c_ret ?_) | (first | refine l_th ?_ | refine th_ret ?_ | refine ib_ret ?_))
        exact ret0 rfl (.inr ⟨_, trivial, hjx⟩)
    · have hie : i = bid.length := by omega
      subst hie
      repeat (first | (refine isC ?_; refine c_exit ?_) | (first | refine ib_exit ?_ | refine th_exit ?_))
      exact end0 rfl (.inl ⟨_, rfl, hj1⟩)
  have e0 : (#[Value.func (.yield l) #[] #[]] ++ [Value.pointer (some ⟨c1, 0, none⟩), Value.pointer (some ⟨c2, 0, none⟩)].toArray : Array Value) = [Value.func (.yield l) #[] #[], .pointer (some ⟨c1, 0, none⟩), .pointer (some ⟨c2, 0, none⟩)].toArray := by simp
  rw [e0]
  refine CallsIn.mono key.callsIn ?_
  rintro e W' ⟨v, rfl, h⟩
  exact ⟨⟨v, rfl⟩, h⟩
end Go.Proofs.Ytifbgpkjbciblaa.Sal
end
section
/- demands.Of. -/
set_option maxRecDepth 100000
namespace Go.Proofs.Ytifbgpkjbciblaa.Sal
open Go.RowKit
/-- What lies in memory between two items. -/
def OfJ (base c1 c2 b4 b5 b6 : Nat) (bv pv : Value) (bid prices : List Int) (pre : List (Nat × Int)) (W : World) : Prop :=
  GSr c1 c2 bv pv bid prices W ∧ ∃ v, At W b4 22 [v] ∧ At W b5 4 [.bool false] ∧ At W b6 3 [.int .i64 (foldD pre).2] ∧ Rw W 3 v ((foldD pre).1.map (Value.int .i64)) ∧ ∀ b, v.ownBlock = some b → base ≤ b
theorem OfJ.own {base c1 c2 b4 b5 b6 : Nat} {bv pv : Value} {bid prices : List Int} : Own (OfJ base c1 c2 b4 b5 b6 bv pv bid prices) := by
  intro pre A B row hs hg hr
  have hk := KC.turn hg hr
  obtain ⟨h1, v, h2, h3, h4, h5, h6⟩ := hs
  exact ⟨h1.kc hk, v, hk.at h2, hk.at h3, hk.at h4, Rw.own (β := Unit) () A B row h5 hg hr, h6⟩
theorem bd_of {l : List Int} {lo hi : Int} (h0 : lo ≤ 0) (h1 : 0 ≤ hi) (h : ∀ x ∈ l, lo ≤ x ∧ x ≤ hi) (k : Nat) : lo ≤ l.getD k 0 ∧ l.getD k 0 ≤ hi := by
  rw [List.getD_eq_getElem?_getD]
  cases e : l[k]? with
  | none => exact ⟨h0, h1⟩
  | some x => exact h x (List.mem_of_getElem? e)
theorem bd_bid {bid : List Int} {items : Int} (h : badBid items bid = false) (k : Nat) : 0 ≤ bid.getD k 0 ∧ bid.getD k 0 ≤ 1000000 := by
  refine bd_of (by omega) (by omega) (fun x hx => ?_) k
  unfold badBid vecB at h
  have hlen : 0 < bid.length := List.length_pos_of_mem hx
  rw [decide_eq_true hlen, Bool.true_and, Bool.not_eq_false', Bool.and_eq_true, Bool.and_eq_true] at h
  have := List.all_eq_true.1 h.2 x hx
  unfold inM at this
  simpa using this
theorem bd_pr {prices : List Int} {items : Int} (h : mayD prices items = true) (k : Nat) : 0 ≤ prices.getD k 0 ∧ prices.getD k 0 ≤ 2000000 := by
  refine bd_of (by omega) (by omega) (fun x hx => ?_) k
  unfold mayD at h
  rw [Bool.and_eq_true] at h
  have h2 : prices.any badP = false := by simpa using h.2
  have h3 := (List.any_eq_false.1 h2) x hx
  unfold badP at h3
  simp at h3
  omega
theorem len_bid {bid : List Int} {items : Int} (h : badBid items bid = false) : bid.length = 0 ∨ ((bid.length : Int) = items) := by
  rcases Nat.eq_zero_or_pos bid.length with h0 | h0
  · exact .inl h0
  · unfold badBid vecB at h
    rw [decide_eq_true h0, Bool.true_and, Bool.not_eq_false', Bool.and_eq_true, Bool.and_eq_true] at h
    exact .inr (by simpa using h.1.2)
theorem len_pr {prices : List Int} {items : Int} (h : mayD prices items = true) : 1 ≤ items ∧ items ≤ 8 ∧ (prices.length : Int) = items := by
  unfold mayD at h
  simp only [Bool.and_eq_true, decide_eq_true_eq] at h
  exact ⟨h.1.1.1, h.1.1.2, h.1.2⟩
attribute [local irreducible] Go.Code.wpIn Go.wpListIn Ct Ints Rows Sl At Rw WJ
set_option linter.all false
theorem ret4d {P : Program} {fn : Func} {w : World} {R : Value → World → Prop} {N : Nat} {σ : Nat → Value} {D f : Nat} {caps : Array Value} {S : World → Prop} {a b c d : Nat} {ta tb tc : TypeId} {pa pb pc : Addr} {va vb vc vd : Value}
    (hres : fn.results = #[.cell a ta, .cell b tb, .cell c tc, .tmp d]) (ha : ev N σ (.tmp a) = .pointer (some pa)) (hb : ev N σ (.tmp b) = .pointer (some pb)) (hc : ev N σ (.tmp c) = .pointer (some pc)) (hd : ev N σ (.tmp d) = vd)
    (ea : Ty1 P ta) (eb : Ty1 P tb) (ec : Ty1 P tc) (hK : w.heap[D]? = some (.deferred (some []))) (eg : CallOK P f) (hC : CtD P f caps (w.putObj D (.deferred none)) S)
    (hR : ∀ w', S w' → w'.cell? pa = some va ∧ w'.cell? pb = some vb ∧ w'.cell? pc = some vc ∧ R (.tuple #[va, vb, vc, vd]) w') : Post P fn R .ret (mk N σ [mark D, dcall f caps]) w := by
  have key : LeavesInM (FW none) 0 P fn (mk N σ [mark D, dcall f caps]).tmps (RE R) [mark D, dcall f caps] .returning w := by
    refine leave_def (v := .tuple #[va, vb, vc, vd]) hK eg (by rw [Array.empty_append]; exact hC) fun w' hS => ?_
    obtain ⟨h1, h2, h3, h4⟩ := hR w' hS
    refine ⟨?_, h4⟩
    have := results_cells4 (P := P) (tmps := (mk N σ [mark D, dcall f caps]).tmps) hres (getD_mk' ha) (getD_mk' hb) (getD_mk' hc) ea eb ec h1 h2 h3
    rwa [getD_mk' hd] at this
  exact key
def clipV : Value → Value
  | .slice a n _ => .slice a n n
  | v => v
theorem clipV_own (v : Value) : (clipV v).ownBlock = v.ownBlock := by
  cases v <;> first | rfl | (rename_i a _ _; cases a <;> rfl)
/-- What the deferred call leaves. -/
def OfS (w0 : World) (b4 b5 b6 : Nat) (S0 : Nat) (v : Value) (items : List Int) (g : Int) (W : World) : Prop :=
  At W b4 22 [clipV v] ∧ At W b5 4 [.bool (decide (g = 0))] ∧ At W b6 3 [.int .i64 g] ∧ Ints W (clipV v) items ∧ S0 ≤ W.heap.size ∧ Ex w0 W
theorem Of1_ct (b4 b5 b6 : Nat) (v : Value) (items : List Int) (g : Int) (w0 w : World) (h4 : At w b4 22 [v]) (h5 : At w b5 4 [.bool false]) (h6 : At w b6 3 [.int .i64 g]) (hI : Ints w v items) (hown : ∀ b, v.ownBlock = some b → b ≠ b4 ∧ b ≠ b5) (hne : b4 ≠ b5 ∧ b4 ≠ b6 ∧ b5 ≠ b6) (hx0 : Ex w0 w) (hb4 : w0.heap.size ≤ b4) (hb5 : w0.heap.size ≤ b5) :
    CtD Try.prog 50 [.pointer (some ⟨b4, 0, none⟩), .pointer (some ⟨b6, 0, none⟩), .pointer (some ⟨b5, 0, none⟩)].toArray w (OfS w0 b4 b5 b6 w.heap.size v items g) := by
  obtain ⟨hne1, hne2, hne3⟩ := hne
  refine enterD (N := 7) (vs := [.pointer (some ⟨b4, 0, none⟩), .pointer (some ⟨b6, 0, none⟩), .pointer (some ⟨b5, 0, none⟩)]) Try.func50 rfl rfl rfl ?_
  refine c_drawO (Ex.refl w) 48 6 [(0, true), (2, true), (3, true), (1, false), (4, false), (5, false)] mixed (by kernel_rfl) ?_
  have hxd := Ex.drew w
  refine d_ldA rfl ty_ints rfl h4 rfl ?_
  refine d_ldA rfl ty_int rfl h6 rfl ?_
  refine d_eql rfl rfl rfl ?_
  refine d_ch rfl ?_
  refine s_call ok_Clip rfl (Clip_ct v items w.drew (hI.ex hxd)) ?_
  rintro u w1 ⟨⟨a', c', hv', rfl⟩, hI1, hx1⟩
  subst hv'
  have hx01 := hxd.trans hx1
  refine l_nil ⟨rfl, .inr hx01, ?_⟩
  have h41 := h4.ex hx01
  have h51 := h5.ex hx01
  have h61 := h6.ex hx01
  have hob : ∀ b, (Value.slice a' items.length items.length).ownBlock = some b → b ≠ b4 ∧ b ≠ b5 := fun b hb => hown b (by cases a' <;> exact hb)
  refine d_ch rfl ?_
  refine s_stA (n := 0) (u := .slice a' items.length items.length) ty_ints rfl rfl rfl h41 (by simp) ?_
  intro w2 h42 hg2
  have h52 := h51.grown hg2 (fun e => by cases e; exact hne1 rfl)
  have h62 := h61.grown hg2 (fun e => by cases e; exact hne2 rfl)
  have hI2 := hI1.kept hg2 (.inr fun e => (hob b4 e).1 rfl)
  refine l_nil ⟨rfl, .inl rfl, ?_⟩
  refine d_ch rfl ?_
  refine s_stA (n := 0) (u := .bool (decide (g = 0))) ty_bl rfl rfl rfl h52 (by simp) ?_
  intro w3 h53 hg3
  have h43 : At w3 b4 22 [.slice a' items.length items.length] := At.grown h42 hg3 (fun e => by cases e; exact hne1 rfl)
  have h63 := h62.grown hg3 (fun e => by cases e; exact hne3 rfl)
  have hI3 := hI2.kept hg3 (.inr fun e => (hob b5 e).2 rfl)
  refine l_nil ⟨rfl, .inl rfl, ?_⟩
  refine d_nil ?_
  exact endD rfl ⟨h43, h53, h63, hI3, by have := hx01.size; have := hg2.size; have := hg3.size; omega, ((hx0.trans hx01).store hg2 hb4).store hg3 hb5⟩
set_option maxHeartbeats 4000000 in
theorem Of_ct (bv pv : Value) (bid prices : List Int) (w : World) (hb : Ints w bv bid) (hp : Ints w pv prices) (hm : mayD prices prices.length = true) (hbad : badBid prices.length bid = false) :
    Ct Try.prog 33 #[bv, pv] w fun u w' => ∃ v, u = .tuple #[v, .bool (decide ((foldD (gpr bid prices bid.length)).2 = 0)), .int .i64 (foldD (gpr bid prices bid.length)).2, .int .i64 0] ∧ Ints w' v (foldD (gpr bid prices bid.length)).1 ∧ (∀ b, v.ownBlock = some b → w.heap.size ≤ b ∧ b < w'.heap.size) ∧ Ex w w' := by
  have hbl := hb.len
  have hpl := hp.len
  have hbb := bd_bid hbad
  have hpb := bd_pr hm
  have hlp := len_pr hm
  have hlb := len_bid hbad
  obtain ⟨hl1, hl2, _⟩ := hlp
  refine Exists.elim in_ints' fun ti hti => ?_
  refine Exists.elim in_bl fun tb htb => ?_
  refine Exists.elim in_int' fun tn htn => ?_
  refine enter (N := 51) (vs := [bv, pv]) Try.func33 rfl rfl rfl ?_
  repeat ((refine isC ?_; refine c_sr ?_))
  refine s_alloc (cs := [.slice none 0 0]) hti.1 hti.2.1 rfl ?_
  intro b4 w1 hb4 hA4 hx1 hs1
  refine s_alloc (cs := [.bool false]) htb.1 htb.2 rfl ?_
  intro b5 w2 hb5 hA5 hx2 hs2
  refine s_alloc (cs := [.int .i64 0]) htn.1 htn.2.1 rfl ?_
  intro b6 w3 hb6 hA6 hx3 hs3
  have hx03 := (hx1.trans hx2).trans hx3
  have hA43 := hA4.ex (hx2.trans hx3)
  have hA53 := hA5.ex hx3
  refine s_assign ?_
  refine l_th ?_
  have hi64 : In64 ((prices.length : Int) - 1) := ⟨by omega, by omega⟩
  refine c_join (γ := Unit) 134216704 (fun _ => [(26, .bool false)]) (fun _ w' => Ex w3 w') ?_ ?_
  · have hp3 := hp.ex hx03
    have hb3 := hb.ex hx03
    repeat (first | (refine isO ?_; first | refine s_move ?_ | (refine isCall ?_; refine s_lenI sl_ints rfl (by assumption) ?_)) | (refine isC ?_; refine c_sr ?_))
    refine s_call ok_dmay rfl (dmay_ct pv prices (prices.length : Int) w3 (hp.ex hx03)) ?_
    rintro u w4 ⟨rfl, hx4⟩
    refine s_re (v' := .bool true) (vbool hm) ?_
    have hb4' := hb.ex (hx03.trans hx4)
    have hp4' := hp.ex (hx03.trans hx4)
    by_cases h0 : 0 < (bid.length : Int)
    · have hv : vecB bid prices.length = true := by
        unfold badBid at hbad
        rw [decide_eq_true (show 0 < bid.length by omega), Bool.true_and, Bool.not_eq_false'] at hbad
        exact hbad
      repeat ((refine isO ?_; first | refine s_move ?_ | (refine isG ?_; refine g_yes rfl rfl ?_) | (refine isBin ?_; refine s_gtrT rfl rfl (by omega) ?_) | (refine isCall ?_; refine s_lenI sl_ints rfl (by assumption) ?_) | refine s_not rfl ?_))
      refine s_call ok_vcheck rfl (vcheck_ct bv bid (prices.length : Int) w4 hb4' hi64) ?_
      rintro u w5 ⟨rfl, hx5⟩
      refine s_re (v' := .bool true) (vbool hv) ?_
      repeat (first | (refine isO ?_; first | (refine isG ?_; refine g_yes rfl rfl ?_) | (refine isPick ?_; first | refine s_pickt rfl rfl ?_ | refine s_pickf rfl rfl ?_) | refine s_not rfl ?_) | (refine isC ?_; first | refine c_th ?_ | refine c_iff rfl ?_) | (refine l_th ?_))
      exact join_end () (by (repeat (first | exact agree_refl _ _ | refine agree_upd rfl ?_))) ⟨rfl, trivial⟩ (hx4.trans hx5)
    · repeat (first | (refine isO ?_; first | refine s_move ?_ | (refine isG ?_; first | refine g_yes rfl rfl ?_ | refine g_no rfl rfl rfl ?_) | (refine isBin ?_; refine s_gtrF rfl rfl (by omega) ?_) | (refine isCall ?_; refine s_lenI sl_ints rfl (by assumption) ?_) | (refine isPick ?_; refine s_pickf rfl rfl ?_) | refine s_not rfl ?_) | (refine isC ?_; first | refine c_th ?_ | refine c_iff rfl ?_) | (refine l_th ?_))
      exact join_end () (by (repeat (first | exact agree_refl _ _ | refine agree_upd rfl ?_))) ⟨rfl, trivial⟩ hx4
  rintro _ ρ w5 hx35
  have hx05 := hx03.trans hx35
  repeat ((refine isC ?_; refine c_sr ?_))
  refine s_mkfn (vs := [.pointer (some ⟨b4, 0, none⟩), .pointer (some ⟨b6, 0, none⟩), .pointer (some ⟨b5, 0, none⟩)]) rfl ?_
  refine s_defer (by intro f e; cases e) (f := 50) (caps := [.pointer (some ⟨b4, 0, none⟩), .pointer (some ⟨b6, 0, none⟩), .pointer (some ⟨b5, 0, none⟩)]) rfl ?_
  repeat (first | (refine isO ?_; refine s_move ?_) | (refine isC ?_; first | refine c_sr ?_ | refine c_seq ?_) | (refine l_th ?_))
  refine s_call ok_gains rfl (gains_ct bv pv bid prices w5 (hb.ex hx05) (hp.ex hx05)) ?_
  rintro u w6 ⟨c1, c2, rfl, hc1, hc2, hS6, hx6⟩
  have hx06 := hx05.trans hx6
  have hx36 := hx35.trans hx6
  have hA46 := hA43.ex hx36
  have hA56 := hA53.ex hx36
  have hA66 := hA6.ex hx36
  have z1 := hx1.size
  have z2 := hx2.size
  have z3 := hx3.size
  have z35 := hx35.size
  have z6 := hx6.size
  have l4 := hA46.lt
  have l5 := hA56.lt
  have l6 := hA66.lt
  have l4' := hA43.lt
  have l5' := hA53.lt
  have l6' := hA6.lt
  have m1 := block_lt_of_cell hS6.1.1
  have m2 := block_lt_of_cell hS6.2.1
  have n45 : b4 ≠ b5 := by have := hA4.lt; omega
  have n46 : b4 ≠ b6 := by have := (hA4.ex hx2).lt; omega
  have n56 : b5 ≠ b6 := by have := hA5.lt; omega
  have hgs : ∀ W, W.cell? ⟨c1, 0, none⟩ = some bv → W.cell? ⟨c2, 0, none⟩ = some pv → Ex w W → GSr c1 c2 bv pv bid prices W := fun W h1 h2 hx => ⟨⟨h1, hb.ex hx⟩, h2, hp.ex hx⟩
  repeat (first | (refine isC ?_; refine c_block ?_) | (refine l_th ?_))
  refine c_range (gf := 67) (lb := [.pointer (some ⟨c1, 0, none⟩), .pointer (some ⟨c2, 0, none⟩)]) rfl ok_gains1 (gains_stops (by omega) (by omega) (fun k => by have := hbb k; omega) (fun k => by have := hpb k; omega) hS6) (fun h k => fun hh => k (h hh)) (fun W l o o' _ hl hc _ hh => hh.kc (KC.put hl hc)) (fun W h => h) (Ex.refl _) (fun _ => rfl)
    (fun pre W => OfJ w6.heap.size c1 c2 b4 b5 b6 bv pv bid prices pre W ∧ Ex w W ∧ w6.heap.size ≤ W.heap.size)
    (OwnFrom.and (Own.from OfJ.own _) (OwnFrom.and (ownFrom_below (Nat.le_refl _) (by omega)) (fun pre A B row hs hg _ => Nat.le_trans hs hg.size)))
    ⟨⟨hS6, _, hA46, hA56, hA66, Rw.nil _ _, fun b h => by cases h⟩, hx06, Nat.le_refl _⟩
    (fun x σ => upd (upd (updl [(31, .int .i64 (x.1 : Int)), (32, .int .i64 x.2)] σ) 8 (.int .i64 (x.1 : Int))) 9 (.int .i64 x.2)) ?_ ?_ ?_
  · intro l x W K hK
    repeat (first | (refine isO ?_; refine s_assign ?_) | (refine isC ?_; first | refine c_sr ?_ | refine c_region ?_) | (refine l_th ?_))
    exact hK
  · rintro l pre x W ⟨⟨hS, v, hA4w, hA5w, hA6w, hR, hv⟩, hxw, hzw⟩ hlt
    have hsn := foldD_snoc pre x
    have hfl := foldD_len pre
    by_cases h1 : (foldD pre).2 < x.2
    · repeat (first | (refine isO ?_; first | refine s_move ?_ | refine s_assign ?_ | (refine isBin ?_; refine s_gtrT rfl rfl (by omega) ?_) | (refine isLD ?_; refine s_ldA ty_int rfl (by assumption) rfl ?_)) | (refine isC ?_; first | refine c_sr ?_ | refine c_region ?_ | refine c_ift rfl ?_ | refine c_block ?_) | (refine l_th ?_))
      refine s_bs1 sl_ints in_int rfl rfl ?_
      intro b7 W1 hb7 hA7 hx7 hs7
      have hA41 := hA4w.ex hx7
      have hA51 := hA5w.ex hx7
      have hA61 := hA6w.ex hx7
      repeat ((refine isO ?_; refine s_move ?_))
      refine s_stA (n := 0) (u := sv b7 1 1) ty_ints rfl rfl rfl hA41 (by simp) ?_
      intro W2 hA42 hg2
      have hA62 := hA61.grown hg2 (fun e => by cases e; omega)
      have hA52 := hA51.grown hg2 (fun e => by cases e; omega)
      have hA72 := hA7.grown hg2 (fun e => by cases e; omega)
      refine s_stA (n := 0) (u := .int .i64 x.2) ty_int rfl rfl rfl hA62 (by simp) ?_
      intro W3 hA63 hg3
      have hA43' : At W3 b4 22 [sv b7 1 1] := At.grown hA42 hg3 (fun e => by cases e; omega)
      have hA53' := hA52.grown hg3 (fun e => by cases e; omega)
      have hA73 := hA72.grown hg3 (fun e => by cases e; omega)
      have hxw3 : Ex w W3 := ((hxw.trans hx7).store hg2 (by omega)).store hg3 (by omega)
      have hS3 := hgs W3 (cell_gr (cell_gr (hx7.cell hS.1.1) hg2 (show c1 ≠ b4 by omega)) hg3 (show c1 ≠ b6 by omega)) (cell_gr (cell_gr (hx7.cell hS.2.1) hg2 (show c2 ≠ b4 by omega)) hg3 (show c2 ≠ b6 by omega)) hxw3
      have hR3 : Rw W3 3 (sv b7 1 1) [.int .i64 (x.1 : Int)] := hA73.rw (n := 1) (c := 1) rfl (Nat.le_refl _) (by omega)
      have hst : stepD (foldD pre) x = ([(x.1 : Int)], x.2) := by unfold stepD; rw [if_pos h1]
      rw [hst] at hsn
      repeat ((first | refine ib_norm ?_ | refine l_nil ?_))
      refine own_norm (((KeepsFrom.ex hx7).trans (KeepsFrom.of_grownBy hg2 (fun j e => by cases e; omega))).trans (KeepsFrom.of_grownBy hg3 (fun j e => by cases e; omega))) (fun _ => hS3) ⟨⟨hS3, _, hA43', hA53', by rw [hsn]; exact hA63, by rw [hsn]; exact hR3, fun b hb => by have := Option.some.inj hb; simp at this; omega⟩, hxw3, by have := hx7.size; have := hg2.size; have := hg3.size; omega⟩
    · by_cases h2 : x.2 = (foldD pre).2
      · repeat (first | (refine isO ?_; first | refine s_move ?_ | refine s_assign ?_ | (refine isBin ?_; first | refine s_eqlT rfl rfl (by omega) ?_ | refine s_gtrF rfl rfl (by omega) ?_) | (refine isLD ?_; first | refine s_ldA ty_int rfl (by assumption) rfl ?_ | refine s_ldA ty_ints rfl (by assumption) rfl ?_)) | (refine isC ?_; first | refine c_sr ?_ | refine c_region ?_ | refine c_ift rfl ?_ | refine c_iff rfl ?_ | refine c_block ?_) | (refine l_th ?_))
        refine s_bs1 sl_ints in_int rfl rfl ?_
        intro b7 W1 hb7 hA7 hx7 hs7
        have hA41 := hA4w.ex hx7
        have hA51 := hA5w.ex hx7
        have hA61 := hA6w.ex hx7
        refine s_app (news := [.int .i64 (x.1 : Int)]) sl_ints in_int (hR.ex hx7) (hA7.sl (Nat.le_refl _) (by simp) (by simp)) rfl rfl (by intro q hq; simp at hq; subst hq; rfl) (by simp; omega) ?_
        intro v' W2 hR2 hg2 hf2
        have hA42 := hA41.grown hg2 (fun e => by have := hv _ e; omega)
        have hA52 := hA51.grown hg2 (fun e => by have := hv _ e; omega)
        have hA62 := hA61.grown hg2 (fun e => by have := hv _ e; omega)
        have hv2 : ∀ b, v'.ownBlock = some b → w6.heap.size ≤ b := fun b hb => by
          rcases hf2 with h | h
          · exact hv b (by rw [← h]; exact hb)
          · have := h b hb; have := hx7.size; omega
        refine s_stA (n := 0) (u := v') ty_ints rfl rfl hR2.one hA42 (by simp) ?_
        intro W3 hA43' hg3
        have hA63 := hA62.grown hg3 (fun e => by cases e; omega)
        have hA53' := hA52.grown hg3 (fun e => by cases e; omega)
        have hxw2 : Ex w W2 := (hxw.trans hx7).storeo hg2 (fun b e => by have := hv b e; omega)
        have hxw3 : Ex w W3 := hxw2.store hg3 (by omega)
        have hcc : ∀ (c : Nat) (q : Value), c < w6.heap.size → W.cell? ⟨c, 0, none⟩ = some q → W2.cell? ⟨c, 0, none⟩ = some q := fun c q hc hq => by
          cases hb : v.ownBlock with
          | none => exact (Ex.of_grown (hb ▸ hg2)).cell (hx7.cell hq)
          | some b => exact cell_gr (hx7.cell hq) (hb ▸ hg2) (show c ≠ b by have := hv b hb; omega)
        have hS3 := hgs W3 (cell_gr (hcc c1 _ m1 hS.1.1) hg3 (show c1 ≠ b4 by omega)) (cell_gr (hcc c2 _ m2 hS.2.1) hg3 (show c2 ≠ b4 by omega)) hxw3
        have hR3 := hR2.kept hg3 (.inr fun e => by have := hv2 b4 e; omega)
        have hst : stepD (foldD pre) x = ((foldD pre).1 ++ [(x.1 : Int)], (foldD pre).2) := by unfold stepD; rw [if_neg h1, if_pos h2]
        rw [hst] at hsn
        have hKF : KeepsFrom w6.heap.size W W3 := by
          refine ((KeepsFrom.ex hx7).trans ?_).trans (KeepsFrom.of_grownBy hg3 (fun j e => by cases e; omega))
          refine ⟨hg2.size, fun k o _ hk ho => ?_⟩
          refine (hg2.block k (Array.getElem?_eq_some_iff.1 hk).1 (fun e => ?_)).trans hk
          rcases (hR.ex hx7).form with ⟨hn1, _⟩ | ⟨b, cap, sp, hn1, hAt, _⟩
          · rw [hn1] at e; cases e
          · rw [hn1] at e; cases e
            unfold At at hAt
            rw [hk] at hAt; cases hAt; cases ho
        repeat ((first | refine ib_norm ?_ | refine l_nil ?_))
        refine own_norm hKF (fun _ => hS3) ⟨⟨hS3, v', hA43', hA53', by rw [hsn]; exact hA63, by rw [hsn, List.map_append]; exact hR3, hv2⟩, hxw3, by have := hx7.size; have := hg2.size; have := hg3.size; omega⟩
      · have hst : stepD (foldD pre) x = foldD pre := by unfold stepD; rw [if_neg h1, if_neg h2]
        rw [hst] at hsn
        repeat (first | (refine isO ?_; first | refine s_move ?_ | refine s_assign ?_ | (refine isBin ?_; first | refine s_eqlF rfl rfl (by omega) ?_ | refine s_gtrF rfl rfl (by omega) ?_) | (refine isLD ?_; refine s_ldA ty_int rfl (by assumption) rfl ?_)) | (refine isC ?_; first | refine c_sr ?_ | refine c_iff rfl ?_ | refine c_block ?_ | refine c_skip ?_) | (first | refine l_th ?_ | refine ib_norm ?_))
        exact own_norm (KeepsFrom.refl _ _) (fun h => h) ⟨⟨hS, v, hA4w, hA5w, by rw [hsn]; exact hA6w, by rw [hsn]; exact hR, hv⟩, hxw, hzw⟩
  · rintro D xs W hD hxs ⟨⟨hS, v, hA4w, hA5w, hA6w, hR, hv⟩, hxw, hzw⟩ hK
    subst hxs
    refine Exists.elim (show ∃ q, q = foldD (gpr bid prices bid.length) from ⟨_, rfl⟩) fun q hq => ?_
    rw [← hq] at hA6w hR ⊢
    have hql : q.1.length ≤ 8 := by rw [hq]; have := foldD_len (gpr bid prices bid.length); have := gpr_len bid prices bid.length; omega
    have hxd := Ex.drew W
    have hA4d := hA4w.ex hxd
    have hA5d := hA5w.ex hxd
    have hA6d := hA6w.ex hxd
    repeat ((refine isC ?_; refine c_seq ?_))
    refine c_drawJ (fun W' => At W' b4 22 [v] ∧ At W' b5 4 [.bool false] ∧ At W' b6 3 [.int .i64 q.2]) ⟨hA4d, hA5d, hA6d⟩ 0 7 [(0, true), (1, true), (2, true), (3, false), (4, false), (5, false), (6, true)] mixed (by kernel_rfl) ?_
    refine d_ldJ rfl ty_ints rfl (fun _ h => h.1) rfl ?_
    refine d_ldJ rfl ty_bl rfl (fun _ h => h.2.1) rfl ?_
    refine d_ldJ rfl ty_int rfl (fun _ h => h.2.2) rfl ?_
    refine d_ch rfl ?_
    refine s_stA (n := 0) (u := v) ty_ints rfl rfl hR.one hA4d (by simp) ?_
    intro W1 hA41' hg1
    have hA41 : At W1 b4 22 [v] := hA41'
    have hA51 := hA5d.grown hg1 (fun e => by cases e; exact n45 rfl)
    have hA61 := hA6d.grown hg1 (fun e => by cases e; exact n46 rfl)
    refine l_nil ⟨rfl, .inr ⟨hA41, hA51, hA61⟩, ?_⟩
    refine d_ch rfl ?_
    refine s_stA (n := 0) (u := .bool false) ty_bl rfl rfl rfl hA51 (by simp) ?_
    intro W2 hA52' hg2
    have hA52 : At W2 b5 4 [.bool false] := hA52'
    have hA42 := hA41.grown hg2 (fun e => by cases e; exact n45 rfl)
    have hA62 := hA61.grown hg2 (fun e => by cases e; exact n56 rfl)
    refine l_nil ⟨rfl, .inr ⟨hA42, hA52, hA62⟩, ?_⟩
    refine d_ch rfl ?_
    refine s_stA (n := 0) (u := .int .i64 q.2) ty_int rfl rfl rfl hA62 (by simp) ?_
    intro W3 hA63' hg3
    have hA63 : At W3 b6 3 [.int .i64 q.2] := hA63'
    have hA43 := hA42.grown hg3 (fun e => by cases e; exact n46 rfl)
    have hA53 := hA52.grown hg3 (fun e => by cases e; exact n56 rfl)
    refine l_nil ⟨rfl, .inr ⟨hA43, hA53, hA63⟩, ?_⟩
    refine d_assign rfl ?_
    refine d_nil ?_
    have hxw3 : Ex w W3 := (((hxw.trans hxd).store hg1 (by omega)).store hg2 (by omega)).store hg3 (by omega)
    have hR3 := (((hR.ex hxd).kept hg1 (.inr fun e => by have := hv b4 e; omega)).kept hg2 (.inr fun e => by have := hv b5 e; omega)).kept hg3 (.inr fun e => by have := hv b6 e; omega)
    have hK3 := mark_gr (mark_gr (mark_gr (mark_ex hK hxd) hA4d hg1) hA51 hg2) hA62 hg3
    have hkm := mark_kc hK3
    have hwD : w.heap.size ≤ D := by omega
    have hI4 := hkm.ints (hR3.ints (by omega))
    have hC := Of1_ct b4 b5 b6 v q.1 q.2 w _ (hkm.at hA43) (hkm.at hA53) (hkm.at hA63) hI4 (fun b hb => by have := hv b hb; exact ⟨by omega, by omega⟩) ⟨n45, n46, n56⟩ (mark_out hxw3 hwD) (by omega) (by omega)
    repeat ((refine isC ?_; refine c_ret ?_))
    refine ret4d (a := 4) (b := 5) (c := 6) (d := 7) (pa := ⟨b4, 0, none⟩) (pb := ⟨b5, 0, none⟩) (pc := ⟨b6, 0, none⟩) (va := clipV v) (vb := .bool (decide (q.2 = 0))) (vc := .int .i64 q.2) (vd := .int .i64 0) (S := OfS w b4 b5 b6 (W3.putObj D (.deferred none)).heap.size v q.1 q.2) (caps := [.pointer (some ⟨b4, 0, none⟩), .pointer (some ⟨b6, 0, none⟩), .pointer (some ⟨b5, 0, none⟩)].toArray) ?_ ?_ ?_ ?_ ?_ ty_ints ty_bl ty_int hK3 ok_Of1 ?_ ?_
    · rfl
    · rfl
    · rfl
    · rfl
    · rfl
    · exact hC
    rintro w' ⟨s4, s5, s6, sI, sz, sx⟩
    exact ⟨by rw [s4.cell]; rfl, by rw [s5.cell]; rfl, by rw [s6.cell]; rfl, clipV v, rfl, sI, (fun b hb => by rw [clipV_own] at hb; have := hv b hb; have := hR3.lt b hb; rw [put_size] at sz; exact ⟨by omega, by omega⟩), sx⟩
end Go.Proofs.Ytifbgpkjbciblaa.Sal
end
section
/- demands.All, where it may be asked. -/
set_option maxRecDepth 100000
namespace Go.Proofs.Ytifbgpkjbciblaa.Sal
open Go.RowKit
def dI (bids : List (List Int)) (prices : List Int) (i : Nat) : List Int := (foldD (gpr (bids.getD i []) prices (bids.getD i []).length)).1
def dG (bids : List (List Int)) (prices : List Int) (i : Nat) : Int := (foldD (gpr (bids.getD i []) prices (bids.getD i []).length)).2
theorem rep_map {α : Type} (n : Nat) (z : α) : List.replicate n z = (List.range n).map fun _ => z := by
  apply List.ext_getElem
  · simp
  · intro i h1 h2; simp
theorem chk_parts {res : List Int} {bids : List (List Int)} {ord : List Int} (h : chkM res bids ord = true) : vecB res res.length = true ∧ 1 ≤ bids.length ∧ bids.length ≤ 8 ∧ ordB ord bids.length = true ∧ ∀ i, i < bids.length → badBid res.length (bids.getD i []) = false := by
  unfold chkM at h
  simp only [Bool.and_eq_true, decide_eq_true_eq, Bool.not_eq_true'] at h
  obtain ⟨⟨⟨⟨h1, h2⟩, h3⟩, h4⟩, h5⟩ := h
  refine ⟨h1, h2, h3, h4, fun i hi => ?_⟩
  have := (List.any_eq_false.1 h5) (bids.getD i []) (by rw [List.getD_eq_getElem?_getD, List.getElem?_eq_getElem hi]; exact List.getElem_mem hi)
  simpa using this
attribute [local irreducible] Go.Code.wpIn Go.wpListIn Ct Ints Rows Sl At Rw WJ
set_option linter.all false
theorem ok_dAll : CallOK Try.prog 14 := callOK Try.func14 (by kernel_rfl) rfl
theorem sl_bls : SlT Try.prog 34 4 := Try.underlying34
theorem in_bls' : ∃ ti, Try.prog.info? 4 = some ti ∧ ti.zero = some (.bool false) ∧ ti.size = 1 ∧ ti.bytes ≤ 64 :=
  let ⟨i, h, hz, hs, hb⟩ := info_parts (show (Try.prog.info? 4).map (fun i => (i.zero, i.size, i.bytes)) = some (some (.bool false), 1, 1) by kernel_rfl)
  ⟨i, h, hz, hs, by omega⟩
set_option maxHeartbeats 4000000 in
theorem dAll_ct (rv bv ov pv : Value) (res : List Int) (bids : List (List Int)) (ord prices : List Int) (w : World) (hM : Mk w rv bv ov res bids ord) (hp : Ints w pv prices) (hck : chkM res bids ord = true) (hm : mayD prices res.length = true) :
    Ct Try.prog 14 #[.agg #[rv, bv, ov], pv] w fun u w' => ∃ b1 b2 vs, u = .tuple #[sv b1 bids.length bids.length, sv b2 bids.length bids.length, .int .i64 0] ∧ w.heap.size ≤ b1 ∧ w.heap.size ≤ b2 ∧ b1 ≠ b2 ∧ At w' b1 22 ((List.range bids.length).map vs) ∧ At w' b2 4 ((List.range bids.length).map fun j => .bool (decide (dG bids prices j = 0))) ∧ (∀ j, j < bids.length → Ints w' (vs j) (dI bids prices j) ∧ ∀ b, (vs j).ownBlock = some b → w.heap.size ≤ b ∧ b ≠ b1 ∧ b < w'.heap.size) ∧ Ex w w' := by
  obtain ⟨hc1, hc2, hc3, hc4, hc5⟩ := chk_parts hck
  have hlp := len_pr hm
  obtain ⟨hl1, hl2, hl3⟩ := hlp
  have hm' : mayD prices prices.length = true := by rw [hl3]; exact hm
  have hrl : res.length = prices.length := by omega
  refine Exists.elim in_ints' fun ti hti => ?_
  refine Exists.elim in_bls' fun tb htb => ?_
  refine enter (N := 54) (vs := [.agg #[rv, bv, ov], pv]) Try.func14 rfl rfl rfl ?_
  repeat ((refine isC ?_; refine c_sr ?_))
  refine s_box (cs := [rv, bv, ov]) rfl rfl ?_
  intro b0 w0 hb0 hZ hx0 hs0
  have hM0 := hM.ex hx0
  have hr0 := hM0.r
  have hp0 := hp.ex hx0
  refine s_assign ?_
  refine s_assign ?_
  refine s_assign ?_
  refine l_th ?_
  refine c_join (γ := Unit) 1048064 (fun _ => [(19, .bool false)]) (fun _ w' => Ex w0 w') ?_ ?_
  · repeat ((refine isC ?_; refine c_sr ?_))
    refine s_ldV Try.underlying25 rfl (by kernel_rfl) rfl hZ ?_
    refine s_call ok_mcheck rfl (mcheck_ct rv bv ov res bids ord w0 hM0) ?_
    rintro u w1 ⟨rfl, hx1⟩
    refine s_re (v' := .bool true) (vbool hck) ?_
    have hZ1 := hZ.ex hx1
    have hr1 := hr0.ex hx1
    repeat (first | (refine isO ?_; first | refine s_move ?_ | (refine isG ?_; refine g_yes rfl rfl ?_) | (refine isCall ?_; refine s_lenI sl_ints rfl (by assumption) ?_) | (refine isLD ?_; refine s_ldA ty_ints rfl (by assumption) rfl ?_) | refine s_not rfl ?_) | (refine isO ?_; refine s_fa Try.underlying25 rfl ty_ints rfl ?_))
    refine s_call ok_dmay rfl (dmay_ct pv prices (res.length : Int) w1 (hp0.ex hx1)) ?_
    rintro u w2 ⟨rfl, hx2⟩
    refine s_re (v' := .bool true) (vbool hm) ?_
    repeat (first | (refine isO ?_; first | (refine isG ?_; refine g_yes rfl rfl ?_) | (refine isPick ?_; refine s_pickf rfl rfl ?_) | refine s_not rfl ?_) | (refine isC ?_; first | refine c_th ?_ | refine c_iff rfl ?_) | (refine l_th ?_))
    exact join_end () (by (repeat (first | exact agree_refl _ _ | refine agree_upd rfl ?_))) ⟨rfl, trivial⟩ (hx1.trans hx2)
  rintro _ ρ w2 hx02
  have hx2 := hx0.trans hx02
  have hM2 := hM.ex hx2
  have hZ2 := hZ.ex hx02
  have hb2 := hM2.b
  repeat ((refine isC ?_; refine c_seq ?_))
  refine c_joinK (γ := Nat × Nat) 267386928 (fun q => [(4, sv q.1 bids.length bids.length), (5, sv q.2 bids.length bids.length)]) (fun q w' => Ex w2 w' ∧ w2.heap.size ≤ q.1 ∧ w2.heap.size ≤ q.2 ∧ q.1 ≠ q.2 ∧ At w' q.1 22 (List.replicate bids.length (.slice none 0 0)) ∧ At w' q.2 4 (List.replicate bids.length (.bool false))) ?_ ?_
  · refine c_drawF (Ex.refl w2) 0 8 [(0, true), (1, true), (2, true), (4, true), (5, true), (6, true)] 3 [(8, true), (7, false), (9, true)] 7 [(3, false), (8, true), (9, true)] mixed (by kernel_rfl) ?_
    have hxd := Ex.drew w2
    have zd := hxd.size
    refine d_fa rfl Try.underlying25 rfl ty_rows rfl ?_
    refine d_ldA rfl ty_rows rfl hZ2 rfl ?_
    refine d_lenRO rfl sl_rows rfl hb2 ?_
    refine d_fa rfl Try.underlying25 rfl ty_rows rfl ?_
    refine d_ldA rfl ty_rows rfl hZ2 rfl ?_
    refine d_lenRO rfl sl_rows rfl hb2 ?_
    refine d_fork ?_ ?_
    · refine d_ch rfl ?_
      refine s_make sl_rows hti.1 hti.2.1 hti.2.2.1 rfl hti.2.2.2 rfl (by omega) ?_
      intro c1 w3 hc1 hA3 hx3 hs3
      refine l_nil ⟨rfl, .inr (hxd.trans hx3), ?_⟩
      refine d_assign rfl ?_
      refine d_ch rfl ?_
      refine s_make sl_bls htb.1 htb.2.1 htb.2.2.1 rfl htb.2.2.2 rfl (by omega) ?_
      intro c2 w4 hc2 hA4 hx4 hs4
      refine l_nil ⟨rfl, .inr ((hxd.trans hx3).trans hx4), ?_⟩
      refine d_assign rfl ?_
      refine d_nil ?_
      repeat ((refine th_norm ?_))
      exact join_end (c1, c2) (by (repeat (first | exact agree_refl _ _ | refine agree_upd rfl ?_))) ⟨rfl, rfl, trivial⟩ ⟨(hxd.trans hx3).trans hx4, by omega, by omega, by omega, hA3.ex hx4, hA4⟩
    · refine d_ch rfl ?_
      refine s_make sl_bls htb.1 htb.2.1 htb.2.2.1 rfl htb.2.2.2 rfl (by omega) ?_
      intro c2 w3 hc2 hA3 hx3 hs3
      refine l_nil ⟨rfl, .inr (hxd.trans hx3), ?_⟩
      refine d_ch rfl ?_
      refine s_make sl_rows hti.1 hti.2.1 hti.2.2.1 rfl hti.2.2.2 rfl (by omega) ?_
      intro c1 w4 hc1 hA4 hx4 hs4
      refine l_nil ⟨rfl, .inr ((hxd.trans hx3).trans hx4), ?_⟩
      refine d_assign rfl ?_
      refine d_assign rfl ?_
      refine d_nil ?_
      repeat ((refine th_norm ?_))
      exact join_end (c1, c2) (by (repeat (first | exact agree_refl _ _ | refine agree_upd rfl ?_))) ⟨rfl, rfl, trivial⟩ ⟨(hxd.trans hx3).trans hx4, by omega, by omega, by omega, hA4, hA3.ex hx4⟩
  rintro ⟨b1, b2⟩ ρ2 w3 ⟨hx23, hb1, hb2', hne, hA1, hA2⟩
  have hx3 := hx2.trans hx23
  have hM3 := hM.ex hx3
  have hZ3 := hZ2.ex hx23
  have hb3 := hM3.b
  rw [rep_map] at hA1 hA2
  have zx := hx2.size
  refine th_norm ?_
  repeat (first | (refine isO ?_; first | refine s_move ?_ | (refine isCall ?_; refine s_lenR sl_rows rfl (by assumption) ?_)) | (refine isO ?_; first | refine s_fa Try.underlying25 rfl ty_rows rfl ?_ | refine s_ldA ty_rows rfl (by assumption) rfl ?_) | (refine isC ?_; first | refine c_sr ?_ | refine c_seq ?_ | refine c_block ?_) | (refine l_th ?_))
  refine c_loop (γ := Nat) 2251797666202048 (fun k => [(31, .int .i64 (k : Int)), (6, .int .i64 0)]) (fun k W => k ≤ bids.length ∧ (∃ vs, At W b1 22 ((List.range bids.length).map vs) ∧ ∀ j, j < k → Ints W (vs j) (dI bids prices j) ∧ ∀ b, (vs j).ownBlock = some b → w.heap.size ≤ b ∧ b ≠ b1 ∧ b ≠ b2 ∧ b < W.heap.size) ∧ (∃ ns : Nat → Bool, At W b2 4 ((List.range bids.length).map fun j => .bool (ns j)) ∧ ∀ j, j < k → ns j = decide (dG bids prices j = 0)) ∧ Ex w W ∧ w3.heap.size ≤ W.heap.size) (fun k => bids.length - k) 0 ⟨rfl, rfl, trivial⟩
    ⟨Nat.zero_le _, ⟨_, hA1, fun j hj => by omega⟩, ⟨fun _ => false, hA2, fun j hj => by omega⟩, hx3, Nat.le_refl _⟩ ?_
  rintro k ρ3 W ⟨hk, hV, hN, hxW, hzW⟩
  refine Exists.elim hV fun vs hvs => ?_
  refine Exists.elim hN fun ns hns => ?_
  have hbW := hM.b.ex hxW
  have hpW := hp.ex hxW
  have hA1W := hvs.1
  have hA2W := hns.1
  have lb1 := hA1.lt
  have lb2 := hA2.lt
  repeat (first | (refine isO ?_; (refine isBin ?_; refine s_lss rfl rfl ?_)) | (refine isC ?_; first | refine c_sr ?_ | refine c_seq ?_) | (refine l_th ?_))
  refine c_ifd rfl (fun h => ?_) (fun h => ?_)
  · have hk' : k < bids.length := by omega
    have hbk := hc5 k hk'
    repeat (first | (refine isO ?_; refine s_move ?_) | (refine isC ?_; first | refine c_sr ?_ | refine c_th ?_ | refine c_seq ?_ | refine c_block ?_))
    refine s_ixR sl_rows ty_ints rfl rfl rfl hbW hk' ?_
    intro pv1 u hu
    repeat (first | (refine isO ?_; first | refine s_move ?_ | refine s_assign ?_) | (refine isC ?_; refine c_region ?_) | (refine l_th ?_))
    refine s_call ok_Of rfl (Of_ct u pv (bids.getD k []) prices W hu hpW hm' (by rw [← hrl]; exact hbk)) ?_
    rintro q W1 ⟨v, rfl, hI1, hv1, hx1⟩
    obtain ⟨va, vc, rfl⟩ := hI1.form
    repeat ((refine isO ?_; first | refine s_move ?_ | refine s_extract rfl rfl ?_))
    refine s_iaA (n := k) sl_rows ty_ints rfl rfl hk' ?_
    refine s_stA (n := k) (u := .slice va _ vc) ty_ints rfl rfl rfl (hA1W.ex hx1) (by simp [hk']) ?_
    intro W2 hA12 hg2
    refine s_iaA (n := k) sl_bls ty_bl rfl rfl hk' ?_
    have hA22 := (hA2W.ex hx1).grown hg2 (fun e => hne (Option.some.inj e))
    refine s_stA (n := k) (u := .bool (decide (dG bids prices k = 0))) ty_bl rfl rfl rfl hA22 (by simp [hk']) ?_
    intro W3 hA23 hg3
    have hA13 := hA12.grown hg3 (fun e => hne (Option.some.inj e).symm)
    rw [map_fs _ _ hk'] at hA13
    have z1 := hx1.size
    have z2 := hg2.size
    have z3 := hg3.size
    have hxW3 : Ex w W3 := ((hxW.trans hx1).store hg2 (by omega)).store hg3 (by omega)
    have e23 : (((List.range bids.length).map fun j => Value.bool (ns j)).set k (.bool (decide (dG bids prices k = 0)))) = (List.range bids.length).map fun j => Value.bool (fs ns k (decide (dG bids prices k = 0)) j) := by
      rw [map_fs _ _ hk']
      apply List.map_congr_left
      intro j _
      unfold fs
      by_cases e : j = k
      · simp [e]
      · simp [e]
    rw [e23] at hA23
    have hkeep : ∀ (v : Value) (l : List Int), Ints W1 v l → (∀ b, v.ownBlock = some b → b ≠ b1 ∧ b ≠ b2) → Ints W3 v l := fun v l hI hb => (hI.kept hg2 (.inr fun e => (hb b1 e).1 rfl)).kept hg3 (.inr fun e => (hb b2 e).2 rfl)
    repeat (first | (refine isO ?_; first | refine s_move ?_ | refine s_assign ?_ | (refine isBin ?_; refine s_inc rfl (by omega) ?_)) | (refine isC ?_; refine c_region ?_) | (first | refine l_th ?_ | refine l_nil ?_))
    refine loop_end (k + 1) (by (repeat (first | exact agree_refl _ _ | refine agree_upd rfl ?_ | refine agree_ext rfl ?_ | refine agree_mask rfl ?_))) ⟨vint (by omega), rfl, trivial⟩ ⟨hk', ⟨_, hA13, fun j hj => ?_⟩, ⟨_, hA23, fun j hj => ?_⟩, hxW3, by omega⟩ (by omega)
    · by_cases e : j = k
      · subst e
        simp only [fs, if_true]
        have hob : ∀ b, (Value.slice va (foldD (gpr (bids.getD j []) prices (bids.getD j []).length)).1.length vc).ownBlock = some b → w.heap.size ≤ b ∧ b ≠ b1 ∧ b ≠ b2 ∧ b < W3.heap.size := fun b hb => by
          have := hv1 b hb
          have := hxW.size
          exact ⟨by omega, by omega, by omega, by omega⟩
        exact ⟨hkeep _ _ hI1 (fun b hb => ⟨(hob b hb).2.1, (hob b hb).2.2.1⟩), hob⟩
      · simp only [fs, if_neg e]
        have hj' : j < k := by omega
        have h1 := hvs.2 j hj'
        exact ⟨hkeep _ _ (h1.1.ex hx1) (fun b hb => ⟨(h1.2 b hb).2.1, (h1.2 b hb).2.2.1⟩), fun b hb => ⟨(h1.2 b hb).1, (h1.2 b hb).2.1, (h1.2 b hb).2.2.1, by have := (h1.2 b hb).2.2.2; omega⟩⟩
    · by_cases e : j = k
      · subst e; simp [fs]
      · simp only [fs, if_neg e]; exact hns.2 j (by omega)
  · have hkn : k = bids.length := by omega
    subst hkn
    have e2 : ((List.range bids.length).map fun j => Value.bool (ns j)) = (List.range bids.length).map fun j => Value.bool (decide (dG bids prices j = 0)) := by
      apply List.map_congr_left
      intro j hj
      rw [hns.2 j (List.mem_range.1 hj)]
    rw [e2] at hA2W
    repeat (first | (refine isO ?_; first | refine s_move ?_ | refine s_assign ?_) | (refine isC ?_; first | refine c_sr ?_ | refine c_ret ?_ | refine c_exit ?_) | (refine l_th ?_))
    exact ret3 rfl rfl rfl rfl ⟨b1, b2, vs, rfl, by omega, by omega, hne, hA1W, hA2W, fun j hj => ⟨(hvs.2 j hj).1, fun b hb => ⟨((hvs.2 j hj).2 b hb).1, ((hvs.2 j hj).2 b hb).2.1, ((hvs.2 j hj).2 b hb).2.2.2⟩⟩, hxW⟩
end Go.Proofs.Ytifbgpkjbciblaa.Sal
end
section
/- Plain: what bidders would have at prices. -/
set_option maxRecDepth 100000
namespace Go.Proofs.Ytifbgpkjbciblaa.Sal
set_option linter.all false
/-- The most, or nothing. -/
def gmx (f : Nat → Int) : Nat → Int
  | 0 => 0
  | n + 1 => if gmx f n < f n then f n else gmx f n
theorem gmx_succ (f : Nat → Int) (n : Nat) : gmx f (n + 1) = if gmx f n < f n then f n else gmx f n := rfl
theorem gmx_ge (f : Nat → Int) : ∀ n, 0 ≤ gmx f n
  | 0 => Int.le_refl _
  | n + 1 => by have := gmx_ge f n; unfold gmx; split <;> omega
theorem gmx_all (f : Nat → Int) : ∀ n k, k < n → f k ≤ gmx f n
  | n + 1, k, h => by
    unfold gmx
    by_cases e : k = n
    · subst e; split <;> omega
    · have := gmx_all f n k (by omega); split <;> omega
theorem gmx_is (f : Nat → Int) : ∀ n, gmx f n = 0 ∨ ∃ k, k < n ∧ f k = gmx f n
  | 0 => .inl rfl
  | n + 1 => by
    unfold gmx
    split
    · exact .inr ⟨n, by omega, rfl⟩
    · rcases gmx_is f n with h | ⟨k, hk, h⟩
      · exact .inl h
      · exact .inr ⟨k, by omega, h⟩
theorem rowN_snoc (n : Nat) (p : Nat → Bool) : rowN (n + 1) p = rowN n p ++ (if p n = true then [n] else []) := by
  unfold rowN
  rw [List.range_succ, List.filter_append]
  congr 1
  cases h : p n <;> simp [h]
theorem rowL_snoc (n : Nat) (p : Nat → Bool) : rowL (n + 1) p = rowL n p ++ (if p n = true then [(n : Int)] else []) := by
  unfold rowL
  rw [rowN_snoc, List.map_append]
  split <;> rfl
theorem rowL_congr {n : Nat} {p q : Nat → Bool} (h : ∀ k, k < n → p k = q k) : rowL n p = rowL n q := by
  unfold rowL rowN
  congr 1
  exact List.filter_congr fun k hk => h k (List.mem_range.1 hk)
theorem rowL_no {n : Nat} {p : Nat → Bool} (h : ∀ k, k < n → p k = false) : rowL n p = [] := by
  rw [rowL_congr h]; simp [rowL, rowN]
theorem foldD_all (f : Nat → Int) : ∀ n, foldD ((List.range n).map fun k => (k, f k)) = (rowL n (fun k => decide (f k = gmx f n)), gmx f n)
  | 0 => rfl
  | n + 1 => by
    rw [List.range_succ, List.map_append, List.map_cons, List.map_nil, foldD_snoc, foldD_all f n, rowL_snoc, gmx_succ]
    unfold stepD
    by_cases h1 : gmx f n < f n
    · simp only [if_pos h1]
      rw [rowL_no (fun k hk => by have := gmx_all f n k hk; simp; omega)]
      simp
    · simp only [if_neg h1]
      by_cases h2 : f n = gmx f n
      · simp only [if_pos h2]
        simp [h2]
      · simp only [if_neg h2]
        simp [h2]
/-- What one gains by an item. -/
def gD (bids : List (List Int)) (prices : List Int) (i k : Nat) : Int := (bids.getD i []).getD k 0 - prices.getD k 0
def lenB (bids : List (List Int)) (i : Nat) : Nat := (bids.getD i []).length
theorem dG_eq (bids : List (List Int)) (prices : List Int) (i : Nat) : dG bids prices i = gmx (gD bids prices i) (lenB bids i) := by
  unfold dG gpr; rw [show (fun k => (k, (bids.getD i []).getD k 0 - prices.getD k 0)) = fun k => (k, gD bids prices i k) from rfl, foldD_all]; rfl
theorem dI_eq (bids : List (List Int)) (prices : List Int) (i : Nat) : dI bids prices i = rowL (lenB bids i) (fun k => decide (gD bids prices i k = dG bids prices i)) := by
  rw [dG_eq]
  unfold dI gpr; rw [show (fun k => (k, (bids.getD i []).getD k 0 - prices.getD k 0)) = fun k => (k, gD bids prices i k) from rfl, foldD_all]; rfl
/-- Must one have something? -/
def mustB (bids : List (List Int)) (prices : List Int) (i : Nat) : Bool := !decide (dG bids prices i = 0)
/-- Would one that must have something have that? -/
def RD (bids : List (List Int)) (prices : List Int) (i k : Nat) : Bool := mustB bids prices i && (decide (k < lenB bids i) && decide (gD bids prices i k = dG bids prices i))
theorem wants_row (bids : List (List Int)) (prices : List Int) (n i : Nat) (h : lenB bids i = 0 ∨ lenB bids i = n) : (if dG bids prices i = 0 then [] else dI bids prices i) = rowL n (RD bids prices i) := by
  by_cases h0 : dG bids prices i = 0
  · rw [if_pos h0, rowL_no]
    intro k _; simp [RD, mustB, h0]
  · rw [if_neg h0, dI_eq]
    have hn : lenB bids i = n := by
      rcases h with h | h
      · exfalso; apply h0; rw [dG_eq, h]; rfl
      · exact h
    rw [hn]
    exact rowL_congr fun k hk => by simp [RD, mustB, h0, hn, hk]
theorem dG_ge (bids : List (List Int)) (prices : List Int) (i : Nat) : 0 ≤ dG bids prices i := by rw [dG_eq]; exact gmx_ge _ _
end Go.Proofs.Ytifbgpkjbciblaa.Sal
end
section
/- Core17: slices of a call's own with room, of elements of any size. -/
set_option maxRecDepth 100000
namespace Go.Proofs.Ytifbgpkjbciblaa.Sal
set_option linter.all false
open Go.RowKit
/-- A slice over a block of the call's own: what it holds; room up to its capacity, perhaps more behind. -/
def Wd (w : World) (E : TypeId) (s : Nat) (v : Value) (n : Nat) (xs : List Value) : Prop :=
  xs.length = n * s ∧ ((v = .slice none 0 0 ∧ n = 0) ∨ ∃ b c sp, v = .slice (some ⟨b, 0, none⟩) n c ∧ At w b E (xs ++ sp) ∧ n ≤ c ∧ c ≤ 9223372036854775807 ∧ c * s ≤ (xs ++ sp).length)
theorem Wd.nil (w : World) (E : TypeId) (s : Nat) : Wd w E s (.slice none 0 0) 0 [] := ⟨by simp, .inl ⟨rfl, rfl⟩⟩
theorem Wd.kept {w w' : World} {E : TypeId} {s n : Nat} {v : Value} {xs : List Value} (h : Wd w E s v n xs) (hk : ∀ b, v.ownBlock = some b → b < w.heap.size → w'.heap[b]? = w.heap[b]?) : Wd w' E s v n xs := by
  obtain ⟨h1, h2⟩ := h
  rcases h2 with h2 | ⟨b, c, sp, hv, hA, h3⟩
  · exact ⟨h1, .inl h2⟩
  · exact ⟨h1, .inr ⟨b, c, sp, hv, (hk b (by rw [hv]; rfl) hA.lt).trans hA, h3⟩⟩
theorem Wd.ex {w w' : World} {E : TypeId} {s n : Nat} {v : Value} {xs : List Value} (h : Wd w E s v n xs) (hx : Ex w w') : Wd w' E s v n xs := h.kept fun b _ hb => hx.block b hb
theorem Wd.grown {w w' : World} {E : TypeId} {s n : Nat} {v : Value} {xs : List Value} {o : Option Nat} (h : Wd w E s v n xs) (hg : w.grownBy w' o) (hne : ∀ b, v.ownBlock = some b → o ≠ some b) : Wd w' E s v n xs := h.kept fun b hb hl => hg.block b hl (fun e => hne b hb e.symm)
theorem Wd.lt {w : World} {E : TypeId} {s n : Nat} {v : Value} {xs : List Value} (h : Wd w E s v n xs) : ∀ b, v.ownBlock = some b → b < w.heap.size := fun b hb => by
  rcases h.2 with ⟨rfl, _⟩ | ⟨b', c, sp, rfl, hA, _⟩
  · cases hb
  · cases hb; exact hA.lt
theorem Wd.slen {w : World} {E : TypeId} {s n : Nat} {v : Value} {xs : List Value} (h : Wd w E s v n xs) : ∃ a c, v = .slice a n c := by
  rcases h.2 with ⟨rfl, rfl⟩ | ⟨b', c, sp, rfl, hA, _⟩
  · exact ⟨_, _, rfl⟩
  · exact ⟨_, _, rfl⟩
theorem Wd.one {w : World} {E : TypeId} {s n : Nat} {v : Value} {xs : List Value} (h : Wd w E s v n xs) : v.oneCell' = true := by
  obtain ⟨a, c, rfl⟩ := h.slen; rfl
theorem Wd.pos {w : World} {E : TypeId} {s n : Nat} {v : Value} {xs : List Value} (h : Wd w E s v n xs) (hn : 0 < n) : ∃ b c sp, v = .slice (some ⟨b, 0, none⟩) n c ∧ At w b E (xs ++ sp) ∧ n ≤ c ∧ c ≤ 9223372036854775807 ∧ c * s ≤ (xs ++ sp).length := by
  rcases h.2 with ⟨_, h0⟩ | h2
  · omega
  · exact h2
theorem Wd.sl {w : World} {E : TypeId} {n : Nat} {v : Value} {xs : List Value} (h : Wd w E 1 v n xs) (hm : n ≤ 140737488355328) : Sl w v xs := by
  obtain ⟨h1, h2⟩ := h
  rw [Nat.mul_one] at h1
  rcases h2 with ⟨rfl, rfl⟩ | ⟨b, c, sp, rfl, hA, hc, _⟩
  · have : xs = [] := List.eq_nil_of_length_eq_zero h1
    subst this; exact Sl.nil w
  · have := hA.sl (n := n) (c := c) (by simp; omega) hm hc
    rwa [List.take_left' h1] at this
/-- The head of one. -/
theorem Wd.head {w : World} {E : TypeId} {n k c : Nat} {a : Option Addr} {ys : List Value} (h : Wd w E 1 (.slice a (n + k) c) (n + k) ys) : Wd w E 1 (.slice a n c) n (ys.take n) := by
  obtain ⟨h1, h2⟩ := h
  refine ⟨by rw [List.length_take, h1]; omega, ?_⟩
  rcases h2 with ⟨h3, h4⟩ | ⟨b, c', sp, h3, hA, h4, h5, h6⟩
  · left
    have e : n = 0 := by omega
    have e2 : k = 0 := by omega
    subst e; subst e2
    exact ⟨h3, rfl⟩
  · right
    cases h3
    refine ⟨b, c, ys.drop n ++ sp, rfl, ?_, by omega, h5, ?_⟩
    · rw [← List.append_assoc, List.take_append_drop]; exact hA
    · simp only [List.length_append, List.length_take, List.length_drop] at h6 ⊢; omega
/-- Another cell. -/
theorem Wd.set {w w' : World} {E : TypeId} {s n k : Nat} {b c : Nat} {xs sp : List Value} {u : Value} (h1 : xs.length = n * s) (hk : k < xs.length) (hA : At w' b E ((xs ++ sp).set k u)) (hc : n ≤ c) (hm : c ≤ 9223372036854775807) (hs : c * s ≤ (xs ++ sp).length) : Wd w' E s (.slice (some ⟨b, 0, none⟩) n c) n (xs.set k u) := by
  refine ⟨by rw [List.length_set]; exact h1, .inr ⟨b, c, sp, rfl, ?_, hc, hm, by simpa using hs⟩⟩
  rw [List.set_append_left _ _ hk] at hA
  exact hA
section runs
variable {P : Program} {w : World}
end runs
end Go.Proofs.Ytifbgpkjbciblaa.Sal
end
section
/- Core18: slices of structs; a struct read out of the middle of a block. -/
set_option maxRecDepth 100000
namespace Go.Proofs.Ytifbgpkjbciblaa.Sal
set_option linter.all false
open Go.RowKit
section ops
variable {r : Option Nat} {P : Program} {ops : Array Oper} {Q : Exit → Act → World → Prop} {N : Nat} {σ : Nat → Value} {ds : List Deferred} {w : World} {rest : List Oper}
variable {d d1 d2 : Nat} {ty ty2 : TypeId} {pos pos2 : String} {after after2 : Array Edge} {T E T' : TypeId} {x i y : Operand}
theorem s_ldM {b o : Nat} {B : TypeId} {cs all : List Value} {dd : TypeDesc} (hu : P.underlying E = some dd) (hd : dd.isRow = true) (hsz : (P.info? E).map (·.size) = some cs.length)
    (hx : ev N σ x = .pointer (some ⟨b, o, none⟩)) (hA : At w b B all) (hc : ∀ j v, cs[j]? = some v → all[o + j]? = some v) (h : WL r P ops Q rest (mk N (upd σ d (.agg cs.toArray)) ds) w) :
    WL r P ops Q (⟨some d, .load E x, ty, pos, after, none⟩ :: rest) (mk N σ ds) w :=
  l_val (by intro c e; cases e) (by
    simp [execOp, hx, Instr.loadAt, Instr.sureAddr, run_loadVar_mid (P := P) w b o E cs dd (fun j v hj => by rw [hA.cell]; exact hc j v hj) hu hd hsz]) h
theorem s_bldW {parts : List (Nat × Operand)} {cells : List Value} (h : P.built T (parts.map fun p => (p.1, ev N σ p.2)) = some cells.toArray) (hK : WL r P ops Q rest (mk N (upd σ d (.agg cells.toArray)) ds) w) :
    WL r P ops Q (⟨some d, .build T parts.toArray, ty, pos, after, none⟩ :: rest) (mk N σ ds) w :=
  l_val (by intro c e; cases e) (by
    have := run_build (P := P) w T (parts.map fun p => (p.1, ev N σ p.2)).toArray cells.toArray h
    simp [execOp, this]) hK
end ops
end Go.Proofs.Ytifbgpkjbciblaa.Sal
end
section
/- rises.at. -/
set_option maxRecDepth 100000
namespace Go.Proofs.Ytifbgpkjbciblaa.Sal
open Go.RowKit
/-- A state in memory. -/
structure St (w : World) (s : Nat) (rv bv ov pcv wv mv : Value) (res : List Int) (bids : List (List Int)) (ord prices : List Int) (must : List Int) (g : List (List Int)) : Prop where
  at' : At w s 81 [rv, bv, ov, pcv, wv, mv]
  mkt : Mk w rv bv ov res bids ord
  pr : Ints w pcv prices
  wa : Rows w wv g
  mu : Ints w mv must
theorem St.ex {w w' : World} {s : Nat} {rv bv ov pcv wv mv : Value} {res : List Int} {bids : List (List Int)} {ord prices must : List Int} {g : List (List Int)} (h : St w s rv bv ov pcv wv mv res bids ord prices must g) (hx : Ex w w') : St w' s rv bv ov pcv wv mv res bids ord prices must g :=
  ⟨h.at'.ex hx, h.mkt.ex hx, h.pr.ex hx, h.wa.ex hx, h.mu.ex hx⟩
theorem lenB_or {bids : List (List Int)} {res : List Int} (h : ∀ i, i < bids.length → badBid res.length (bids.getD i []) = false) {i : Nat} (hi : i < bids.length) : lenB bids i = 0 ∨ lenB bids i = res.length := by
  rcases len_bid (h i hi) with h1 | h1
  · exact .inl h1
  · exact .inr (by unfold lenB; omega)
attribute [local irreducible] Go.Code.wpIn Go.wpListIn Ct Ints Rows Sl At Rw WJ
set_option linter.all false
theorem ok_at : CallOK Try.prog 30 := callOK Try.func30 (by kernel_rfl) rfl
theorem built_st (rv bv ov : Value) (a : Option Addr) (n c : Nat) : Try.prog.built 81 [(0, .agg #[rv, bv, ov]), (1, .slice a n c)] = some [rv, bv, ov, .slice a n c, .slice none 0 0, .slice none 0 0].toArray := by kernel_rfl
set_option maxHeartbeats 4000000 in
theorem at_ct (rv bv ov pv : Value) (res : List Int) (bids : List (List Int)) (ord prices : List Int) (w : World) (hM : Mk w rv bv ov res bids ord) (hp : Ints w pv prices) (hck : chkM res bids ord = true) (hm : mayD prices res.length = true) :
    Ct Try.prog 30 #[.agg #[rv, bv, ov], pv] w fun u w' => ∃ s pcv wv mv, u = .pointer (some ⟨s, 0, none⟩) ∧ St w' s rv bv ov pcv wv mv res bids ord prices (rowL bids.length (mustB bids prices)) (gL (RD bids prices) bids.length res.length) ∧ Ex w w' := by
  obtain ⟨hc1, hc2, hc3, hc4, hc5⟩ := chk_parts hck
  have hlp := len_pr hm
  obtain ⟨hl1, hl2, hl3⟩ := hlp
  obtain ⟨n, hn⟩ : ∃ n, n = bids.length := ⟨_, rfl⟩
  refine enter (N := 50) (vs := [.agg #[rv, bv, ov], pv]) Try.func30 rfl rfl rfl ?_
  repeat ((refine isC ?_; refine c_sr ?_))
  refine s_box (cs := [rv, bv, ov]) rfl rfl ?_
  intro b0 w0 hb0 hZ hx0 hs0
  have hM0 := hM.ex hx0
  have hp0 := hp.ex hx0
  repeat (first | (refine isO ?_; refine s_assign ?_) | (refine isC ?_; refine c_seq ?_) | (refine l_th ?_))
  refine c_drawO (Ex.refl w0) 0 6 [(0, true), (1, true), (2, false), (3, false), (4, false), (5, true)] mixed (by kernel_rfl) ?_
  have hxd := Ex.drew w0
  refine d_ldV rfl Try.underlying25 rfl (by kernel_rfl) rfl hZ ?_
  refine d_move rfl ?_
  refine d_ch rfl ?_
  refine s_call ok_Clone rfl (Clone_ct pv prices w0.drew (hp0.ex hxd) (by omega)) ?_
  rintro pcv w1 ⟨hL1, hx1⟩
  obtain ⟨pa, pc, hpc⟩ := hL1.1.slen
  rw [List.length_map] at hpc
  subst hpc
  have hpl := hL1.1.lt
  have hI1 : Ints w1 (.slice pa prices.length pc) prices := hL1.1.ints (by omega)
  refine l_nil ⟨rfl, .inr (hxd.trans hx1), ?_⟩
  refine d_ch rfl ?_
  refine s_bldW (cells := [rv, bv, ov, .slice pa prices.length pc, .slice none 0 0, .slice none 0 0]) (built_st rv bv ov pa _ pc) ?_
  refine l_nil ⟨rfl, .inr (hxd.trans hx1), ?_⟩
  refine d_ch rfl ?_
  refine s_box (cs := [rv, bv, ov, .slice pa prices.length pc, .slice none 0 0, .slice none 0 0]) rfl rfl ?_
  intro s w2 hs' hA2 hx2 hs2
  have hx02 := (hxd.trans hx1).trans hx2
  refine l_nil ⟨rfl, .inr hx02, ?_⟩
  refine d_assign rfl ?_
  refine d_nil ?_
  have hZ2 := hZ.ex hx02
  have hM2 := hM0.ex hx02
  have hp2 := hp0.ex hx02
  repeat ((refine isC ?_; refine c_sr ?_))
  refine s_ldV Try.underlying25 rfl (by kernel_rfl) rfl hZ2 ?_
  repeat ((refine isO ?_; refine s_move ?_))
  refine s_call ok_dAll rfl (dAll_ct rv bv ov pv res bids ord prices w2 hM2 hp2 hck hm) ?_
  rintro u w3 ⟨b1, b2, vs, rfl, hb1, hb2, hne, hA1, hA2', hvs, hx3⟩
  have hx23 := hx02.trans hx3
  have hAs := hA2.ex hx3
  have hIp := hI1.ex (hx2.trans hx3)
  have z0 := hx0.size
  have zd := hxd.size
  have z1 := hx1.size
  have z2 := hx2.size
  have z3 := hx3.size
  have l1 := hA1.lt
  have l2 := hA2'.lt
  rw [← hn] at hA1 hA2' hvs ⊢
  have hsl := hA2.lt
  repeat (first | (refine isO ?_; first | refine s_move ?_ | refine s_assign ?_ | (refine isCall ?_; refine s_len sl_rows rfl ?_) | refine s_extract rfl rfl ?_) | (refine isC ?_; first | refine c_sr ?_ | refine c_seq ?_ | refine c_block ?_) | (refine l_th ?_))
  refine c_loop (γ := Nat) 35184355312128 (fun k => [(24, .int .i64 (k : Int))]) (fun k W => k ≤ n ∧ (∃ us, At W b1 22 ((List.range n).map us) ∧ ∀ j, j < n → Ints W (us j) (if j < k ∧ dG bids prices j = 0 then [] else dI bids prices j) ∧ ∀ b, (us j).ownBlock = some b → w2.heap.size ≤ b ∧ b ≠ b1 ∧ b < w3.heap.size) ∧ At W b2 4 ((List.range n).map fun j => .bool (decide (dG bids prices j = 0))) ∧ (∃ mv, At W s 81 [rv, bv, ov, .slice pa prices.length pc, .slice none 0 0, mv] ∧ Rw W 3 mv ((rowL k (mustB bids prices)).map (Value.int .i64)) ∧ ∀ b, mv.ownBlock = some b → w3.heap.size ≤ b) ∧ Ints W (.slice pa prices.length pc) prices ∧ Ex w W ∧ w3.heap.size ≤ W.heap.size) (fun k => n - k) 0 ⟨rfl, trivial⟩
    ⟨Nat.zero_le _, ⟨vs, hA1, fun j hj => ⟨by rw [if_neg (by omega)]; exact (hvs j hj).1, (hvs j hj).2⟩⟩, hA2', ⟨_, hAs, Rw.nil _ _, fun b h => by cases h⟩, hIp, hx0.trans hx23, Nat.le_refl _⟩ ?_
  rintro k ρ W ⟨hk, hU, hA2W, hMv, hIpW, hxW, hzW⟩
  refine Exists.elim hU fun us hus => ?_
  refine Exists.elim hMv fun mv hmv => ?_
  have hA1W := hus.1
  have hAsW := hmv.1
  have hRW := hmv.2.1
  have hme : mustB bids prices k = !decide (dG bids prices k = 0) := rfl
  repeat (first | (refine isO ?_; (refine isBin ?_; refine s_lss rfl rfl ?_)) | (refine isC ?_; first | refine c_sr ?_ | refine c_seq ?_) | (refine l_th ?_))
  refine c_ifd rfl (fun h => ?_) (fun h => ?_)
  · have hk' : k < n := by omega
    have hrs := rowL_snoc k (mustB bids prices)
    have hkl : (rowL k (mustB bids prices)).length ≤ 8 := by rw [rowL_len]; have := rowN_le k (mustB bids prices); omega
    repeat (first | (refine isO ?_; first | refine s_move ?_ | refine s_assign ?_) | (refine isC ?_; first | refine c_sr ?_ | refine c_th ?_ | refine c_seq ?_ | refine c_block ?_) | (refine l_th ?_))
    refine s_iaA (n := k) sl_bls ty_bl rfl rfl hk' ?_
    refine s_ldA ty_bl rfl hA2W (u := .bool (decide (dG bids prices k = 0))) (by simp [hk']) ?_
    repeat ((refine l_th ?_))
    refine c_ifd rfl (fun h0 => ?_) (fun h0 => ?_)
    · have hmf : mustB bids prices k = false := by unfold mustB; simp [h0]
      rw [hmf] at hrs
      repeat (first | (refine isO ?_; refine s_move ?_) | (refine isC ?_; refine c_sr ?_))
      refine s_iaA (n := k) sl_rows ty_ints rfl rfl hk' ?_
      refine s_stA (n := k) (u := .slice none 0 0) ty_ints rfl rfl rfl hA1W (by simp [hk']) ?_
      intro W1 hA11 hg1
      rw [map_fs _ _ hk'] at hA11
      have z4 := hg1.size
      have hx1W : Ex w W1 := hxW.store hg1 (by omega)
      have hRW1 := hRW.kept hg1 (.inr fun e => by have := hmv.2.2 b1 e; omega)
      have hIp1 := hIpW.kept hg1 (.inr fun e => by have := hpl b1 e; omega)
      repeat (first | (refine isO ?_; first | refine s_move ?_ | (refine isBin ?_; refine s_inc rfl (by omega) ?_)) | (refine isC ?_; first | refine c_region ?_ | refine c_exit ?_) | (refine l_th ?_))
      refine loop_end (k + 1) (by (repeat (first | exact agree_refl _ _ | refine agree_upd rfl ?_ | refine agree_ext rfl ?_ | refine agree_mask rfl ?_))) ⟨vint (by omega), trivial⟩ ⟨hk', ⟨_, hA11, fun j hj => ?_⟩, hA2W.grown hg1 (fun e => hne (Option.some.inj e)), ⟨mv, hAsW.grown hg1 (fun e => by cases e; omega), by rw [hrs]; simpa using hRW1, hmv.2.2⟩, hIp1, hx1W, by omega⟩ (by omega)
      by_cases e : j = k
      · subst e
        simp only [fs, if_true]
        rw [if_pos ⟨by omega, h0⟩]
        exact ⟨Ints.nil _, fun b hb => by cases hb⟩
      · simp only [fs, if_neg e]
        have h1 := hus.2 j hj
        have e2 : (j < k + 1 ∧ dG bids prices j = 0) ↔ (j < k ∧ dG bids prices j = 0) := ⟨fun ⟨a, b⟩ => ⟨by omega, b⟩, fun ⟨a, b⟩ => ⟨by omega, b⟩⟩
        simp only [e2]
        exact ⟨h1.1.kept hg1 (.inr fun e => by have := h1.2 b1 e; omega), h1.2⟩
    · have hmf : mustB bids prices k = true := by unfold mustB; simp [h0]
      rw [hmf] at hrs
      repeat (first | (refine isO ?_; refine s_move ?_) | (refine isC ?_; first | refine c_th ?_ | refine c_region ?_))
      refine s_nil rfl ?_
      refine s_faN Try.underlying81 rfl ty_ints.n rfl ?_
      refine s_ldA ty_ints rfl hAsW rfl ?_
      repeat ((refine isO ?_; refine s_move ?_))
      refine s_bs1 sl_ints in_int rfl rfl ?_
      intro b7 W1 hb7 hA7 hx7 hs7
      refine s_app (news := [.int .i64 (k : Int)]) sl_ints in_int (hRW.ex hx7) (hA7.sl (Nat.le_refl _) (by simp) (by simp)) rfl rfl (by intro q hq; simp at hq; subst hq; rfl) (by simp; omega) ?_
      intro v' W2 hR2 hg2 hf2
      have z7 := hx7.size
      have z4 := hg2.size
      have hAs2 := (hAsW.ex hx7).grown hg2 (fun e => by have := hmv.2.2 _ e; omega)
      have hA12 := (hA1W.ex hx7).grown hg2 (fun e => by have := hmv.2.2 _ e; omega)
      have hA22 := (hA2W.ex hx7).grown hg2 (fun e => by have := hmv.2.2 _ e; omega)
      have hv2 : ∀ b, v'.ownBlock = some b → w3.heap.size ≤ b := fun b hb => by
        rcases hf2 with h | h
        · exact hmv.2.2 b (by rw [← h]; exact hb)
        · have := h b hb; omega
      refine s_nil rfl ?_
      refine s_faN Try.underlying81 rfl ty_ints.n rfl ?_
      refine s_stA (n := 5) (u := v') ty_ints rfl rfl hR2.one hAs2 (by simp) ?_
      intro W3 hAs3 hg3
      have z5 := hg3.size
      have hxw2 : Ex w W2 := (hxW.trans hx7).storeo hg2 (fun b e => by have := hmv.2.2 b e; omega)
      have hxw3 : Ex w W3 := hxw2.store hg3 (by omega)
      have hkeep : ∀ (v : Value) (l : List Int), Ints W v l → (∀ b, v.ownBlock = some b → b < w3.heap.size ∧ b ≠ s) → Ints W3 v l := fun v l hI hb => by
        have h2 : Ints W2 v l := by
          cases e : mv.ownBlock with
          | none => exact (hI.ex hx7).ex (Ex.of_grown (e ▸ hg2))
          | some b => exact (hI.ex hx7).kept hg2 (.inr fun e2 => by rw [e] at e2; have := hmv.2.2 b e; have := (hb b e2).1; omega)
        exact h2.kept hg3 (.inr fun e => (hb s e).2 rfl)
      have hR3 := hR2.kept hg3 (.inr fun e => by have := hv2 s e; omega)
      repeat (first | (refine isO ?_; first | refine s_move ?_ | (refine isBin ?_; refine s_inc rfl (by omega) ?_)) | (refine isC ?_; refine c_region ?_) | (first | refine l_th ?_ | refine l_nil ?_))
      refine loop_end (k + 1) (by (repeat (first | exact agree_refl _ _ | refine agree_upd rfl ?_ | refine agree_ext rfl ?_ | refine agree_mask rfl ?_))) ⟨vint (by omega), trivial⟩ ⟨hk', ⟨us, hA12.grown hg3 (fun e => by cases e; omega), fun j hj => ?_⟩, hA22.grown hg3 (fun e => by cases e; omega), ⟨v', hAs3, by rw [hrs, if_pos rfl, List.map_append]; exact hR3, hv2⟩, hkeep _ _ hIpW (fun b hb => by have := hpl b hb; exact ⟨by omega, by omega⟩), hxw3, by omega⟩ (by omega)
      have h1 := hus.2 j hj
      have e2 : (j < k + 1 ∧ dG bids prices j = 0) ↔ (j < k ∧ dG bids prices j = 0) := ⟨fun ⟨a, b⟩ => ⟨by
        by_cases e : j = k
        · subst e; exact absurd b h0
        · omega, b⟩, fun ⟨a, b⟩ => ⟨by omega, b⟩⟩
      simp only [e2]
      exact ⟨hkeep _ _ h1.1 (fun b hb => by have := h1.2 b hb; exact ⟨by omega, by omega⟩), h1.2⟩
  · have hkn : k = n := by omega
    subst hkn
    have hgl := gL_len (RD bids prices) k res.length
    have hkl : (rowL k (mustB bids prices)).length ≤ 8 := by rw [rowL_len]; have := rowN_le k (mustB bids prices); omega
    repeat (first | (refine isO ?_; refine s_move ?_) | (refine isC ?_; first | refine c_sr ?_ | refine c_exit ?_))
    refine s_nil rfl ?_
    refine s_faN Try.underlying81 rfl ty_rows.n rfl ?_
    refine s_stA (n := 4) (u := sv b1 k k) ty_rows rfl rfl rfl hAsW (by simp) ?_
    intro W1 hAs1 hg1
    have hx1W : Ex w W1 := hxW.store hg1 (by omega)
    have hMW := hM.ex hx1W
    have hRows : Rows W1 (sv b1 k k) (gL (RD bids prices) k res.length) := by
      have h9 := (hA1W.grown hg1 (fun e => by cases e; omega)).rows (g := gL (RD bids prices) k res.length) (c := k) (by rw [gL_len]; simp) (by omega) (by omega) (fun i u l hu hl => by
        have hi := (List.getElem?_eq_some_iff.1 hl).1
        rw [gL_len] at hi
        have e1 : u = us i := by simp [hi] at hu; exact hu.symm
        have e2 : l = rowL res.length (RD bids prices i) := by simp [gL, hi] at hl; exact hl.symm
        have h1 := (hus.2 i hi).1.kept hg1 (.inr fun e => by have := (hus.2 i hi).2 s e; omega)
        rw [e1, e2, ← wants_row bids prices res.length i (lenB_or hc5 (by omega))]
        by_cases h0 : dG bids prices i = 0
        · rw [if_pos ⟨hi, h0⟩] at h1; rw [if_pos h0]; exact h1
        · rw [if_neg (fun hh => h0 hh.2)] at h1; rw [if_neg h0]; exact h1)
      rw [hgl] at h9
      exact h9
    repeat (first | (refine isO ?_; first | refine s_move ?_ | refine s_assign ?_) | (refine isC ?_; first | refine c_sr ?_ | refine c_ret ?_) | (refine l_th ?_))
    refine ret1 rfl rfl ⟨s, _, _, mv, rfl, ⟨hAs1, hMW, hIpW.kept hg1 (.inr fun e => by have := hpl s e; omega), hRows, (hRW.kept hg1 (.inr fun e => by have := hmv.2.2 s e; omega)).ints (by omega)⟩, hx1W⟩
end Go.Proofs.Ytifbgpkjbciblaa.Sal
end
section
/- slices.Min; (*state).has, far. -/
set_option maxRecDepth 100000
namespace Go.Proofs.Ytifbgpkjbciblaa.Sal
open Go.RowKit
/-- The least of some numbers. -/
def mnL (l : List Int) : Nat → Int
  | 0 => l.getD 0 0
  | i + 1 => if l.getD (i + 1) 0 < mnL l i then l.getD (i + 1) 0 else mnL l i
def farIn (bids : List (List Int)) (prices set : List Int) (i : Nat) : Nat → List Int
  | 0 => []
  | k + 1 => farIn bids prices set i k ++ (if set.contains (k : Int) then [] else [dG bids prices i - gD bids prices i k])
/-- Does one want something else as well? -/
def elseB (bids : List (List Int)) (prices set : List Int) (n i : Nat) : Bool := (rowL n (RD bids prices i)).any fun q => !set.contains q
def farOne (bids : List (List Int)) (prices set : List Int) (n i : Nat) : List Int := if elseB bids prices set n i = true then [] else dG bids prices i :: farIn bids prices set i n
def farL (bids : List (List Int)) (prices set : List Int) (n : Nat) (must : List Int) : Nat → List Int
  | 0 => []
  | j + 1 => farL bids prices set n must j ++ farOne bids prices set n (must.getD j 0).toNat
def farBy (bids : List (List Int)) (prices set : List Int) (n : Nat) (must : List Int) : Int := mnL (farL bids prices set n must must.length) ((farL bids prices set n must must.length).length - 1)
theorem farIn_len (bids : List (List Int)) (prices set : List Int) (i : Nat) : ∀ k, (farIn bids prices set i k).length ≤ k
  | 0 => Nat.le_refl _
  | k + 1 => by
    have := farIn_len bids prices set i k
    unfold farIn
    rw [List.length_append]
    split <;> simp <;> omega
theorem farOne_len {bids : List (List Int)} {prices set : List Int} {n i : Nat} (hn : n ≤ 8) : (farOne bids prices set n i).length ≤ 9 := by
  unfold farOne
  have := farIn_len bids prices set i n
  split <;> simp <;> omega
theorem farL_len {bids : List (List Int)} {prices set : List Int} {n : Nat} (hn : n ≤ 8) {must : List Int} : ∀ j, (farL bids prices set n must j).length ≤ 9 * j
  | 0 => by simp [farL]
  | j + 1 => by
    have h1 := farL_len (bids := bids) (prices := prices) (set := set) hn (must := must) j
    have h2 := farOne_len (bids := bids) (prices := prices) (set := set) (i := (must.getD j 0).toNat) hn
    unfold farL
    rw [List.length_append]; omega
theorem gD_bd {bids : List (List Int)} {prices : List Int} {items : Int} {n : Nat} (hb : ∀ i, i < bids.length → badBid (n : Int) (bids.getD i []) = false) (hm : mayD prices items = true) (i k : Nat) : -2000000 ≤ gD bids prices i k ∧ gD bids prices i k ≤ 1000000 := by
  have h1 := bd_pr hm k
  have h2 : 0 ≤ (bids.getD i []).getD k 0 ∧ (bids.getD i []).getD k 0 ≤ 1000000 := by
    rcases Nat.lt_or_ge i bids.length with h | h
    · exact bd_bid (hb i h) k
    · have : bids.getD i [] = [] := by rw [List.getD_eq_getElem?_getD, List.getElem?_eq_none h]; rfl
      rw [this]; simp
  unfold gD; omega
theorem dG_bd {bids : List (List Int)} {prices : List Int} {items : Int} {n : Nat} (hb : ∀ i, i < bids.length → badBid (n : Int) (bids.getD i []) = false) (hm : mayD prices items = true) (i : Nat) : 0 ≤ dG bids prices i ∧ dG bids prices i ≤ 1000000 := by
  refine ⟨dG_ge _ _ _, ?_⟩
  rw [dG_eq]
  rcases gmx_is (gD bids prices i) (lenB bids i) with h | ⟨k, _, h⟩
  · omega
  · have := (gD_bd hb hm i k).2; omega
/-- Who must have something wants something. -/
theorem must_wants {bids : List (List Int)} {prices : List Int} {n i : Nat} (h : lenB bids i = 0 ∨ lenB bids i = n) (hm : mustB bids prices i = true) : lenB bids i = n ∧ 0 < (rowN n (RD bids prices i)).length := by
  have h0 : dG bids prices i ≠ 0 := by simpa [mustB] using hm
  have hn : lenB bids i = n := by
    rcases h with h | h
    · exfalso; apply h0; rw [dG_eq, h]; rfl
    · exact h
  refine ⟨hn, ?_⟩
  rcases gmx_is (gD bids prices i) (lenB bids i) with h1 | ⟨k, hk, h1⟩
  · exfalso; apply h0; rw [dG_eq]; exact h1
  · refine List.length_pos_of_mem (a := k) (mem_rowN.2 ⟨by omega, ?_⟩)
    unfold RD
    rw [hm, decide_eq_true (show k < lenB bids i by omega), decide_eq_true (by rw [dG_eq]; exact h1)]; rfl
attribute [local irreducible] Go.Code.wpIn Go.wpListIn Ct Ints Rows Sl At Rw WJ
set_option linter.all false
theorem ok_Min : CallOK Try.prog 73 := callOK Try.func73 (by kernel_rfl) rfl
theorem ok_rleast : CallOK Try.prog 66 := callOK Try.func66 (by kernel_rfl) rfl
theorem ok_rhas : CallOK Try.prog 65 := callOK Try.func65 (by kernel_rfl) rfl
theorem ok_far : CallOK Try.prog 48 := callOK Try.func48 (by kernel_rfl) rfl
theorem ok_far1 : CallOK Try.prog 63 := callOK Try.func63 (by kernel_rfl) rfl
theorem ok_far2 : CallOK Try.prog 64 := callOK Try.func64 (by kernel_rfl) rfl
theorem ty_mk : TyN Try.prog 25 :=
  let ⟨i, h, _, hs, _⟩ := info_parts (show (Try.prog.info? 25).map (fun i => (i.zero, i.size, i.bytes)) = some (some (.agg #[.slice none 0 0, .slice none 0 0, .slice none 0 0]), 3, 72) by kernel_rfl)
  ⟨i, h, by omega⟩
theorem ty_ib : Ty1 Try.prog 70 := ⟨let ⟨i, h, _, hs, _⟩ := info_parts (show (Try.prog.info? 70).map (fun i => (i.zero, i.size, i.bytes)) = some (some .nilFunc, 1, 8) by kernel_rfl); ⟨i, h, hs⟩, _, Try.underlying70, rfl⟩
theorem in_ib : ∃ ti, Try.prog.info? 70 = some ti ∧ ti.zero = some .nilFunc := in_z (by kernel_rfl)
theorem Min_ct (v : Value) (l : List Int) (w : World) (hl : Ints w v l) (h0 : 1 ≤ l.length) :
    Ct Try.prog 73 #[v] w fun u w' => u = .int .i64 (mnL l (l.length - 1)) ∧ Ex w w' := by
  have hlen := hl.len
  refine enter (N := 25) (vs := [v]) Try.func73 rfl rfl rfl ?_
  repeat (first | (refine isO ?_; first | refine s_move ?_ | refine s_assign ?_ | (refine isBin ?_; refine s_lssF rfl rfl (by omega) ?_) | (refine isCall ?_; refine s_lenI sl_ints rfl (by assumption) ?_)) | (refine isC ?_; first | refine c_sr ?_ | refine c_th ?_ | refine c_seq ?_ | refine c_iff rfl ?_) | (refine l_th ?_))
  refine s_ixI (n := 0) sl_ints ty_int rfl rfl rfl hl (by omega) ?_
  intro pv
  repeat (first | (refine isO ?_; refine s_assign ?_) | (refine isC ?_; first | refine c_sr ?_ | refine c_seq ?_ | refine c_block ?_) | (refine l_th ?_))
  refine c_loop (γ := Nat) 16773144 (fun i => [(4, .int .i64 ((i + 1 : Nat) : Int)), (3, .int .i64 (mnL l i))]) (fun i W => i + 1 ≤ l.length ∧ Ex w W) (fun i => l.length - i) 0 ⟨rfl, rfl, trivial⟩ ⟨h0, Ex.refl _⟩ ?_
  rintro i ρ W ⟨hi, hx⟩
  have hlW := hl.ex hx
  repeat (first | (refine isO ?_; first | refine s_move ?_ | (refine isBin ?_; refine s_lss rfl rfl ?_) | (refine isCall ?_; refine s_lenI sl_ints rfl (by assumption) ?_)) | (refine isC ?_; first | refine c_sr ?_ | refine c_seq ?_) | (refine l_th ?_))
  refine c_ifd rfl (fun h => ?_) (fun h => ?_)
  · have hi' : i + 1 < l.length := by omega
    repeat (first | (refine isO ?_; first | refine s_move ?_ | (refine isIA ?_; refine s_ixI sl_ints ty_int rfl rfl rfl (by assumption) (by omega) ?_; intro _)) | (refine isC ?_; first | refine c_th ?_ | refine c_seq ?_ | refine c_region ?_ | refine c_block ?_))
    refine s_min rfl rfl ?_
    repeat (first | (refine isO ?_; first | refine s_move ?_ | refine s_assign ?_ | (refine isBin ?_; refine s_inc rfl (by omega) ?_)) | (refine isC ?_; refine c_region ?_) | (first | refine l_th ?_ | refine l_nil ?_))
    exact loop_end (i + 1) (by (repeat (first | exact agree_refl _ _ | refine agree_upd rfl ?_ | refine agree_ext rfl ?_ | refine agree_mask rfl ?_))) ⟨vint (by omega), rfl, trivial⟩ ⟨by omega, hx⟩ (by omega)
  · have hie : i = l.length - 1 := by omega
    subst hie
    repeat (first | (refine isO ?_; first | refine s_move ?_ | refine s_assign ?_) | (refine isC ?_; first | refine c_sr ?_ | refine c_ret ?_ | refine c_exit ?_) | (refine l_th ?_))
    exact ret1 rfl rfl ⟨rfl, hx⟩
theorem rleast_ct (v : Value) (l : List Int) (w : World) (hl : Ints w v l) (h0 : 1 ≤ l.length) :
    Ct Try.prog 66 #[v] w fun u w' => u = .int .i64 (mnL l (l.length - 1)) ∧ Ex w w' := by
  refine enter (N := 5) (vs := [v]) Try.func66 rfl rfl rfl ?_
  repeat (first | (refine isO ?_; first | refine s_move ?_ | refine s_assign ?_) | (refine isC ?_; refine c_sr ?_) | (refine l_th ?_))
  refine s_call ok_Min rfl (Min_ct v l w hl h0) ?_
  rintro u w' ⟨rfl, hx⟩
  repeat (first | (refine isO ?_; refine s_assign ?_) | (refine isC ?_; refine c_ret ?_) | (refine l_th ?_))
  exact ret1 rfl rfl ⟨rfl, hx⟩
theorem rhas_ct {s : Nat} {rv bv ov pcv wv mv : Value} {res : List Int} {bids : List (List Int)} {ord prices must : List Int} {g : List (List Int)} {w : World} (hS : St w s rv bv ov pcv wv mv res bids ord prices must g) {i k : Nat} (hi : i < bids.length) (hk : k < (bids.getD i []).length) (hkp : k < prices.length) (hbd : -2000000 ≤ gD bids prices i k ∧ gD bids prices i k ≤ 1000000) :
    Ct Try.prog 65 #[.pointer (some ⟨s, 0, none⟩), .int .i64 (i : Int), .int .i64 (k : Int)] w fun u w' => u = .int .i64 (gD bids prices i k) ∧ Ex w w' := by
  refine enter (N := 26) (vs := [.pointer (some ⟨s, 0, none⟩), .int .i64 (i : Int), .int .i64 (k : Int)]) Try.func65 rfl rfl rfl ?_
  repeat (first | (refine isO ?_; refine s_assign ?_) | (refine isC ?_; first | refine c_sr ?_ | refine c_seq ?_) | (refine l_th ?_))
  refine c_drawO (Ex.refl w) 0 8 [(0, true), (1, true), (2, true), (3, true), (4, true), (5, true), (6, true), (7, true), (8, true), (9, true), (10, true), (11, true), (12, true), (13, true), (14, true), (15, true), (16, true), (17, true), (18, true), (19, true)] mixed (by kernel_rfl) ?_
  have hxd := Ex.drew w
  refine d_move rfl ?_
  refine d_nilc rfl rfl ?_
  refine d_faN rfl Try.underlying81 rfl ty_mk rfl ?_
  refine d_faN rfl Try.underlying25 rfl ty_rows.n rfl ?_
  refine d_ldA rfl ty_rows rfl hS.at' rfl ?_
  refine d_move rfl ?_
  refine d_iaR (n := i) rfl sl_rows ty_ints rfl rfl hS.mkt.b hi ?_
  intro ad1 u1 hc1 hI1
  refine d_ld rfl ty_ints rfl hc1 ?_
  refine d_move rfl ?_
  refine d_iaI (n := k) rfl sl_ints ty_int rfl rfl hI1 hk ?_
  intro ad2 hc2
  refine d_ld rfl ty_int rfl hc2 ?_
  refine d_move rfl ?_
  refine d_nilc rfl rfl ?_
  refine d_faN rfl Try.underlying81 rfl ty_ints.n rfl ?_
  refine d_ldA rfl ty_ints rfl hS.at' rfl ?_
  refine d_move rfl ?_
  refine d_iaI (n := k) rfl sl_ints ty_int rfl rfl hS.pr hkp ?_
  intro ad3 hc3
  refine d_ld rfl ty_int rfl hc3 ?_
  refine d_sub rfl rfl rfl ⟨by unfold gD at hbd; omega, by unfold gD at hbd; omega⟩ ?_
  refine d_assign rfl ?_
  refine d_nil ?_
  repeat ((refine isC ?_; refine c_ret ?_))
  exact ret1 rfl rfl ⟨rfl, hxd⟩
theorem far1_ct (b3 : Nat) (setv : Value) (set : List Int) (x : Int) (w : World) (hA : At w b3 22 [setv]) (hI : Ints w setv set) :
    Ct Try.prog 63 #[.int .i64 x, .pointer (some ⟨b3, 0, none⟩)] w fun u w' => u = .bool (set.contains x) ∧ Ex w w' := by
  refine enter (N := 7) (vs := [.int .i64 x, .pointer (some ⟨b3, 0, none⟩)]) Try.func63 rfl rfl rfl ?_
  repeat (first | (refine isO ?_; first | refine s_move ?_ | refine s_assign ?_ | (refine isLD ?_; refine s_ldA ty_ints rfl (by assumption) rfl ?_)) | (refine isC ?_; refine c_sr ?_) | (refine l_th ?_))
  refine s_call ok_Contains rfl (Contains_ct setv set x w hI) ?_
  rintro u w' ⟨rfl, hx⟩
  repeat (first | (refine isO ?_; refine s_assign ?_) | (refine isC ?_; refine c_ret ?_) | (refine l_th ?_))
  exact ret1 rfl rfl ⟨rfl, hx⟩
theorem far2_ct (b3 b5 : Nat) (setv : Value) (set : List Int) (x : Int) (w : World) (hA : At w b3 22 [setv]) (hI : Ints w setv set) (hB : At w b5 70 [.func (.func 63) #[] [.pointer (some ⟨b3, 0, none⟩)].toArray]) :
    Ct Try.prog 64 #[.int .i64 x, .pointer (some ⟨b5, 0, none⟩)] w fun u w' => u = .bool (!set.contains x) ∧ Ex w w' := by
  refine enter (N := 8) (vs := [.int .i64 x, .pointer (some ⟨b5, 0, none⟩)]) Try.func64 rfl rfl rfl ?_
  repeat (first | (refine isO ?_; refine s_assign ?_) | (refine isC ?_; refine c_sr ?_) | (refine l_th ?_))
  refine s_ldA ty_ib rfl hB rfl ?_
  repeat ((refine isO ?_; refine s_move ?_))
  refine s_callv (by intro f e; cases e) rfl ok_far1 rfl (far1_ct b3 setv set x w hA hI) ?_
  rintro u w' ⟨rfl, hx⟩
  repeat (first | (refine isO ?_; first | refine s_assign ?_ | refine s_not rfl ?_) | (refine isC ?_; refine c_ret ?_) | (refine l_th ?_))
  exact ret1 rfl rfl ⟨rfl, hx⟩
end Go.Proofs.Ytifbgpkjbciblaa.Sal
end
