/- Texts that YtifbgpkjbciblaaGreatDoorFRO leans on, laid together: RM9 R6a R9 RR3. -/
import Derived.Test.YtifbgpkjbciblaaGreatDoorMFRO6
import Derived.Test.YtifbgpkjbciblaaGreatDoorMFRO5
import Derived.Test.YtifbgpkjbciblaaGreatDoorMFRO4
import Derived.Test.YtifbgpkjbciblaaGreatDoorMFRO8
section
/- Plain: the best of all sets of items, one behind the other, is the first that is too few. -/
set_option maxRecDepth 100000
namespace Go.Proofs.YtifbgpkjbciblaaGreatDoor.Sal
set_option linter.all false
theorem lexB_trans : ∀ (a b c : List Int), lexB a b = true → lexB b c = true → lexB a c = true
  | [], _, _, h, _ => by simp [lexB] at h
  | _ :: _, [], _, h, _ => by simp [lexB] at h
  | _ :: _, _ :: _, [], _, h => by simp [lexB] at h
  | a :: x, b :: y, c :: z, h1, h2 => by
    simp only [lexB] at h1 h2 ⊢
    by_cases e1 : a = b
    · subst e1
      rw [if_pos rfl] at h1
      by_cases e2 : a = c
      · subst e2
        rw [if_pos rfl] at h2 ⊢
        exact lexB_trans x y z h1 h2
      · rw [if_neg e2] at h2 ⊢
        exact h2
    · rw [if_neg e1] at h1
      have h1' := of_decide_eq_true h1
      by_cases e2 : b = c
      · subst e2
        rw [if_neg e1]; exact h1
      · rw [if_neg e2] at h2
        have h2' := of_decide_eq_true h2
        rw [if_neg (by omega)]
        exact decide_eq_true (by omega)
theorem lexB_total : ∀ (a b : List Int), a.length = b.length → lexB a b = false → lexB b a = false → a = b
  | [], [], _, _, _ => rfl
  | [], _ :: _, h, _, _ => by simp at h
  | _ :: _, [], h, _, _ => by simp at h
  | a :: x, b :: y, h, h1, h2 => by
    simp only [lexB] at h1 h2
    by_cases e : a = b
    · subst e
      rw [if_pos rfl] at h1 h2
      rw [lexB_total x y (by simpa using h) h1 h2]
    · rw [if_neg e] at h1
      rw [if_neg (fun e2 => e e2.symm)] at h2
      have h1' := of_decide_eq_false h1
      have h2' := of_decide_eq_false h2
      omega
/-- Does one set stand ahead of another: fewer, or as many and first? -/
def lt9 (a b : List Int) : Prop := a.length < b.length ∨ (a.length = b.length ∧ lexB a b = true)
theorem lt9_trans {a b c : List Int} (h1 : lt9 a b) (h2 : lt9 b c) : lt9 a c := by
  rcases h1 with h1 | ⟨h1, l1⟩ <;> rcases h2 with h2 | ⟨h2, l2⟩
  · exact .inl (by omega)
  · exact .inl (by omega)
  · exact .inl (by omega)
  · exact .inr ⟨by omega, lexB_trans _ _ _ l1 l2⟩
theorem lt9_self (a : List Int) : ¬ lt9 a a := fun h => by
  rcases h with h | ⟨_, h⟩
  · omega
  · rw [lexB_self] at h; cases h
def setN9 (nn x : Nat) : List Int := rowL nn (fun i => x.testBit i)
/-- The best of the first sets: none, or one that is too few and has none ahead of it among them. -/
def Best9 (R : Nat → Nat → Bool) (nn : Nat) (sl : List Int) (x : Nat) : Option (List Int) → Prop
  | none => ∀ y, y < x → fewB R nn sl (setN9 nn y) = false
  | some b => (∃ y, y < x ∧ b = setN9 nn y) ∧ fewB R nn sl b = true ∧ ∀ y, y < x → fewB R nn sl (setN9 nn y) = true → ¬ lt9 (setN9 nn y) b
section
variable {R : Nat → Nat → Bool} {m nn : Nat} {sl : List Int} {x : Nat}
theorem Best9.zero : Best9 R nn sl 0 none := fun y h => by omega
theorem Best9.no {o : Option (List Int)} (h : Best9 R nn sl x o) (hb : fewB R nn sl (setN9 nn x) = false) : Best9 R nn sl (x + 1) o := by
  cases o with
  | none =>
    intro y hy
    by_cases e : y = x
    · subst e; exact hb
    · exact h y (by omega)
  | some b =>
    obtain ⟨⟨y, hy, he⟩, h2, h3⟩ := h
    refine ⟨⟨y, by omega, he⟩, h2, fun z hz hf => ?_⟩
    by_cases e : z = x
    · subst e; rw [hb] at hf; cases hf
    · exact h3 z (by omega) hf
theorem Best9.first (h : Best9 R nn sl x none) (hb : fewB R nn sl (setN9 nn x) = true) : Best9 R nn sl (x + 1) (some (setN9 nn x)) := by
  refine ⟨⟨x, by omega, rfl⟩, hb, fun z hz hf => ?_⟩
  by_cases e : z = x
  · subst e; exact lt9_self _
  · rw [h z (by omega)] at hf; cases hf
theorem Best9.more {b : List Int} (h : Best9 R nn sl x (some b)) (hb : fewB R nn sl (setN9 nn x) = true) (hl : lt9 (setN9 nn x) b) : Best9 R nn sl (x + 1) (some (setN9 nn x)) := by
  obtain ⟨_, _, h3⟩ := h
  refine ⟨⟨x, by omega, rfl⟩, hb, fun z hz hf hlt => ?_⟩
  by_cases e : z = x
  · subst e; exact lt9_self _ hlt
  · exact h3 z (by omega) hf (lt9_trans hlt hl)
theorem Best9.keep {b : List Int} (h : Best9 R nn sl x (some b)) (hl : ¬ lt9 (setN9 nn x) b) : Best9 R nn sl (x + 1) (some b) := by
  obtain ⟨⟨y, hy, he⟩, h2, h3⟩ := h
  refine ⟨⟨y, by omega, he⟩, h2, fun z hz hf => ?_⟩
  by_cases e : z = x
  · subst e; exact hl
  · exact h3 z (by omega) hf
theorem set_of {l : List Int} (h : risB (-1) l (nn : Int) = true) : ∃ x, x < 2 ^ nn ∧ l = setN9 nn x := by
  obtain ⟨x, hx, hb⟩ := bits_ex nn (fun k => l.contains (k : Int))
  refine ⟨x, hx, ?_⟩
  rw [ris_rowL h]
  unfold setN9 rowL rowN
  congr 1
  apply List.filter_congr
  intro k hk
  rw [hb k (List.mem_range.1 hk)]
theorem set_ris (hn : nn ≤ 8) (x : Nat) : risB (-1) (setN9 nn x) (nn : Int) = true := ris_of hn _
theorem best9_few (hn : nn ≤ 8) (hs : risB (-1) sl (m : Int) = true) {o : Option (List Int)} (h : Best9 R nn sl (2 ^ nn) o) : fewR R m nn sl = o := by
  rw [fewR_eq hn hs]
  cases hf : fewTo R nn sl (nn + 1) with
  | none =>
    cases o with
    | none => rfl
    | some b =>
      obtain ⟨⟨y, hy, he⟩, h2, _⟩ := h
      have := few_all hf (x := b) (by rw [he]; exact set_ris hn y)
      rw [h2] at this; cases this
  | some l =>
    obtain ⟨l1, l2, l3, l4⟩ := fewTo_first hf
    obtain ⟨z, hz, hlz⟩ := set_of l1
    cases o with
    | none =>
      have := h z hz
      rw [← hlz, l2] at this; cases this
    | some b =>
      obtain ⟨⟨y, hy, he⟩, h2, h3⟩ := h
      have hrb : risB (-1) b (nn : Int) = true := by rw [he]; exact set_ris hn y
      have h4 := h3 z hz (by rw [← hlz]; exact l2)
      rw [← hlz] at h4
      have h5 : ¬ lt9 b l := fun hh => by
        rcases hh with hh | ⟨hh, hl⟩
        · rw [l3 b hrb hh] at h2; cases h2
        · rw [l4 b hrb hh hl] at h2; cases h2
      have hlen : l.length = b.length := by
        unfold lt9 at h4 h5; omega
      have e1 : lexB l b = false := by
        cases hh : lexB l b with
        | false => rfl
        | true => exact absurd (.inr ⟨hlen, hh⟩) h4
      have e2 : lexB b l = false := by
        cases hh : lexB b l with
        | false => rfl
        | true => exact absurd (.inr ⟨hlen.symm, hh⟩) h5
      rw [lexB_total l b hlen e1 e2]
end
/-- Of two lists from some place on. -/
theorem lex_drop {a b : List Int} {i : Nat} (ha : i < a.length) (hb : i < b.length) : lexB (a.drop i) (b.drop i) = if a.getD i 0 = b.getD i 0 then lexB (a.drop (i + 1)) (b.drop (i + 1)) else decide (a.getD i 0 < b.getD i 0) := by
  rw [List.drop_eq_getElem_cons ha, List.drop_eq_getElem_cons hb]
  simp only [lexB]
  simp [List.getD_eq_getElem?_getD, ha, hb]
theorem setN9_len (nn x : Nat) : (setN9 nn x).length ≤ nn := by
  unfold setN9; rw [rowL_len]; exact rowN_le _ _
end Go.Proofs.YtifbgpkjbciblaaGreatDoor.Sal
end
section
/- The document's answer on graphs (salesroomref06): Rises, Has, Check, Many. -/
set_option maxRecDepth 100000
namespace Go.Proofs.YtifbgpkjbciblaaGreatDoor.Sal
open Go.RowKit
section
variable {r : Option Nat} {P : Program} {J : World → Prop} {z : Nat} {Q : Exit → Act → World → Prop} {N : Nat} {σ : Nat → Value} {ds : List Deferred} {w : World}
variable {ops : Array Oper} {i d : Nat} {π : List (Nat × Bool)} {ty : TypeId} {pos : String} {after : Array Edge}
theorem wanted_unW {o : Oper} {j g : Nat} {want : Bool} (hg : o.guard = some (j, want)) (hj : (ops[j]?).bind (·.dst) = some g) (hb : ev N σ (.tmp g) = undef) : Region.wanted o (yielded ops (mk N σ ds).tmps) = false := by
  have e : (mk N σ ds).tmps.getD g undef = undef := (getD_mk N σ g).trans hb
  have y : yielded ops (mk N σ ds).tmps j = none := by
    unfold yielded
    rw [hj]
    by_cases hl : g < (mk N σ ds).tmps.size
    · have e2 : (mk N σ ds).tmps[g]? = some undef := by
        rw [Array.getElem?_eq_getElem hl]
        have h3 := e
        unfold Array.getD at h3
        rw [dif_pos hl] at h3
        exact congrArg some h3
      simp [e2, undef]
    · simp [Array.getElem?_eq_none (Nat.le_of_not_lt hl)]
  unfold Region.wanted
  rw [hg]
  simp only [y]
  cases want <;> rfl
theorem d_gunW {op : Op} {j g : Nat} {want : Bool} (hi : ops[i]? = some ⟨some d, op, ty, pos, after, some (j, want)⟩) (hj : (ops[j]?).bind (·.dst) = some g) (hb : ev N σ (.tmp g) = undef)
    (h : WJ r P ops J z Q π (mk N (upd σ d undef) ds) w) : WJ r P ops J z Q ((i, true) :: π) (mk N σ ds) w :=
  ⟨_, undef, hi, .inr ⟨wanted_unW (g := g) rfl hj hb, rfl⟩, by rw [put_mk]; exact h⟩
end
theorem lastD_at : ∀ (l : List Int) (a : Int) (k : Nat), k < l.length → lastD a (l.take (k + 1)) = l.getD k 0
  | x :: l, a, 0, _ => by simp [lastD]
  | x :: l, a, k + 1, h => by
    simp only [List.take_succ_cons, lastD, List.getD_cons_succ]
    exact lastD_at l x k (by simpa using h)
theorem risB_low : ∀ (l : List Int) (a m : Int), risB a l m = true → ∀ i, i < l.length → a < l.getD i 0
  | x :: l, a, m, h, 0, _ => by
    simp only [risB, Bool.and_eq_true, Bool.not_eq_true', Bool.or_eq_false_iff, decide_eq_false_iff_not] at h
    simp; omega
  | x :: l, a, m, h, i + 1, hi => by
    simp only [risB, Bool.and_eq_true, Bool.not_eq_true', Bool.or_eq_false_iff, decide_eq_false_iff_not] at h
    have := risB_low l x m h.2 i (by simpa using hi)
    simp only [List.getD_cons_succ]; omega
theorem tf6 (b : Bool) : b = true ∨ b = false := by cases b <;> simp
attribute [local irreducible] Go.Code.wpIn Go.wpListIn Ct Ints Rows Sl At Rw WJ
set_option linter.all false
theorem ok_Has6 : CallOK Tryz.prog 77 := callOK Tryz.func77 (by kernel_rfl) rfl
theorem ok_Rises6 : CallOK Tryz.prog 40 := callOK Tryz.func40 (by kernel_rfl) rfl
theorem ok_Check6 : CallOK Tryz.prog 36 := callOK Tryz.func36 (by kernel_rfl) rfl
theorem Has6_ct (v : Value) (l : List Int) (q : Int) (w : World) (hl : Ints w v l) :
    Ct Tryz.prog 77 #[v, .int .i64 q] w fun u w' => u = .bool (l.contains q) ∧ Ex w w' := by
  have hlen := hl.len
  refine enter (N := 18) (vs := [v, .int .i64 q]) Tryz.func77 rfl rfl rfl ?_
  repeat (first | (refine isO ?_; refine s_assign ?_) | (refine isC ?_; first | refine c_sr ?_ | refine c_seq ?_ | refine c_block ?_) | (refine l_th ?_))
  refine c_loop (γ := Nat) 262128 (fun k => [(5, .int .i64 (k : Int))]) (fun k w' => k ≤ l.length ∧ (l.take k).contains q = false ∧ Ex w w') (fun k => l.length - k) 0 ⟨rfl, trivial⟩ ⟨Nat.zero_le _, rfl, Ex.refl _⟩ ?_
  rintro k ρ w' ⟨hk, hno, hx⟩
  have hl' := hl.ex hx
  repeat (first | (refine isO ?_; first | refine s_move ?_ | (refine isBin ?_; refine s_lss rfl rfl ?_) | (refine isCall ?_; refine s_lenI sl_ints rfl (by assumption) ?_)) | (refine isC ?_; first | refine c_sr ?_ | refine c_seq ?_) | (refine l_th ?_))
  refine c_ifd rfl (fun h => ?_) (fun h => ?_)
  · have hk' : k < l.length := by omega
    have ha := any_has l q k hk' hno
    by_cases hp : l.getD k 0 = q
    · repeat (first | (refine isO ?_; first | refine s_move ?_ | refine s_assign ?_ | (refine isBin ?_; refine s_eqlT rfl rfl (by omega) ?_) | (refine isIA ?_; refine s_ixI sl_ints ty_int rfl rfl rfl (by assumption) (by omega) ?_; intro _)) | (refine isC ?_; first | refine c_sr ?_ | refine c_th ?_ | refine c_seq ?_ | refine c_ift rfl ?_ | refine c_block ?_ | refine c_ret ?_) | (first | refine l_th ?_ | refine th_ret ?_ | refine ib_ret ?_))
      refine ret1 rfl rfl ⟨vbool ?_, hx⟩
      symm
      rw [List.contains_iff_mem, ← hp, List.getD_eq_getElem?_getD, List.getElem?_eq_getElem hk']
      exact List.getElem_mem hk'
    · rw [decide_eq_false hp] at ha
      repeat (first | (refine isO ?_; first | refine s_move ?_ | refine s_assign ?_ | (refine isBin ?_; first | refine s_inc rfl (by omega) ?_ | refine s_eqlF rfl rfl (by omega) ?_) | (refine isIA ?_; refine s_ixI sl_ints ty_int rfl rfl rfl (by assumption) (by omega) ?_; intro _)) | (refine isC ?_; first | refine c_sr ?_ | refine c_th ?_ | refine c_seq ?_ | refine c_region ?_ | refine c_iff rfl ?_ | refine c_block ?_ | refine c_skip ?_) | (refine l_th ?_))
      exact loop_end (k + 1) (by (repeat (first | exact agree_refl _ _ | refine agree_upd rfl ?_ | refine agree_ext rfl ?_ | refine agree_mask rfl ?_))) ⟨rfl, trivial⟩ ⟨hk', ha, hx⟩ (by omega)
  · rw [List.take_of_length_le (by omega)] at hno
    repeat (first | (refine isO ?_; refine s_assign ?_) | (refine isC ?_; first | refine c_sr ?_ | refine c_ret ?_ | refine c_exit ?_) | (refine l_th ?_))
    exact ret1 rfl rfl ⟨vbool hno.symm, hx⟩
set_option maxHeartbeats 1000000 in
theorem Rises6_ct (v : Value) (l : List Int) (m : Int) (w : World) (hl : Ints w v l) :
    Ct Tryz.prog 40 #[v, .int .i64 m] w fun u w' => u = .bool (risB (-1) l m) ∧ Ex w w' := by
  have hlen := hl.len
  refine enter (N := 41) (vs := [v, .int .i64 m]) Tryz.func40 rfl rfl rfl ?_
  repeat (first | (refine isO ?_; refine s_assign ?_) | (refine isC ?_; first | refine c_sr ?_ | refine c_seq ?_ | refine c_block ?_) | (refine l_th ?_))
  refine c_loop (γ := Nat) 2199023255536 (fun k => [(5, .int .i64 (k : Int))]) (fun k w' => k ≤ l.length ∧ risB (-1) (l.take k) m = true ∧ Ex w w') (fun k => l.length - k) 0 ⟨rfl, trivial⟩ ⟨Nat.zero_le _, rfl, Ex.refl _⟩ ?_
  rintro k ρ W ⟨hk, hok, hx⟩
  have hlW := hl.ex hx
  repeat (first | (refine isO ?_; first | refine s_move ?_ | (refine isBin ?_; refine s_lss rfl rfl ?_) | (refine isCall ?_; refine s_lenI sl_ints rfl (by assumption) ?_)) | (refine isC ?_; first | refine c_sr ?_ | refine c_seq ?_) | (refine l_th ?_))
  refine c_ifd rfl (fun h => ?_) (fun h => ?_)
  · have hk' : k < l.length := by omega
    have ht := risB_take m l (-1) k hk' hok
    have ht1 := ht.1
    have ht3 := ht.2.2
    have hprev : (k = 0 ∧ lastD (-1) (l.take k) = -1) ∨ (0 < k ∧ lastD (-1) (l.take k) = l.getD (k - 1) 0 ∧ -1 < l.getD (k - 1) 0) := by
      by_cases h0 : k = 0
      · subst h0; exact .inl ⟨rfl, rfl⟩
      · right
        have e : k - 1 + 1 = k := by omega
        have h1 := lastD_at l (-1) (k - 1) (by omega)
        rw [e] at h1
        have h2 := risB_low (l.take k) (-1) m hok (k - 1) (by rw [List.length_take]; omega)
        have e3 : (l.take k).getD (k - 1) 0 = l.getD (k - 1) 0 := by
          rw [List.getD_eq_getElem?_getD, List.getD_eq_getElem?_getD, List.getElem?_take, if_pos (by omega)]
        rw [e3] at h2
        exact ⟨by omega, h1, h2⟩
    have hxd := hx.trans (Ex.drew W)
    repeat ((refine isC ?_; first | refine c_th ?_ | refine c_seq ?_ | refine c_block ?_))
    refine c_drawO hx 0 8 [(0, true), (1, true), (2, true), (3, true), (4, true), (5, true), (6, true), (7, true), (8, true), (9, true), (10, true), (11, true), (12, true), (13, true), (14, true), (15, true), (16, true), (17, true), (18, true), (19, true), (20, true), (21, true), (22, true), (23, true), (24, true), (25, true), (26, true), (27, true), (28, true)] mixed (by kernel_rfl) ?_
    refine d_move rfl ?_
    refine d_move rfl ?_
    refine d_iaI (n := k) rfl sl_ints ty_int rfl rfl hl hk' ?_
    intro ad1 hc1
    refine d_ld rfl ty_int rfl hc1 ?_
    refine d_lss rfl rfl rfl ?_
    by_cases h1 : l.getD k 0 < 0
    · have hbad : risB (-1) l m = false := ht3 (by
        rw [ht1, decide_eq_true (show l.getD k 0 ≤ lastD (-1) (l.take k) by rcases hprev with ⟨_, e⟩ | ⟨_, e, e2⟩ <;> omega)]; rfl)
      refine d_re (v' := .bool true) (vbool (decide_eq_true h1)) ?_
      refine d_move rfl ?_
      refine d_gno rfl rfl rfl rfl ?_
      refine d_gno rfl rfl rfl rfl ?_
      refine d_gno rfl rfl rfl rfl ?_
      refine d_gno rfl rfl rfl rfl ?_
      refine d_gno rfl rfl rfl rfl ?_
      refine d_gno rfl rfl rfl rfl ?_
      refine d_pickt rfl rfl rfl ?_
      refine d_move rfl ?_
      refine d_gno rfl rfl rfl rfl ?_
      refine d_gno rfl rfl rfl rfl ?_
      refine d_gno rfl rfl rfl rfl ?_
      refine d_gunW rfl rfl rfl ?_
      refine d_gunW rfl rfl rfl ?_
      refine d_gunW rfl rfl rfl ?_
      refine d_gunW rfl rfl rfl ?_
      refine d_gunW rfl rfl rfl ?_
      refine d_gunW rfl rfl rfl ?_
      refine d_gunW rfl rfl rfl ?_
      refine d_gunW rfl rfl rfl ?_
      refine d_gunW rfl rfl rfl ?_
      refine d_gunW rfl rfl rfl ?_
      refine d_gno rfl rfl rfl rfl ?_
      refine d_pickt rfl rfl rfl ?_
      refine d_nil ?_
      repeat (first | (refine isO ?_; refine s_assign ?_) | (refine isC ?_; first | refine c_sr ?_ | refine c_ift rfl ?_ | refine c_ret ?_) | (first | refine l_th ?_ | refine th_ret ?_ | refine ib_ret ?_))
      exact ret1 rfl rfl ⟨vbool hbad.symm, hxd⟩
    · refine d_re (v' := .bool false) (vbool (decide_eq_false h1)) ?_
      refine d_move rfl ?_
      refine d_move rfl ?_
      refine d_move rfl ?_
      refine d_iaI (n := k) rfl sl_ints ty_int rfl rfl hl hk' ?_
      intro ad2 hc2
      refine d_ld rfl ty_int rfl hc2 ?_
      refine d_move rfl ?_
      refine d_geq rfl rfl rfl ?_
      by_cases h2 : m ≤ l.getD k 0
      · have hbad : risB (-1) l m = false := ht3 (by rw [ht1, decide_eq_true h2, Bool.or_true]; rfl)
        refine d_re (v' := .bool true) (vbool (decide_eq_true h2)) ?_
        refine d_pickf rfl rfl rfl ?_
        refine d_move rfl ?_
        refine d_gno rfl rfl rfl rfl ?_
        refine d_gno rfl rfl rfl rfl ?_
        refine d_gno rfl rfl rfl rfl ?_
        refine d_gunW rfl rfl rfl ?_
        refine d_gunW rfl rfl rfl ?_
        refine d_gunW rfl rfl rfl ?_
        refine d_gunW rfl rfl rfl ?_
        refine d_gunW rfl rfl rfl ?_
        refine d_gunW rfl rfl rfl ?_
        refine d_gunW rfl rfl rfl ?_
        refine d_gunW rfl rfl rfl ?_
        refine d_gunW rfl rfl rfl ?_
        refine d_gunW rfl rfl rfl ?_
        refine d_gno rfl rfl rfl rfl ?_
        refine d_pickt rfl rfl rfl ?_
        refine d_nil ?_
        repeat (first | (refine isO ?_; refine s_assign ?_) | (refine isC ?_; first | refine c_sr ?_ | refine c_ift rfl ?_ | refine c_ret ?_) | (first | refine l_th ?_ | refine th_ret ?_ | refine ib_ret ?_))
        exact ret1 rfl rfl ⟨vbool hbad.symm, hxd⟩
      · refine d_re (v' := .bool false) (vbool (decide_eq_false h2)) ?_
        refine d_pickf rfl rfl rfl ?_
        refine d_move rfl ?_
        refine d_move rfl ?_
        refine d_gtr rfl rfl rfl ?_
        by_cases h0 : k = 0
        · have hok1 : risB (-1) (l.take (k + 1)) m = true := by
            rw [ht1, decide_eq_false h2, decide_eq_false (show ¬ l.getD k 0 ≤ lastD (-1) (l.take k) by rcases hprev with ⟨_, e⟩ | ⟨_, e, e2⟩ <;> omega)]; rfl
          refine d_re (v' := .bool false) (vbool (decide_eq_false (by omega))) ?_
          refine d_move rfl ?_
          refine d_gno rfl rfl rfl rfl ?_
          refine d_gno rfl rfl rfl rfl ?_
          refine d_gno rfl rfl rfl rfl ?_
          refine d_gno rfl rfl rfl rfl ?_
          refine d_gno rfl rfl rfl rfl ?_
          refine d_gno rfl rfl rfl rfl ?_
          refine d_gno rfl rfl rfl rfl ?_
          refine d_gno rfl rfl rfl rfl ?_
          refine d_gno rfl rfl rfl rfl ?_
          refine d_gno rfl rfl rfl rfl ?_
          refine d_pickf rfl rfl rfl ?_
          refine d_pickf rfl rfl rfl ?_
          refine d_nil ?_
          repeat (first | (refine isO ?_; first | refine s_move ?_ | refine s_assign ?_ | (refine isBin ?_; refine s_inc rfl (by omega) ?_)) | (refine isC ?_; first | refine c_region ?_ | refine c_iff rfl ?_ | refine c_skip ?_) | (refine l_th ?_))
          exact loop_end (k + 1) (by (repeat (first | exact agree_refl _ _ | refine agree_upd rfl ?_ | refine agree_ext rfl ?_ | refine agree_mask rfl ?_))) ⟨rfl, trivial⟩ ⟨hk', hok1, hxd⟩ (by omega)
        · refine d_re (v' := .bool true) (vbool (decide_eq_true (by omega))) ?_
          refine d_move rfl ?_
          refine d_move rfl ?_
          refine d_move rfl ?_
          refine d_iaI (n := k) rfl sl_ints ty_int rfl rfl hl hk' ?_
          intro ad3 hc3
          refine d_ld rfl ty_int rfl hc3 ?_
          refine d_move rfl ?_
          refine d_move rfl ?_
          refine d_sub rfl rfl rfl ⟨by omega, by omega⟩ ?_
          refine d_re (v' := .int .i64 ((k - 1 : Nat) : Int)) (vint (by omega)) ?_
          refine d_iaI (n := k - 1) rfl sl_ints ty_int rfl rfl hl (by omega) ?_
          intro ad4 hc4
          refine d_ld rfl ty_int rfl hc4 ?_
          refine d_leq rfl rfl rfl ?_
          have hpe : lastD (-1) (l.take k) = l.getD (k - 1) 0 := by rcases hprev with ⟨e, _⟩ | ⟨_, e, _⟩ <;> omega
          rw [hpe] at ht1
          by_cases h3 : l.getD k 0 ≤ l.getD (k - 1) 0
          · have hbad : risB (-1) l m = false := ht3 (by rw [ht1, decide_eq_true h3]; rfl)
            refine d_re (v' := .bool true) (vbool (decide_eq_true h3)) ?_
            refine d_pickt rfl rfl rfl ?_
            refine d_pickf rfl rfl rfl ?_
            refine d_nil ?_
            repeat (first | (refine isO ?_; refine s_assign ?_) | (refine isC ?_; first | refine c_sr ?_ | refine c_ift rfl ?_ | refine c_ret ?_) | (first | refine l_th ?_ | refine th_ret ?_ | refine ib_ret ?_))
            exact ret1 rfl rfl ⟨vbool hbad.symm, hxd⟩
          · have hok1 : risB (-1) (l.take (k + 1)) m = true := by rw [ht1, decide_eq_false h2, decide_eq_false h3]; rfl
            refine d_re (v' := .bool false) (vbool (decide_eq_false h3)) ?_
            refine d_pickt rfl rfl rfl ?_
            refine d_pickf rfl rfl rfl ?_
            refine d_nil ?_
            repeat (first | (refine isO ?_; first | refine s_move ?_ | refine s_assign ?_ | (refine isBin ?_; refine s_inc rfl (by omega) ?_)) | (refine isC ?_; first | refine c_region ?_ | refine c_iff rfl ?_ | refine c_skip ?_) | (refine l_th ?_))
            exact loop_end (k + 1) (by (repeat (first | exact agree_refl _ _ | refine agree_upd rfl ?_ | refine agree_ext rfl ?_ | refine agree_mask rfl ?_))) ⟨rfl, trivial⟩ ⟨hk', hok1, hxd⟩ (by omega)
  · rw [List.take_of_length_le (by omega)] at hok
    repeat (first | (refine isO ?_; refine s_assign ?_) | (refine isC ?_; first | refine c_sr ?_ | refine c_ret ?_ | refine c_exit ?_) | (refine l_th ?_))
    exact ret1 rfl rfl ⟨vbool hok.symm, hx⟩
theorem Check6_ct (v : Value) (g : List (List Int)) (n : Int) (w : World) (hg : Rows w v g) :
    Ct Tryz.prog 36 #[v, .int .i64 n] w fun u w' => u = .bool (chkG g n) ∧ Ex w w' := by
  refine enter (N := 30) (vs := [v, .int .i64 n]) Tryz.func36 rfl rfl rfl ?_
  by_cases h1 : 0 ≤ n
  · by_cases h2 : n ≤ 8
    · by_cases h3 : (g.length : Int) ≤ 8
      · repeat (first | (refine isO ?_; first | refine s_move ?_ | refine s_assign ?_ | (refine isG ?_; refine g_yes rfl rfl ?_) | (refine isBin ?_; first | refine s_lssF rfl rfl (by omega) ?_ | refine s_gtrF rfl rfl (by omega) ?_) | (refine isCall ?_; refine s_lenR sl_rows rfl (by assumption) ?_) | (refine isPick ?_; refine s_pickf rfl rfl ?_)) | (refine isC ?_; first | refine c_sr ?_ | refine c_th ?_ | refine c_seq ?_ | refine c_iff rfl ?_ | refine c_block ?_) | (refine l_th ?_))
        refine c_loop (γ := Nat) 1073610800 (fun k => [(5, .int .i64 (k : Int))]) (fun k W => k ≤ g.length ∧ ((g.take k).any fun l => !risB (-1) l n) = false ∧ Ex w W) (fun k => g.length - k) 0 ⟨rfl, trivial⟩ ⟨Nat.zero_le _, rfl, Ex.refl _⟩ ?_
        rintro k ρ W ⟨hk, hno, hx⟩
        have hgW := hg.ex hx
        repeat (first | (refine isO ?_; first | refine s_move ?_ | (refine isBin ?_; refine s_lss rfl rfl ?_) | (refine isCall ?_; refine s_lenR sl_rows rfl (by assumption) ?_)) | (refine isC ?_; first | refine c_sr ?_ | refine c_seq ?_) | (refine l_th ?_))
        refine c_ifd rfl (fun h => ?_) (fun h => ?_)
        · have hk' : k < g.length := by omega
          have hst := any_take_succ g (fun l => !risB (-1) l n) k [] hk'
          repeat (first | (refine isO ?_; refine s_move ?_) | (refine isC ?_; first | refine c_sr ?_ | refine c_th ?_ | refine c_seq ?_ | refine c_block ?_))
          refine s_ixR sl_rows ty_ints rfl rfl rfl hgW hk' ?_
          intro _ row hr
          repeat ((refine isO ?_; refine s_move ?_))
          refine s_call ok_Rises6 rfl (Rises6_ct row (g.getD k []) n W hr) ?_
          rintro x w1 ⟨rfl, hx1⟩
          refine Or.elim (tf6 (risB (-1) (g.getD k []) n)) (fun hb => ?_) (fun hb => ?_)
          · refine s_re (v' := .bool true) (vbool hb) ?_
            rw [hno, hb] at hst
            repeat (first | (refine isO ?_; first | refine s_move ?_ | refine s_assign ?_ | (refine isBin ?_; refine s_inc rfl (by omega) ?_) | refine s_not rfl ?_) | (refine isC ?_; first | refine c_region ?_ | refine c_iff rfl ?_ | refine c_skip ?_) | (refine l_th ?_))
            exact loop_end (k + 1) (by (repeat (first | exact agree_refl _ _ | refine agree_upd rfl ?_ | refine agree_ext rfl ?_ | refine agree_mask rfl ?_))) ⟨rfl, trivial⟩ ⟨hk', hst, hx.trans hx1⟩ (by omega)
          · refine s_re (v' := .bool false) (vbool hb) ?_
            have hany : (g.any fun l => !risB (-1) l n) = true := any_of_getD g _ k [] hk' (by rw [hb]; rfl)
            repeat (first | (refine isO ?_; first | refine s_assign ?_ | refine s_not rfl ?_) | (refine isC ?_; first | refine c_sr ?_ | refine c_ift rfl ?_ | refine c_ret ?_) | (first | refine l_th ?_ | refine th_ret ?_ | refine ib_ret ?_))
            exact ret1 rfl rfl ⟨vbool (by simp only [chkG, hany]; simp), hx.trans hx1⟩
        · rw [List.take_of_length_le (by omega)] at hno
          repeat (first | (refine isO ?_; refine s_assign ?_) | (refine isC ?_; first | refine c_sr ?_ | refine c_ret ?_ | refine c_exit ?_) | (refine l_th ?_))
          exact ret1 rfl rfl ⟨vbool (by simp only [chkG, hno]; simp [h1, h2, h3]), hx⟩
      · repeat (first | (refine isO ?_; first | refine s_move ?_ | refine s_assign ?_ | (refine isG ?_; refine g_yes rfl rfl ?_) | (refine isBin ?_; first | refine s_lssF rfl rfl (by omega) ?_ | refine s_gtrT rfl rfl (by omega) ?_ | refine s_gtrF rfl rfl (by omega) ?_) | (refine isCall ?_; refine s_lenR sl_rows rfl (by assumption) ?_) | (refine isPick ?_; refine s_pickf rfl rfl ?_)) | (refine isC ?_; first | refine c_sr ?_ | refine c_seq ?_ | refine c_ift rfl ?_ | refine c_ret ?_) | (first | refine l_th ?_ | refine th_ret ?_))
        exact ret1 rfl rfl ⟨vbool (by simp [chkG, h3]), Ex.refl _⟩
    · repeat (first | (refine isO ?_; first | refine s_move ?_ | refine s_assign ?_ | (refine isG ?_; first | refine g_yes rfl rfl ?_ | refine g_no rfl rfl rfl ?_) | (refine isBin ?_; first | refine s_lssF rfl rfl (by omega) ?_ | refine s_gtrT rfl rfl (by omega) ?_) | (refine isPick ?_; first | refine s_pickt rfl rfl ?_ | refine s_pickf rfl rfl ?_)) | (refine isC ?_; first | refine c_sr ?_ | refine c_seq ?_ | refine c_ift rfl ?_ | refine c_ret ?_) | (first | refine l_th ?_ | refine th_ret ?_))
      exact ret1 rfl rfl ⟨vbool (by simp [chkG, h2]), Ex.refl _⟩
  · repeat (first | (refine isO ?_; first | refine s_move ?_ | refine s_assign ?_ | (refine isG ?_; refine g_no rfl rfl rfl ?_) | (refine isBin ?_; refine s_lssT rfl rfl (by omega) ?_) | (refine isPick ?_; refine s_pickt rfl rfl ?_)) | (refine isC ?_; first | refine c_sr ?_ | refine c_seq ?_ | refine c_ift rfl ?_ | refine c_ret ?_) | (first | refine l_th ?_ | refine th_ret ?_))
    exact ret1 rfl rfl ⟨vbool (by simp [chkG, h1]), Ex.refl _⟩
end Go.Proofs.YtifbgpkjbciblaaGreatDoor.Sal
end
section
/- The document's answer on halls (salesroomref09): less, Few. -/
set_option maxRecDepth 100000
namespace Go.Proofs.YtifbgpkjbciblaaGreatDoor.Sal
open Go.RowKit
attribute [local irreducible] Go.Code.wpIn Go.wpListIn Ct Ints Rows Sl At Rw WJ
set_option linter.all false
theorem ok_less9 : CallOK Tryz.prog 78 := callOK Tryz.func78 (by kernel_rfl) rfl
theorem ok_Few9 : CallOK Tryz.prog 20 := callOK Tryz.func20 (by kernel_rfl) rfl
theorem less9_ct (u v : Value) (a b : List Int) (w : World) (ha : Ints w u a) (hb : Ints w v b) (hl : a.length = b.length) :
    Ct Tryz.prog 78 #[u, v] w fun x w' => x = .bool (lexB a b) ∧ Ex w w' := by
  have hlen := ha.len
  refine enter (N := 30) (vs := [u, v]) Tryz.func78 rfl rfl rfl ?_
  repeat (first | (refine isO ?_; refine s_assign ?_) | (refine isC ?_; first | refine c_sr ?_ | refine c_seq ?_ | refine c_block ?_) | (refine l_th ?_))
  refine c_loop (γ := Nat) 1073741808 (fun i => [(5, .int .i64 (i : Int))]) (fun i W => i ≤ a.length ∧ lexB (a.drop i) (b.drop i) = lexB a b ∧ Ex w W) (fun i => a.length - i) 0 ⟨rfl, trivial⟩ ⟨Nat.zero_le _, rfl, Ex.refl _⟩ ?_
  rintro i ρ W ⟨hi, hlx, hx⟩
  have haW := ha.ex hx
  have hbW := hb.ex hx
  repeat (first | (refine isO ?_; first | refine s_move ?_ | (refine isBin ?_; refine s_lss rfl rfl ?_) | (refine isCall ?_; refine s_lenI sl_ints rfl (by assumption) ?_)) | (refine isC ?_; first | refine c_sr ?_ | refine c_seq ?_) | (refine l_th ?_))
  refine c_ifd rfl (fun h => ?_) (fun h => ?_)
  · have hi' : i < a.length := by omega
    have hib : i < b.length := by omega
    have hst := lex_drop hi' hib
    have hxd := hx.trans (Ex.drew W)
    repeat ((refine isC ?_; first | refine c_th ?_ | refine c_seq ?_ | refine c_block ?_))
    refine c_drawO hx 0 8 [(0, true), (1, true), (2, true), (3, true), (4, true), (5, true), (6, true), (7, true), (8, true)] mixed (by kernel_rfl) ?_
    refine d_move rfl ?_
    refine d_move rfl ?_
    refine d_iaI (n := i) rfl sl_ints ty_int rfl rfl ha hi' ?_
    intro ad1 hc1
    refine d_ld rfl ty_int rfl hc1 ?_
    refine d_move rfl ?_
    refine d_move rfl ?_
    refine d_iaI (n := i) rfl sl_ints ty_int rfl rfl hb hib ?_
    intro ad2 hc2
    refine d_ld rfl ty_int rfl hc2 ?_
    refine d_neq rfl rfl rfl ?_
    by_cases he : a.getD i 0 = b.getD i 0
    · rw [if_pos he] at hst
      refine d_re (v' := .bool false) (vbool (decide_eq_false (fun hne => hne he))) ?_
      refine d_nil ?_
      repeat (first | (refine isO ?_; first | refine s_move ?_ | refine s_assign ?_ | (refine isBin ?_; refine s_inc rfl (by omega) ?_)) | (refine isC ?_; first | refine c_region ?_ | refine c_iff rfl ?_ | refine c_skip ?_) | (refine l_th ?_))
      exact loop_end (i + 1) (by (repeat (first | exact agree_refl _ _ | refine agree_upd rfl ?_ | refine agree_ext rfl ?_ | refine agree_mask rfl ?_))) ⟨rfl, trivial⟩ ⟨hi', by rw [← hst]; exact hlx, hxd⟩ (by omega)
    · rw [if_neg he] at hst
      refine d_re (v' := .bool true) (vbool (decide_eq_true he)) ?_
      refine d_nil ?_
      repeat ((refine isC ?_; first | refine c_seq ?_ | refine c_ift rfl ?_))
      refine c_drawO hxd 0 8 [(0, true), (1, true), (2, true), (3, true), (4, true), (5, true), (6, true), (7, true), (8, true), (9, true)] mixed (by kernel_rfl) ?_
      have hxdd := hxd.trans (Ex.drew W.drew)
      refine d_move rfl ?_
      refine d_move rfl ?_
      refine d_iaI (n := i) rfl sl_ints ty_int rfl rfl ha hi' ?_
      intro ad3 hc3
      refine d_ld rfl ty_int rfl hc3 ?_
      refine d_move rfl ?_
      refine d_move rfl ?_
      refine d_iaI (n := i) rfl sl_ints ty_int rfl rfl hb hib ?_
      intro ad4 hc4
      refine d_ld rfl ty_int rfl hc4 ?_
      refine d_lss rfl rfl rfl ?_
      refine d_assign rfl ?_
      refine d_nil ?_
      repeat (first | (refine isC ?_; refine c_ret ?_) | (first | refine th_ret ?_ | refine ib_ret ?_))
      exact ret1 rfl rfl ⟨vbool (by rw [← hlx, hst]), hxdd⟩
  · have e1 : a.drop i = [] := List.drop_of_length_le (by omega)
    rw [e1] at hlx
    repeat (first | (refine isO ?_; refine s_assign ?_) | (refine isC ?_; first | refine c_sr ?_ | refine c_ret ?_ | refine c_exit ?_) | (refine l_th ?_))
    exact ret1 rfl rfl ⟨vbool (by rw [← hlx]; rfl), hx⟩
theorem opt9 {α : Type} (o : Option α) : o = none ∨ ∃ b, o = some b := by cases o <;> simp
theorem pow8' {k : Nat} (h : k ≤ 8) : 1 * 2 ^ k ≤ 256 := by
  have : 2 ^ k ≤ 2 ^ 8 := Nat.pow_le_pow_right (by omega) h
  omega
set_option maxHeartbeats 8000000 in
theorem Few9_okW {R : Nat → Nat → Bool} {m n : Nat} (hm : m ≤ 8) (hn : n ≤ 8) (gv : Value) (sv' : Value) (sl : List Int) (w : World) (hg : Rows w gv (gL R m n)) (hs : Ints w sv' sl) (hb : risB (-1) sl (m : Int) = true) :
    Ct Tryz.prog 20 #[gv, .int .i64 (n : Int), sv'] w fun u w' => ∃ v, u = .tuple #[v, .bool (fewR R m n sl).isSome, .int .i64 0] ∧ Ints w' v ((fewR R m n sl).getD []) ∧ (∀ b, v.ownBlock = some b → w.heap.size ≤ b) ∧ Ex w w' := by
  have hgl := gL_len R m n
  have hsl := ris_len hb
  have hchk := chk_ok (R := R) hm hn
  have hp8 := pow8' hn
  refine enter (N := 113) (vs := [gv, .int .i64 (n : Int), sv']) Tryz.func20 rfl rfl rfl ?_
  repeat (first | (refine isO ?_; first | refine s_move ?_ | refine s_assign ?_) | (refine isC ?_; first | refine c_sr ?_ | refine c_seq ?_) | (refine l_th ?_))
  refine s_call ok_Check6 rfl (Check6_ct gv (gL R m n) n w hg) ?_
  rintro v w1 ⟨rfl, hx1⟩
  have hg1 := hg.ex hx1
  refine s_re (v' := .bool true) (vbool hchk) ?_
  repeat ((refine isO ?_; first | refine s_move ?_ | (refine isG ?_; refine g_yes rfl rfl ?_) | (refine isCall ?_; refine s_lenR sl_rows rfl (by assumption) ?_) | refine s_not rfl ?_))
  refine s_call ok_Rises6 rfl (Rises6_ct sv' sl ((gL R m n).length : Int) w1 (hs.ex hx1)) ?_
  rintro v w2 ⟨rfl, hx2⟩
  have hx02 := hx1.trans hx2
  refine s_re (v' := .bool true) (vbool (by rw [hgl]; exact hb)) ?_
  repeat (first | (refine isO ?_; first | refine s_assign ?_ | (refine isG ?_; refine g_yes rfl rfl ?_) | (refine isPick ?_; refine s_pickf rfl rfl ?_) | refine s_not rfl ?_) | (refine isC ?_; first | refine c_sr ?_ | refine c_th ?_ | refine c_seq ?_ | refine c_iff rfl ?_ | refine c_block ?_) | (refine l_th ?_))
  refine c_loop3 2596148429267413814265247091392000 (fun (x : Nat) (v9 : Value) (o : Option (List Int)) => [(11, .int .i64 (x : Int)), (9, v9), (10, .bool o.isSome)]) (fun x v9 o W => x ≤ 2 ^ n ∧ Best9 R n sl x o ∧ Ints W v9 (o.getD []) ∧ (∀ b, v9.ownBlock = some b → w.heap.size ≤ b) ∧ Ex w W) (fun x _ _ => 2 ^ n - x) 0 (.slice none 0 0) none ⟨rfl, rfl, rfl, trivial⟩ ⟨Nat.zero_le _, Best9.zero, Ints.nil _, fun b e => (by cases e), hx02⟩ ?_
  rintro x v9 o ρ W ⟨hx8, hB, hI9, hO9, hxW⟩
  have hsW := hs.ex hxW
  repeat (first | (refine isO ?_; refine s_move ?_) | (refine isC ?_; first | refine c_sr ?_ | refine c_seq ?_))
  refine s_conv (n := n) (by kernel_rfl) Tryz.underlying69 rfl (by simp [top]; omega) ?_
  refine s_shl (m := 1) (n := n) rfl rfl (by simp [IntKind.bits]; omega) (by simp only [top]; omega) ?_
  repeat (first | (refine isO ?_; (refine isBin ?_; refine s_lss rfl rfl ?_)) | (refine l_th ?_))
  refine c_ifd rfl (fun h => ?_) (fun h => ?_)
  · have hx' : x < 2 ^ n := by omega
    repeat (first | (refine isO ?_; refine s_assign ?_) | (refine isC ?_; first | refine c_sr ?_ | refine c_th ?_ | refine c_seq ?_ | refine c_block ?_) | (refine l_th ?_))
    refine c_loop2 4503462188429312 (fun (k : Nat) (v12 : Value) => [(13, .int .i64 (k : Int)), (12, v12)]) (fun k v12 W' => k ≤ n ∧ LI W W' 3 v12 (rowL k (fun i => x.testBit i)) ∧ Ex W W') (fun k _ => n - k) 0 (.slice none 0 0) ⟨rfl, rfl, trivial⟩ ⟨Nat.zero_le _, LI.nil _ _ _, Ex.refl _⟩ ?_
    rintro k v12 ρ2 W2 ⟨hk, hL, hxW2⟩
    have hrl := rowL_len k (fun i => x.testBit i)
    have hrn := rowN_le k (fun i => x.testBit i)
    repeat (first | (refine isO ?_; first | refine s_move ?_ | (refine isBin ?_; refine s_lss rfl rfl ?_)) | (refine isC ?_; first | refine c_sr ?_ | refine c_seq ?_) | (refine l_th ?_))
    refine c_ifd rfl (fun h2 => ?_) (fun h2 => ?_)
    · have hk' : k < n := by omega
      have hst := rowL_step k (fun i => x.testBit i)
      have hba := bit_asked x k
      repeat (first | (refine isO ?_; refine s_move ?_) | (refine isC ?_; first | refine c_sr ?_ | refine c_th ?_ | refine c_seq ?_ | refine c_block ?_))
      refine s_conv (n := k) (by kernel_rfl) Tryz.underlying69 rfl (by simp [top]; omega) ?_
      refine s_shr (m := x) (n := k) rfl rfl (by simp [IntKind.bits]; omega) ?_
      refine s_and (m := x / 2 ^ k) (n := 1) rfl rfl (Nat.le_trans (Nat.div_le_self _ _) (by simp only [top]; omega)) (by simp [top]) ?_
      refine Or.elim (tf6 (x.testBit k)) (fun hbt => ?_) (fun hbt => ?_)
      · rw [hbt, if_pos rfl] at hst
        refine s_eqlT rfl rfl (hba.2 hbt) ?_
        repeat (first | (refine isO ?_; refine s_move ?_) | (refine isC ?_; first | refine c_region ?_ | refine c_ift rfl ?_) | (refine l_th ?_))
        refine s_li sl_ints in_int rfl hL rfl rfl (fun _ => rfl) (by omega) hxW2 ?_
        intro v' w4 sl' hL4 hx4
        rw [← hst] at hL4
        repeat (first | (refine isO ?_; first | refine s_move ?_ | refine s_assign ?_ | (refine isBin ?_; refine s_inc rfl (by omega) ?_)) | (refine isC ?_; refine c_region ?_) | (first | refine l_th ?_ | refine l_nil ?_))
        exact loop_end2 (k + 1) v' (by (repeat (first | exact agree_refl _ _ | refine agree_upd rfl ?_ | refine agree_ext rfl ?_ | refine agree_mask rfl ?_))) ⟨rfl, rfl, trivial⟩ ⟨hk', hL4, hx4⟩ (by omega)
      · rw [hbt, if_neg Bool.false_ne_true, List.append_nil] at hst
        refine s_eqlF rfl rfl (fun e => by have := hba.1 e; rw [hbt] at this; cases this) ?_
        repeat (first | (refine isO ?_; first | refine s_move ?_ | refine s_assign ?_ | (refine isBin ?_; refine s_inc rfl (by omega) ?_)) | (refine isC ?_; first | refine c_region ?_ | refine c_iff rfl ?_ | refine c_skip ?_) | (refine l_th ?_))
        exact loop_end2 (k + 1) v12 (by (repeat (first | exact agree_refl _ _ | refine agree_upd rfl ?_ | refine agree_ext rfl ?_ | refine agree_mask rfl ?_))) ⟨rfl, rfl, trivial⟩ ⟨hk', by rw [hst]; exact hL, hxW2⟩ (by omega)
    · have hkn : k = n := by omega
      subst hkn
      have hIL : Ints W2 v12 (setN9 k x) := hL.ints (by omega)
      have hO12 : ∀ b, v12.ownBlock = some b → w.heap.size ≤ b := fun b hb => Nat.le_trans hxW.size (hL.2 b hb)
      have hx2 := hxW.trans hxW2
      repeat (first | (refine isO ?_; refine s_assign ?_) | (refine isC ?_; first | refine c_sr ?_ | refine c_seq ?_ | refine c_block ?_ | refine c_exit ?_) | (refine l_th ?_))
      refine c_loop (γ := Nat) 9671406552413433770786816 (fun i => [(15, .int .i64 (i : Int)), (14, .int .i64 ((withK R k sl (setN9 k x) i : Nat) : Int))]) (fun i W' => i ≤ sl.length ∧ Ex W2 W') (fun i => sl.length - i) 0 ⟨rfl, rfl, trivial⟩ ⟨Nat.zero_le _, Ex.refl _⟩ ?_
      rintro i ρ3 W3 ⟨hi, hx23⟩
      have hx3 := hx2.trans hx23
      have hs3 := hs.ex hx3
      have hwk := withK_le R k sl (setN9 k x) i
      repeat (first | (refine isO ?_; first | refine s_move ?_ | (refine isBin ?_; refine s_lss rfl rfl ?_) | (refine isCall ?_; refine s_lenI sl_ints rfl (by assumption) ?_)) | (refine isC ?_; first | refine c_sr ?_ | refine c_seq ?_) | (refine l_th ?_))
      refine c_ifd rfl (fun h3 => ?_) (fun h3 => ?_)
      · have hi' : i < sl.length := by omega
        refine Exists.elim (ris_at hb hi') fun p hp => ?_
        have hp1 := hp.1
        have hp2 := hp.2
        have hws := withK_succ (R := R) (nn := k) (l := setN9 k x) hi' hp1
        have hg3 := hg.ex hx3
        repeat (first | (refine isO ?_; first | refine s_move ?_ | (refine isIA ?_; refine s_ixI sl_ints ty_int rfl rfl rfl (by assumption) (by omega) ?_; intro _)) | (refine isC ?_; first | refine c_sr ?_ | refine c_th ?_ | refine c_seq ?_ | refine c_block ?_))
        refine s_ixR sl_rows ty_ints rfl rfl (vint hp1) hg3 (by omega) ?_
        intro _ row hr
        rw [gL_row hp2] at hr
        have hrl3 := rowL_len k (R p)
        have hrn3 := rowN_le k (R p)
        repeat (first | (refine isO ?_; refine s_assign ?_) | (refine isC ?_; first | refine c_sr ?_ | refine c_seq ?_ | refine c_block ?_) | (refine l_th ?_))
        refine c_loop (γ := Nat) 1208888926126481755996160 (fun j => [(18, .int .i64 (j : Int)), (17, .bool (wJ R k (setN9 k x) p j))]) (fun j W' => j ≤ (rowL k (R p)).length ∧ Ex W3 W') (fun j => (rowL k (R p)).length - j) 0 ⟨rfl, rfl, trivial⟩ ⟨Nat.zero_le _, Ex.refl _⟩ ?_
        rintro j ρ4 W4 ⟨hj, hx34⟩
        have hr4 := hr.ex hx34
        repeat (first | (refine isO ?_; first | refine s_move ?_ | (refine isBin ?_; refine s_lss rfl rfl ?_) | (refine isCall ?_; refine s_lenI sl_ints rfl (by assumption) ?_)) | (refine isC ?_; first | refine c_sr ?_ | refine c_seq ?_) | (refine l_th ?_))
        refine c_ifd rfl (fun h4 => ?_) (fun h4 => ?_)
        · have hj' : j < (rowL k (R p)).length := by omega
          have hwj := wJ_succ (R := R) (nn := k) (l := setN9 k x) (p := p) hj'
          repeat (first | (refine isO ?_; refine s_move ?_) | (refine isC ?_; first | refine c_th ?_ | refine c_seq ?_ | refine c_region ?_ | refine c_block ?_))
          refine Or.elim (tf6 (wJ R k (setN9 k x) p j)) (fun hbt => ?_) (fun hbt => ?_)
          · refine s_re (v' := .bool true) (vbool hbt) ?_
            rw [hbt, Bool.true_and] at hwj
            repeat (first | (refine isO ?_; first | refine s_move ?_ | (refine isG ?_; refine g_yes rfl rfl ?_)) | (refine isO ?_; first | (refine s_iaI sl_ints ty_int rfl rfl (by assumption) (by omega) ?_; intro _ _) | refine s_ld ty_int rfl (by assumption) ?_))
            refine s_call ok_Has6 rfl (Has6_ct v12 (setN9 k x) ((rowL k (R p)).getD j 0) W4 (hIL.ex (hx23.trans hx34))) ?_
            rintro u W5 ⟨rfl, hx5⟩
            repeat (first | (refine isO ?_; first | refine s_move ?_ | refine s_assign ?_ | (refine isBin ?_; refine s_inc rfl (by omega) ?_) | (refine isPick ?_; refine s_pickt rfl rfl ?_)) | (refine isC ?_; refine c_region ?_) | (first | refine l_th ?_ | refine l_nil ?_))
            exact loop_end (j + 1) (by (repeat (first | exact agree_refl _ _ | refine agree_upd rfl ?_ | refine agree_ext rfl ?_ | refine agree_mask rfl ?_))) ⟨rfl, vbool hwj.symm, trivial⟩ ⟨hj', hx34.trans hx5⟩ (by omega)
          · refine s_re (v' := .bool false) (vbool hbt) ?_
            rw [hbt, Bool.false_and] at hwj
            repeat (first | (refine isO ?_; first | refine s_move ?_ | refine s_assign ?_ | (refine isG ?_; refine g_no rfl rfl rfl ?_) | (refine isBin ?_; refine s_inc rfl (by omega) ?_) | (refine isPick ?_; refine s_pickf rfl rfl ?_)) | (refine isC ?_; refine c_region ?_) | (first | refine l_th ?_ | refine l_nil ?_))
            exact loop_end (j + 1) (by (repeat (first | exact agree_refl _ _ | refine agree_upd rfl ?_ | refine agree_ext rfl ?_ | refine agree_mask rfl ?_))) ⟨rfl, vbool hwj.symm, trivial⟩ ⟨hj', hx34⟩ (by omega)
        · have hwa := wJ_all (R := R) (nn := k) (l := setN9 k x) (p := p) (j := j) (by omega)
          repeat (first | (refine isO ?_; refine s_move ?_) | (refine isC ?_; first | refine c_sr ?_ | refine c_exit ?_) | (refine l_th ?_))
          refine c_if rfl (fun hbt => ?_) (fun hbt => ?_)
          · rw [if_pos (hwa.symm.trans hbt)] at hws
            repeat (first | (refine isO ?_; first | refine s_move ?_ | refine s_assign ?_ | (refine isBin ?_; refine s_inc rfl (by omega) ?_)) | (refine isC ?_; refine c_region ?_) | (first | refine l_th ?_ | refine l_nil ?_))
            exact loop_end (i + 1) (by (repeat (first | exact agree_refl _ _ | refine agree_upd rfl ?_ | refine agree_ext rfl ?_ | refine agree_mask rfl ?_))) ⟨rfl, vint (by rw [hws]), trivial⟩ ⟨hi', hx23.trans hx34⟩ (by omega)
          · rw [if_neg (fun e => by rw [← hwa, hbt] at e; cases e)] at hws
            repeat (first | (refine isO ?_; first | refine s_move ?_ | refine s_assign ?_ | (refine isBin ?_; refine s_inc rfl (by omega) ?_)) | (refine isC ?_; first | refine c_region ?_ | refine c_skip ?_) | (refine l_th ?_))
            exact loop_end (i + 1) (by (repeat (first | exact agree_refl _ _ | refine agree_upd rfl ?_ | refine agree_ext rfl ?_ | refine agree_mask rfl ?_))) ⟨rfl, vint (by rw [hws]; rfl), trivial⟩ ⟨hi', hx23.trans hx34⟩ (by omega)
      · have hwn := withK_all R k sl (setN9 k x) (j := i) (by omega)
        have hI93 := hI9.ex (hxW2.trans hx23)
        have hIL3 := hIL.ex hx23
        have hsn := setN9_len k x
        by_cases hfew : (setN9 k x).length < withK R k sl (setN9 k x) i
        · have hfb : fewB R k sl (setN9 k x) = true := decide_eq_true (by omega)
          refine Or.elim (opt9 o) (fun ho => ?_) (fun ho => ?_)
          · have hB1 : Best9 R k sl (x + 1) (some (setN9 k x)) := by rw [ho] at hB; exact hB.first hfb
            repeat (first | (refine isO ?_; first | refine s_move ?_ | (refine isG ?_; refine g_yes rfl rfl ?_) | (refine isBin ?_; refine s_gtrT rfl rfl (by omega) ?_) | (refine isCall ?_; refine s_lenI sl_ints rfl (by assumption) ?_) | refine s_not rfl ?_) | (refine isC ?_; first | refine c_sr ?_ | refine c_exit ?_))
            refine s_re (v' := .bool true) (vbool (by rw [ho]; rfl)) ?_
            repeat (first | (refine isO ?_; first | refine s_move ?_ | refine s_assign ?_ | (refine isG ?_; first | refine g_yes rfl rfl ?_ | refine g_no rfl rfl rfl ?_ | refine g_un rfl rfl ?_) | (refine isBin ?_; refine s_inc rfl (by omega) ?_) | (refine isPick ?_; refine s_pickt rfl rfl ?_)) | (refine isC ?_; first | refine c_sr ?_ | refine c_region ?_ | refine c_ift rfl ?_) | (first | refine l_th ?_ | refine l_nil ?_))
            exact loop_end3 (x + 1) v12 (some (setN9 k x)) (by (repeat (first | exact agree_refl _ _ | refine agree_upd rfl ?_ | refine agree_ext rfl ?_ | refine agree_mask rfl ?_))) ⟨rfl, rfl, rfl, trivial⟩ ⟨hx', hB1, hIL3, hO12, hx3⟩ (by omega)
          · refine Exists.elim ho fun b ho => ?_
            have hob : o.getD [] = b := by rw [ho]; rfl
            have hgo : ∀ hl : lt9 (setN9 k x) (o.getD []), Best9 R k sl (x + 1) (some (setN9 k x)) := fun hl => by rw [hob] at hl; rw [ho] at hB; exact hB.more hfb hl
            have hst : ∀ hl : ¬ lt9 (setN9 k x) (o.getD []), Best9 R k sl (x + 1) o := fun hl => by rw [hob] at hl; rw [ho] at hB ⊢; exact hB.keep hl
            by_cases hlt : (setN9 k x).length < (o.getD []).length
            · have hB1 := hgo (.inl hlt)
              repeat (first | (refine isO ?_; first | refine s_move ?_ | (refine isG ?_; refine g_yes rfl rfl ?_) | (refine isBin ?_; refine s_gtrT rfl rfl (by omega) ?_) | (refine isCall ?_; refine s_lenI sl_ints rfl (by assumption) ?_) | refine s_not rfl ?_) | (refine isC ?_; first | refine c_sr ?_ | refine c_exit ?_))
              refine s_re (v' := .bool false) (vbool (by rw [ho]; rfl)) ?_
              repeat (first | (refine isO ?_; first | refine s_move ?_ | refine s_assign ?_ | (refine isG ?_; first | refine g_yes rfl rfl ?_ | refine g_no rfl rfl rfl ?_ | refine g_un rfl rfl ?_) | (refine isBin ?_; first | refine s_inc rfl (by omega) ?_ | refine s_lssT rfl rfl (by omega) ?_) | (refine isCall ?_; refine s_lenI sl_ints rfl (by assumption) ?_) | (refine isPick ?_; first | refine s_pickt rfl rfl ?_ | refine s_pickf rfl rfl ?_)) | (refine isC ?_; first | refine c_sr ?_ | refine c_region ?_ | refine c_ift rfl ?_) | (first | refine l_th ?_ | refine l_nil ?_))
              exact loop_end3 (x + 1) v12 (some (setN9 k x)) (by (repeat (first | exact agree_refl _ _ | refine agree_upd rfl ?_ | refine agree_ext rfl ?_ | refine agree_mask rfl ?_))) ⟨rfl, rfl, rfl, trivial⟩ ⟨hx', hB1, hIL3, hO12, hx3⟩ (by omega)
            · by_cases heq : (setN9 k x).length = (o.getD []).length
              · repeat (first | (refine isO ?_; first | refine s_move ?_ | (refine isG ?_; refine g_yes rfl rfl ?_) | (refine isBin ?_; refine s_gtrT rfl rfl (by omega) ?_) | (refine isCall ?_; refine s_lenI sl_ints rfl (by assumption) ?_) | refine s_not rfl ?_) | (refine isC ?_; first | refine c_sr ?_ | refine c_exit ?_))
                refine s_re (v' := .bool false) (vbool (by rw [ho]; rfl)) ?_
                repeat ((refine isO ?_; first | refine s_move ?_ | (refine isG ?_; refine g_yes rfl rfl ?_) | (refine isBin ?_; first | refine s_lssF rfl rfl (by omega) ?_ | refine s_eqlT rfl rfl (by omega) ?_) | (refine isCall ?_; refine s_lenI sl_ints rfl (by assumption) ?_) | (refine isPick ?_; refine s_pickf rfl rfl ?_)))
                refine s_call ok_less9 rfl (less9_ct v12 v9 _ _ W3 hIL3 hI93 heq) ?_
                rintro u W5 ⟨rfl, hx5⟩
                refine Or.elim (tf6 (lexB (setN9 k x) (o.getD []))) (fun hbt => ?_) (fun hbt => ?_)
                · have hB1 := hgo (.inr ⟨heq, hbt⟩)
                  refine s_re (v' := .bool true) (vbool hbt) ?_
                  repeat (first | (refine isO ?_; first | refine s_move ?_ | refine s_assign ?_ | (refine isG ?_; refine g_yes rfl rfl ?_) | (refine isBin ?_; refine s_inc rfl (by omega) ?_) | (refine isPick ?_; first | refine s_pickt rfl rfl ?_ | refine s_pickf rfl rfl ?_)) | (refine isC ?_; first | refine c_sr ?_ | refine c_region ?_ | refine c_ift rfl ?_) | (first | refine l_th ?_ | refine l_nil ?_))
                  exact loop_end3 (x + 1) v12 (some (setN9 k x)) (by (repeat (first | exact agree_refl _ _ | refine agree_upd rfl ?_ | refine agree_ext rfl ?_ | refine agree_mask rfl ?_))) ⟨rfl, rfl, rfl, trivial⟩ ⟨hx', hB1, hIL3.ex hx5, hO12, hx3.trans hx5⟩ (by omega)
                · have hB1 := hst (fun hl => by
                    rcases hl with hl | ⟨_, hl⟩
                    · exact hlt hl
                    · rw [hbt] at hl; cases hl)
                  refine s_re (v' := .bool false) (vbool hbt) ?_
                  repeat (first | (refine isO ?_; first | refine s_move ?_ | refine s_assign ?_ | (refine isG ?_; refine g_yes rfl rfl ?_) | (refine isBin ?_; refine s_inc rfl (by omega) ?_) | (refine isPick ?_; first | refine s_pickt rfl rfl ?_ | refine s_pickf rfl rfl ?_)) | (refine isC ?_; first | refine c_region ?_ | refine c_iff rfl ?_ | refine c_skip ?_) | (refine l_th ?_))
                  exact loop_end3 (x + 1) v9 o (by (repeat (first | exact agree_refl _ _ | refine agree_upd rfl ?_ | refine agree_ext rfl ?_ | refine agree_mask rfl ?_))) ⟨rfl, rfl, rfl, trivial⟩ ⟨hx', hB1, hI93.ex hx5, hO9, hx3.trans hx5⟩ (by omega)
              · have hB1 := hst (fun hl => by
                  rcases hl with hl | ⟨hl, _⟩
                  · exact hlt hl
                  · exact heq hl)
                repeat (first | (refine isO ?_; first | refine s_move ?_ | (refine isG ?_; refine g_yes rfl rfl ?_) | (refine isBin ?_; refine s_gtrT rfl rfl (by omega) ?_) | (refine isCall ?_; refine s_lenI sl_ints rfl (by assumption) ?_) | refine s_not rfl ?_) | (refine isC ?_; first | refine c_sr ?_ | refine c_exit ?_))
                refine s_re (v' := .bool false) (vbool (by rw [ho]; rfl)) ?_
                repeat (first | (refine isO ?_; first | refine s_move ?_ | refine s_assign ?_ | (refine isG ?_; first | refine g_yes rfl rfl ?_ | refine g_no rfl rfl rfl ?_) | (refine isBin ?_; first | refine s_inc rfl (by omega) ?_ | refine s_lssF rfl rfl (by omega) ?_ | refine s_eqlF rfl rfl (by omega) ?_) | (refine isCall ?_; refine s_lenI sl_ints rfl (by assumption) ?_) | (refine isPick ?_; first | refine s_pickt rfl rfl ?_ | refine s_pickf rfl rfl ?_)) | (refine isC ?_; first | refine c_region ?_ | refine c_iff rfl ?_ | refine c_skip ?_) | (refine l_th ?_))
                exact loop_end3 (x + 1) v9 o (by (repeat (first | exact agree_refl _ _ | refine agree_upd rfl ?_ | refine agree_ext rfl ?_ | refine agree_mask rfl ?_))) ⟨rfl, rfl, rfl, trivial⟩ ⟨hx', hB1, hI93, hO9, hx3⟩ (by omega)
        · have hfb : fewB R k sl (setN9 k x) = false := decide_eq_false (by omega)
          have hB1 := hB.no hfb
          repeat (first | (refine isO ?_; first | refine s_move ?_ | refine s_assign ?_ | (refine isG ?_; first | refine g_no rfl rfl rfl ?_ | refine g_un rfl rfl ?_) | (refine isBin ?_; first | refine s_inc rfl (by omega) ?_ | refine s_gtrF rfl rfl (by omega) ?_) | (refine isCall ?_; refine s_lenI sl_ints rfl (by assumption) ?_) | (refine isPick ?_; refine s_pickf rfl rfl ?_)) | (refine isC ?_; first | refine c_sr ?_ | refine c_region ?_ | refine c_iff rfl ?_ | refine c_exit ?_ | refine c_skip ?_) | (refine l_th ?_))
          exact loop_end3 (x + 1) v9 o (by (repeat (first | exact agree_refl _ _ | refine agree_upd rfl ?_ | refine agree_ext rfl ?_ | refine agree_mask rfl ?_))) ⟨rfl, rfl, rfl, trivial⟩ ⟨hx', hB1, hI93, hO9, hx3⟩ (by omega)
  · have hxe : x = 2 ^ n := by omega
    rw [hxe] at hB
    have hfr := best9_few (m := m) hn hb hB
    repeat (first | (refine isO ?_; first | refine s_move ?_ | refine s_assign ?_) | (refine isC ?_; first | refine c_sr ?_ | refine c_ret ?_ | refine c_exit ?_) | (refine l_th ?_))
    exact ret3 rfl rfl rfl rfl ⟨v9, congrArg (fun z : Bool => Value.tuple #[v9, .bool z, .int .i64 0]) (by rw [hfr]), by rw [hfr]; exact hI9, hO9, hxW⟩
end Go.Proofs.YtifbgpkjbciblaaGreatDoor.Sal
end
section
/- RR3: how far a set may rise, as the document reckons it. -/
set_option maxRecDepth 100000
namespace Go.Proofs.YtifbgpkjbciblaaGreatDoor.Sal
open Go.RowKit
set_option linter.all false
/-- How far one lets a set rise, with the first items looked at. -/
def farJ (bids : List (List Int)) (prices set : List Int) (i : Nat) : Nat → Int
  | 0 => dG bids prices i
  | q + 1 => if set.contains (q : Int) = false ∧ dG bids prices i - gD bids prices i q < farJ bids prices set i q then dG bids prices i - gD bids prices i q else farJ bids prices set i q
/-- .. how far the first ones of those who must have something do; -1: none does. -/
def byJ (bids : List (List Int)) (prices set : List Int) (n : Nat) (must : List Int) : Nat → Int
  | 0 => -1
  | j + 1 => if elseB bids prices set n (must.getD j 0).toNat = true then byJ bids prices set n must j
    else if byJ bids prices set n must j < 0 ∨ farJ bids prices set (must.getD j 0).toNat n < byJ bids prices set n must j then farJ bids prices set (must.getD j 0).toNat n else byJ bids prices set n must j
theorem farJ_le (bids : List (List Int)) (prices set : List Int) (i : Nat) : ∀ q, farJ bids prices set i q ≤ dG bids prices i ∧ ∀ k, k < q → set.contains (k : Int) = false → farJ bids prices set i q ≤ dG bids prices i - gD bids prices i k
  | 0 => ⟨Int.le_refl _, fun k h => absurd h (Nat.not_lt_zero _)⟩
  | q + 1 => by
    obtain ⟨h1, h2⟩ := farJ_le bids prices set i q
    unfold farJ
    split
    · rename_i h
      refine ⟨by omega, fun k hk hc => ?_⟩
      by_cases e : k = q
      · subst e; omega
      · have := h2 k (by omega) hc; omega
    · rename_i h
      refine ⟨h1, fun k hk hc => ?_⟩
      by_cases e : k = q
      · subst e
        have : ¬ (dG bids prices i - gD bids prices i k < farJ bids prices set i k) := fun h3 => h ⟨hc, h3⟩
        omega
      · exact h2 k (by omega) hc
theorem farJ_is (bids : List (List Int)) (prices set : List Int) (i : Nat) : ∀ q, farJ bids prices set i q = dG bids prices i ∨ ∃ k, k < q ∧ set.contains (k : Int) = false ∧ farJ bids prices set i q = dG bids prices i - gD bids prices i k
  | 0 => .inl rfl
  | q + 1 => by
    unfold farJ
    split
    · rename_i h
      exact .inr ⟨q, by omega, h.1, rfl⟩
    · rcases farJ_is bids prices set i q with h | ⟨k, h1, h2, h3⟩
      · exact .inl h
      · exact .inr ⟨k, by omega, h2, h3⟩
theorem farJ_nn {bids : List (List Int)} {prices set : List Int} {i q : Nat} (hl : q ≤ lenB bids i) : 0 ≤ farJ bids prices set i q := by
  rcases farJ_is bids prices set i q with h | ⟨k, h1, _, h3⟩
  · rw [h]; exact dG_ge _ _ _
  · have h4 : gD bids prices i k ≤ dG bids prices i := by rw [dG_eq]; exact gmx_all _ _ _ (by omega)
    omega
theorem farJ_mem {bids : List (List Int)} {prices set : List Int} {n i : Nat} (he : elseB bids prices set n i = false) : farJ bids prices set i n ∈ farOne bids prices set n i ∧ ∀ x ∈ farOne bids prices set n i, farJ bids prices set i n ≤ x := by
  have hw : wantB (RD bids prices) n set i = true := by rw [else_want] at he; simpa using he
  constructor
  · refine mem_farOne.2 ⟨hw, ?_⟩
    rcases farJ_is bids prices set i n with h | ⟨k, h1, h2, h3⟩
    · exact .inl h
    · exact .inr ⟨k, h1, h2, h3⟩
  · intro x hx
    obtain ⟨h1, h2⟩ := farJ_le bids prices set i n
    rcases (mem_farOne.1 hx).2 with h | ⟨k, h3, h4, h5⟩
    · omega
    · have := h2 k h3 h4; omega
theorem byJ_is {bids : List (List Int)} {prices set : List Int} {n : Nat} {must : List Int} (hl : ∀ j, j < must.length → n ≤ lenB bids (must.getD j 0).toNat) : ∀ j, j ≤ must.length →
    (byJ bids prices set n must j = -1 ∧ ∀ x, ¬ x ∈ farL bids prices set n must j) ∨ (byJ bids prices set n must j ∈ farL bids prices set n must j ∧ 0 ≤ byJ bids prices set n must j ∧ ∀ x ∈ farL bids prices set n must j, byJ bids prices set n must j ≤ x)
  | 0, _ => .inl ⟨rfl, fun x h => by simp [farL] at h⟩
  | j + 1, hj => by
    have ih := byJ_is (prices := prices) (set := set) hl j (by omega)
    have hn := farJ_nn (bids := bids) (prices := prices) (set := set) (i := (must.getD j 0).toNat) (q := n) (hl j (by omega))
    have hm : ∀ x, x ∈ farL bids prices set n must (j + 1) ↔ x ∈ farL bids prices set n must j ∨ x ∈ farOne bids prices set n (must.getD j 0).toNat := fun x => by
      show x ∈ farL bids prices set n must j ++ _ ↔ _
      rw [List.mem_append]
    unfold byJ
    cases he : elseB bids prices set n (must.getD j 0).toNat with
    | true =>
      rw [if_pos rfl]
      have h0 : ∀ x, ¬ x ∈ farOne bids prices set n (must.getD j 0).toNat := fun x h => by unfold farOne at h; rw [he, if_pos rfl] at h; cases h
      rcases ih with ⟨h1, h2⟩ | ⟨h1, h2, h3⟩
      · exact .inl ⟨h1, fun x hx => (hm x).1 hx |>.elim (h2 x) (h0 x)⟩
      · exact .inr ⟨(hm _).2 (.inl h1), h2, fun x hx => (hm x).1 hx |>.elim (h3 x) (fun h => absurd h (h0 x))⟩
    | false =>
      rw [if_neg (by simp)]
      obtain ⟨hf1, hf2⟩ := farJ_mem he
      right
      rcases ih with ⟨h1, h2⟩ | ⟨h1, h2, h3⟩
      · rw [if_pos (.inl (by omega))]
        exact ⟨(hm _).2 (.inr hf1), hn, fun x hx => (hm x).1 hx |>.elim (fun h => absurd h (h2 x)) (hf2 x)⟩
      · split
        · rename_i h
          refine ⟨(hm _).2 (.inr hf1), hn, fun x hx => (hm x).1 hx |>.elim (fun h4 => ?_) (hf2 x)⟩
          have := h3 x h4; omega
        · rename_i h
          refine ⟨(hm _).2 (.inl h1), h2, fun x hx => (hm x).1 hx |>.elim (h3 x) (fun h4 => ?_)⟩
          have := hf2 x h4; omega
theorem byJ_far {bids : List (List Int)} {prices set : List Int} {n m : Nat} {p : Nat → Bool} (hl : ∀ j, j < (rowL m p).length → n ≤ lenB bids ((rowL m p).getD j 0).toNat) (h : 1 ≤ (farL bids prices set n (rowL m p) (rowL m p).length).length) :
    byJ bids prices set n (rowL m p) (rowL m p).length = farBy bids prices set n (rowL m p) := by
  have h1 := by_mem h
  rcases byJ_is (prices := prices) (set := set) hl _ (Nat.le_refl _) with ⟨_, h2⟩ | ⟨h2, _, h3⟩
  · exact absurd h1 (h2 _)
  · exact Int.le_antisymm (h3 _ h1) (by_le h2)
theorem byJ_bd {bids : List (List Int)} {prices set : List Int} {n : Nat} {must : List Int} (hd : ∀ i, 0 ≤ dG bids prices i ∧ dG bids prices i ≤ 1000000) (hl : ∀ j, j < must.length → n ≤ lenB bids (must.getD j 0).toNat) : ∀ j, j ≤ must.length → -1 ≤ byJ bids prices set n must j ∧ byJ bids prices set n must j ≤ 1000000
  | 0, _ => by unfold byJ; omega
  | j + 1, hj => by
    have ih := byJ_bd (prices := prices) (set := set) hd hl j (by omega)
    have h1 := farJ_nn (bids := bids) (prices := prices) (set := set) (i := (must.getD j 0).toNat) (q := n) (hl j (by omega))
    have h2 := (farJ_le bids prices set (must.getD j 0).toNat n).1
    have h3 := hd (must.getD j 0).toNat
    unfold byJ
    split
    · exact ih
    · split <;> omega
/-- What an item is to one who wants nothing but a set: the first of its items is one of the best. -/
theorem want_first {bids : List (List Int)} {prices : List Int} {n i : Nat} (h : lenB bids i = 0 ∨ lenB bids i = n) (hm : mustB bids prices i = true) : ∃ k : Nat, (rowL n (RD bids prices i)).getD 0 0 = (k : Int) ∧ k < n ∧ gD bids prices i k = dG bids prices i ∧ 0 < (rowL n (RD bids prices i)).length := by
  obtain ⟨h1, h2⟩ := must_wants h hm
  have h3 := rowN_get h2
  have h4 := rowL_get n (RD bids prices i) h2
  refine ⟨_, h4, h3.1, ?_, by rw [rowL_len]; exact h2⟩
  have h5 := h3.2
  unfold RD at h5
  simp only [Bool.and_eq_true, decide_eq_true_eq] at h5
  exact h5.2.2
theorem must_at {m : Nat} {p : Nat → Bool} {j : Nat} (hj : j < (rowL m p).length) : ∃ i : Nat, (rowL m p).getD j 0 = (i : Int) ∧ i < m ∧ p i = true := by
  rw [rowL_len] at hj
  obtain ⟨h1, h2⟩ := rowN_get hj
  exact ⟨_, rowL_get m p hj, h1, h2⟩
theorem all_snoc (l : List Int) (f : Int → Bool) {k : Nat} (hk : k < l.length) : (l.take (k + 1)).all f = ((l.take k).all f && f (l.getD k 0)) := by
  rw [List.take_succ_eq_append_getElem hk, List.all_append, List.getD_eq_getElem?_getD, List.getElem?_eq_getElem hk]
  simp
theorem else_all (bids : List (List Int)) (prices set : List Int) (n i : Nat) : (rowL n (RD bids prices i)).all (fun q => set.contains q) = !elseB bids prices set n i := by
  unfold elseB
  rw [List.not_any_eq_all_not]
  simp
/-- Rows, and those who must have one of theirs, built side by side. -/
structure B4 (w0 w : World) (i n : Nat) (gv bv : Value) (xs ys : List Value) : Prop where
  g : Wd w 25 1 gv i xs
  b : Wd w 3 1 bv n ys
  go : ∀ b, gv.ownBlock = some b → w0.heap.size ≤ b
  bo : ∀ b, bv.ownBlock = some b → w0.heap.size ≤ b ∧ gv.ownBlock ≠ some b
theorem B4.nil (w0 w : World) : B4 w0 w 0 0 (.slice none 0 0) (.slice none 0 0) [] [] := ⟨Wd.nil _ _ _, Wd.nil _ _ _, fun b h => (by cases h), fun b h => (by cases h)⟩
theorem B4.ex {w0 w w' : World} {i n : Nat} {gv bv : Value} {xs ys : List Value} (h : B4 w0 w i n gv bv xs ys) (hx : Ex w w') : B4 w0 w' i n gv bv xs ys := ⟨h.g.ex hx, h.b.ex hx, h.go, h.bo⟩
theorem B4.addG {w0 w w' : World} {i n : Nat} {gv bv v' u : Value} {xs ys : List Value} (h : B4 w0 w i n gv bv xs ys) (hx0 : w0.heap.size ≤ w.heap.size)
    (hW : Wd w' 25 1 v' (i + 1) (xs ++ [u])) (hg : w.grownBy w' gv.ownBlock) (ha : (∃ a c, gv = .slice a i c ∧ v' = .slice a (i + 1) c) ∨ ((∀ b, v'.ownBlock = some b → w.heap.size ≤ b) ∧ Ex w w')) :
    B4 w0 w' (i + 1) n v' bv (xs ++ [u]) ys := by
  have hbl := h.b.lt
  have hv : ∀ b, v'.ownBlock = some b → gv.ownBlock = some b ∨ w.heap.size ≤ b := fun b hb => by
    rcases ha with ⟨a, c, h1, h2⟩ | ⟨h1, _⟩
    · left; rw [h1, own_same a i c (i + 1) c, ← h2]; exact hb
    · exact .inr (h1 b hb)
  refine ⟨hW, h.b.grown hg (fun b hb e => (h.bo b hb).2 e), fun b hb => ?_, fun b hb => ⟨(h.bo b hb).1, fun e => ?_⟩⟩
  · rcases hv b hb with h1 | h1
    · exact h.go b h1
    · omega
  · rcases hv b e with h1 | h1
    · exact (h.bo b hb).2 h1
    · have := hbl b hb; omega
theorem B4.addB {w0 w w' : World} {i n : Nat} {gv bv v' u : Value} {xs ys : List Value} (h : B4 w0 w i n gv bv xs ys) (hx0 : w0.heap.size ≤ w.heap.size)
    (hW : Wd w' 3 1 v' (n + 1) (ys ++ [u])) (hg : w.grownBy w' bv.ownBlock) (ha : (∃ a c, bv = .slice a n c ∧ v' = .slice a (n + 1) c) ∨ ((∀ b, v'.ownBlock = some b → w.heap.size ≤ b) ∧ Ex w w')) :
    B4 w0 w' i (n + 1) gv v' xs (ys ++ [u]) := by
  have hgl := h.g.lt
  have hv : ∀ b, v'.ownBlock = some b → bv.ownBlock = some b ∨ w.heap.size ≤ b := fun b hb => by
    rcases ha with ⟨a, c, h1, h2⟩ | ⟨h1, _⟩
    · left; rw [h1, own_same a n c (n + 1) c, ← h2]; exact hb
    · exact .inr (h1 b hb)
  refine ⟨h.g.grown hg (fun b hb e => (h.bo b e).2 hb), hW, h.go, fun b hb => ?_⟩
  rcases hv b hb with h1 | h1
  · exact h.bo b h1
  · exact ⟨by omega, fun e => by have := hgl b e; omega⟩
theorem ok_in13 : CallOK Tryz.prog 85 := callOK Tryz.func85 (by kernel_rfl) rfl
attribute [local irreducible] Go.Code.wpIn Go.wpListIn Ct Ints Rows Sl At Rw WJ
set_option maxHeartbeats 4000000 in
theorem in13_ct (v : Value) (l : List Int) (n : Int) (w : World) (hl : Ints w v l) :
    Ct Tryz.prog 85 #[v, .int .i64 n] w fun u w' => u = .bool (l.contains n) ∧ Ex w w' := by
  have hlen := hl.len
  refine enter (N := 18) (vs := [v, .int .i64 n]) Tryz.func85 rfl rfl rfl ?_
  repeat (first | (refine isO ?_; refine s_assign ?_) | (refine isC ?_; first | refine c_sr ?_ | refine c_seq ?_ | refine c_block ?_) | (refine l_th ?_))
  refine c_loop (γ := Nat) 262128 (fun k => [(5, .int .i64 (k : Int))]) (fun k W => k ≤ l.length ∧ (∀ j, j < k → l.getD j 0 ≠ n) ∧ Ex w W) (fun k => l.length - k) 0 ⟨rfl, trivial⟩ ⟨Nat.zero_le _, fun j hj => absurd hj (Nat.not_lt_zero _), Ex.refl _⟩ ?_
  rintro k ρ W ⟨hk, hall, hx⟩
  have hlW := hl.ex hx
  repeat (first | (refine isO ?_; first | refine s_move ?_ | (refine isBin ?_; refine s_lss rfl rfl ?_) | (refine isCall ?_; refine s_lenI sl_ints rfl (by assumption) ?_)) | (refine isC ?_; first | refine c_sr ?_ | refine c_seq ?_) | (refine l_th ?_))
  refine c_ifd rfl (fun h => ?_) (fun h => ?_)
  · have hk' : k < l.length := by omega
    by_cases e : l.getD k 0 = n
    · repeat (first | (refine isO ?_; first | refine s_move ?_ | refine s_assign ?_ | (refine isBin ?_; refine s_eqlT rfl rfl (by omega) ?_) | (refine isIA ?_; refine s_ixI sl_ints ty_int rfl rfl rfl (by assumption) (by omega) ?_; intro _)) | (refine isC ?_; first | refine c_sr ?_ | refine c_th ?_ | refine c_seq ?_ | refine c_ift rfl ?_ | refine c_block ?_ | refine c_ret ?_) | (first | refine l_th ?_ | refine th_ret ?_ | refine ib_ret ?_))
      exact ret1 rfl rfl ⟨congrArg Value.bool (by
        rw [eq_comm, List.contains_iff_mem, ← e, List.getD_eq_getElem?_getD, List.getElem?_eq_getElem hk']
        exact List.getElem_mem hk'), hx⟩
    · repeat (first | (refine isO ?_; first | refine s_move ?_ | refine s_assign ?_ | (refine isBin ?_; first | refine s_inc rfl (by omega) ?_ | refine s_eqlF rfl rfl (by omega) ?_) | (refine isIA ?_; refine s_ixI sl_ints ty_int rfl rfl rfl (by assumption) (by omega) ?_; intro _)) | (refine isC ?_; first | refine c_sr ?_ | refine c_th ?_ | refine c_seq ?_ | refine c_region ?_ | refine c_iff rfl ?_ | refine c_block ?_ | refine c_skip ?_) | (refine l_th ?_))
      refine loop_end (k + 1) (by (repeat (first | exact agree_refl _ _ | refine agree_upd rfl ?_ | refine agree_ext rfl ?_ | refine agree_mask rfl ?_))) ⟨vint (by omega), trivial⟩ ⟨hk', fun j hj => ?_, hx⟩ (by show l.length - (k + 1) < l.length - k; omega)
      by_cases e2 : j = k
      · subst e2; exact e
      · exact hall j (by omega)
  · repeat (first | (refine isO ?_; refine s_assign ?_) | (refine isC ?_; first | refine c_sr ?_ | refine c_ret ?_ | refine c_exit ?_) | (refine l_th ?_))
    exact ret1 rfl rfl ⟨congrArg Value.bool (by
      rw [eq_comm, ← Bool.not_eq_true, List.contains_iff_mem]
      intro hm
      obtain ⟨j, hj, e⟩ := List.getElem_of_mem hm
      have := hall j (by omega)
      rw [List.getD_eq_getElem?_getD, List.getElem?_eq_getElem hj] at this
      exact this e), hx⟩
end Go.Proofs.YtifbgpkjbciblaaGreatDoor.Sal
end
