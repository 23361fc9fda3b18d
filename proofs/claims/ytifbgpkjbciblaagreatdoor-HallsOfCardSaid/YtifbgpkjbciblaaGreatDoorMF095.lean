/- Texts that YtifbgpkjbciblaaGreatDoorF09 leans on, laid together: H1 H2 H3 HM Core17 Core18 BK1 BK2. -/
import Derived.Test.YtifbgpkjbciblaaGreatDoorMF094
import Derived.Test.YtifbgpkjbciblaaGreatDoorMF092
import Derived.Test.YtifbgpkjbciblaaGreatDoorMF093
import Derived.Deep.MidRow
/- halls.sets: its iterator hands out all sets of so many, in order. -/
set_option maxRecDepth 100000
namespace Go.Proofs.YtifbgpkjbciblaaGreatDoor.Sal
open Go.RowKit
/-- The sets of so many of the items from some one on, in order, each behind those ahead. -/
def setsR : Nat → List Int → Nat → Nat → List (List Int)
  | 0, ahead, _, _ => [ahead]
  | many + 1, ahead, frm, items => (List.range (items - many - frm)).flatMap fun d => setsR many (ahead ++ [((frm + d : Nat) : Int)]) (frm + d + 1) items
def preL (S : Nat → List (List Int)) (d : Nat) : List (List Int) := (List.range d).flatMap S
theorem preL_succ (S : Nat → List (List Int)) (d : Nat) : preL S (d + 1) = preL S d ++ S d := by simp [preL, List.range_succ]
theorem preL_rest (S : Nat → List (List Int)) (d : Nat) : ∀ e, ∃ rest, preL S (d + e) = preL S d ++ rest
  | 0 => ⟨[], by simp⟩
  | e + 1 => by
    obtain ⟨r, h⟩ := preL_rest S d e
    exact ⟨r ++ S (d + e), by rw [← Nat.add_assoc, preL_succ, h, List.append_assoc]⟩
theorem preL_get {S : Nat → List (List Int)} {d t i : Nat} {x : List Int} (hd : d < t) (h : (S d)[i]? = some x) : (preL S t)[(preL S d).length + i]? = some x := by
  obtain ⟨r, hr⟩ := preL_rest S (d + 1) (t - (d + 1))
  have e : d + 1 + (t - (d + 1)) = t := by omega
  rw [e] at hr
  rw [hr, preL_succ, List.append_assoc, List.getElem?_append_right (by omega), List.getElem?_append_left (by have := (List.getElem?_eq_some_iff.1 h).1; omega)]
  have e2 : (preL S d).length + i - (preL S d).length = i := by omega
  rw [e2]; exact h
theorem preL_len {S : Nat → List (List Int)} {d t : Nat} (hd : d < t) : (preL S d).length + (S d).length ≤ (preL S t).length := by
  obtain ⟨r, hr⟩ := preL_rest S (d + 1) (t - (d + 1))
  have e : d + 1 + (t - (d + 1)) = t := by omega
  rw [e] at hr
  rw [hr, preL_succ, List.length_append, List.length_append]
  omega
theorem setsR_pre (many : Nat) (ahead : List Int) (frm items : Nat) : setsR (many + 1) ahead frm items = preL (fun d => setsR many (ahead ++ [((frm + d : Nat) : Int)]) (frm + d + 1) items) (items - many - frm) := rfl
attribute [local irreducible] Go.Code.wpIn Go.wpListIn Ct Ints Rows Sl At Rw WJ
set_option linter.all false
theorem ok_sets : CallOK Tryz.prog 75 := callOK Tryz.func75 (by kernel_rfl) rfl
theorem ok_sets1 : CallOK Tryz.prog 117 := callOK Tryz.func117 (by kernel_rfl) rfl
theorem ty_yl : Ty1 Tryz.prog 87 := ⟨let ⟨i, h, _, hs, _⟩ := info_parts (show (Tryz.prog.info? 87).map (fun i => (i.zero, i.size, i.bytes)) = some (some .nilFunc, 1, 8) by kernel_rfl); ⟨i, h, hs⟩, _, Tryz.underlying87, rfl⟩
/-- What a sets' iterator has captured. -/
structure SC (w : World) (b1 b2 b3 b4 : Nat) (many : Nat) (ahead : List Int) (frm items : Nat) (av : Value) : Prop where
  a1 : At w b1 3 [.int .i64 (many : Int)]
  a2 : At w b2 25 [av]
  a3 : At w b3 3 [.int .i64 (frm : Int)]
  a4 : At w b4 3 [.int .i64 (items : Int)]
  al : Ints w av ahead
theorem SC.ex {w w' : World} {b1 b2 b3 b4 many frm items : Nat} {ahead : List Int} {av : Value} (h : SC w b1 b2 b3 b4 many ahead frm items av) (hx : Ex w w') : SC w' b1 b2 b3 b4 many ahead frm items av := ⟨h.a1.ex hx, h.a2.ex hx, h.a3.ex hx, h.a4.ex hx, h.al.ex hx⟩
def capsL (b1 b2 b3 b4 : Nat) : List Value := [.pointer (some ⟨b1, 0, none⟩), .pointer (some ⟨b2, 0, none⟩), .pointer (some ⟨b3, 0, none⟩), .pointer (some ⟨b4, 0, none⟩)]
theorem sets_ct (av : Value) (ahead : List Int) (frm items many : Nat) (w : World) (ha : Ints w av ahead) :
    Ct Tryz.prog 75 #[av, .int .i64 (frm : Int), .int .i64 (items : Int), .int .i64 (many : Int)] w fun u w' => ∃ b1 b2 b3 b4, u = .func (.func 117) #[] (capsL b1 b2 b3 b4).toArray ∧ SC w' b1 b2 b3 b4 many ahead frm items av ∧ Ex w w' := by
  obtain ⟨a, c, rfl⟩ := ha.form
  refine enter (N := 10) (vs := [.slice a ahead.length c, .int .i64 (frm : Int), .int .i64 (items : Int), .int .i64 (many : Int)]) Tryz.func75 rfl rfl rfl ?_
  refine c_sr ?_
  refine s_box (cs := [.slice a ahead.length c]) rfl rfl ?_
  intro b2 w1 hb2 hA2 hx1 hs1
  refine s_box (cs := [.int .i64 (frm : Int)]) rfl rfl ?_
  intro b3 w2 hb3 hA3 hx2 hs2
  refine s_box (cs := [.int .i64 (items : Int)]) rfl rfl ?_
  intro b4 w3 hb4 hA4 hx3 hs3
  refine s_box (cs := [.int .i64 (many : Int)]) rfl rfl ?_
  intro b1 w4 hb1 hA1 hx4 hs4
  have hx04 := hx1.trans (hx2.trans (hx3.trans hx4))
  repeat (first | (refine isO ?_; refine s_assign ?_) | (refine isC ?_; refine c_sr ?_) | (refine l_th ?_))
  refine s_mkfn (vs := capsL b1 b2 b3 b4) rfl ?_
  repeat (first | (refine isO ?_; refine s_assign ?_) | (refine isC ?_; refine c_ret ?_) | (refine l_th ?_))
  exact ret1 rfl rfl ⟨b1, b2, b3, b4, rfl, ⟨hA1, hA2.ex (hx2.trans (hx3.trans hx4)), hA3.ex (hx3.trans hx4), hA4.ex hx4, ha.ex hx04⟩, hx04⟩
set_option maxHeartbeats 4000000 in
theorem sets_iter : ∀ (many : Nat) (ahead : List Int) (frm items : Nat) (b1 b2 b3 b4 : Nat) (av : Value) (w : World), items ≤ 8 → frm ≤ 9 → ahead.length + many ≤ 100 → SC w b1 b2 b3 b4 many ahead frm items av →
    IterX Tryz.prog 117 (capsL b1 b2 b3 b4) (setsR many ahead frm items) w
  | 0, ahead, frm, items, b1, b2, b3, b4, av, w, hi8, hf9, hal, hC => by
    intro l G Jx W0 hw0 hJx hY
    refine enter (N := 37) (vs := .func (.yield l) #[] #[] :: capsL b1 b2 b3 b4) Tryz.func117 rfl rfl rfl ?_
    refine c_sr ?_
    refine s_box (cs := [.func (.yield l) #[] #[]]) rfl rfl ?_
    intro b5 W1 hb5 hA5 hx1 hs1
    have hC1 := hC.ex (hw0.trans hx1)
    have ha1 := hC1.a1
    have ha2 := hC1.a2
    repeat (first | (refine isO ?_; first | (refine isBin ?_; refine s_eqlT rfl rfl (by omega) ?_) | (refine isLD ?_; refine s_ldA ty_int rfl (by assumption) rfl ?_)) | (refine isC ?_; first | refine c_sr ?_ | refine c_seq ?_ | refine c_ift rfl ?_) | (refine l_th ?_))
    refine s_ldA ty_yl rfl hA5 rfl ?_
    repeat ((refine isO ?_; (refine isLD ?_; refine s_ldA ty_ints rfl (by assumption) rfl ?_)))
    refine s_yield (vs := [av]) rfl rfl (hY 0 ahead W1 av rfl hx1 hC1.al) ?_
    rintro e W2 (⟨rfl, hx2, hG⟩ | ⟨rfl, hJ, hK⟩)
    · refine ⟨_, rfl, ?_⟩
      repeat (first | (refine isC ?_; refine c_ret ?_) | (first | refine l_th ?_ | refine th_ret ?_))
      refine ret0 rfl (.inl ⟨hx1.trans hx2, fun i hi => ?_⟩)
      have : i = 0 := by simp [setsR] at hi; exact hi
      rw [this]; exact hG
    · refine ⟨_, rfl, ?_⟩
      repeat (first | (refine isC ?_; refine c_ret ?_) | (first | refine l_th ?_ | refine th_ret ?_))
      exact ret0 rfl (.inr ⟨0, by simp [setsR], fun j hj => by omega, hJ, (Kb.ex hx1).trans hK⟩)
  | many + 1, ahead, frm, items, b1, b2, b3, b4, av, w, hi8, hf9, hal, hC => by
    intro l G Jx W0 hw0 hJx hY
    obtain ⟨S, hS⟩ : ∃ S : Nat → List (List Int), S = fun d => setsR many (ahead ++ [((frm + d : Nat) : Int)]) (frm + d + 1) items := ⟨_, rfl⟩
    have hL : setsR (many + 1) ahead frm items = preL S (items - many - frm) := by rw [hS]; exact setsR_pre _ _ _ _
    rw [hL] at hY ⊢
    refine enter (N := 37) (vs := .func (.yield l) #[] #[] :: capsL b1 b2 b3 b4) Tryz.func117 rfl rfl rfl ?_
    refine c_sr ?_
    refine s_box (cs := [.func (.yield l) #[] #[]]) rfl rfl ?_
    intro b5 W1 hb5 hA5 hx1 hs1
    have hC1 := hC.ex (hw0.trans hx1)
    have ha1 := hC1.a1
    have ha3 := hC1.a3
    repeat (first | (refine isO ?_; first | refine s_assign ?_ | (refine isBin ?_; refine s_eqlF rfl rfl (by omega) ?_) | (refine isLD ?_; refine s_ldA ty_int rfl (by assumption) rfl ?_)) | (refine isC ?_; first | refine c_sr ?_ | refine c_th ?_ | refine c_seq ?_ | refine c_iff rfl ?_ | refine c_block ?_) | (refine l_th ?_))
    refine c_loopD 137438937280 (fun d => [(6, .int .i64 ((frm + d : Nat) : Int))]) (fun d Ds W => d ≤ items - many - frm ∧ Ex W1 W ∧ (∀ i, i < (preL S d).length → G i) ∧ Marks Ds W ∧ Ds.Nodup ∧ ∀ D ∈ Ds, W0.heap.size ≤ D ∧ D < W.heap.size) (fun d => items - many - frm - d) 0 ⟨vint (by simp), trivial⟩
      ⟨Nat.zero_le _, Ex.refl _, fun i hi => by simp [preL] at hi, fun D hD => by simp at hD, List.nodup_nil, fun D hD => by simp at hD⟩ ?_
    rintro d Ds ρ W ⟨hd, hxW, hGd, hmk, hnd, hDs⟩
    have hx0W := hx1.trans hxW
    have hCW := hC1.ex hxW
    have ha1W := hCW.a1
    have ha2W := hCW.a2
    have ha4W := hCW.a4
    by_cases hd' : d < items - many - frm
    · repeat (first | (refine isO ?_; first | refine s_move ?_ | (refine isBin ?_; first | refine s_leqT rfl rfl (by omega) ?_ | refine s_sub rfl rfl ⟨by omega, by omega⟩ ?_) | (refine isLD ?_; refine s_ldA ty_int rfl (by assumption) rfl ?_)) | (refine isC ?_; first | refine c_sr ?_ | refine c_th ?_ | refine c_seq ?_ | refine c_ift rfl ?_ | refine c_block ?_) | (refine l_th ?_))
      have hlen1 : (ahead ++ [((frm + d : Nat) : Int)]).length = ahead.length + 1 := by simp
      refine c_joinK (γ := Nat × Nat × Nat × Nat) 4292870144 (fun q => [(31, .func (.func 117) #[] (capsL q.1 q.2.1 q.2.2.1 q.2.2.2).toArray)]) (fun q W' => (∃ av', SC W' q.1 q.2.1 q.2.2.1 q.2.2.2 many (ahead ++ [((frm + d : Nat) : Int)]) (frm + d + 1) items av') ∧ Ex W W') ?_ ?_
      · refine c_drawF (Ex.refl W) 11 8 [(0, true), (2, true), (5, true), (6, true), (7, true), (8, true), (9, true)] 1 [(3, false), (4, false), (10, false)] 3 [(1, false), (4, false), (10, false)] mixed (by kernel_rfl) ?_
        have hxd := Ex.drew W
        refine d_ldA rfl ty_ints rfl ha2W rfl ?_
        refine d_move rfl ?_
        refine d_move rfl ?_
        refine d_add rfl rfl rfl ⟨by omega, by omega⟩ ?_
        refine d_ldA rfl ty_int rfl ha4W rfl ?_
        refine d_ldA rfl ty_int rfl ha1W rfl ?_
        refine d_sub rfl rfl rfl ⟨by omega, by omega⟩ ?_
        refine d_re (v' := .int .i64 (many : Int)) (vint (by omega)) ?_
        refine d_fork ?_ ?_
        · refine d_ch rfl ?_
          refine s_call ok_Clone rfl (Clone_ct av ahead W.drew (hCW.al.ex hxd) (by omega)) ?_
          rintro v22 W2 ⟨hL2, hx2⟩
          have hxd2 := hxd.trans hx2
          refine l_nil ⟨rfl, .inr hxd2, ?_⟩
          refine d_ch rfl ?_
          refine s_bs1 sl_ints in_int rfl rfl ?_
          intro b3' W3 hb3' hA3 hx3 hs3
          have hxd3 := hxd2.trans hx3
          refine l_nil ⟨rfl, .inr hxd3, ?_⟩
          refine d_ch rfl ?_
          refine s_lapp (w0 := W.drew) sl_ints in_int (hL2.ex hx3) hA3.one rfl rfl (by simp; omega) (hx2.trans hx3) ?_
          intro v4 W4 hL4 hx4
          have hxd4 := hxd.trans hx4
          refine l_nil ⟨rfl, .inr hxd4, ?_⟩
          refine d_ch rfl ?_
          refine s_call (vs := [v4, .int .i64 ((frm + d + 1 : Nat) : Int), .int .i64 (items : Int), .int .i64 (many : Int)]) ok_sets rfl (sets_ct v4 _ (frm + d + 1) items many W4 (hL4.ints (by omega))) ?_
          rintro u W5 ⟨c1, c2, c3, c4, rfl, hC5, hx5⟩
          have hxd5 := hxd4.trans hx5
          refine l_nil ⟨rfl, .inr hxd5, ?_⟩
          refine d_nil ?_
          refine th_norm ?_
          exact join_end (c1, c2, c3, c4) (by (repeat (first | exact agree_refl _ _ | refine agree_upd rfl ?_))) ⟨rfl, trivial⟩ ⟨⟨v4, hC5⟩, hxd5⟩
        · refine d_ch rfl ?_
          refine s_bs1 sl_ints in_int rfl rfl ?_
          intro b3' W3 hb3' hA3 hx3 hs3
          have hxd3 := hxd.trans hx3
          refine l_nil ⟨rfl, .inr hxd3, ?_⟩
          refine d_ch rfl ?_
          refine s_call ok_Clone rfl (Clone_ct av ahead W3 (hCW.al.ex hxd3) (by omega)) ?_
          rintro v22 W2 ⟨hL2, hx2⟩
          have hxd2 := hxd3.trans hx2
          refine l_nil ⟨rfl, .inr hxd2, ?_⟩
          refine d_ch rfl ?_
          refine s_lapp (w0 := W3) sl_ints in_int hL2 (hA3.one.ex hx2) rfl rfl (by simp; omega) hx2 ?_
          intro v4 W4 hL4 hx4
          have hxd4 := hxd3.trans hx4
          refine l_nil ⟨rfl, .inr hxd4, ?_⟩
          refine d_ch rfl ?_
          refine s_call (vs := [v4, .int .i64 ((frm + d + 1 : Nat) : Int), .int .i64 (items : Int), .int .i64 (many : Int)]) ok_sets rfl (sets_ct v4 _ (frm + d + 1) items many W4 (hL4.ints (by omega))) ?_
          rintro u W5 ⟨c1, c2, c3, c4, rfl, hC5, hx5⟩
          have hxd5 := hxd4.trans hx5
          refine l_nil ⟨rfl, .inr hxd5, ?_⟩
          refine d_nil ?_
          refine th_norm ?_
          exact join_end (c1, c2, c3, c4) (by (repeat (first | exact agree_refl _ _ | refine agree_upd rfl ?_))) ⟨rfl, trivial⟩ ⟨⟨v4, hC5⟩, hxd5⟩
      · intro q ρ2 W5 hI5
        refine Exists.elim hI5.1 fun av5 hC5 => ?_
        have hx5 := hI5.2
        have hx05 := hx0W.trans hx5
        have hx15 := hxW.trans hx5
        have hlt := preL_len (S := S) hd'
        have hSd : setsR many (ahead ++ [((frm + d : Nat) : Int)]) (frm + d + 1) items = S d := by rw [hS]
        have hit := sets_iter many (ahead ++ [((frm + d : Nat) : Int)]) (frm + d + 1) items q.1 q.2.1 q.2.2.1 q.2.2.2 av5 W5 hi8 (by omega) (by omega) hC5
        rw [hSd] at hit
        have z05 := hx05.size
        refine th_norm ?_
        repeat ((refine isC ?_; refine c_block ?_))
        refine c_rangeX (gf := 117) (lb := capsL q.1 q.2.1 q.2.2.1 q.2.2.2) (L := S d) (w0 := W5) rfl ok_sets1 hit (Ex.refl W5) rfl (fun i => G ((preL S d).length + i)) (fun i W' => Jx ((preL S d).length + i) W' ∧ Kb W0.heap.size W5 W') (fun i W' W'' hJ hb hkc => ⟨hJx _ _ _ hJ.1 (Below.mono hb z05) hkc, Kb.below hJ.2 hb⟩)
          (fun v σ => upd (updl [(32, v)] σ) 7 v) ?_ ?_ ?_ ?_
        · intro l' v W' K hK
          repeat (first | (refine isO ?_; refine s_assign ?_) | (refine isC ?_; refine c_region ?_) | (refine l_th ?_))
          exact hK
        · intro l' i x v W' hx hxW' hI'
          have hYi := hY ((preL S d).length + i) x W' v (preL_get hd' hx) (hx05.trans hxW') hI'
          have hA5' := hA5.ex (hx15.trans hxW')
          repeat ((refine isC ?_; first | refine c_sr ?_ | refine c_block ?_))
          refine s_ldA ty_yl rfl hA5' rfl ?_
          repeat ((refine isO ?_; refine s_move ?_))
          refine s_yield (vs := [v]) rfl rfl hYi ?_
          rintro e W6 (⟨rfl, hx6, hG⟩ | ⟨rfl, hJ, hK⟩)
          · refine ⟨_, rfl, ?_⟩
            repeat (first | (refine isO ?_; refine s_not rfl ?_) | (refine isC ?_; first | refine c_iff rfl ?_ | refine c_skip ?_) | (first | refine l_th ?_ | refine ib_norm ?_))
            exact ⟨hx6, hG⟩
          · refine ⟨_, rfl, ?_⟩
            repeat (first | (refine isO ?_; refine s_not rfl ?_) | (refine isC ?_; first | refine c_ift rfl ?_ | refine c_ret ?_) | (first | refine l_th ?_ | refine ib_ret ?_))
            exact ⟨⟨hJ, (Kb.ex hxW').trans hK⟩, hK.mono z05⟩
        · intro D W6 hD hx6 hG6 hK6
          have hmk6 : Marks (D :: Ds) W6 := fun E hE => by
            rcases List.mem_cons.1 hE with rfl | hE
            · exact hK6
            · exact (hmk.ex (hx5.trans hx6)) E hE
          have z5 := hx5.size
          have z6 := hx6.size
          have hlt6 := (Array.getElem?_eq_some_iff.1 hK6).1
          repeat (first | (refine isO ?_; first | refine s_move ?_ | refine s_assign ?_ | (refine isBin ?_; refine s_inc rfl (by omega) ?_)) | (refine isC ?_; refine c_region ?_) | (refine l_th ?_))
          refine loop_endD (d + 1) (D :: Ds) (by (repeat (first | exact agree_refl _ _ | refine agree_upd rfl ?_ | refine agree_ext rfl ?_ | refine agree_mask rfl ?_))) ⟨vint (by omega), trivial⟩ ⟨hd', hx15.trans hx6, fun i hi => ?_, hmk6, List.nodup_cons.2 ⟨fun hm => by have := (hDs D hm).2; omega, hnd⟩, fun E hE => ?_⟩ (by omega)
          · rw [preL_succ, List.length_append] at hi
            by_cases hi2 : i < (preL S d).length
            · exact hGd i hi2
            · have h9 := hG6 (i - (preL S d).length) (by omega)
              have e : (preL S d).length + (i - (preL S d).length) = i := by omega
              rw [e] at h9; exact h9
          · rcases List.mem_cons.1 hE with rfl | hE
            · omega
            · have := hDs E hE; omega
        · intro D i W6 hD hi hG6 hJ6 hKb hK6
          have hlt6 := (Array.getElem?_eq_some_iff.1 hK6).1
          have z5 := hx5.size
          have hmk6 : Marks (D :: Ds) W6 := fun E hE => by
            rcases List.mem_cons.1 hE with rfl | hE
            · exact hK6
            · have h9 := hDs E hE
              exact (hJ6.2.2 E h9.1 (by omega)).trans ((hmk.ex hx5) E hE)
          have hB6 : ∀ E ∈ D :: Ds, W0.heap.size ≤ E := fun E hE => by
            rcases List.mem_cons.1 hE with rfl | hE
            · omega
            · exact (hDs E hE).1
          have z6 := hJ6.2.1
          repeat (first | refine th_ret ?_ | refine ib_ret ?_)
          refine ret0d (Ds := D :: Ds) rfl (List.nodup_cons.2 ⟨fun hm => by have := (hDs D hm).2; omega, hnd⟩) hmk6 (fun w' hp => .inr ⟨(preL S d).length + i, by omega, fun j hj => ?_, hJx _ _ _ hJ6.1 (hp.below hB6) hp.2.2.2.2.2, ?_⟩)
          · by_cases hj2 : j < (preL S d).length
            · exact hGd j hj2
            · have h9 := hG6 (j - (preL S d).length) (by omega)
              have e : (preL S d).length + (j - (preL S d).length) = j := by omega
              rw [e] at h9; exact h9
          · refine ⟨by rw [hp.2.2.2.1]; omega, fun k hB hk => ?_⟩
            omega
    · have hde : d = items - many - frm := by omega
      repeat (first | (refine isO ?_; first | refine s_move ?_ | (refine isBin ?_; first | refine s_leqF rfl rfl (by omega) ?_ | refine s_sub rfl rfl ⟨by omega, by omega⟩ ?_) | (refine isLD ?_; refine s_ldA ty_int rfl (by assumption) rfl ?_)) | (refine isC ?_; first | refine c_sr ?_ | refine c_seq ?_ | refine c_iff rfl ?_ | refine c_exit ?_) | (first | refine l_th ?_ | refine ib_exit ?_ | refine th_exit ?_))
      exact end0d rfl hnd hmk (fun w' hp => .inl ⟨PD.ex hx0W hp (fun D hD => (hDs D hD).1), fun i hi => hGd i (by rw [hde]; exact hi)⟩)
end Go.Proofs.YtifbgpkjbciblaaGreatDoor.Sal
/- halls.Few. -/
set_option maxRecDepth 100000
namespace Go.Proofs.YtifbgpkjbciblaaGreatDoor.Sal
open Go.RowKit
/-- Does one want nothing but these? -/
def wantB (R : Nat → Nat → Bool) (nn : Nat) (l : List Int) (i : Nat) : Bool := !((rowL nn (R i)).any fun k => !l.contains k)
/-- How many of some want nothing but these. -/
def withN (R : Nat → Nat → Bool) (nn : Nat) (sl l : List Int) : Nat := (sl.filter fun q => wantB R nn l q.toNat).length
def withK (R : Nat → Nat → Bool) (nn : Nat) (sl l : List Int) (j : Nat) : Nat := ((sl.take j).filter fun q => wantB R nn l q.toNat).length
theorem withK_succ {R : Nat → Nat → Bool} {nn : Nat} {sl l : List Int} {j p : Nat} (hj : j < sl.length) (hp : sl.getD j 0 = (p : Int)) : withK R nn sl l (j + 1) = withK R nn sl l j + (if wantB R nn l p = true then 1 else 0) := by
  unfold withK
  rw [List.take_succ_eq_append_getElem hj, List.filter_append, List.length_append]
  congr 1
  have e : sl[j].toNat = p := by
    have : sl.getD j 0 = sl[j] := by simp [List.getD_eq_getElem?_getD, hj]
    omega
  by_cases h : wantB R nn l p = true <;> simp [e, h]
theorem withK_le (R : Nat → Nat → Bool) (nn : Nat) (sl l : List Int) (j : Nat) : withK R nn sl l j ≤ j := by
  unfold withK
  exact Nat.le_trans (List.length_filter_le _ _) (by rw [List.length_take]; omega)
theorem withK_all (R : Nat → Nat → Bool) (nn : Nat) (sl l : List Int) {j : Nat} (h : ¬ j < sl.length) : withK R nn sl l j = withN R nn sl l := by
  unfold withK withN
  rw [List.take_of_length_le (by omega)]
/-- Are these too few? -/
def fewB (R : Nat → Nat → Bool) (nn : Nat) (sl l : List Int) : Bool := decide (l.length < withN R nn sl l)
def fewUp (R : Nat → Nat → Bool) (nn : Nat) (sl : List Int) (many : Nat) : Option (List Int) := (setsR many [] 0 nn).find? (fewB R nn sl)
theorem setsR_len : ∀ (many : Nat) (ahead : List Int) (frm items : Nat) (x : List Int), x ∈ setsR many ahead frm items → x.length = ahead.length + many
  | 0, ahead, frm, items, x, h => by simp [setsR] at h; rw [h]; rfl
  | many + 1, ahead, frm, items, x, h => by
    unfold setsR at h
    obtain ⟨d, _, hx⟩ := List.mem_flatMap.1 h
    have := setsR_len many _ _ _ x hx
    simp at this; omega
attribute [local irreducible] Go.Code.wpIn Go.wpListIn Ct Ints Rows Sl At Rw WJ
set_option linter.all false
theorem ok_Few : CallOK Tryz.prog 19 := callOK Tryz.func19 (by kernel_rfl) rfl
theorem ok_Few1 : CallOK Tryz.prog 71 := callOK Tryz.func71 (by kernel_rfl) rfl
theorem ok_Few11 : CallOK Tryz.prog 73 := callOK Tryz.func73 (by kernel_rfl) rfl
theorem Few11_ct (v : Value) (l : List Int) (b : Nat) (q : Int) (w : World) (hA : At w b 25 [v]) (hl : Ints w v l) :
    Ct Tryz.prog 73 #[.int .i64 q, .pointer (some ⟨b, 0, none⟩)] w fun u w' => u = .bool (!l.contains q) ∧ Ex w w' := by
  refine enter (N := 8) (vs := [.int .i64 q, .pointer (some ⟨b, 0, none⟩)]) Tryz.func73 rfl rfl rfl ?_
  repeat (first | (refine isO ?_; first | refine s_move ?_ | refine s_assign ?_ | (refine isLD ?_; refine s_ldA ty_ints rfl (by assumption) rfl ?_)) | (refine isC ?_; refine c_sr ?_) | (refine l_th ?_))
  refine s_call ok_Contains rfl (Contains_ct v l q w hl) ?_
  rintro u w1 ⟨rfl, hx⟩
  repeat (first | (refine isO ?_; first | refine s_assign ?_ | refine s_not rfl ?_) | (refine isC ?_; refine c_ret ?_) | (refine l_th ?_))
  exact ret1 rfl rfl ⟨rfl, hx⟩
/-- What the count of those within has captured. -/
structure FC (w : World) (b1 b2 b3 : Nat) (R : Nat → Nat → Bool) (m nn : Nat) (gv sv' : Value) (sl : List Int) : Prop where
  a1 : At w b1 25 [sv']
  a2 : At w b2 22 [gv]
  a3 : At w b3 3 [.int .i64 (nn : Int)]
  gr : Rows w gv (gL R m nn)
  sr : Ints w sv' sl
theorem FC.ex {w w' : World} {b1 b2 b3 : Nat} {R : Nat → Nat → Bool} {m nn : Nat} {gv sv' : Value} {sl : List Int} (h : FC w b1 b2 b3 R m nn gv sv' sl) (hx : Ex w w') : FC w' b1 b2 b3 R m nn gv sv' sl := ⟨h.a1.ex hx, h.a2.ex hx, h.a3.ex hx, h.gr.ex hx, h.sr.ex hx⟩
set_option maxHeartbeats 2000000 in
theorem Few1_ct {R : Nat → Nat → Bool} {m nn : Nat} (hm : m ≤ 8) (hn : nn ≤ 8) {gv sv' v : Value} {sl l : List Int} {b1 b2 b3 : Nat} {w : World} (hC : FC w b1 b2 b3 R m nn gv sv' sl) (hris : risB (-1) sl (m : Int) = true) (hl : Ints w v l) :
    Ct Tryz.prog 71 #[v, .pointer (some ⟨b1, 0, none⟩), .pointer (some ⟨b2, 0, none⟩), .pointer (some ⟨b3, 0, none⟩)] w fun u w' => u = .int .i64 (withN R nn sl l : Int) ∧ Ex w w' := by
  obtain ⟨a, c, rfl⟩ := hl.form
  have hsl := ris_len hris
  refine enter (N := 36) (vs := [.slice a l.length c, .pointer (some ⟨b1, 0, none⟩), .pointer (some ⟨b2, 0, none⟩), .pointer (some ⟨b3, 0, none⟩)]) Tryz.func71 rfl rfl rfl ?_
  refine c_sr ?_
  refine s_box (cs := [.slice a l.length c]) rfl rfl ?_
  intro b4 w1 hb4 hA4 hx1 hs1
  have hC1 := hC.ex hx1
  have hl1 := hl.ex hx1
  have hsr1 := hC1.sr
  repeat (first | (refine isO ?_; refine s_assign ?_) | (refine isC ?_; first | refine c_sr ?_ | refine c_seq ?_) | (refine l_th ?_))
  refine s_ldA ty_ints rfl hC1.a1 rfl ?_
  repeat (first | (refine isO ?_; first | refine s_move ?_ | (refine isCall ?_; refine s_lenI sl_ints rfl (by assumption) ?_)) | (refine isC ?_; refine c_block ?_) | (refine l_th ?_))
  refine c_loop (γ := Nat) 34359735200 (fun j => [(12, .int .i64 (j : Int)), (5, .int .i64 (withK R nn sl (l) j : Int))]) (fun j W => j ≤ sl.length ∧ Ex w1 W) (fun j => sl.length - j) 0 ⟨rfl, vint rfl, trivial⟩ ⟨Nat.zero_le _, Ex.refl _⟩ ?_
  rintro j ρ W ⟨hj, hxW⟩
  have hCW := hC1.ex hxW
  have hsrW := hCW.sr
  have hwl := withK_le R nn sl l j
  repeat (first | (refine isO ?_; (refine isBin ?_; refine s_lss rfl rfl ?_)) | (refine isC ?_; first | refine c_sr ?_ | refine c_seq ?_) | (refine l_th ?_))
  refine c_ifd rfl (fun h => ?_) (fun h => ?_)
  · have hj' : j < sl.length := by omega
    refine Exists.elim (ris_at hris hj') fun p hp => ?_
    have hp1 := hp.1
    have hp2 := hp.2
    have hst := withK_succ (R := R) (nn := nn) (l := l) hj' hp1
    have hnear : nearP R m [(p : Int)] = R p := funext fun k => nearP_one hp2 k
    repeat (first | (refine isO ?_; first | refine s_assign ?_ | (refine isIA ?_; refine s_ixI sl_ints ty_int rfl rfl rfl (by assumption) (by omega) ?_; intro _)) | (refine isC ?_; first | refine c_sr ?_ | refine c_th ?_ | refine c_seq ?_ | refine c_block ?_) | (refine l_th ?_))
    refine s_ldA ty_rows rfl hCW.a2 rfl ?_
    refine s_ldA ty_int rfl hCW.a3 rfl ?_
    repeat ((refine isO ?_; refine s_move ?_))
    refine s_re (v' := .int .i64 (p : Int)) (vint hp1) ?_
    refine s_bs1 sl_ints in_int rfl rfl ?_
    intro b5 w2 hb5 hA5 hx2 hs2
    have hC2 := hCW.ex hx2
    refine s_call (vs := [gv, .int .i64 (nn : Int), sv b5 1 1]) ok_Near rfl (Near_ok hm hn gv _ [(p : Int)] w2 hC2.gr hA5.one (by simp [risB]; omega)) ?_
    rintro u w3 ⟨vn, an, rfl, hvn, hvnb, hIn, hx3⟩
    rw [hnear] at hIn
    have hx13 := hxW.trans (hx2.trans hx3)
    have hA43 := hA4.ex hx13
    have hl3 := hl1.ex hx13
    repeat (first | (refine isO ?_; first | refine s_move ?_ | refine s_assign ?_ | (refine isG ?_; refine g_yes rfl rfl ?_) | (refine isBin ?_; refine s_eqlT rfl rfl (by omega) ?_) | refine s_extract rfl rfl ?_) | (refine isC ?_; refine c_sr ?_) | (refine l_th ?_))
    refine s_mkfn (vs := [.pointer (some ⟨b4, 0, none⟩)]) rfl ?_
    repeat ((refine isO ?_; (refine isG ?_; refine g_yes rfl rfl ?_)))
    refine s_call ok_cfI rfl (cfI_ct vn _ 73 [.pointer (some ⟨b4, 0, none⟩)] (fun k => !l.contains k) w3 hIn ⟨ok_Few11, fun q w9 hx9 => Few11_ct _ l b4 q w9 (hA43.ex hx9) (hl3.ex hx9)⟩) ?_
    rintro u w4 ⟨rfl, hx4⟩
    have hx14 := hx13.trans hx4
    refine Or.elim (tf8 (wantB R nn l p)) (fun hb => ?_) (fun hb => ?_)
    · rw [hb, if_pos rfl] at hst
      refine s_re (v' := .bool false) (vbool (by unfold wantB at hb; simpa using hb)) ?_
      repeat (first | (refine isO ?_; first | refine s_move ?_ | refine s_assign ?_ | (refine isG ?_; refine g_yes rfl rfl ?_) | (refine isBin ?_; refine s_inc rfl (by omega) ?_) | (refine isPick ?_; refine s_pickt rfl rfl ?_) | refine s_not rfl ?_) | (refine isC ?_; first | refine c_region ?_ | refine c_ift rfl ?_) | (first | refine l_th ?_ | refine l_nil ?_))
      exact loop_end (j + 1) (by (repeat (first | exact agree_refl _ _ | refine agree_upd rfl ?_ | refine agree_ext rfl ?_ | refine agree_mask rfl ?_))) ⟨rfl, vint (by rw [hst]), trivial⟩ ⟨hj', hx14⟩ (by omega)
    · rw [hb, if_neg Bool.false_ne_true] at hst
      refine s_re (v' := .bool true) (vbool (by unfold wantB at hb; simpa using hb)) ?_
      repeat (first | (refine isO ?_; first | refine s_move ?_ | (refine isG ?_; refine g_yes rfl rfl ?_) | (refine isBin ?_; refine s_inc rfl (by omega) ?_) | (refine isPick ?_; refine s_pickt rfl rfl ?_) | refine s_not rfl ?_) | (refine isC ?_; first | refine c_region ?_ | refine c_iff rfl ?_ | refine c_skip ?_) | (refine l_th ?_))
      exact loop_end (j + 1) (by (repeat (first | exact agree_refl _ _ | refine agree_upd rfl ?_ | refine agree_ext rfl ?_ | refine agree_mask rfl ?_))) ⟨rfl, vint (by rw [hst]; rfl), trivial⟩ ⟨hj', hx14⟩ (by omega)
  · have hall := withK_all R nn sl l (show ¬ j < sl.length by omega)
    repeat (first | (refine isO ?_; first | refine s_move ?_ | refine s_assign ?_) | (refine isC ?_; first | refine c_sr ?_ | refine c_ret ?_ | refine c_exit ?_) | (refine l_th ?_))
    exact ret1 rfl rfl ⟨vint (by rw [hall]), hx1.trans hxW⟩
end Go.Proofs.YtifbgpkjbciblaaGreatDoor.Sal
/- halls.Few. -/
set_option maxRecDepth 100000
namespace Go.Proofs.YtifbgpkjbciblaaGreatDoor.Sal
open Go.RowKit
/-- The first that are too few, of fewer than so many. -/
def fewTo (R : Nat → Nat → Bool) (nn : Nat) (sl : List Int) : Nat → Option (List Int)
  | 0 => none
  | k + 1 => match fewTo R nn sl k with
    | some l => some l
    | none => fewUp R nn sl k
noncomputable def fewR (R : Nat → Nat → Bool) (m nn : Nat) (sl : List Int) : Option (List Int) := if rkm (Rsome sl R) m nn = sl.length then none else fewTo R nn sl (nn + 1)
theorem fewTo_none {R : Nat → Nat → Bool} {nn : Nat} {sl : List Int} {k : Nat} (h : fewTo R nn sl k = none) (h2 : fewUp R nn sl k = none) : fewTo R nn sl (k + 1) = none := by
  simp only [fewTo, h, h2]
theorem fewTo_some {R : Nat → Nat → Bool} {nn : Nat} {sl : List Int} {k : Nat} {l : List Int} (h : fewTo R nn sl k = none) (h2 : fewUp R nn sl k = some l) : ∀ b, k < b → fewTo R nn sl b = some l
  | b + 1, hb => by
    by_cases e : b = k
    · subst e; simp only [fewTo, h, h2]
    · have := fewTo_some h h2 b (by omega)
      simp only [fewTo, this]
theorem find_none {L : List (List Int)} {p : List Int → Bool} (h : ∀ i, i < L.length → ∀ y, L[i]? = some y → p y = false) : L.find? p = none := by
  rw [List.find?_eq_none]
  intro x hx
  obtain ⟨i, hi⟩ := List.mem_iff_getElem?.1 hx
  have := h i (List.getElem?_eq_some_iff.1 hi).1 x hi
  simp [this]
theorem find_at {p : List Int → Bool} : ∀ {L : List (List Int)} {i : Nat} {x : List Int}, L[i]? = some x → p x = true → (∀ j, j < i → ∀ y, L[j]? = some y → p y = false) → L.find? p = some x
  | z :: L, 0, x, hx, hp, _ => by
    simp at hx; subst hx
    rw [List.find?_cons_of_pos hp]
  | z :: L, i + 1, x, hx, hp, h => by
    have h0 := h 0 (by omega) z rfl
    rw [List.find?_cons_of_neg (by simp [h0])]
    exact find_at (by simpa using hx) hp (fun j hj y hy => h (j + 1) (by omega) y (by simpa using hy))
theorem At.below {w w' : World} {b n : Nat} {E : TypeId} {cs : List Value} (h : At w b E cs) (hb : Below n w w') (hn : b < n) : At w' b E cs := (hb.block b hn).trans h
attribute [local irreducible] Go.Code.wpIn Go.wpListIn Ct Ints Rows Sl At Rw WJ
set_option linter.all false
theorem ty_bl : Ty1 Tryz.prog 4 := ⟨let ⟨i, h, _, hs, _⟩ := info_parts (show (Tryz.prog.info? 4).map (fun i => (i.zero, i.size, i.bytes)) = some (some (.bool false), 1, 1) by kernel_rfl); ⟨i, h, hs⟩, _, Tryz.underlying4, rfl⟩
theorem ty_err : Ty1 Tryz.prog 29 := ⟨let ⟨i, h, _, hs, _⟩ := info_parts (show (Tryz.prog.info? 29).map (fun i => (i.zero, i.size, i.bytes)) = some (some (.int .i64 0), 1, 8) by kernel_rfl); ⟨i, h, hs⟩, _, Tryz.underlying29, rfl⟩
theorem ty_fn36 : Ty1 Tryz.prog 62 := ⟨let ⟨i, h, _, hs, _⟩ := info_parts (show (Tryz.prog.info? 62).map (fun i => (i.zero, i.size, i.bytes)) = some (some .nilFunc, 1, 8) by kernel_rfl); ⟨i, h, hs⟩, _, Tryz.underlying62, rfl⟩
theorem in_z {E : TypeId} {z : Value} (h : (Tryz.prog.info? E).map (·.zero) = some (some z)) : ∃ ti, Tryz.prog.info? E = some ti ∧ ti.zero = some z := by
  cases hi : Tryz.prog.info? E with
  | none => rw [hi] at h; cases h
  | some ti => rw [hi] at h; exact ⟨ti, rfl, by simpa using h⟩
theorem in_bl : ∃ ti, Tryz.prog.info? 4 = some ti ∧ ti.zero = some (.bool false) := in_z (by kernel_rfl)
theorem in_err : ∃ ti, Tryz.prog.info? 29 = some ti ∧ ti.zero = some (.int .i64 0) := in_z (by kernel_rfl)
theorem in_fn36 : ∃ ti, Tryz.prog.info? 62 = some ti ∧ ti.zero = some .nilFunc := in_z (by kernel_rfl)
theorem Few_bad (gv : Value) (g : List (List Int)) (n : Int) (sv' : Value) (sl : List Int) (w : World) (hg : Rows w gv g) (hs : Ints w sv' sl) (hb : (chkG g n && risB (-1) sl (g.length : Int)) = false) :
    Ct Tryz.prog 19 #[gv, .int .i64 n, sv'] w fun u w' => u = .tuple #[.slice none 0 0, .bool false, .int .i64 1] ∧ Ex w w' := by
  obtain ⟨ga, gc, rfl⟩ := hg.form
  obtain ⟨sa, sc, rfl⟩ := hs.form
  refine Exists.elim in_ints' fun ti hti => ?_
  refine Exists.elim in_bl fun tb htb => ?_
  refine Exists.elim in_err fun te hte => ?_
  refine enter (N := 46) (vs := [.slice ga g.length gc, .int .i64 n, .slice sa sl.length sc]) Tryz.func19 rfl rfl rfl ?_
  refine c_sr ?_
  refine s_box (cs := [.slice ga g.length gc]) rfl rfl ?_
  intro b3 w3 hb3 hA3 hx3 hs3
  refine s_box (cs := [.int .i64 n]) rfl rfl ?_
  intro b4 w4 hb4 hA4 hx4 hs4
  refine s_box (cs := [.slice sa sl.length sc]) rfl rfl ?_
  intro b5 w5 hb5 hA5 hx5 hs5
  refine s_alloc (cs := [.slice none 0 0]) hti.1 hti.2.1 rfl ?_
  intro b6 w6 hb6 hA6 hx6 hs6
  refine s_alloc (cs := [.bool false]) htb.1 htb.2 rfl ?_
  intro b7 w7 hb7 hA7 hx7 hs7
  refine s_alloc (cs := [.int .i64 0]) hte.1 hte.2 rfl ?_
  intro b8 w8 hb8 hA8 hx8 hs8
  have hx48 := hx5.trans (hx6.trans (hx7.trans hx8))
  have hx08 := hx3.trans (hx4.trans hx48)
  have hA38 := hA3.ex (hx4.trans hx48)
  have hA48 := hA4.ex hx48
  have hA58 := hA5.ex (hx6.trans (hx7.trans hx8))
  have z3 := hx3.size
  have z48 := hx48.size
  repeat (first | (refine isC ?_; refine c_sr ?_) | (refine l_th ?_))
  refine s_ldA ty_rows rfl hA38 rfl ?_
  repeat ((refine isO ?_; (refine isLD ?_; first | refine s_ldA ty_int rfl (by assumption) rfl ?_ | refine s_ldA ty_ints rfl (by assumption) rfl ?_)))
  refine s_call ok_All rfl (All_bad _ g n _ sl w8 (hg.ex hx08) (hs.ex hx08) hb) ?_
  rintro u w9 ⟨rfl, hx9⟩
  have hA69 := hA6.ex (hx7.trans (hx8.trans hx9))
  have hA79 := hA7.ex (hx8.trans hx9)
  have hA89 := hA8.ex hx9
  have hx09 := hx08.trans hx9
  repeat (first | (refine isO ?_; first | refine s_move ?_ | refine s_assign ?_ | (refine isG ?_; refine g_no rfl rfl rfl ?_) | (refine isBin ?_; refine s_neqT rfl rfl (by omega) ?_) | (refine isPick ?_; refine s_pickt rfl rfl ?_) | refine s_extract rfl rfl ?_) | (refine isC ?_; first | refine c_sr ?_ | refine c_seq ?_ | refine c_ift rfl ?_) | (refine l_th ?_))
  refine s_stA (n := 0) (u := .slice none 0 0) ty_ints rfl rfl rfl hA69 (by simp) ?_
  intro wa hAa hga
  refine s_stA (n := 0) (u := .bool false) ty_bl rfl rfl rfl (hA79.grown hga (fun e => by have := Option.some.inj e; omega)) (by simp) ?_
  intro wb hAb hgb
  refine s_stA (n := 0) (u := .int .i64 1) ty_err rfl rfl rfl ((hA89.grown hga (fun e => by have := Option.some.inj e; omega)).grown hgb (fun e => by have := Option.some.inj e; omega)) (by simp) ?_
  intro wc hAc hgc
  have hA6c := (hAa.grown hgb (fun e => by have := Option.some.inj e; omega)).grown hgc (fun e => by have := Option.some.inj e; omega)
  have hA7c := hAb.grown hgc (fun e => by have := Option.some.inj e; omega)
  repeat (first | (refine isC ?_; refine c_ret ?_) | (first | refine l_th ?_ | refine th_ret ?_))
  refine ret3d (Ds := []) (va := .slice none 0 0) (vb := .bool false) (vc := .int .i64 1) rfl rfl rfl rfl ty_ints ty_bl ty_err (by rw [hA6c.cell]; rfl) (by rw [hA7c.cell]; rfl) (by rw [hAc.cell]; rfl) List.nodup_nil (fun D hD => by simp at hD) (fun w' hp => ⟨rfl, PD.ex (((hx09.store hga (by omega)).store hgb (by omega)).store hgc (by omega)) hp (fun D hD => by simp at hD)⟩)
/-- What lies in memory where the search has found some. -/
def FJ (w W0 Wr W' : World) (L : List (List Int)) (p : List Int → Bool) (b6 b7 b8 i : Nat) : Prop :=
  (∃ x v a, L[i]? = some x ∧ p x = true ∧ At W' b6 25 [v] ∧ At W' b7 4 [.bool true] ∧ At W' b8 29 [.int .i64 0] ∧ v = .slice a x.length x.length ∧ (∀ b, v.ownBlock = some b → w.heap.size ≤ b) ∧ Ints W' v x ∧ Ex w W') ∧ Kb W0.heap.size Wr W'
theorem FJ.go {w W0 Wr W W' : World} {L : List (List Int)} {p : List Int → Bool} {b6 b7 b8 i : Nat} (h : FJ w W0 Wr W L p b6 b7 b8 i) (hb : Below Wr.heap.size W W') (hk : KC W W') (h6 : b6 < Wr.heap.size) (h7 : b7 < Wr.heap.size) (h8 : b8 < Wr.heap.size) (hw : w.heap.size ≤ Wr.heap.size) : FJ w W0 Wr W' L p b6 b7 b8 i := by
  obtain ⟨⟨x, v, a, h1, h2, h3, h4, h5, h9, h10, h11, h12⟩, h13⟩ := h
  exact ⟨⟨x, v, a, h1, h2, h3.below hb h6, h4.below hb h7, h5.below hb h8, h9, h10, hk.ints h11, Below.trans h12 (Below.mono hb hw)⟩, Kb.below h13 hb⟩
end Go.Proofs.YtifbgpkjbciblaaGreatDoor.Sal
/- Plain: the sets that are too few: the first of them; Hall's word for them. -/
set_option maxRecDepth 100000
namespace Go.Proofs.YtifbgpkjbciblaaGreatDoor.Sal
set_option linter.all false
theorem setsR_ahead : ∀ (many : Nat) (ahead : List Int) (frm items : Nat), setsR many ahead frm items = (setsR many [] frm items).map (ahead ++ ·)
  | 0, ahead, _, _ => by simp [setsR]
  | many + 1, ahead, frm, items => by
    unfold setsR
    rw [List.map_flatMap]
    congr 1
    funext d
    rw [setsR_ahead many (ahead ++ [((frm + d : Nat) : Int)]), setsR_ahead many ([] ++ [((frm + d : Nat) : Int)]), List.map_map]
    apply List.map_congr_left
    intro y _
    simp
theorem setsR_cons (many frm items : Nat) : setsR (many + 1) [] frm items = (List.range (items - many - frm)).flatMap fun d => (setsR many [] (frm + d + 1) items).map (((frm + d : Nat) : Int) :: ·) := by
  show ((List.range (items - many - frm)).flatMap fun d => setsR many ([] ++ [((frm + d : Nat) : Int)]) (frm + d + 1) items) = _
  congr 1
  funext d
  rw [setsR_ahead many ([] ++ [((frm + d : Nat) : Int)])]
  rfl
theorem setsR_ris : ∀ (many frm items : Nat) (x : List Int), x ∈ setsR many [] frm items → risB ((frm : Int) - 1) x (items : Int) = true
  | 0, frm, items, x, h => by simp [setsR] at h; subst h; rfl
  | many + 1, frm, items, x, h => by
    rw [setsR_cons] at h
    obtain ⟨d, hd, hx⟩ := List.mem_flatMap.1 h
    obtain ⟨y, hy, rfl⟩ := List.mem_map.1 hx
    have ih := setsR_ris many (frm + d + 1) items y hy
    have hd' : d < items - many - frm := by simpa using hd
    simp only [risB, Bool.and_eq_true, Bool.not_eq_true', Bool.or_eq_false_iff, decide_eq_false_iff_not]
    refine ⟨⟨by omega, by omega⟩, ?_⟩
    have e : ((frm + d + 1 : Nat) : Int) - 1 = ((frm + d : Nat) : Int) := by omega
    rw [e] at ih; exact ih
theorem ris_room : ∀ (x : List Int) (a m : Int), risB a x m = true → a + 1 + (x.length : Int) ≤ m ∨ x = []
  | [], _, _, _ => .inr rfl
  | q :: x, a, m, h => by
    left
    simp only [risB, Bool.and_eq_true, Bool.not_eq_true', Bool.or_eq_false_iff, decide_eq_false_iff_not] at h
    rcases ris_room x q m h.2 with h1 | h1
    · simp; omega
    · subst h1; simp; omega
theorem setsR_all : ∀ (x : List Int) (frm items : Nat), risB ((frm : Int) - 1) x (items : Int) = true → x ∈ setsR x.length [] frm items
  | [], _, _, _ => by simp [setsR]
  | q :: x, frm, items, h => by
    have hroom := ris_room _ _ _ h
    simp only [risB, Bool.and_eq_true, Bool.not_eq_true', Bool.or_eq_false_iff, decide_eq_false_iff_not] at h
    obtain ⟨d, hd⟩ : ∃ d : Nat, q = ((frm + d : Nat) : Int) := ⟨(q - frm).toNat, by omega⟩
    subst hd
    rw [List.length_cons, setsR_cons, List.mem_flatMap]
    have e : ((frm + d : Nat) : Int) = ((frm + d + 1 : Nat) : Int) - 1 := by omega
    have h2 := h.2
    rw [e] at h2
    refine ⟨d, ?_, List.mem_map.2 ⟨x, setsR_all x (frm + d + 1) items h2, rfl⟩⟩
    rw [List.mem_range]
    rcases ris_room _ _ _ h.2 with h3 | h3
    · omega
    · subst h3; simp; omega
/-- Does one list stand ahead of another that is as long? -/
def lexB : List Int → List Int → Bool
  | a :: x, b :: y => if a = b then lexB x y else decide (a < b)
  | _, _ => false
theorem lexB_self : ∀ x : List Int, lexB x x = false
  | [] => rfl
  | a :: x => by simp [lexB, lexB_self x]
theorem setsR_sort : ∀ (many frm items : Nat), (setsR many [] frm items).Pairwise (fun a b => lexB b a = false)
  | 0, _, _ => by simp [setsR]
  | many + 1, frm, items => by
    rw [setsR_cons, List.pairwise_flatMap]
    constructor
    · intro d _
      rw [List.pairwise_map]
      refine (setsR_sort many (frm + d + 1) items).imp ?_
      intro a b h
      simp [lexB, h]
    · refine List.pairwise_lt_range.imp ?_
      intro d e hde x hx y hy
      obtain ⟨x', _, rfl⟩ := List.mem_map.1 hx
      obtain ⟨y', _, rfl⟩ := List.mem_map.1 hy
      have h1 : ¬ ((frm + e : Nat) : Int) = ((frm + d : Nat) : Int) := by omega
      simp only [lexB]
      rw [if_neg h1]
      exact decide_eq_false (by omega)
section few
variable {R : Nat → Nat → Bool} {m nn : Nat} {sl : List Int}
theorem fewUp_none {k : Nat} (h : fewUp R nn sl k = none) {x : List Int} (hx : risB (-1) x (nn : Int) = true) (hl : x.length = k) : fewB R nn sl x = false := by
  unfold fewUp at h
  rw [List.find?_eq_none] at h
  have hm := setsR_all x 0 nn (by simpa using hx)
  rw [hl] at hm
  have := h x hm
  simpa using this
theorem fewUp_some {k : Nat} {l : List Int} (h : fewUp R nn sl k = some l) : l.length = k ∧ risB (-1) l (nn : Int) = true ∧ fewB R nn sl l = true ∧ ∀ x, risB (-1) x (nn : Int) = true → x.length = k → lexB x l = true → fewB R nn sl x = false := by
  unfold fewUp at h
  have hm := List.mem_of_find?_eq_some h
  have h1 := setsR_len k [] 0 nn l hm
  have h2 := setsR_ris k 0 nn l hm
  refine ⟨by simpa using h1, by simpa using h2, List.find?_some h, fun x hx hl hlex => ?_⟩
  obtain ⟨_, pr, bs, hL, has⟩ := List.find?_eq_some_iff_append.1 h
  have hxm := setsR_all x 0 nn (by simpa using hx)
  rw [hl] at hxm
  have hsort := setsR_sort k 0 nn
  rw [hL] at hxm hsort
  rcases List.mem_append.1 hxm with h3 | h3
  · have := has x h3; simpa using this
  · rcases List.mem_cons.1 h3 with rfl | h3
    · rw [lexB_self] at hlex; cases hlex
    · have h4 := (List.pairwise_append.1 hsort).2.1
      have h5 := (List.pairwise_cons.1 h4).1 x h3
      rw [h5] at hlex; cases hlex
theorem fewTo_noneAll : ∀ {k : Nat}, fewTo R nn sl k = none → ∀ x, risB (-1) x (nn : Int) = true → x.length < k → fewB R nn sl x = false
  | k + 1, h, x, hx, hl => by
    cases h0 : fewTo R nn sl k with
    | some l => simp only [fewTo, h0] at h; cases h
    | none =>
      simp only [fewTo, h0] at h
      by_cases e : x.length = k
      · exact fewUp_none h hx e
      · exact fewTo_noneAll h0 x hx (by omega)
theorem fewTo_first : ∀ {k : Nat} {l : List Int}, fewTo R nn sl k = some l → risB (-1) l (nn : Int) = true ∧ fewB R nn sl l = true ∧ (∀ x, risB (-1) x (nn : Int) = true → x.length < l.length → fewB R nn sl x = false) ∧ ∀ x, risB (-1) x (nn : Int) = true → x.length = l.length → lexB x l = true → fewB R nn sl x = false
  | k + 1, l, h => by
    cases h0 : fewTo R nn sl k with
    | some l' =>
      simp only [fewTo, h0] at h
      cases h
      exact fewTo_first h0
    | none =>
      simp only [fewTo, h0] at h
      obtain ⟨h1, h2, h3, h4⟩ := fewUp_some h
      exact ⟨h2, h3, fun x hx hl => fewTo_noneAll h0 x hx (by omega), fun x hx hl => h4 x hx (by omega)⟩
theorem few_all (h : fewTo R nn sl (nn + 1) = none) {x : List Int} (hx : risB (-1) x (nn : Int) = true) : fewB R nn sl x = false :=
  fewTo_noneAll h x hx (by have := ris_len hx; omega)
/-! ### Hall -/
theorem wantB_iff {l : List Int} {i : Nat} : wantB R nn l i = true ↔ ∀ k, k < nn → R i k = true → l.contains (k : Int) = true := by
  unfold wantB
  rw [Bool.not_eq_true', List.any_eq_false]
  constructor
  · intro h k hk hR
    have := h (k : Int) (List.contains_iff_mem.1 ((rowL_has nn (R i) (k : Int)).2 ⟨k, hk, hR, rfl⟩))
    simpa using this
  · intro h q hq
    obtain ⟨k, hk, hR, rfl⟩ := (rowL_has nn (R i) q).1 (List.contains_iff_mem.2 hq)
    have h9 := h k hk hR
    rw [h9]; simp
theorem filt_cnt (p : Nat → Bool) : ∀ (m : Nat) (s : Nat → Bool), ((rowL m s).filter fun q => p q.toNat).length = cnt (fun i => s i && p i) m
  | 0, s => rfl
  | m + 1, s => by
    rw [rowL_step, List.filter_append, List.length_append, filt_cnt p m s]
    show _ = cnt (fun i => s i && p i) m + (if (s m && p m) = true then 1 else 0)
    congr 1
    cases hs : s m <;> cases hp : p m <;> simp [hp]
theorem withN_cnt (hs : risB (-1) sl (m : Int) = true) (l : List Int) : withN R nn sl l = cnt (fun i => sl.contains (i : Int) && wantB R nn l i) m := by
  unfold withN
  have h := ris_rowL hs
  conv => lhs; rw [h]
  exact filt_cnt (wantB R nn l) m _
theorem ris_cnt {l : List Int} (h : risB (-1) l (nn : Int) = true) : cnt (fun k => l.contains (k : Int)) nn = l.length := cnt_some h
/-- Where all can have one no set is too few. -/
theorem all_noFew (hn : nn ≤ 8) (hs : risB (-1) sl (m : Int) = true) (h : rkm (Rsome sl R) m nn = sl.length) {l : List Int} (hl : risB (-1) l (nn : Int) = true) : fewB R nn sl l = false := by
  have h1 := rkm_hall (R := R) (m := m) hn (fun i => sl.contains (i : Int))
  rw [cnt_some hs] at h1
  have h2 := h1.2.1 h (fun i => sl.contains (i : Int) && wantB R nn l i) (fun i hi => by simp only [Bool.and_eq_true] at hi; exact hi.1)
  have h3 : cnt (nb R m (fun i => sl.contains (i : Int) && wantB R nn l i)) nn ≤ cnt (fun k => l.contains (k : Int)) nn := cnt_le nn fun k hk hb => by
    obtain ⟨i, _, hi, hR⟩ := nb_iff.1 hb
    simp only [Bool.and_eq_true] at hi
    exact wantB_iff.1 hi.2 k hk hR
  rw [ris_cnt hl] at h3
  unfold fewB
  rw [withN_cnt hs]
  exact decide_eq_false (by omega)
/-- Where not all can there are some. -/
theorem noAll_few (hn : nn ≤ 8) (hs : risB (-1) sl (m : Int) = true) (h : rkm (Rsome sl R) m nn ≠ sl.length) : ∃ l, risB (-1) l (nn : Int) = true ∧ fewB R nn sl l = true := by
  have h1 := rkm_hall (R := R) (m := m) hn (fun i => sl.contains (i : Int))
  rw [cnt_some hs] at h1
  by_cases hh : ∀ S : Nat → Bool, (∀ i, S i = true → sl.contains (i : Int) = true) → cnt S m ≤ cnt (nb R m S) nn
  · exact absurd (h1.2.2 hh) h
  · simp only [Classical.not_forall] at hh
    obtain ⟨S, hS, hc⟩ := hh
    refine ⟨rowL nn (nb R m S), ris_of hn _, ?_⟩
    have h3 : cnt S m ≤ cnt (fun i => sl.contains (i : Int) && wantB R nn (rowL nn (nb R m S)) i) m := cnt_le m fun i hi hSi => by
      simp only [Bool.and_eq_true]
      refine ⟨hS i hSi, wantB_iff.2 fun k hk hR => (rowL_has nn _ _).2 ⟨k, hk, nb_iff.2 ⟨i, hi, hSi, hR⟩, rfl⟩⟩
    unfold fewB
    rw [withN_cnt hs, rowL_cnt]
    exact decide_eq_true (by omega)
theorem few_iff (hn : nn ≤ 8) (hs : risB (-1) sl (m : Int) = true) : fewTo R nn sl (nn + 1) = none ↔ rkm (Rsome sl R) m nn = sl.length := by
  constructor
  · intro h
    apply Classical.byContradiction
    intro h2
    obtain ⟨l, h3, h4⟩ := noAll_few hn hs h2
    rw [few_all h h3] at h4; cases h4
  · intro h
    cases hf : fewTo R nn sl (nn + 1) with
    | none => rfl
    | some l =>
      obtain ⟨h1, h2, _⟩ := fewTo_first hf
      rw [all_noFew hn hs h h1] at h2; cases h2
theorem fewR_eq (hn : nn ≤ 8) (hs : risB (-1) sl (m : Int) = true) : fewR R m nn sl = fewTo R nn sl (nn + 1) := by
  unfold fewR
  by_cases h : rkm (Rsome sl R) m nn = sl.length
  · rw [if_pos h, (few_iff hn hs).2 h]
  · rw [if_neg h]
end few
end Go.Proofs.YtifbgpkjbciblaaGreatDoor.Sal
/- Core17: slices of a call's own with room, of elements of any size. -/
set_option maxRecDepth 100000
namespace Go.Proofs.YtifbgpkjbciblaaGreatDoor.Sal
set_option linter.all false
open Go.RowKit
/-- A slice over a block of the call's own: what it holds; room up to its capacity, perhaps more behind. -/
def Wd (w : World) (E : TypeId) (s : Nat) (v : Value) (n : Nat) (xs : List Value) : Prop :=
  xs.length = n * s ∧ ((v = .slice none 0 0 ∧ n = 0) ∨ ∃ b c sp, v = .slice (some ⟨b, 0, none⟩) n c ∧ At w b E (xs ++ sp) ∧ n ≤ c ∧ c ≤ 9223372036854775807 ∧ c * s ≤ (xs ++ sp).length)
theorem Wd.nil (w : World) (E : TypeId) (s : Nat) : Wd w E s (.slice none 0 0) 0 [] := ⟨by simp, .inl ⟨rfl, rfl⟩⟩
theorem Wd.kept {w w' : World} {E : TypeId} {s n : Nat} {v : Value} {xs : List Value} (h : Wd w E s v n xs) (hk : ∀ b, v.ownBlock = some b → b < w.heap.size → w'.heap[b]? = w.heap[b]?) : Wd w' E s v n xs := by
  obtain ⟨h1, h2⟩ := h
  rcases h2 with h2 | ⟨b, c, sp, hv, hA, h3⟩
  · exact ⟨h1, .inl h2⟩
  · exact ⟨h1, .inr ⟨b, c, sp, hv, (hk b (by rw [hv]; rfl) hA.lt).trans hA, h3⟩⟩
theorem Wd.ex {w w' : World} {E : TypeId} {s n : Nat} {v : Value} {xs : List Value} (h : Wd w E s v n xs) (hx : Ex w w') : Wd w' E s v n xs := h.kept fun b _ hb => hx.block b hb
theorem Wd.grown {w w' : World} {E : TypeId} {s n : Nat} {v : Value} {xs : List Value} {o : Option Nat} (h : Wd w E s v n xs) (hg : w.grownBy w' o) (hne : ∀ b, v.ownBlock = some b → o ≠ some b) : Wd w' E s v n xs := h.kept fun b hb hl => hg.block b hl (fun e => hne b hb e.symm)
theorem Wd.lt {w : World} {E : TypeId} {s n : Nat} {v : Value} {xs : List Value} (h : Wd w E s v n xs) : ∀ b, v.ownBlock = some b → b < w.heap.size := fun b hb => by
  rcases h.2 with ⟨rfl, _⟩ | ⟨b', c, sp, rfl, hA, _⟩
  · cases hb
  · cases hb; exact hA.lt
theorem Wd.slen {w : World} {E : TypeId} {s n : Nat} {v : Value} {xs : List Value} (h : Wd w E s v n xs) : ∃ a c, v = .slice a n c := by
  rcases h.2 with ⟨rfl, rfl⟩ | ⟨b', c, sp, rfl, hA, _⟩
  · exact ⟨_, _, rfl⟩
  · exact ⟨_, _, rfl⟩
theorem Wd.one {w : World} {E : TypeId} {s n : Nat} {v : Value} {xs : List Value} (h : Wd w E s v n xs) : v.oneCell' = true := by
  obtain ⟨a, c, rfl⟩ := h.slen; rfl
theorem Wd.pos {w : World} {E : TypeId} {s n : Nat} {v : Value} {xs : List Value} (h : Wd w E s v n xs) (hn : 0 < n) : ∃ b c sp, v = .slice (some ⟨b, 0, none⟩) n c ∧ At w b E (xs ++ sp) ∧ n ≤ c ∧ c ≤ 9223372036854775807 ∧ c * s ≤ (xs ++ sp).length := by
  rcases h.2 with ⟨_, h0⟩ | h2
  · omega
  · exact h2
theorem Wd.sl {w : World} {E : TypeId} {n : Nat} {v : Value} {xs : List Value} (h : Wd w E 1 v n xs) (hm : n ≤ 140737488355328) : Sl w v xs := by
  obtain ⟨h1, h2⟩ := h
  rw [Nat.mul_one] at h1
  rcases h2 with ⟨rfl, rfl⟩ | ⟨b, c, sp, rfl, hA, hc, _⟩
  · have : xs = [] := List.eq_nil_of_length_eq_zero h1
    subst this; exact Sl.nil w
  · have := hA.sl (n := n) (c := c) (by simp; omega) hm hc
    rwa [List.take_left' h1] at this
/-- The head of one. -/
theorem Wd.head {w : World} {E : TypeId} {n k c : Nat} {a : Option Addr} {ys : List Value} (h : Wd w E 1 (.slice a (n + k) c) (n + k) ys) : Wd w E 1 (.slice a n c) n (ys.take n) := by
  obtain ⟨h1, h2⟩ := h
  refine ⟨by rw [List.length_take, h1]; omega, ?_⟩
  rcases h2 with ⟨h3, h4⟩ | ⟨b, c', sp, h3, hA, h4, h5, h6⟩
  · left
    have e : n = 0 := by omega
    have e2 : k = 0 := by omega
    subst e; subst e2
    exact ⟨h3, rfl⟩
  · right
    cases h3
    refine ⟨b, c, ys.drop n ++ sp, rfl, ?_, by omega, h5, ?_⟩
    · rw [← List.append_assoc, List.take_append_drop]; exact hA
    · simp only [List.length_append, List.length_take, List.length_drop] at h6 ⊢; omega
/-- Another cell. -/
theorem Wd.set {w w' : World} {E : TypeId} {s n k : Nat} {b c : Nat} {xs sp : List Value} {u : Value} (h1 : xs.length = n * s) (hk : k < xs.length) (hA : At w' b E ((xs ++ sp).set k u)) (hc : n ≤ c) (hm : c ≤ 9223372036854775807) (hs : c * s ≤ (xs ++ sp).length) : Wd w' E s (.slice (some ⟨b, 0, none⟩) n c) n (xs.set k u) := by
  refine ⟨by rw [List.length_set]; exact h1, .inr ⟨b, c, sp, rfl, ?_, hc, hm, by simpa using hs⟩⟩
  rw [List.set_append_left _ _ hk] at hA
  exact hA
section runs
variable {P : Program} {w : World}
/-- append(s, x...) to a slice of the call's own. -/
theorem run_appW {T E : TypeId} {ti : TypeInfo} {z v xv : Value} {n m s : Nat} {xs news : List Value} {ty : TypeId} (hT : SlT P T E) (hi : P.info? E = some ti) (hz : ti.zero = some z) (hs : ti.size = s) (hzc : z.cells.size = s) (hs1 : 0 < s)
    (hv : Wd w E s v n xs) (hx : ∃ b c, xv = .slice (some ⟨b, 0, none⟩) m c ∧ ∃ sp, At w b E (news ++ sp)) (hl : news.length = m * s) (hm0 : 0 < m) (h1 : ∀ u ∈ news, u.oneCell' = true) (hm : n + m ≤ 140737488355328) (hbytes : (n + m) * ti.bytes ≤ 140737488355328) :
    ∃ v' w', (Builtin.append_ #[T, T] ty #[v, xv]).run P w = .ok v' w' ∧ Wd w' E s v' (n + m) (xs ++ news) ∧ w.grownBy w' v.ownBlock ∧ ((∃ a c, v = .slice a n c ∧ v' = .slice a (n + m) c) ∨ ((∀ b, v'.ownBlock = some b → w.heap.size ≤ b) ∧ Ex w w')) := by
  have hT' : P.underlying T = some (.slice E) := hT
  subst hs
  obtain ⟨xb, xc, rfl, xsp, hxA⟩ := hx
  have hnews : ∀ (j : Nat) (u : Value), news[j]? = some u → w.cell? ((⟨xb, 0, none⟩ : Addr).add j) = some u := fun j u hj => by
    rw [add_at, Nat.zero_add, hxA.cell, List.getElem?_append_left (List.getElem?_eq_some_iff.1 hj).1]; exact hj
  have hsrc : Src P ti.size T (.slice (some ⟨xb, 0, none⟩) m xc) m news w := Src.ofSlice w hT' ⟨xb, 0, none⟩ m xc news hl hnews h1
  have hxl := hv.1
  have grow : ∀ (base : Option Addr) (cap : Nat), v = .slice base n cap → (Builtin.firstCells ti.size n (.slice base n cap)).run P w.drew = .ok xs.toArray w.drew → cap < n + m →
      ∃ v' w', (Builtin.append_ #[T, T] ty #[v, .slice (some ⟨xb, 0, none⟩) m xc]).run P w = .ok v' w' ∧ Wd w' E ti.size v' (n + m) (xs ++ news) ∧ w.grownBy w' v.ownBlock ∧ ((∃ a c, v = .slice a n c ∧ v' = .slice a (n + m) c) ∨ ((∀ b, v'.ownBlock = some b → w.heap.size ≤ b) ∧ Ex w w')) := by
    intro base cap hvf hold hcap
    have hr := run_append_grow_src (P := P) w T T ty E ti z hT' hi hz base n cap xs hold (.slice (some ⟨xb, 0, none⟩) m xc) m news hsrc hcap (by omega) (growslice_fits hcap hbytes)
    have hge := grownCap_ge w (n + m) cap E
    have hcm := grownCap_le_maxLen w (n + m) cap E (by simp only [maxLen]; omega)
    rw [← hvf] at hr
    have hgr : ∀ o, w.grownBy (w.drew.alloc o) v.ownBlock := fun o => ⟨rfl, rfl, rfl, by simp, fun k hk _ => heap_alloc_old w.drew o hk⟩
    refine ⟨_, _, hr, ⟨by rw [List.length_append, hxl, hl, Nat.add_mul], .inr ⟨w.heap.size, _, (Builtin.zeroCells z.cells (grownCap w (n + m) cap E - (n + m))).toList, rfl, ?_, hge, by simpa [maxLen] using hcm, ?_⟩⟩, hgr _, .inr ⟨fun b hb => ?_, ⟨rfl, rfl, rfl, by simp, fun k hk => heap_alloc_old w.drew _ hk⟩⟩⟩
    · have h9 := at_new w.drew ((xs ++ news) ++ (Builtin.zeroCells z.cells (grownCap w (n + m) cap E - (n + m))).toList) E
      have e : ((xs ++ news) ++ (Builtin.zeroCells z.cells (grownCap w (n + m) cap E - (n + m))).toList).toArray = (xs ++ news).toArray ++ Builtin.zeroCells z.cells (grownCap w (n + m) cap E - (n + m)) := by
        apply Array.ext'
        simp
      rw [e] at h9
      exact h9
    · rw [List.length_append, List.length_append, hxl, hl]
      have e : (Builtin.zeroCells z.cells (grownCap w (n + m) cap E - (n + m))).toList.length = (grownCap w (n + m) cap E - (n + m)) * ti.size := by
        simp [size_zeroCells, hzc]
      rw [e, ← Nat.add_mul, ← Nat.add_mul]
      exact Nat.mul_le_mul_right _ (by omega)
    · rw [ownBlock_slice] at hb; cases hb; exact Nat.le_refl _
  rcases hv.2 with ⟨hvf, h0⟩ | ⟨b, cap, sp, hvf, hA, hc, hcm, hcs⟩
  · subst h0
    have : xs = [] := List.eq_nil_of_length_eq_zero (by rw [hxl]; simp)
    subst this
    exact grow none 0 hvf (by simp [Builtin.firstCells]) (by omega)
  · by_cases hroom : n + m ≤ cap
    · have hfit : n * ti.size + news.length ≤ (xs ++ sp).toArray.size := by
        rw [hl, ← Nat.add_mul]
        have := Nat.mul_le_mul_right ti.size hroom
        simp only [List.size_toArray]; omega
      have hr := run_append_room (P := P) w T ty E ti hT' hi b n cap (xs ++ sp).toArray hA ⟨xb, 0, none⟩ m xc news hl hnews h1 hroom hfit
      subst hvf
      refine ⟨_, _, hr, ⟨by rw [List.length_append, hxl, hl, Nat.add_mul], .inr ⟨b, cap, sp.drop news.length, rfl, ?_, hroom, hcm, ?_⟩⟩, ⟨rfl, rfl, rfl, by simp, fun k _ hk => setRow_other w b k _ (fun e => hk (by rw [e]; rfl))⟩, .inl ⟨_, _, rfl, rfl⟩⟩
      · have := setRow_heap w b (xs ++ sp).toArray ((xs ++ sp).take (n * ti.size) ++ news ++ (xs ++ sp).drop (n * ti.size + news.length)).toArray E (0, 0) hA
        have e1 : (xs ++ sp).take (n * ti.size) = xs := List.take_left' hxl
        have e2 : (xs ++ sp).drop (n * ti.size + news.length) = sp.drop news.length := by rw [← hxl, List.drop_append]; simp
        rw [e1, e2] at this
        unfold At
        simpa [e1, e2] using this
      · simp only [List.size_toArray, List.length_append] at hfit hcs
        simp only [List.length_append, List.length_drop]
        omega
    · refine grow (some ⟨b, 0, none⟩) cap hvf ?_ (by omega)
      refine run_firstCells_some w.drew ti.size n ⟨b, 0, none⟩ n cap xs (by rw [hxl]) (fun j u hj => ?_)
      have : w.cell? ⟨b, j, none⟩ = some u := by
        rw [hA.cell, List.getElem?_append_left (List.getElem?_eq_some_iff.1 hj).1]; exact hj
      rw [add_at, Nat.zero_add]
      exact this
end runs
end Go.Proofs.YtifbgpkjbciblaaGreatDoor.Sal
/- Core18: slices of structs; a struct read out of the middle of a block. -/
set_option maxRecDepth 100000
namespace Go.Proofs.YtifbgpkjbciblaaGreatDoor.Sal
set_option linter.all false
open Go.RowKit
def SzN (P : Program) (E : TypeId) (s : Nat) : Prop := ∃ i, P.info? E = some i ∧ i.size = s
theorem run_sizeOfS {P : Program} {E : TypeId} {s : Nat} (h : SzN P E s) (w : World) : (sizeOf E).run P w = .ok s w := by
  obtain ⟨i, hi, hs⟩ := h
  simp [sizeOf, typeInfo, hi, hs]
/-- What a type of a slice's elements is. -/
structure InfoW (P : Program) (E : TypeId) (s : Nat) (z : Value) (B : Nat) : Prop where
  ex : ∃ ti, P.info? E = some ti ∧ ti.zero = some z ∧ ti.size = s ∧ ti.bytes ≤ B
  cs : z.cells.size = s
section ops
variable {r : Option Nat} {P : Program} {ops : Array Oper} {Q : Exit → Act → World → Prop} {N : Nat} {σ : Nat → Value} {ds : List Deferred} {w : World} {rest : List Oper}
variable {d d1 d2 : Nat} {ty ty2 : TypeId} {pos pos2 : String} {after after2 : Array Edge} {T E T' : TypeId} {x i y : Operand}
theorem s_bsV3 {a b c z0 z1 z2 : Value} {op1 : Operand} {B : Nat} (hT : SlT P T E) (hi : InfoW P E 3 (.agg #[z0, z1, z2]) B) (h1 : ev N σ op1 = .agg #[a, b, c])
    (h : ∀ bb w', bb = w.heap.size → At w' bb E [a, b, c] → Ex w w' → w'.heap.size = bb + 1 → WL r P ops Q rest (mk N (upd σ d (.slice (some ⟨bb, 0, none⟩) 1 1)) ds) w') :
    WL r P ops Q (⟨some d, .buildSlice T 1 #[(0, op1)], ty, pos, after, none⟩ :: rest) (mk N σ ds) w := by
  obtain ⟨ti, h1i, h2i, h3i, h4i⟩ := hi.ex
  have hT' : P.underlying T = some (.slice E) := hT
  have hc1 : (Value.agg #[a, b, c]).cells = #[a, b, c] := rfl
  have hc2 : (Value.agg #[z0, z1, z2]).cells = #[z0, z1, z2] := rfl
  refine l_val (v := .slice (some ⟨w.heap.size, 0, none⟩) 1 1) (w' := w.alloc (.cells [a, b, c].toArray E)) (by intro c e; cases e) ?_ (h _ _ rfl (at_new w _ E) (Ex.alloc w _) (size_new w _))
  simp [execOp, Instr.buildSlice, run_underlying hT', sizeOf, typeInfo, h1i, h2i, h3i, zeroValue, Instr.fill, h1, hc1, hc2, newRow, Array.range_succ, Array.range_zero', Array.zipIdx]
theorem s_appW {z v xv : Value} {n m s B : Nat} {xs news : List Value} (hT : SlT P T E) (hi : InfoW P E s z B) (hs : 0 < s) (hR : Wd w E s v n xs) (hx : ∃ b c, xv = .slice (some ⟨b, 0, none⟩) m c ∧ ∃ sp, At w b E (news ++ sp)) (hl : news.length = m * s) (hm0 : 0 < m) (h1 : ∀ u ∈ news, u.oneCell' = true) (hm : n + m ≤ 140737488355328) (hbytes : (n + m) * B ≤ 140737488355328)
    (hv : ev N σ x = v) (hxv : ev N σ y = xv)
    (h : ∀ v' w', Wd w' E s v' (n + m) (xs ++ news) → w.grownBy w' v.ownBlock → ((∃ a c, v = .slice a n c ∧ v' = .slice a (n + m) c) ∨ ((∀ b, v'.ownBlock = some b → w.heap.size ≤ b) ∧ Ex w w')) → WL r P ops Q rest (mk N (upd σ d v') ds) w') :
    WL r P ops Q (⟨some d, .call { callee := .builtin .append, args := #[x, y], argTypes := #[T, T] }, ty, pos, after, none⟩ :: rest) (mk N σ ds) w := by
  obtain ⟨ti, h1i, h2i, h3i, h4i⟩ := hi.ex
  obtain ⟨v', w', hr, a1, a2, a3⟩ := run_appW (ty := ty) hT h1i h2i h3i hi.cs hs hR hx hl hm0 h1 hm (Nat.le_trans (Nat.mul_le_mul_left _ h4i) hbytes)
  refine l_val (by intro c e; cases e) ?_ (h v' w' a1 a2 a3)
  simp [execOp, resolve, invoke, builtin, hv, hxv, hr, Result.andThen]
theorem s_iaW {b len c s : Nat} {k : IntKind} {n : Nat} (hT : SlT P T E) (hE : SzN P E s) (hx : ev N σ x = .slice (some ⟨b, 0, none⟩) len c) (hi : ev N σ i = .int k (n : Int)) (hn : n < len)
    (h : WL r P ops Q rest (mk N (upd σ d (.pointer (some ⟨b, n * s, none⟩))) ds) w) : WL r P ops Q (⟨some d, .indexAddr T x i, ty, pos, after, none⟩ :: rest) (mk N σ ds) w := by
  refine l_val (v := .pointer (some ⟨b, n * s, none⟩)) (by intro c e; cases e) ?_ h
  have hT' : P.underlying T = some (.slice E) := hT
  simp [execOp, hx, hi, Instr.indexAt, asIntOf, run_underlying hT', hn, run_sizeOfS hE, go_sem, add_at]
theorem s_ldM {b o : Nat} {B : TypeId} {cs all : List Value} {dd : TypeDesc} (hu : P.underlying E = some dd) (hd : dd.isRow = true) (hsz : (P.info? E).map (·.size) = some cs.length)
    (hx : ev N σ x = .pointer (some ⟨b, o, none⟩)) (hA : At w b B all) (hc : ∀ j v, cs[j]? = some v → all[o + j]? = some v) (h : WL r P ops Q rest (mk N (upd σ d (.agg cs.toArray)) ds) w) :
    WL r P ops Q (⟨some d, .load E x, ty, pos, after, none⟩ :: rest) (mk N σ ds) w :=
  l_val (by intro c e; cases e) (by
    simp [execOp, hx, Instr.loadAt, Instr.sureAddr, run_loadVar_mid (P := P) w b o E cs dd (fun j v hj => by rw [hA.cell]; exact hc j v hj) hu hd hsz]) h
theorem s_bldW {parts : List (Nat × Operand)} {cells : List Value} (h : P.built T (parts.map fun p => (p.1, ev N σ p.2)) = some cells.toArray) (hK : WL r P ops Q rest (mk N (upd σ d (.agg cells.toArray)) ds) w) :
    WL r P ops Q (⟨some d, .build T parts.toArray, ty, pos, after, none⟩ :: rest) (mk N σ ds) w :=
  l_val (by intro c e; cases e) (by
    have := run_build (P := P) w T (parts.map fun p => (p.1, ev N σ p.2)).toArray cells.toArray h
    simp [execOp, this]) hK
theorem s_neg {k : IntKind} {a : Int} {t : TypeId} (hx : ev N σ x = .int k a) (h : WL r P ops Q rest (mk N (upd σ d (.int k (k.wrap (-a)))) ds) w) : WL r P ops Q (⟨some d, .unOp .neg t x, ty, pos, after, none⟩ :: rest) (mk N σ ds) w :=
  l_val (by intro c e; cases e) (by simp [execOp, hx, go_sem]) h
theorem s_cap {a : Option Addr} {n c : Nat} (hT : SlT P T E) (hx : ev N σ x = .slice a n c) (h : WL r P ops Q rest (mk N (upd σ d (.int .i64 (c : Int))) ds) w) :
    WL r P ops Q (⟨some d, .call { callee := .builtin .cap, args := #[x], argTypes := #[T] }, ty, pos, after, none⟩ :: rest) (mk N σ ds) w := by
  have hT' : P.underlying T = some (.slice E) := hT
  exact l_val (by intro c e; cases e) (by simp [execOp, resolve, invoke, builtin, hx, go_sem, Result.andThen, Builtin.cap_, run_underlying hT', Sem.run_bind]) h
end ops
end Go.Proofs.YtifbgpkjbciblaaGreatDoor.Sal
/- The Book of salesroomlaw01: what lies where; keep. -/
set_option maxRecDepth 100000
namespace Go.Proofs.YtifbgpkjbciblaaGreatDoor.Sal
open Go.RowKit
set_option linter.all false
/-! ### What turns, but for some blocks -/
structure KtS (S : Nat → Prop) (w w' : World) : Prop where
  os : w'.os = w.os
  tape : w'.tape = w.tape
  output : w'.output = w.output
  size : w.heap.size ≤ w'.heap.size
  block : ∀ k, k < w.heap.size → ¬ S k → w'.heap[k]? = w.heap[k]?
theorem KtS.refl (S : Nat → Prop) (w : World) : KtS S w w := ⟨rfl, rfl, rfl, Nat.le_refl _, fun _ _ _ => rfl⟩
theorem KtS.trans {S : Nat → Prop} {a b c : World} (h : KtS S a b) (k : KtS S b c) : KtS S a c := ⟨k.os.trans h.os, k.tape.trans h.tape, k.output.trans h.output, Nat.le_trans h.size k.size, fun q hq hn => (k.block q (Nat.lt_of_lt_of_le hq h.size) hn).trans (h.block q hq hn)⟩
theorem KtS.mono {S S' : Nat → Prop} {a b : World} (h : KtS S a b) (hs : ∀ k, S k → S' k) : KtS S' a b := ⟨h.os, h.tape, h.output, h.size, fun q hq hn => h.block q hq (fun e => hn (hs q e))⟩
theorem KtS.of_ex {S : Nat → Prop} {a b : World} (h : Ex a b) : KtS S a b := ⟨h.os, h.tape, h.output, h.size, fun q hq _ => h.block q hq⟩
theorem KtS.of_grown {S : Nat → Prop} {a b : World} {o : Option Nat} (h : a.grownBy b o) (hs : ∀ k, o = some k → S k) : KtS S a b := ⟨h.os, h.tape, h.output, h.size, fun q hq hn => h.block q hq (fun e => hn (hs q e.symm))⟩
/-- The set may grow by blocks that were not there. -/
theorem KtS.later {S S' : Nat → Prop} {a b c : World} (h : KtS S a b) (k : KtS S' b c) (hs : ∀ q, S' q → S q ∨ a.heap.size ≤ q) : KtS S a c :=
  ⟨k.os.trans h.os, k.tape.trans h.tape, k.output.trans h.output, Nat.le_trans h.size k.size, fun q hq hn => (k.block q (Nat.lt_of_lt_of_le hq h.size) (fun e => by rcases hs q e with e | e; exact hn e; omega)).trans (h.block q hq hn)⟩
theorem KtS.ex {S : Nat → Prop} {w0 a b : World} (h : Ex w0 a) (k : KtS S a b) (hs : ∀ q, S q → w0.heap.size ≤ q) : Ex w0 b :=
  ⟨k.os.trans h.os, k.tape.trans h.tape, k.output.trans h.output, Nat.le_trans h.size k.size, fun q hq => (k.block q (Nat.lt_of_lt_of_le hq h.size) (fun e => by have := hs q e; omega)).trans (h.block q hq)⟩
theorem Wd.kt {S : Nat → Prop} {w w' : World} {E : TypeId} {s n : Nat} {v : Value} {xs : List Value} (h : Wd w E s v n xs) (k : KtS S w w') (hs : ∀ b, v.ownBlock = some b → ¬ S b) : Wd w' E s v n xs := h.kept fun b hb hl => k.block b hl (hs b hb)
theorem At.kt {S : Nat → Prop} {w w' : World} {E : TypeId} {b : Nat} {cs : List Value} (h : At w b E cs) (k : KtS S w w') (hs : ¬ S b) : At w' b E cs := (k.block b h.lt hs).trans h
/-! ### What is held -/
def nilV : Value := .slice none 0 0
/-- The cells of what is held. -/
def flat3 (L G : Nat → Value) : List Nat → List Value
  | [] => []
  | q :: ns => L q :: G q :: .int .i64 (q : Int) :: flat3 L G ns
theorem flat3_len (L G : Nat → Value) : ∀ ns, (flat3 L G ns).length = ns.length * 3
  | [] => rfl
  | q :: ns => by simp [flat3, flat3_len L G ns]; omega
theorem flat3_app (L G : Nat → Value) : ∀ (ns ms : List Nat), flat3 L G (ns ++ ms) = flat3 L G ns ++ flat3 L G ms
  | [], ms => rfl
  | q :: ns, ms => by simp [flat3, flat3_app L G ns ms]
theorem flat3_get (L G : Nat → Value) : ∀ (ns : List Nat) (i : Nat) (q : Nat), ns[i]? = some q → ∀ j v, [L q, G q, Value.int .i64 (q : Int)][j]? = some v → (flat3 L G ns)[i * 3 + j]? = some v
  | p :: ns, 0, q, h, j, v, hj => by
    simp at h; subst h
    match j with
    | 0 => simpa [flat3] using hj
    | 1 => simpa [flat3] using hj
    | 2 => simpa [flat3] using hj
    | j + 3 => simp at hj
  | p :: ns, i + 1, q, h, j, v, hj => by
    have ih := flat3_get L G ns i q (by simpa using h) j v hj
    have e : (i + 1) * 3 + j = (i * 3 + j) + 3 := by omega
    rw [e]
    simpa [flat3] using ih
theorem flat3_congr {L G L' G' : Nat → Value} : ∀ (ns : List Nat), (∀ q ∈ ns, L q = L' q ∧ G q = G' q) → flat3 L G ns = flat3 L' G' ns
  | [], _ => rfl
  | q :: ns, h => by
    have h1 := h q (by simp)
    simp [flat3, h1.1, h1.2, flat3_congr ns (fun p hp => h p (by simp [hp]))]
def fset1 (G : Nat → Value) (q : Nat) (v : Value) (p : Nat) : Value := if p = q then v else G p
theorem flat3_set (L G : Nat → Value) (v : Value) : ∀ (ns : List Nat) (i q : Nat), ns.Nodup → ns[i]? = some q → (flat3 L G ns).set (i * 3 + 1) v = flat3 L (fset1 G q v) ns
  | p :: ns, 0, q, hn, h => by
    simp at h; subst h
    rw [List.nodup_cons] at hn
    have := flat3_congr (L := L) (G := fset1 G p v) (L' := L) (G' := G) ns (fun x hx => ⟨rfl, by unfold fset1; rw [if_neg (fun e : x = p => hn.1 (by rw [← e]; exact hx))]⟩)
    simp [flat3, this, fset1]
  | p :: ns, i + 1, q, hn, h => by
    rw [List.nodup_cons] at hn
    have hq : q ∈ ns := List.mem_iff_getElem?.2 ⟨i, by simpa using h⟩
    have ih := flat3_set L G v ns i q hn.2 (by simpa using h)
    have e : (i + 1) * 3 + 1 = (i * 3 + 1) + 3 := by omega
    have e2 : fset1 G q v p = G p := by unfold fset1; rw [if_neg (fun e : p = q => hn.1 (by rw [e]; exact hq))]
    rw [e]
    simp [flat3, ih, e2]
def bkc (M : Nat) (vi vl : Value) : List Value := [.int .i64 (M : Int), nilV, vi, nilV, vl, nilV, nilV, nilV, nilV, nilV]
attribute [local irreducible] Go.Code.wpIn Go.wpListIn Ct Ints Rows Sl At Rw WJ
attribute [local irreducible] Wd
theorem ok_keepInt : CallOK Tryz.prog 43 := callOK Tryz.func43 (by kernel_rfl) rfl
theorem ok_keepIntList : CallOK Tryz.prog 42 := callOK Tryz.func42 (by kernel_rfl) rfl
theorem in_w {P : Program} {E : TypeId} {s B : Nat} {z : Value} (h : (P.info? E).map (fun i => (i.zero, i.size, i.bytes)) = some (some z, s, B)) (hz : z.cells.size = s) : InfoW P E s z B := by
  cases hi : P.info? E with
  | none => rw [hi] at h; cases h
  | some ti =>
    rw [hi] at h
    simp only [Option.map_some, Option.some.injEq, Prod.mk.injEq] at h
    exact ⟨⟨ti, hi, h.1, h.2.1, by omega⟩, hz⟩
theorem in_heldInt : InfoW Tryz.prog 107 3 (.agg #[.slice none 0 0, .slice none 0 0, .int .i64 0]) 56 := in_w (by kernel_rfl) rfl
theorem in_heldIntList : InfoW Tryz.prog 105 3 (.agg #[.slice none 0 0, .slice none 0 0, .int .i64 0]) 56 := in_w (by kernel_rfl) rfl
theorem sl_hi : SlT Tryz.prog 37 107 := Tryz.underlying37
theorem sl_hl : SlT Tryz.prog 39 105 := Tryz.underlying39
theorem ty_hi : Ty1 Tryz.prog 37 := ⟨let ⟨i, h, _, hs, _⟩ := info_parts (show (Tryz.prog.info? 37).map (fun i => (i.zero, i.size, i.bytes)) = some (some (.slice none 0 0), 1, 24) by kernel_rfl); ⟨i, h, hs⟩, _, Tryz.underlying37, rfl⟩
theorem ty_hl : Ty1 Tryz.prog 39 := ⟨let ⟨i, h, _, hs, _⟩ := info_parts (show (Tryz.prog.info? 39).map (fun i => (i.zero, i.size, i.bytes)) = some (some (.slice none 0 0), 1, 24) by kernel_rfl); ⟨i, h, hs⟩, _, Tryz.underlying39, rfl⟩
theorem built_hi (a : Option Addr) (n c : Nat) (q : Int) : Tryz.prog.built 107 [(0, .slice a n c), (2, .int .i64 q)] = some [.slice a n c, .slice none 0 0, .int .i64 q].toArray := by kernel_rfl
theorem built_hl (a : Option Addr) (n c : Nat) (q : Int) : Tryz.prog.built 105 [(0, .slice a n c), (2, .int .i64 q)] = some [.slice a n c, .slice none 0 0, .int .i64 q].toArray := by kernel_rfl
theorem keepInt_ct (bk M n : Nat) (xs : List Value) (vi vl : Value) (a : Option Addr) (k c : Nat) (w : World) (hA : At w bk 46 (bkc M vi vl)) (hW : Wd w 107 3 vi n xs) (hne : ∀ b, vi.ownBlock = some b → b ≠ bk) (hM : M ≤ 100000) (hn : n ≤ 100000) :
    Ct Tryz.prog 43 #[.pointer (some ⟨bk, 0, none⟩), .slice a k c] w fun u w' => u = .tuple #[] ∧ ∃ vi', At w' bk 46 (bkc (M + 1) vi' vl) ∧ Wd w' 107 3 vi' (n + 1) (xs ++ [.slice a k c, nilV, .int .i64 ((M + 1 : Nat) : Int)]) ∧ (vi'.ownBlock = vi.ownBlock ∨ ∀ b, vi'.ownBlock = some b → w.heap.size ≤ b) ∧ KtS (fun b => b = bk ∨ vi.ownBlock = some b) w w' := by
  refine enter (N := 26) (vs := [.pointer (some ⟨bk, 0, none⟩), .slice a k c]) Tryz.func43 rfl rfl rfl ?_
  repeat (first | (refine isO ?_; refine s_move ?_) | (refine isC ?_; refine c_sr ?_))
  refine s_nil rfl ?_
  refine s_faN Tryz.underlying46 rfl ty_int.n rfl ?_
  refine s_ldA ty_int rfl hA rfl ?_
  repeat ((refine isO ?_; (refine isBin ?_; refine s_inc rfl (by omega) ?_)))
  refine s_nil rfl ?_
  refine s_faN Tryz.underlying46 rfl ty_int.n rfl ?_
  refine s_stA (n := 0) (u := .int .i64 ((M + 1 : Nat) : Int)) ty_int rfl (vint (by omega)) rfl hA (by simp [bkc]) ?_
  intro w1 hA1 hg1
  have hA1' : At w1 bk 46 (bkc (M + 1) vi vl) := hA1
  have hW1 := hW.grown hg1 (fun b hb e => hne b hb (Option.some.inj e).symm)
  repeat ((refine l_th ?_))
  refine c_drawJ (fun W' => At W' bk 46 (bkc (M + 1) vi vl)) (hA1'.ex (Ex.drew w1)) 15 8 [(0, true), (1, true), (2, true), (3, true), (4, true), (5, true), (6, true), (7, true), (8, true), (9, true), (10, false), (11, false), (12, false), (13, true), (14, true), (15, false)] mixed (by kernel_rfl) ?_
  refine d_move rfl ?_
  refine d_move rfl ?_
  refine d_nilc rfl rfl ?_
  refine d_faN rfl Tryz.underlying46 rfl ty_hi.n rfl ?_
  refine d_ldJ rfl ty_hi rfl (fun _ h => h) rfl ?_
  refine d_move rfl ?_
  refine d_move rfl ?_
  refine d_nilc rfl rfl ?_
  refine d_faN rfl Tryz.underlying46 rfl ty_int.n rfl ?_
  refine d_ldJ rfl ty_int rfl (fun _ h => h) rfl ?_
  refine d_ch rfl ?_
  refine s_bldW (cells := [.slice a k c, .slice none 0 0, .int .i64 ((M + 1 : Nat) : Int)]) (built_hi a k c _) ?_
  refine l_nil ⟨rfl, .inr (hA1'.ex (Ex.drew w1)), ?_⟩
  refine d_ch rfl ?_
  refine s_bsV3 sl_hi in_heldInt rfl ?_
  intro b2 w2 hb2 hA2 hx2 hs2
  have hx12 := (Ex.drew w1).trans hx2
  refine l_nil ⟨rfl, .inr (hA1'.ex hx12), ?_⟩
  refine d_ch rfl ?_
  refine s_appW (n := n) (m := 1) (news := [.slice a k c, .slice none 0 0, .int .i64 ((M + 1 : Nat) : Int)]) sl_hi in_heldInt (by omega) (hW1.ex hx12) ⟨b2, 1, rfl, [], by simpa using hA2⟩ rfl (by omega) (by intro u hu; simp at hu; rcases hu with rfl | rfl | rfl <;> rfl) (by omega) (by omega) rfl rfl ?_
  intro vi' w3 hW3 hg3 hf3'
  have hf3 : vi'.ownBlock = vi.ownBlock ∨ ∀ b, vi'.ownBlock = some b → w2.heap.size ≤ b := hf3'.imp (fun ⟨a, c, h1, h2⟩ => by rw [h1, h2]; cases a <;> rfl) (fun h => h.1)
  have hne3 : ∀ b, vi.ownBlock = some b → b ≠ bk := hne
  have hA3 := (hA1'.ex hx12).grown hg3 (fun e => hne bk e rfl)
  refine l_nil ⟨rfl, .inr hA3, ?_⟩
  refine d_nilc rfl rfl ?_
  refine d_faN rfl Tryz.underlying46 rfl ty_hi.n rfl ?_
  refine d_ch rfl ?_
  refine s_stA (n := 2) (u := vi') ty_hi rfl rfl hW3.one hA3 (by simp [bkc]) ?_
  intro w4 hA4 hg4
  refine l_nil ⟨rfl, .inl rfl, ?_⟩
  refine d_nil ?_
  have z1 := hg1.size
  have z12 := hx12.size
  have z3 := hg3.size
  have hown : vi'.ownBlock = vi.ownBlock ∨ ∀ b, vi'.ownBlock = some b → w.heap.size ≤ b := hf3.imp id (fun h b hb => by have := h b hb; omega)
  have hbk := hA.lt
  refine end0 rfl ⟨rfl, vi', hA4, hW3.grown hg4 (fun b hb e => ?_), hown, ?_⟩
  · have e' := Option.some.inj e
    rcases hown with he | hf
    · exact hne b (he ▸ hb) e'.symm
    · have := hf b hb; omega
  · have k1 : KtS (fun b => b = bk ∨ vi.ownBlock = some b) w w1 := KtS.of_grown hg1 (fun q e => .inl (Option.some.inj e).symm)
    have k2 : KtS (fun b => b = bk ∨ vi.ownBlock = some b) w1 w2 := KtS.of_ex hx12
    have k3 : KtS (fun b => b = bk ∨ vi.ownBlock = some b) w2 w3 := KtS.of_grown hg3 (fun q e => .inr e)
    have k4 : KtS (fun b => b = bk ∨ vi.ownBlock = some b) w3 w4 := KtS.of_grown hg4 (fun q e => .inl (Option.some.inj e).symm)
    exact ((k1.trans k2).trans k3).trans k4
end Go.Proofs.YtifbgpkjbciblaaGreatDoor.Sal
/- The Book of salesroomlaw01: keep, Ints, IntLists. -/
set_option maxRecDepth 100000
namespace Go.Proofs.YtifbgpkjbciblaaGreatDoor.Sal
open Go.RowKit
attribute [local irreducible] Go.Code.wpIn Go.wpListIn Ct Ints Rows Sl At Rw WJ
attribute [local irreducible] Wd
set_option linter.all false
theorem keepIntList_ct (bk M n : Nat) (xs : List Value) (vi vl : Value) (a : Option Addr) (k c : Nat) (w : World) (hA : At w bk 46 (bkc M vl vi)) (hW : Wd w 105 3 vi n xs) (hne : ∀ b, vi.ownBlock = some b → b ≠ bk) (hM : M ≤ 100000) (hn : n ≤ 100000) :
    Ct Tryz.prog 42 #[.pointer (some ⟨bk, 0, none⟩), .slice a k c] w fun u w' => u = .tuple #[] ∧ ∃ vi', At w' bk 46 (bkc (M + 1) vl vi') ∧ Wd w' 105 3 vi' (n + 1) (xs ++ [.slice a k c, nilV, .int .i64 ((M + 1 : Nat) : Int)]) ∧ (vi'.ownBlock = vi.ownBlock ∨ ∀ b, vi'.ownBlock = some b → w.heap.size ≤ b) ∧ KtS (fun b => b = bk ∨ vi.ownBlock = some b) w w' := by
  refine enter (N := 26) (vs := [.pointer (some ⟨bk, 0, none⟩), .slice a k c]) Tryz.func42 rfl rfl rfl ?_
  repeat (first | (refine isO ?_; refine s_move ?_) | (refine isC ?_; refine c_sr ?_))
  refine s_nil rfl ?_
  refine s_faN Tryz.underlying46 rfl ty_int.n rfl ?_
  refine s_ldA ty_int rfl hA rfl ?_
  repeat ((refine isO ?_; (refine isBin ?_; refine s_inc rfl (by omega) ?_)))
  refine s_nil rfl ?_
  refine s_faN Tryz.underlying46 rfl ty_int.n rfl ?_
  refine s_stA (n := 0) (u := .int .i64 ((M + 1 : Nat) : Int)) ty_int rfl (vint (by omega)) rfl hA (by simp [bkc]) ?_
  intro w1 hA1 hg1
  have hA1' : At w1 bk 46 (bkc (M + 1) vl vi) := hA1
  have hW1 := hW.grown hg1 (fun b hb e => hne b hb (Option.some.inj e).symm)
  repeat ((refine l_th ?_))
  refine c_drawJ (fun W' => At W' bk 46 (bkc (M + 1) vl vi)) (hA1'.ex (Ex.drew w1)) 15 8 [(0, true), (1, true), (2, true), (3, true), (4, true), (5, true), (6, true), (7, true), (8, true), (9, true), (10, false), (11, false), (12, false), (13, true), (14, true), (15, false)] mixed (by kernel_rfl) ?_
  refine d_move rfl ?_
  refine d_move rfl ?_
  refine d_nilc rfl rfl ?_
  refine d_faN rfl Tryz.underlying46 rfl ty_hl.n rfl ?_
  refine d_ldJ rfl ty_hl rfl (fun _ h => h) rfl ?_
  refine d_move rfl ?_
  refine d_move rfl ?_
  refine d_nilc rfl rfl ?_
  refine d_faN rfl Tryz.underlying46 rfl ty_int.n rfl ?_
  refine d_ldJ rfl ty_int rfl (fun _ h => h) rfl ?_
  refine d_ch rfl ?_
  refine s_bldW (cells := [.slice a k c, .slice none 0 0, .int .i64 ((M + 1 : Nat) : Int)]) (built_hl a k c _) ?_
  refine l_nil ⟨rfl, .inr (hA1'.ex (Ex.drew w1)), ?_⟩
  refine d_ch rfl ?_
  refine s_bsV3 sl_hl in_heldIntList rfl ?_
  intro b2 w2 hb2 hA2 hx2 hs2
  have hx12 := (Ex.drew w1).trans hx2
  refine l_nil ⟨rfl, .inr (hA1'.ex hx12), ?_⟩
  refine d_ch rfl ?_
  refine s_appW (n := n) (m := 1) (news := [.slice a k c, .slice none 0 0, .int .i64 ((M + 1 : Nat) : Int)]) sl_hl in_heldIntList (by omega) (hW1.ex hx12) ⟨b2, 1, rfl, [], by simpa using hA2⟩ rfl (by omega) (by intro u hu; simp at hu; rcases hu with rfl | rfl | rfl <;> rfl) (by omega) (by omega) rfl rfl ?_
  intro vi' w3 hW3 hg3 hf3'
  have hf3 : vi'.ownBlock = vi.ownBlock ∨ ∀ b, vi'.ownBlock = some b → w2.heap.size ≤ b := hf3'.imp (fun ⟨a, c, h1, h2⟩ => by rw [h1, h2]; cases a <;> rfl) (fun h => h.1)
  have hne3 : ∀ b, vi.ownBlock = some b → b ≠ bk := hne
  have hA3 := (hA1'.ex hx12).grown hg3 (fun e => hne bk e rfl)
  refine l_nil ⟨rfl, .inr hA3, ?_⟩
  refine d_nilc rfl rfl ?_
  refine d_faN rfl Tryz.underlying46 rfl ty_hl.n rfl ?_
  refine d_ch rfl ?_
  refine s_stA (n := 4) (u := vi') ty_hl rfl rfl hW3.one hA3 (by simp [bkc]) ?_
  intro w4 hA4 hg4
  refine l_nil ⟨rfl, .inl rfl, ?_⟩
  refine d_nil ?_
  have z1 := hg1.size
  have z12 := hx12.size
  have z3 := hg3.size
  have hown : vi'.ownBlock = vi.ownBlock ∨ ∀ b, vi'.ownBlock = some b → w.heap.size ≤ b := hf3.imp id (fun h b hb => by have := h b hb; omega)
  have hbk := hA.lt
  refine end0 rfl ⟨rfl, vi', hA4, hW3.grown hg4 (fun b hb e => ?_), hown, ?_⟩
  · have e' := Option.some.inj e
    rcases hown with he | hf
    · exact hne b (he ▸ hb) e'.symm
    · have := hf b hb; omega
  · have k1 : KtS (fun b => b = bk ∨ vi.ownBlock = some b) w w1 := KtS.of_grown hg1 (fun q e => .inl (Option.some.inj e).symm)
    have k2 : KtS (fun b => b = bk ∨ vi.ownBlock = some b) w1 w2 := KtS.of_ex hx12
    have k3 : KtS (fun b => b = bk ∨ vi.ownBlock = some b) w2 w3 := KtS.of_grown hg3 (fun q e => .inr e)
    have k4 : KtS (fun b => b = bk ∨ vi.ownBlock = some b) w3 w4 := KtS.of_grown hg4 (fun q e => .inl (Option.some.inj e).symm)
    exact ((k1.trans k2).trans k3).trans k4
theorem ok_bInts : CallOK Tryz.prog 17 := callOK Tryz.func17 (by kernel_rfl) rfl
theorem ok_bIntLists : CallOK Tryz.prog 16 := callOK Tryz.func16 (by kernel_rfl) rfl
/-- What a Book holds: lists by their numbers. -/
structure Bk (wB w : World) (bk M : Nat) (ns nl : List Nat) (L : Nat → Value) (vi vl : Value) : Prop where
  ex : Ex wB w
  lo : wB.heap.size ≤ bk
  hd : At w bk 46 (bkc M vi vl)
  wi : Wd w 107 3 vi ns.length (flat3 L (fun _ => nilV) ns)
  wl : Wd w 105 3 vl nl.length (flat3 L (fun _ => nilV) nl)
  oi : ∀ b, vi.ownBlock = some b → wB.heap.size ≤ b ∧ b ≠ bk ∧ vl.ownBlock ≠ some b
  ol : ∀ b, vl.ownBlock = some b → wB.heap.size ≤ b ∧ b ≠ bk
theorem Bk.exd {wB w w' : World} {bk M : Nat} {ns nl : List Nat} {L : Nat → Value} {vi vl : Value} (h : Bk wB w bk M ns nl L vi vl) (hx : Ex w w') : Bk wB w' bk M ns nl L vi vl := ⟨h.ex.trans hx, h.lo, h.hd.ex hx, h.wi.ex hx, h.wl.ex hx, h.oi, h.ol⟩
theorem bInts_ct (wB : World) (bk M : Nat) (ns nl : List Nat) (L : Nat → Value) (vi vl : Value) (a : Option Addr) (k c : Nat) (w : World) (hB : Bk wB w bk M ns nl L vi vl) (hL : L (M + 1) = .slice a k c) (hM : M ≤ 100000) (hn : ns.length ≤ 100000) :
    Ct Tryz.prog 17 #[.pointer (some ⟨bk, 0, none⟩), .slice a k c] w fun u w' => u = .tuple #[] ∧ ∃ vi', Bk wB w' bk (M + 1) (ns ++ [M + 1]) nl L vi' vl := by
  refine enter (N := 7) (vs := [.pointer (some ⟨bk, 0, none⟩), .slice a k c]) Tryz.func17 rfl rfl rfl ?_
  repeat (first | (refine isO ?_; refine s_move ?_) | (refine isC ?_; refine c_region ?_))
  refine s_call ok_keepInt rfl (keepInt_ct bk M ns.length (flat3 L (fun _ => nilV) ns) vi vl a k c w hB.hd hB.wi (fun b hb => (hB.oi b hb).2.1) hM hn) ?_
  rintro u w1 ⟨rfl, vi', hA, hW, ho, hk⟩
  repeat ((refine l_nil ?_))
  have z := hB.ex.size
  have hx : Ex wB w1 := KtS.ex hB.ex hk (fun q hq => by
    rcases hq with rfl | hq
    · exact hB.lo
    · exact (hB.oi q hq).1)
  have e : flat3 L (fun _ => nilV) ns ++ [.slice a k c, nilV, .int .i64 ((M + 1 : Nat) : Int)] = flat3 L (fun _ => nilV) (ns ++ [M + 1]) := by
    rw [flat3_app]
    simp [flat3, hL]
  rw [e] at hW
  refine end0 rfl ⟨rfl, vi', hx, hB.lo, hA, by simpa using hW, hB.wl.kt hk (fun b hb hq => ?_), fun b hb => ?_, hB.ol⟩
  · rcases hq with hq | hq
    · exact (hB.ol b hb).2 hq
    · exact (hB.oi b hq).2.2 hb
  · rcases ho with he | hf
    · exact hB.oi b (he ▸ hb)
    · have h1 := hf b hb
      refine ⟨by omega, ?_, ?_⟩
      · have := hB.hd.lt; omega
      · intro e2; have := hB.wl.lt b e2; omega
theorem keptL_ct (wB : World) (bk M : Nat) (ns nl : List Nat) (L : Nat → Value) (vi vl : Value) (a : Option Addr) (k c : Nat) (w : World) (hB : Bk wB w bk M ns nl L vi vl) (hL : L (M + 1) = .slice a k c) (hM : M ≤ 100000) (hn : nl.length ≤ 100000) :
    Ct Tryz.prog 42 #[.pointer (some ⟨bk, 0, none⟩), .slice a k c] w fun u w' => u = .tuple #[] ∧ ∃ vl', Bk wB w' bk (M + 1) ns (nl ++ [M + 1]) L vi vl' :=
  (keepIntList_ct bk M nl.length (flat3 L (fun _ => nilV) nl) vl vi a k c w hB.hd hB.wl (fun b hb => (hB.ol b hb).2) hM hn).mono fun u w1 ⟨hu, vl', hA, hW, ho, hk⟩ => by
    have z := hB.ex.size
    have hx : Ex wB w1 := KtS.ex hB.ex hk (fun q hq => by
      rcases hq with rfl | hq
      · exact hB.lo
      · exact (hB.ol q hq).1)
    have e : flat3 L (fun _ => nilV) nl ++ [.slice a k c, nilV, .int .i64 ((M + 1 : Nat) : Int)] = flat3 L (fun _ => nilV) (nl ++ [M + 1]) := by
      rw [flat3_app]
      simp [flat3, hL]
    rw [e] at hW
    refine ⟨hu, vl', hx, hB.lo, hA, hB.wi.kt hk (fun b hb hq => ?_), by simpa using hW, fun b hb => ?_, fun b hb => ?_⟩
    · rcases hq with hq | hq
      · exact (hB.oi b hb).2.1 hq
      · exact (hB.oi b hb).2.2 hq
    · refine ⟨(hB.oi b hb).1, (hB.oi b hb).2.1, fun e2 => ?_⟩
      rcases ho with he | hf
      · exact (hB.oi b hb).2.2 (he ▸ e2)
      · have h1 := hf b e2
        have := hB.wi.lt b hb; omega
    · rcases ho with he | hf
      · exact hB.ol b (he ▸ hb)
      · have h1 := hf b hb
        have := hB.hd.lt
        exact ⟨by omega, by omega⟩
def upN (M i : Nat) : List Nat := (List.range i).map (fun j => M + 1 + j)
theorem upN_succ (M i : Nat) : upN M (i + 1) = upN M i ++ [M + i + 1] := by simp [upN, List.range_succ]; omega
theorem upN_len (M i : Nat) : (upN M i).length = i := by simp [upN]
set_option maxHeartbeats 1000000 in
theorem bIntLists_ct (wB : World) (bk M : Nat) (ns nl : List Nat) (L : Nat → Value) (vi vl : Value) (vs : List Value) (v : Value) (w : World) (hB : Bk wB w bk M ns nl L vi vl) (hs : Sl wB v vs) (hvs : ∀ (i : Nat) u, vs[i]? = some u → (∃ a k c, u = .slice a k c) ∧ L (M + 1 + i) = u) (hL : L (M + vs.length + 1) = v) (hM : M + vs.length ≤ 100000) (hn : ns.length + vs.length ≤ 100000) (hn2 : nl.length ≤ 100000) :
    Ct Tryz.prog 16 #[.pointer (some ⟨bk, 0, none⟩), v] w fun u w' => u = .tuple #[] ∧ ∃ vi' vl', Bk wB w' bk (M + vs.length + 1) (ns ++ upN M vs.length) (nl ++ [M + vs.length + 1]) L vi' vl' := by
  obtain ⟨a, c, hv⟩ := hs.form
  refine enter (N := 20) (vs := [.pointer (some ⟨bk, 0, none⟩), v]) Tryz.func16 rfl rfl rfl ?_
  repeat (first | (refine isO ?_; refine s_assign ?_) | (refine isC ?_; first | refine c_sr ?_ | refine c_seq ?_ | refine c_block ?_) | (refine l_th ?_))
  refine c_loop (γ := Nat) 131056 (fun i => [(4, .int .i64 (i : Int))]) (fun i W => i ≤ vs.length ∧ ∃ vi', Bk wB W bk (M + i) (ns ++ upN M i) nl L vi' vl) (fun i => vs.length - i) 0 ⟨rfl, trivial⟩ ⟨Nat.zero_le _, vi, by simpa [upN] using hB⟩ ?_
  rintro i ρ W ⟨hi, hBe⟩
  refine Exists.elim hBe fun vi' hBW => ?_
  have hsW := hs.ex hBW.ex
  repeat (first | (refine isO ?_; refine s_move ?_) | (refine isC ?_; first | refine c_sr ?_ | refine c_seq ?_))
  refine s_re (v' := v) rfl ?_
  refine s_len (n := vs.length) (a := a) (c := c) sl_rows hv ?_
  repeat (first | (refine isO ?_; (refine isBin ?_; refine s_lss rfl rfl ?_)) | (refine l_th ?_))
  refine c_ifd rfl (fun h => ?_) (fun h => ?_)
  · have hi' : i < vs.length := by omega
    have hu := hvs i vs[i] (List.getElem?_eq_getElem hi')
    refine Exists.elim hu.1 fun ua hu1 => Exists.elim hu1 fun uk hu2 => Exists.elim hu2 fun uc hu3 => ?_
    repeat (first | (refine isO ?_; refine s_move ?_) | (refine isC ?_; first | refine c_th ?_ | refine c_seq ?_ | refine c_region ?_ | refine c_block ?_))
    refine s_ix (n := i) (u := .slice ua uk uc) sl_rows ty_ints rfl rfl rfl hsW (by rw [List.getElem?_eq_getElem hi', hu3]) ?_
    intro _
    refine s_call ok_bInts rfl (bInts_ct wB bk (M + i) (ns ++ upN M i) nl L vi' vl ua uk uc W hBW (by rw [← hu3, ← hu.2]; congr 1; omega) (by omega) (by rw [List.length_append, upN_len]; omega)) ?_
    rintro u w1 ⟨rfl, hB1⟩
    repeat (first | (refine isO ?_; first | refine s_move ?_ | refine s_assign ?_ | (refine isBin ?_; refine s_inc rfl (by omega) ?_)) | (refine isC ?_; refine c_region ?_) | (first | refine l_th ?_ | refine l_nil ?_))
    refine loop_end (i + 1) (by (repeat (first | exact agree_refl _ _ | refine agree_upd rfl ?_ | refine agree_ext rfl ?_ | refine agree_mask rfl ?_))) ⟨rfl, trivial⟩ ⟨hi', ?_⟩ (by omega)
    rw [upN_succ, ← List.append_assoc]
    exact hB1
  · have hie : i = vs.length := by omega
    subst hie
    repeat (first | (refine isO ?_; refine s_move ?_) | (refine isC ?_; first | refine c_region ?_ | refine c_exit ?_))
    subst hv
    refine s_call ok_keepIntList rfl (keptL_ct wB bk (M + vs.length) _ nl L vi' vl a vs.length c W hBW hL hM hn2) ?_
    rintro u w1 ⟨rfl, hB1⟩
    repeat ((refine l_nil ?_))
    exact end0 rfl ⟨rfl, vi', hB1⟩
end Go.Proofs.YtifbgpkjbciblaaGreatDoor.Sal
