/- Texts that YtifbgpkjbciblaaGreatDoorFRO leans on, laid together: V13 H5 V14 TW3 V15 V17 RR1 V21 RR2 RR2b. -/
import Derived.Test.YtifbgpkjbciblaaGreatDoorMFRO7
import Derived.Test.YtifbgpkjbciblaaGreatDoorMFRO6
import Derived.Test.YtifbgpkjbciblaaGreatDoorMFRO4
section
/- Plain: where prices end. -/
set_option maxRecDepth 100000
namespace Go.Proofs.YtifbgpkjbciblaaGreatDoor.Sal
set_option linter.all false
def mu (p : List Int) : Nat → Nat
  | 0 => 0
  | k + 1 => mu p k + (1000000 - p.getD k 0).toNat
theorem mu_le {p q : List Int} : ∀ n, (∀ k, k < n → p.getD k 0 ≤ q.getD k 0) → mu q n ≤ mu p n
  | 0, _ => Nat.le_refl _
  | n + 1, h => by
    have h1 := mu_le n (fun k hk => h k (by omega))
    have h2 := h n (by omega)
    unfold mu; omega
theorem mu_lt {p q : List Int} : ∀ n, (∀ k, k < n → p.getD k 0 ≤ q.getD k 0) → (∃ k, k < n ∧ p.getD k 0 < q.getD k 0 ∧ q.getD k 0 ≤ 1000000) → mu q n < mu p n
  | 0, _, ⟨k, hk, _⟩ => by omega
  | n + 1, h, ⟨k, hk, h1, h2⟩ => by
    unfold mu
    by_cases e : k = n
    · subst e
      have := mu_le k (fun k' hk' => h k' (by omega))
      omega
    · have := mu_lt n (fun k' hk' => h k' (by omega)) ⟨k, by omega, h1, h2⟩
      have := h n (by omega)
      omega
theorem set_ne {bids : List (List Int)} {p : List Int} {n : Nat} (hn : n ≤ 8) (hm8 : bids.length ≤ 8) (hL : LensB bids n) {l : List Int} (h : setR bids p n = some l) : ∃ k : Nat, k < n ∧ l.contains (k : Int) = true := by
  obtain ⟨hr, hlt⟩ := few_first hn (ris_of hm8 (mustB bids p)) h
  cases l with
  | cons a l =>
    obtain ⟨k, hk, hkn⟩ := ris_at hr (k := 0) (by simp)
    refine ⟨k, hkn, ?_⟩
    rw [List.contains_iff_mem]
    simp at hk; rw [hk]; simp
  | nil =>
    exfalso
    have hlt' : 0 < withN (RD bids p) n (rowL bids.length (mustB bids p)) [] := hlt
    rw [must_cnt hm8] at hlt'
    obtain ⟨i, hi, hne⟩ := cnt_pos hlt'
    have hln := need_len hL hi hne
    unfold needB at hne
    rw [Bool.and_eq_true] at hne
    obtain ⟨_, hpos⟩ := must_wants (hL i hi) hne.1
    have h1 := rowN_get (j := 0) hpos
    have := wantB_iff.1 hne.2 _ h1.1 h1.2
    simp at this
/-- Prices that may stand in a rise. -/
def Lg (res p : List Int) : Prop := p.length = res.length ∧ ∀ k, k < res.length → res.getD k 0 ≤ p.getD k 0 ∧ p.getD k 0 ≤ 1000000
theorem lg_may {res p : List Int} (h : Lg res p) : mayP res p = true := by
  unfold mayP
  rw [decide_eq_true h.1, Bool.true_and, List.all_eq_true]
  intro k hk
  have hk' : k < res.length := by have := List.mem_range.1 hk; have := h.1; omega
  have := h.2 k hk'
  rw [decide_eq_true this.1, decide_eq_true (by omega)]; rfl
structure MkOK (res : List Int) (bids : List (List Int)) : Prop where
  n1 : 1 ≤ res.length
  n8 : res.length ≤ 8
  m1 : 1 ≤ bids.length
  m8 : bids.length ≤ 8
  rb : ∀ k, 0 ≤ res.getD k 0 ∧ res.getD k 0 ≤ 1000000
  bb : ∀ i, i < bids.length → badBid (res.length : Int) (bids.getD i []) = false
theorem vec_of {res : List Int} (h : vecB res res.length = true) : 1 ≤ res.length ∧ res.length ≤ 8 ∧ ∀ k, 0 ≤ res.getD k 0 ∧ res.getD k 0 ≤ 1000000 := by
  unfold vecB at h
  simp only [Bool.and_eq_true, decide_eq_true_eq] at h
  obtain ⟨⟨h1, _⟩, h2⟩ := h
  unfold inM at h1
  simp only [Bool.and_eq_true, decide_eq_true_eq] at h1
  refine ⟨by omega, by omega, bd_of (by omega) (by omega) fun x hx => ?_⟩
  have := (List.all_eq_true.1 h2) x hx
  unfold inM at this
  simpa using this
theorem mkok {res : List Int} {bids : List (List Int)} {ord : List Int} (h : chkM res bids ord = true) : MkOK res bids := by
  obtain ⟨h1, h2, h3, h4, h5⟩ := chk_parts h
  obtain ⟨h6, h7, h8⟩ := vec_of h1
  exact ⟨h6, h7, h2, h3, h8, h5⟩
theorem MkOK.lens {res : List Int} {bids : List (List Int)} (h : MkOK res bids) : LensB bids res.length := fun i hi => lenB_or h.bb hi
/-- One step on. -/
theorem step_on {res p : List Int} {bids : List (List Int)} (hM : MkOK res bids) (hp : Lg res p) {l : List Int} (h : setR bids p res.length = some l) :
    ∃ q, stepR bids p res.length = some q ∧ Lg res q ∧ (∀ k, k < res.length → p.getD k 0 ≤ q.getD k 0) ∧ (∃ k, k < res.length ∧ p.getD k 0 < q.getD k 0) ∧ q = raise p l (farBy bids p l res.length (rowL bids.length (mustB bids p))) := by
  obtain ⟨hr, hfn⟩ := far_ne hM.n8 hM.m8 h
  have hby := by_pos hM.lens hfn
  refine ⟨_, by unfold stepR; rw [h], ⟨by rw [raise_len]; exact hp.1, fun k hk => ?_⟩, fun k hk => ?_, ?_, rfl⟩
  · have h1 := hp.2 k hk
    have e := raise_get (set := l) (x := farBy bids p l res.length (rowL bids.length (mustB bids p))) (show k < p.length by rw [hp.1]; exact hk)
    cases hc : l.contains (k : Int) with
    | false => rw [hc] at e; simp at e; simp only [List.getD_eq_getElem?_getD] at *; omega
    | true =>
      obtain ⟨i, hi, hli, hle⟩ := step_top hM.n8 hM.m8 hM.lens hp.1 h hk hc
      have := (bd_bid (hM.bb i hi) k).2
      rw [hc] at e
      simp only [if_true] at e
      omega
  · have e := raise_get (set := l) (x := farBy bids p l res.length (rowL bids.length (mustB bids p))) (show k < p.length by rw [hp.1]; exact hk)
    rw [e]; split <;> omega
  · obtain ⟨k, hk, hc⟩ := set_ne hM.n8 hM.m8 hM.lens h
    refine ⟨k, hk, ?_⟩
    rw [raise_get (by rw [hp.1]; exact hk), if_pos hc]
    omega
theorem run_from {res : List Int} {bids : List (List Int)} (hM : MkOK res bids) : ∀ (N : Nat) (p : List Int), mu p res.length ≤ N → Lg res p →
    ∃ L : List (List Int), 0 < L.length ∧ L.getD 0 [] = p ∧ (∀ i, i + 1 < L.length → stepR bids (L.getD i []) res.length = some (L.getD (i + 1) [])) ∧ stepR bids (L.getD (L.length - 1) []) res.length = none ∧ ∀ i, i < L.length → Lg res (L.getD i []) := by
  intro N
  induction N with
  | zero =>
    intro p hmu hp
    cases hs : setR bids p res.length with
    | none =>
      refine ⟨[p], by simp, rfl, fun i hi => by simp at hi, by unfold stepR; simp; rw [hs], fun i hi => ?_⟩
      have : i = 0 := by simp at hi; omega
      subst this; exact hp
    | some l =>
      exfalso
      obtain ⟨q, _, h2, h3, ⟨k, hk, h4⟩, _⟩ := step_on hM hp hs
      have := mu_lt res.length h3 ⟨k, hk, h4, (h2.2 k hk).2⟩
      omega
  | succ N ih =>
    intro p hmu hp
    cases hs : setR bids p res.length with
    | none =>
      refine ⟨[p], by simp, rfl, fun i hi => by simp at hi, by unfold stepR; simp; rw [hs], fun i hi => ?_⟩
      have : i = 0 := by simp at hi; omega
      subst this; exact hp
    | some l =>
      obtain ⟨q, h1, h2, h3, ⟨k, hk, h4⟩, _⟩ := step_on hM hp hs
      have hlt := mu_lt res.length h3 ⟨k, hk, h4, (h2.2 k hk).2⟩
      obtain ⟨L, hL0, hL1, hL2, hL3, hL4⟩ := ih q (by omega) h2
      have hS : ∀ i, (p :: L).getD (i + 1) [] = L.getD i [] := fun i => by simp [List.getD_eq_getElem?_getD]
      refine ⟨p :: L, by simp, rfl, fun i hi => ?_, ?_, fun i hi => ?_⟩
      · rw [hS]
        cases i with
        | zero => rw [hL1]; exact h1
        | succ i => rw [hS]; exact hL2 i (by simp at hi; omega)
      · have e : (p :: L).length - 1 = (L.length - 1) + 1 := by simp; omega
        rw [e, hS]; exact hL3
      · cases i with
        | zero => exact hp
        | succ i => rw [hS]; exact hL4 i (by simpa using hi)
theorem run_ex {res : List Int} {bids : List (List Int)} (hM : MkOK res bids) : ∃ L, RunS res bids L ∧ ∀ i, i < L.length → Lg res (L.getD i []) := by
  obtain ⟨L, h1, h2, h3, h4, h5⟩ := run_from hM _ res (Nat.le_refl _) ⟨rfl, fun k _ => ⟨Int.le_refl _, (hM.rb k).2⟩⟩
  exact ⟨L, ⟨h1, h2, h3, h4, fun i hi => lg_may (h5 i hi)⟩, h5⟩
theorem step_none {bids : List (List Int)} {p : List Int} {n : Nat} (h : stepR bids p n = none) : setR bids p n = none := by
  unfold stepR at h
  cases hs : setR bids p n with
  | none => rfl
  | some l => rw [hs] at h; cases h
/-- The end. -/
def endL (L : List (List Int)) : List Int := L.getD (L.length - 1) []
theorem run_end {res : List Int} {bids : List (List Int)} {L : List (List Int)} (hM : MkOK res bids) (hR : RunS res bids L) (hLg : ∀ i, i < L.length → Lg res (L.getD i [])) : compP bids (endL L) res.length ∧ Lg res (endL L) :=
  ⟨(comp_iff hM.n8 hM.m8).1 (step_none hR.lst), hLg _ (by have := hR.pos; omega)⟩
end Go.Proofs.YtifbgpkjbciblaaGreatDoor.Sal
end
section
/- salesroomlaw09.alive. -/
set_option maxRecDepth 100000
namespace Go.Proofs.YtifbgpkjbciblaaGreatDoor.Sal
open Go.RowKit
attribute [local irreducible] Go.Code.wpIn Go.wpListIn Ct Ints Rows Sl At Rw WJ
set_option linter.all false
theorem At.three {w : World} {b : Nat} {E : TypeId} {p q s : Int} (h : At w b E [.int .i64 p, .int .i64 q, .int .i64 s]) : Ints w (sv b 3 3) [p, q, s] := At.ints (l := [p, q, s]) (c := 3) h (by simp) (by simp)
end Go.Proofs.YtifbgpkjbciblaaGreatDoor.Sal
end
section
/- salesroomlaw13.lives. -/
set_option maxRecDepth 100000
namespace Go.Proofs.YtifbgpkjbciblaaGreatDoor.Sal
open Go.RowKit
def stepC (bids : List (List Int)) (prices : List Int) (n : Nat) : Option (List Int) := match fewTo (RD bids prices) n (rowL bids.length (mustB bids prices)) (n + 1) with
  | none => none
  | some set => some (raise prices set (farBy bids prices set n (rowL bids.length (mustB bids prices))))
theorem stepC_eq {bids : List (List Int)} {prices : List Int} {n : Nat} (hn : n ≤ 8) (hm8 : bids.length ≤ 8) : stepR bids prices n = stepC bids prices n := by
  have e : fewR (RD bids prices) bids.length n (rowL bids.length (mustB bids prices)) = fewTo (RD bids prices) n (rowL bids.length (mustB bids prices)) (n + 1) := fewR_eq hn (ris_of hm8 _)
  unfold stepR stepC setR
  cases h : fewTo (RD bids prices) n (rowL bids.length (mustB bids prices)) (n + 1) with
  | none => simp only [e, h]
  | some l => simp only [e, h]
theorem one_run : RunS [2] [[9], [5]] [[2], [5]] := by
  refine ⟨by simp, rfl, fun i hi => ?_, ?_, fun i hi => ?_⟩
  · have : i = 0 := by simp at hi; omega
    subst this
    rw [stepC_eq (by simp) (by simp)]; decide +kernel
  · rw [stepC_eq (by simp) (by simp)]; decide +kernel
  · match i, hi with
    | 0, _ => decide +kernel
    | 1, _ => decide +kernel
theorem two_run : RunS [0, 0] [[4, 4], [4, 4], [3, 0]] [[0, 0], [3, 3]] := by
  refine ⟨by simp, rfl, fun i hi => ?_, ?_, fun i hi => ?_⟩
  · have : i = 0 := by simp at hi; omega
    subst this
    rw [stepC_eq (by simp) (by simp)]; decide +kernel
  · rw [stepC_eq (by simp) (by simp)]; decide +kernel
  · match i, hi with
    | 0, _ => decide +kernel
    | 1, _ => decide +kernel
theorem one_s1 : stepR [[9], [5]] [2] 1 = some [5] := by rw [stepC_eq (by simp) (by simp)]; decide +kernel
theorem one_s2 : stepR [[9], [5]] [5] 1 = none := by rw [stepC_eq (by simp) (by simp)]; decide +kernel
theorem one_chk : chkM [2] [[9], [5]] [0, 1] = true := by decide +kernel
theorem two_chk : chkM [0, 0] [[4, 4], [4, 4], [3, 0]] [0, 1, 2] = true := by decide +kernel
theorem ret_cV {P : Program} {fn : Func} {w : World} {R : Value → World → Prop} {N : Nat} {σ : Nat → Value} {a : Nat} {ta B : TypeId} {b : Nat} {cs : List Value} {dd : TypeDesc} (hres : fn.results = #[.cell a ta]) (ha : ev N σ (.tmp a) = .pointer (some ⟨b, 0, none⟩))
    (hu : P.underlying ta = some dd) (hd : (match dd with | .struct _ | .array _ _ => true | _ => false) = true) (hsz : (P.info? ta).map (·.size) = some cs.length) (hA : At w b B cs) (hR : R (.agg cs.toArray) w) : Post P fn R .ret (mk N σ []) w := by
  have key : LeavesInM (FW none) 0 P fn (mk N σ []).tmps (RE R) [] .returning w := by
    refine leave_nil (v := .agg cs.toArray) ?_ hR
    have h1 : (mk N σ []).tmps.getD a undef = .pointer (some ⟨b, 0, none⟩) := getD_mk' ha
    simp only [Array.getD_eq_getD_getElem?] at h1
    simp [results, hres, h1, asAddr, run_loadVar_row (P := P) w b B ta cs.toArray (0, 0) dd hA hu hd (by simpa using hsz)]
  exact key
attribute [local irreducible] Go.Code.wpIn Go.wpListIn Ct Ints Rows Sl At Rw WJ
set_option linter.all false
theorem ok_one : CallOK Tryz.prog 79 := callOK Tryz.func79 (by kernel_rfl) rfl
theorem ok_lives : CallOK Tryz.prog 22 := callOK Tryz.func22 (by kernel_rfl) rfl
theorem in_mkt : ∃ ti, Tryz.prog.info? 54 = some ti ∧ ti.zero = some (.agg [.slice none 0 0, .slice none 0 0, .slice none 0 0].toArray) := in_z (by kernel_rfl)
theorem built_mk (a1 a2 a3 : Option Addr) (n1 n2 n3 c1 c2 c3 : Nat) : Tryz.prog.built 54 [(0, .slice a1 n1 c1), (1, .slice a2 n2 c2), (2, .slice a3 n3 c3)] = some [.slice a1 n1 c1, .slice a2 n2 c2, .slice a3 n3 c3].toArray := by kernel_rfl
theorem sz_mk (a b c : Value) : (Tryz.prog.info? 54).map (·.size) = some [a, b, c].length := by
  show _ = some 3
  kernel_rfl
theorem one_ct (w : World) : Ct Tryz.prog 79 #[] w fun u w' => ∃ rv bv ov, u = .agg #[rv, bv, ov] ∧ Mk w' rv bv ov [2] [[9], [5]] [0, 1] ∧ Ex w w' := by
  refine Exists.elim in_mkt fun ti hti => ?_
  refine enter (N := 7) (vs := []) Tryz.func79 rfl rfl rfl ?_
  repeat ((refine isC ?_; refine c_sr ?_))
  refine s_alloc (cs := [.slice none 0 0, .slice none 0 0, .slice none 0 0]) hti.1 hti.2 rfl ?_
  intro b0 w0 hb0 hA0 hx0 hs0
  repeat (first | (refine isC ?_; refine c_sr ?_) | (refine l_th ?_))
  refine s_bs1 sl_ints in_int rfl rfl ?_
  intro b1 w1 hb1 hA1 hx1 hs1
  refine s_bs1 sl_ints in_int rfl rfl ?_
  intro b2 w2 hb2 hA2 hx2 hs2
  refine s_bs1 sl_ints in_int rfl rfl ?_
  intro b3 w3 hb3 hA3 hx3 hs3
  refine s_bs2 sl_rows in_ints rfl rfl rfl rfl ?_
  intro b4 w4 hb4 hA4 hx4 hs4
  refine s_bs2 sl_ints in_int rfl rfl rfl rfl ?_
  intro b5 w5 hb5 hA5 hx5 hs5
  refine s_bldW (cells := [sv b1 1 1, sv b4 2 2, sv b5 2 2]) (built_mk _ _ _ _ _ _ _ _ _) ?_
  have l0 := hA0.lt
  have l1 := hA1.lt
  have l4 := hA4.lt
  refine s_stV (cs := [sv b1 1 1, sv b4 2 2, sv b5 2 2]) (sz_mk _ _ _) rfl rfl (hA0.ex (hx1.trans (hx2.trans (hx3.trans (hx4.trans hx5))))) rfl rfl ?_
  intro w6 hA6 hg6 hs6
  have hx15 := hx1.trans (hx2.trans (hx3.trans (hx4.trans hx5)))
  have k : ∀ {b : Nat} {E : TypeId} {cs : List Value}, At w5 b E cs → b ≠ b0 → At w6 b E cs := fun h hne => h.grown hg6 (fun e => hne (Option.some.inj e).symm)
  have l2 := hA2.lt
  have l3 := hA3.lt
  have l5 := hA5.lt
  have hM6 : Mk w6 (sv b1 1 1) (sv b4 2 2) (sv b5 2 2) [2] [[9], [5]] [0, 1] :=
    ⟨(k (hA1.ex (hx2.trans (hx3.trans (hx4.trans hx5)))) (by omega)).one, rows2 (l1 := [9]) (l2 := [5]) (k (hA4.ex hx5) (by omega)) (k (hA2.ex (hx3.trans (hx4.trans hx5))) (by omega)).one (k (hA3.ex (hx4.trans hx5)) (by omega)).one, (k hA5 (by omega)).two⟩
  repeat (first | (refine isC ?_; refine c_ret ?_) | (refine l_th ?_))
  exact ret_cV rfl rfl Tryz.underlying54 rfl (sz_mk _ _ _) hA6 ⟨_, _, _, rfl, hM6, (hx0.trans hx15).store hg6 (by omega)⟩
theorem one_Step1 (rv bv ov pv : Value) (w : World) (hM : Mk w rv bv ov [2] [[9], [5]] [0, 1]) (hp : Ints w pv [2]) : Ct Tryz.prog 24 #[.agg #[rv, bv, ov], pv] w fun u w' => ∃ b, u = .tuple #[sv b 1 1, .bool true, .int .i64 0] ∧ Ints w' (sv b 1 1) [5] ∧ Ex w w' :=
  (Step_ok rv bv ov pv [2] [[9], [5]] [0, 1] [2] w hM hp one_chk (by decide +kernel)).mono fun u w' ⟨b, hu, hO, _, hx⟩ => by
    have e : stepR [[9], [5]] [2] ([2] : List Int).length = some [5] := one_s1
    rw [e] at hu hO
    exact ⟨b, hu, hO.ints, hx⟩
theorem one_Step2 (rv bv ov pv : Value) (w : World) (hM : Mk w rv bv ov [2] [[9], [5]] [0, 1]) (hp : Ints w pv [5]) : Ct Tryz.prog 24 #[.agg #[rv, bv, ov], pv] w fun u w' => ∃ b, u = .tuple #[sv b 1 1, .bool false, .int .i64 0] ∧ Ints w' (sv b 1 1) [5] ∧ Ex w w' :=
  (Step_ok rv bv ov pv [2] [[9], [5]] [0, 1] [5] w hM hp one_chk (by decide +kernel)).mono fun u w' ⟨b, hu, hO, _, hx⟩ => by
    have e : stepR [[9], [5]] [5] ([2] : List Int).length = none := one_s2
    rw [e] at hu hO
    exact ⟨b, hu, hO.ints, hx⟩
theorem one_Least (rv bv ov : Value) (w : World) (hM : Mk w rv bv ov [2] [[9], [5]] [0, 1]) : Ct Tryz.prog 26 #[.agg #[rv, bv, ov]] w fun u w' => ∃ b, u = .tuple #[sv b 1 1, .int .i64 0] ∧ Ints w' (sv b 1 1) [5] ∧ Ex w w' :=
  (Least_ok rv bv ov [2] [[9], [5]] [0, 1] [[2], [5]] w hM one_chk one_run).mono fun u w' ⟨b, hu, hO, _, hx⟩ => ⟨b, hu, hO.ints, hx⟩
theorem two_Least (rv bv ov : Value) (w : World) (hM : Mk w rv bv ov [0, 0] [[4, 4], [4, 4], [3, 0]] [0, 1, 2]) : Ct Tryz.prog 26 #[.agg #[rv, bv, ov]] w fun u w' => ∃ b, u = .tuple #[sv b 2 2, .int .i64 0] ∧ Ints w' (sv b 2 2) [3, 3] ∧ Ex w w' :=
  (Least_ok rv bv ov [0, 0] [[4, 4], [4, 4], [3, 0]] [0, 1, 2] [[0, 0], [3, 3]] w hM two_chk two_run).mono fun u w' ⟨b, hu, hO, _, hx⟩ => ⟨b, hu, hO.ints, hx⟩
set_option maxHeartbeats 4000000 in
theorem lives_ct (w : World) : Ct Tryz.prog 22 #[] w fun u w' => u = .bool true ∧ Ex w w' := by
  refine Exists.elim in_mkt fun ti hti => ?_
  refine enter (N := 98) (vs := []) Tryz.func22 rfl rfl rfl ?_
  repeat (first | (refine isO ?_; refine s_assign ?_) | (refine isC ?_; refine c_sr ?_) | (refine l_th ?_))
  refine s_bs2 sl_ints in_int rfl rfl rfl rfl ?_
  intro b1 w1 hb1 hA1 hx1 hs1
  refine s_bs2 sl_ints in_int rfl rfl rfl rfl ?_
  intro b2 w2 hb2 hA2 hx2 hs2
  refine s_bs2 sl_ints in_int rfl rfl rfl rfl ?_
  intro b3 w3 hb3 hA3 hx3 hs3
  refine s_bs2 sl_ints in_int rfl rfl rfl rfl ?_
  intro b4 w4 hb4 hA4 hx4 hs4
  refine s_bs3 sl_rows in_ints rfl rfl rfl rfl rfl rfl ?_
  intro b5 w5 hb5 hA5 hx5 hs5
  refine s_bs3 sl_ints in_int rfl rfl rfl rfl rfl rfl ?_
  intro b6 w6 hb6 hA6 hx6 hs6
  refine s_bldW (cells := [sv b1 2 2, sv b5 3 3, sv b6 3 3]) (built_mk _ _ _ _ _ _ _ _ _) ?_
  refine s_alloc (cs := [.slice none 0 0, .slice none 0 0, .slice none 0 0]) hti.1 hti.2 rfl ?_
  intro b7 w7 hb7 hA7 hx7 hs7
  refine s_stV (cs := [sv b1 2 2, sv b5 3 3, sv b6 3 3]) (sz_mk _ _ _) rfl rfl hA7 rfl rfl ?_
  intro w8 hA8 hg8 hs8
  have hx06 := hx1.trans (hx2.trans (hx3.trans (hx4.trans (hx5.trans hx6))))
  have hx08 : Ex w w8 := (hx06.trans hx7).store hg8 (by have := hx06.size; omega)
  have hx68 : Ex w6 w8 := hx7.store hg8 (by omega)
  have hR5 : Rows w5 (sv b5 3 3) [[4, 4], [4, 4], [3, 0]] := rows3 (l1 := [4, 4]) (l2 := [4, 4]) (l3 := [3, 0]) hA5 (hA2.two.ex (hx3.trans (hx4.trans hx5))) (hA3.two.ex (hx4.trans hx5)) (hA4.two.ex hx5)
  have hM8 : Mk w8 (sv b1 2 2) (sv b5 3 3) (sv b6 3 3) [0, 0] [[4, 4], [4, 4], [3, 0]] [0, 1, 2] := ⟨hA1.two.ex ((hx2.trans (hx3.trans (hx4.trans (hx5.trans hx6)))).trans hx68), hR5.ex (hx6.trans hx68), hA6.three.ex hx68⟩
  repeat (first | (refine isC ?_; refine c_sr ?_) | (refine l_th ?_))
  refine s_call ok_one rfl (one_ct w8) ?_
  rintro u w9 ⟨r1, v1, o1, rfl, hM9, hx9⟩
  refine s_bs1 sl_ints in_int rfl rfl ?_
  intro ba wa hba hAa hxa hsa
  refine s_call ok_Step rfl (one_Step1 r1 v1 o1 _ wa (hM9.ex hxa) hAa.one) ?_
  rintro u wb ⟨bb, rfl, hI1, hxb⟩
  repeat (first | (refine isO ?_; first | refine s_move ?_ | refine s_assign ?_ | refine s_extract rfl rfl ?_) | (refine isC ?_; refine c_sr ?_) | (refine l_th ?_))
  refine s_call ok_one rfl (one_ct wb) ?_
  rintro u wc ⟨r2, v2, o2, rfl, hMc, hxc⟩
  refine s_bs1 sl_ints in_int rfl rfl ?_
  intro bd wd hbd hAd hxd hsd
  refine s_call ok_Step rfl (one_Step2 r2 v2 o2 _ wd (hMc.ex hxd) hAd.one) ?_
  rintro u we ⟨be, rfl, hI2, hxe⟩
  repeat (first | (refine isO ?_; first | refine s_move ?_ | refine s_assign ?_ | refine s_extract rfl rfl ?_) | (refine isC ?_; refine c_sr ?_) | (refine l_th ?_))
  refine s_call ok_one rfl (one_ct we) ?_
  rintro u wf ⟨r3, v3, o3, rfl, hMf, hxf⟩
  refine s_call ok_rLeast rfl (one_Least r3 v3 o3 wf hMf) ?_
  rintro u wg ⟨bg, rfl, hI3, hxg⟩
  have hx8g : Ex w8 wg := hx9.trans (hxa.trans (hxb.trans (hxc.trans (hxd.trans (hxe.trans (hxf.trans hxg))))))
  repeat (first | (refine isO ?_; first | refine s_move ?_ | refine s_assign ?_ | refine s_extract rfl rfl ?_) | (refine isC ?_; refine c_sr ?_) | (refine l_th ?_))
  refine s_ldV Tryz.underlying54 rfl (sz_mk _ _ _) rfl (hA8.ex hx8g) ?_
  refine s_call ok_rLeast rfl (two_Least _ _ _ wg (hM8.ex hx8g)) ?_
  rintro u wh ⟨bh, rfl, hI4, hxh⟩
  repeat (first | (refine isO ?_; first | refine s_move ?_ | refine s_assign ?_ | refine s_extract rfl rfl ?_) | (refine isC ?_; refine c_sr ?_) | (refine l_th ?_))
  refine s_call ok_one rfl (one_ct wh) ?_
  rintro u wi ⟨r4, v4, o4, rfl, hMi, hxi⟩
  refine s_bs1 sl_ints in_int rfl rfl ?_
  intro bj wj hbj hAj hxj hsj
  refine s_call ok_Step rfl (Step_bad r4 v4 o4 _ [2] [[9], [5]] [0, 1] [1] wj (hMi.ex hxj) hAj.one (by decide +kernel)) ?_
  rintro u wk ⟨rfl, hxk⟩
  have hxbk : Ex wb wk := hxc.trans (hxd.trans (hxe.trans (hxf.trans (hxg.trans (hxh.trans (hxi.trans (hxj.trans hxk)))))))
  have hxek : Ex we wk := hxf.trans (hxg.trans (hxh.trans (hxi.trans (hxj.trans hxk))))
  have hxhk : Ex wh wk := hxi.trans (hxj.trans hxk)
  have hx0k : Ex w wk := hx08.trans ((hx9.trans (hxa.trans hxb)).trans hxbk)
  repeat (first | (refine isO ?_; first | refine s_move ?_ | refine s_assign ?_ | (refine isG ?_; refine g_yes rfl rfl ?_) | (refine isBin ?_; refine s_eqlT rfl rfl (by omega) ?_) | (refine isPick ?_; refine s_pickt rfl rfl ?_) | refine s_extract rfl rfl ?_) | (refine isC ?_; refine c_sr ?_) | (refine l_th ?_))
  refine s_bs1 sl_ints in_int rfl rfl ?_
  intro bl wl hbl hAl hxl hsl
  repeat ((refine isO ?_; (refine isG ?_; refine g_yes rfl rfl ?_)))
  refine s_call ok_SameInts rfl (SameInts_ct _ _ [5] [5] wl (hI1.ex (hxbk.trans hxl)) hAl.one) ?_
  rintro u wm ⟨rfl, hxm⟩
  refine s_re (v' := .bool true) rfl ?_
  repeat ((refine isO ?_; first | refine s_move ?_ | (refine isG ?_; refine g_yes rfl rfl ?_) | (refine isBin ?_; refine s_eqlT rfl rfl (by omega) ?_) | (refine isPick ?_; refine s_pickt rfl rfl ?_) | refine s_not rfl ?_))
  refine s_bs1 sl_ints in_int rfl rfl ?_
  intro bn wn hbn hAn hxn hsn
  have hxkn := hxl.trans (hxm.trans hxn)
  repeat ((refine isO ?_; (refine isG ?_; refine g_yes rfl rfl ?_)))
  refine s_call ok_SameInts rfl (SameInts_ct _ _ [5] [5] wn (hI2.ex (hxek.trans hxkn)) hAn.one) ?_
  rintro u wo ⟨rfl, hxo⟩
  refine s_re (v' := .bool true) rfl ?_
  repeat ((refine isO ?_; first | refine s_move ?_ | (refine isG ?_; refine g_yes rfl rfl ?_) | (refine isBin ?_; refine s_eqlT rfl rfl (by omega) ?_) | (refine isPick ?_; refine s_pickt rfl rfl ?_)))
  refine s_bs1 sl_ints in_int rfl rfl ?_
  intro bp wp hbp hAp hxp hsp
  have hxkp := hxkn.trans (hxo.trans hxp)
  repeat ((refine isO ?_; (refine isG ?_; refine g_yes rfl rfl ?_)))
  refine s_call ok_SameInts rfl (SameInts_ct _ _ [5] [5] wp (hI3.ex ((hxh.trans hxhk).trans hxkp)) hAp.one) ?_
  rintro u wq ⟨rfl, hxq⟩
  refine s_re (v' := .bool true) rfl ?_
  repeat ((refine isO ?_; first | refine s_move ?_ | (refine isG ?_; refine g_yes rfl rfl ?_) | (refine isBin ?_; refine s_eqlT rfl rfl (by omega) ?_) | (refine isPick ?_; refine s_pickt rfl rfl ?_)))
  refine s_bs2 sl_ints in_int rfl rfl rfl rfl ?_
  intro br wr hbr hAr hxr hsr
  have hxkr := hxkp.trans (hxq.trans hxr)
  repeat ((refine isO ?_; (refine isG ?_; refine g_yes rfl rfl ?_)))
  refine s_call ok_SameInts rfl (SameInts_ct _ _ [3, 3] [3, 3] wr (hI4.ex (hxhk.trans hxkr)) hAr.two) ?_
  rintro u ws ⟨rfl, hxs⟩
  refine s_re (v' := .bool true) rfl ?_
  repeat (first | (refine isO ?_; first | refine s_move ?_ | refine s_assign ?_ | (refine isG ?_; refine g_yes rfl rfl ?_) | (refine isBin ?_; refine s_eqlT rfl rfl (by omega) ?_) | (refine isPick ?_; refine s_pickt rfl rfl ?_)) | (refine isC ?_; refine c_ret ?_) | (refine l_th ?_))
  exact ret1 rfl rfl ⟨rfl, hx0k.trans (hxkr.trans hxs)⟩
end Go.Proofs.YtifbgpkjbciblaaGreatDoor.Sal
end
section
/- TW3: twins, and the room behind them. -/
set_option maxRecDepth 100000
namespace Go.Proofs.YtifbgpkjbciblaaGreatDoor.Sal
open Go.RowKit
set_option linter.all false
theorem Rw.posL {w : World} {E : TypeId} {v : Value} {vs : List Value} (h : Rw w E v vs) (hn : 0 < vs.length) : ∃ b c sp, v = sv b vs.length c ∧ At w b E (vs ++ sp) ∧ vs.length ≤ c ∧ c = vs.length + sp.length ∧ c ≤ 9223372036854775807 := by
  obtain ⟨h1, h2⟩ := h
  rcases h2 with ⟨hv, h0⟩ | ⟨g, cap, cur, hv, _, hh, hc, hm, hcs, ht⟩
  · omega
  · rw [Nat.mul_one] at ht hcs
    have e : vs ++ cur.toList.drop vs.length = cur.toList := by
      conv => lhs; lhs; rw [← ht]
      exact List.take_append_drop _ _
    refine ⟨g, cap, cur.toList.drop vs.length, hv, ?_, hc, ?_, by simpa [maxLen] using hm⟩
    · unfold At; rw [hh, e]
    · have h3 : (vs ++ cur.toList.drop vs.length).length = cur.toList.length := congrArg List.length e
      rw [List.length_append] at h3
      have h4 : cur.toList.length = cur.size := Array.length_toList
      omega
/-- A twin: one number more stands behind it, in its room. -/
def TwI (w : World) (b c : Nat) (l : List Int) : Prop := ∃ sp, At w b 3 (l.map (Value.int .i64) ++ .int .i64 77 :: sp) ∧ l.length < c ∧ c = l.length + 1 + sp.length ∧ c ≤ 9223372036854775807 ∧ l.length ≤ 10000
theorem TwI.ex {w w' : World} {b c : Nat} {l : List Int} (h : TwI w b c l) (hx : Ex w w') : TwI w' b c l := let ⟨sp, h1, h2⟩ := h; ⟨sp, h1.ex hx, h2⟩
theorem TwI.grown {w w' : World} {b c : Nat} {l : List Int} {o : Option Nat} (h : TwI w b c l) (hg : w.grownBy w' o) (hne : o ≠ some b) : TwI w' b c l := let ⟨sp, h1, h2⟩ := h; ⟨sp, h1.grown hg hne, h2⟩
theorem TwI.lt {w : World} {b c : Nat} {l : List Int} (h : TwI w b c l) : b < w.heap.size := let ⟨sp, h1, h2⟩ := h; h1.lt
theorem TwI.ints {w : World} {b c : Nat} {l : List Int} (h : TwI w b c l) : Ints w (sv b l.length c) l := by
  obtain ⟨sp, hA, hc, _, _, hm⟩ := h
  have := hA.sl (n := l.length) (c := c) (by simp) (by omega) (by omega)
  rwa [List.take_left' (by simp)] at this
theorem TwI.wd {w : World} {b c : Nat} {l : List Int} (h : TwI w b c l) : Wd w 3 1 (sv b l.length c) l.length (l.map (Value.int .i64)) := by
  obtain ⟨sp, hA, hc, he, h63, hm⟩ := h
  exact ⟨by simp, .inr ⟨b, c, .int .i64 77 :: sp, rfl, hA, by omega, h63, by simp; omega⟩⟩
/-- A twin of lists. -/
def TwL (w : World) (b c : Nat) (rb rc : Nat → Nat) (g : List (List Int)) : Prop :=
  (∃ eb sp, At w b 25 ((List.range g.length).map (fun i => sv (rb i) (g.getD i []).length (rc i)) ++ sv eb 1 1 :: sp) ∧ At w eb 3 [.int .i64 77] ∧ c = g.length + 1 + sp.length) ∧ g.length < c ∧ c ≤ 9223372036854775807 ∧ g.length ≤ 10000 ∧ (∀ i, i < g.length → TwI w (rb i) (rc i) (g.getD i []) ∧ rb i ≠ b) ∧ ∀ i j, i < j → j < g.length → rb i < rb j
theorem TwL.ex {w w' : World} {b c : Nat} {rb rc : Nat → Nat} {g : List (List Int)} (h : TwL w b c rb rc g) (hx : Ex w w') : TwL w' b c rb rc g := by
  obtain ⟨⟨eb, sp, h1, h2, h3⟩, h4, h5, h6, h7, h8⟩ := h
  exact ⟨⟨eb, sp, h1.ex hx, h2.ex hx, h3⟩, h4, h5, h6, fun i hi => ⟨(h7 i hi).1.ex hx, (h7 i hi).2⟩, h8⟩
theorem TwL.sl {w : World} {b c : Nat} {rb rc : Nat → Nat} {g : List (List Int)} (h : TwL w b c rb rc g) : Sl w (sv b g.length c) ((List.range g.length).map (fun i => sv (rb i) (g.getD i []).length (rc i))) := by
  obtain ⟨⟨eb, sp, h1, _⟩, h2, _, h3, _⟩ := h
  have := h1.sl (n := g.length) (c := c) (by simp) (by omega) (by omega)
  rwa [List.take_left' (by simp)] at this
theorem TwL.wd {w : World} {b c : Nat} {rb rc : Nat → Nat} {g : List (List Int)} (h : TwL w b c rb rc g) : Wd w 25 1 (sv b g.length c) g.length ((List.range g.length).map (fun i => sv (rb i) (g.getD i []).length (rc i))) := by
  obtain ⟨⟨eb, sp, h1, _, h2⟩, h3, h4, _⟩ := h
  exact ⟨by simp, .inr ⟨b, c, sv eb 1 1 :: sp, rfl, h1, by omega, h4, by simp; omega⟩⟩
theorem TwL.rows {w : World} {b c : Nat} {rb rc : Nat → Nat} {g : List (List Int)} (h : TwL w b c rb rc g) : Rows w (sv b g.length c) g := by
  refine ⟨_, h.sl, by simp, fun i u l hu hl => ?_⟩
  have hi := (List.getElem?_eq_some_iff.1 hl).1
  obtain ⟨_, _, _, _, h7, _⟩ := h
  have e1 : u = sv (rb i) (g.getD i []).length (rc i) := by simp [hi] at hu; simp [hi, hu]
  have e2 : g.getD i [] = l := by simp [List.getD_eq_getElem?_getD, hl]
  rw [e1]
  have := (h7 i hi).1.ints
  rwa [e2] at this ⊢
attribute [local irreducible] Go.Code.wpIn Go.wpListIn Ct Ints Rows Sl At Rw WJ
attribute [local irreducible] Wd
theorem TwinIntsW_ct (u : Value) (l : List Int) (w : World) (hl : Ints w u l) (hm : l.length ≤ 10000) :
    Ct Tryz.prog 8 #[u] w fun x w' => ∃ b c, x = sv b l.length c ∧ w.heap.size ≤ b ∧ TwI w' b c l ∧ Ex w w' := by
  obtain ⟨ti, hi1, hi2, hi3, hi4⟩ := in_int'
  refine enter (N := 28) (vs := [u]) Tryz.func8 rfl rfl rfl ?_
  repeat (first | (refine isO ?_; first | refine s_move ?_ | refine s_assign ?_ | (refine isBin ?_; refine s_inc rfl (by omega) ?_) | (refine isCall ?_; refine s_lenI sl_ints rfl (by assumption) ?_)) | (refine isC ?_; refine c_sr ?_) | (refine l_th ?_))
  refine s_mk0 (n := l.length + 1) sl_ints hi1 hi2 hi3 rfl hi4 rfl rfl (by omega) ?_
  intro b0 w1 hb0 hR hx1 hs1
  repeat (first | (refine isO ?_; refine s_assign ?_) | (refine isC ?_; first | refine c_sr ?_ | refine c_seq ?_ | refine c_block ?_) | (refine l_th ?_))
  refine c_loop (γ := Nat × Value) 4193816 (fun x => [(4, .int .i64 (x.1 : Int)), (3, x.2)])
    (fun x w' => x.1 ≤ l.length ∧ Rw w' 3 x.2 ((l.take x.1).map (Value.int .i64)) ∧ Ex w w' ∧ ∀ b, x.2.ownBlock = some b → w.heap.size ≤ b) (fun x => l.length - x.1) (0, sv b0 0 (l.length + 1)) ⟨rfl, rfl, trivial⟩
    ⟨Nat.zero_le _, hR, hx1, fun b h => by have h : b0 = b := Option.some.inj h; omega⟩ ?_
  rintro ⟨k, v⟩ ρ w2 ⟨hk, hv, hx, hb⟩
  dsimp only at hk hv hx hb ⊢
  have hl2 := hl.ex hx
  repeat (first | (refine isO ?_; first | refine s_move ?_ | (refine isBin ?_; refine s_lss rfl rfl ?_) | (refine isCall ?_; refine s_lenI sl_ints rfl (by assumption) ?_)) | (refine isC ?_; first | refine c_sr ?_ | refine c_seq ?_) | (refine l_th ?_))
  refine c_ifd rfl (fun h => ?_) (fun h => ?_)
  · have hk' : k < l.length := by omega
    repeat (first | (refine isO ?_; first | refine s_move ?_ | (refine isIA ?_; refine s_ixI sl_ints ty_int rfl rfl rfl (by assumption) (by omega) ?_; intro _)) | (refine isC ?_; first | refine c_th ?_ | refine c_seq ?_ | refine c_region ?_ | refine c_block ?_))
    refine s_bs1 (u := .int .i64 (l.getD k 0)) sl_ints in_int rfl rfl ?_
    intro b1 w3 hb1 hA hx3 hs3
    refine s_app (news := [.int .i64 (l.getD k 0)]) sl_ints in_int (hv.ex hx3) (hA.sl (Nat.le_refl _) (by simp) (by simp)) rfl rfl (one_int _) (by simp; omega) ?_
    intro v' w4 hv' hg hown
    repeat (first | (refine isO ?_; first | refine s_move ?_ | refine s_assign ?_ | (refine isBin ?_; refine s_inc rfl (by omega) ?_)) | (refine isC ?_; refine c_region ?_) | (first | refine l_th ?_ | refine l_nil ?_))
    refine loop_end (k + 1, v') (by (repeat (first | exact agree_refl _ _ | refine agree_upd rfl ?_ | refine agree_ext rfl ?_ | refine agree_mask rfl ?_))) ⟨rfl, rfl, trivial⟩ ⟨hk', ?_, (hx.trans hx3).storeo hg hb, ?_⟩ (by dsimp only; omega)
    · dsimp only; rw [take_map_succ hk']; exact hv'
    · intro b hb'
      rcases hown with h1 | h1
      · exact hb b (h1.symm.trans hb')
      · have := h1 b hb'; have := hx.size; have := hx3.size; omega
  · have hkn : k = l.length := by omega
    subst hkn
    rw [List.take_length] at hv
    repeat (first | (refine isO ?_; refine s_move ?_) | (refine isC ?_; first | refine c_sr ?_ | refine c_exit ?_))
    refine s_bs1 (u := .int .i64 77) sl_ints in_int rfl rfl ?_
    intro b1 w3 hb1 hA hx3 hs3
    refine s_app (news := [.int .i64 77]) sl_ints in_int (hv.ex hx3) (hA.sl (Nat.le_refl _) (by simp) (by simp)) rfl rfl (one_int _) (by simp; omega) ?_
    intro v' w4 hv' hg hown
    obtain ⟨b2, c2, sp, rfl, hA4, hc, hcl, hcm⟩ := hv'.posL (by simp)
    have hfr : w.heap.size ≤ b2 := by
      rcases hown with h1 | h1
      · exact hb b2 h1.symm
      · have := h1 b2 rfl; have := hx.size; have := hx3.size; omega
    simp only [List.length_append, List.length_map, List.length_singleton] at hc hcl
    have hx4 := (hx.trans hx3).storeo hg hb
    have hl4 := hl.ex hx4
    repeat ((refine isO ?_; first | refine s_move ?_ | (refine isCall ?_; refine s_lenI sl_ints rfl (by assumption) ?_)))
    refine s_head (hi := l.length) sl_ints ty_int rfl rfl (by omega) ?_
    repeat (first | (refine isO ?_; refine s_assign ?_) | (refine isC ?_; refine c_ret ?_) | (refine l_th ?_))
    refine ret1 rfl rfl ⟨b2, c2, rfl, hfr, ⟨sp, by rw [List.append_assoc] at hA4; exact hA4, by omega, by omega, hcm, hm⟩, hx4⟩

theorem TwinIntListsW_ct (u : Value) (g : List (List Int)) (w : World) (hg : Rows w u g) (hm : g.length ≤ 10000) (hr : ∀ i, i < g.length → (g.getD i []).length ≤ 10000) :
    Ct Tryz.prog 7 #[u] w fun x w' => ∃ b c rb rc, x = sv b g.length c ∧ w.heap.size ≤ b ∧ (∀ i, i < g.length → w.heap.size ≤ rb i) ∧ TwL w' b c rb rc g ∧ Ex w w' := by
  obtain ⟨ti, hi1, hi2, hi3, hi4⟩ := in_ints.ex
  refine enter (N := 30) (vs := [u]) Tryz.func7 rfl rfl rfl ?_
  repeat (first | (refine isO ?_; first | refine s_move ?_ | refine s_assign ?_ | (refine isBin ?_; refine s_inc rfl (by omega) ?_) | (refine isCall ?_; refine s_lenR sl_rows rfl (by assumption) ?_)) | (refine isC ?_; refine c_sr ?_) | (refine l_th ?_))
  refine s_mk0 (n := g.length + 1) sl_rows hi1 hi2 hi3 rfl hi4 rfl rfl (by omega) ?_
  intro b0 w1 hb0 hR hx1 hs1
  repeat (first | (refine isO ?_; refine s_assign ?_) | (refine isC ?_; first | refine c_sr ?_ | refine c_seq ?_ | refine c_block ?_) | (refine l_th ?_))
  refine c_loop (γ := Nat × Value × (Nat → Nat) × (Nat → Nat)) 8388120 (fun x => [(4, .int .i64 (x.1 : Int)), (3, x.2.1)])
    (fun x w' => x.1 ≤ g.length ∧ Rw w' 25 x.2.1 ((List.range x.1).map (fun i => sv (x.2.2.1 i) (g.getD i []).length (x.2.2.2 i))) ∧ Ex w w' ∧ (∀ b, x.2.1.ownBlock = some b → w.heap.size ≤ b) ∧
      (∀ i, i < x.1 → TwI w' (x.2.2.1 i) (x.2.2.2 i) (g.getD i []) ∧ some (x.2.2.1 i) ≠ x.2.1.ownBlock ∧ w.heap.size ≤ x.2.2.1 i) ∧ ∀ i j, i < j → j < x.1 → x.2.2.1 i < x.2.2.1 j) (fun x => g.length - x.1) (0, sv b0 0 (g.length + 1), fun _ => 0, fun _ => 0) ⟨rfl, rfl, trivial⟩
    ⟨Nat.zero_le _, hR, hx1, fun b h => by have h : b0 = b := Option.some.inj h; omega, fun i h => absurd h (Nat.not_lt_zero _), fun i j _ h => absurd h (Nat.not_lt_zero _)⟩ ?_
  rintro ⟨k, v, rb, rc⟩ ρ w2 ⟨hk, hv, hx, hb, hO, hmon⟩
  dsimp only at hk hv hx hb hO hmon ⊢
  have hg2 := hg.ex hx
  repeat (first | (refine isO ?_; first | refine s_move ?_ | (refine isBin ?_; refine s_lss rfl rfl ?_) | (refine isCall ?_; refine s_lenR sl_rows rfl (by assumption) ?_)) | (refine isC ?_; first | refine c_sr ?_ | refine c_seq ?_) | (refine l_th ?_))
  refine c_ifd rfl (fun h => ?_) (fun h => ?_)
  · have hk' : k < g.length := by omega
    repeat (first | (refine isO ?_; refine s_move ?_) | (refine isC ?_; first | refine c_th ?_ | refine c_seq ?_ | refine c_region ?_ | refine c_block ?_))
    refine s_ixR sl_rows ty_ints rfl rfl rfl hg2 hk' ?_
    intro _ u1 hu1
    refine s_call ok_TwinInts rfl (TwinIntsW_ct u1 _ w2 hu1 (hr k hk')) ?_
    rintro u2 w3 ⟨b1, c1, rfl, hb1, hO1, hx3⟩
    refine s_bs1 (u := sv b1 (g.getD k []).length c1) sl_rows in_ints rfl rfl ?_
    intro b2 w4 hb2 hA hx4 hs4
    refine s_app (news := [sv b1 (g.getD k []).length c1]) sl_rows in_ints (hv.ex (hx3.trans hx4)) (hA.sl (Nat.le_refl _) (by simp) (by simp)) rfl rfl (by intro q hq; simp at hq; subst hq; rfl) (by simp; omega) ?_
    intro v' w5 hv' hgr hown
    repeat (first | (refine isO ?_; first | refine s_move ?_ | refine s_assign ?_ | (refine isBin ?_; refine s_inc rfl (by omega) ?_)) | (refine isC ?_; refine c_region ?_) | (first | refine l_th ?_ | refine l_nil ?_))
    have hv2 : ∀ b, v.ownBlock = some b → b < w2.heap.size := hv.lt
    have hsz3 := hx3.size
    have hsz4 := hx4.size
    have hsz := hx.size
    refine loop_end (k + 1, v', updN rb k b1, updN rc k c1) (by (repeat (first | exact agree_refl _ _ | refine agree_upd rfl ?_ | refine agree_ext rfl ?_ | refine agree_mask rfl ?_))) ⟨rfl, rfl, trivial⟩ ⟨hk', ?_, ((hx.trans hx3).trans hx4).storeo hgr hb, ?_, ?_, ?_⟩ (by dsimp only; omega)
    · dsimp only
      have e : (List.range (k + 1)).map (fun i => sv (updN rb k b1 i) (g.getD i []).length (updN rc k c1 i)) = (List.range k).map (fun i => sv (rb i) (g.getD i []).length (rc i)) ++ [sv b1 (g.getD k []).length c1] := by
        rw [List.range_succ, List.map_append]
        congr 1
        · apply List.map_congr_left
          intro i hi
          have : i ≠ k := by have := List.mem_range.1 hi; omega
          simp [updN, this]
        · simp [updN]
      rw [e]; exact hv'
    · intro b hb'
      rcases hown with h1 | h1
      · exact hb b (h1.symm.trans hb')
      · have := h1 b hb'; omega
    · intro i hi
      dsimp only at hi ⊢
      by_cases hik : i = k
      · subst hik
        have e1 : updN rb i b1 i = b1 := by simp [updN]
        have e2 : updN rc i c1 i = c1 := by simp [updN]
        rw [e1, e2]
        have hb1lt := hO1.lt
        refine ⟨(hO1.ex hx4).grown hgr (fun e => ?_), fun e => ?_, by omega⟩
        · have := hv2 b1 e; omega
        · rcases hown with h1 | h1
          · have := hv2 b1 (h1.symm.trans e.symm); omega
          · have := h1 b1 e.symm; omega
      · have e1 : updN rb k b1 i = rb i := by simp [updN, hik]
        have e2 : updN rc k c1 i = rc i := by simp [updN, hik]
        rw [e1, e2]
        obtain ⟨hOi, hne, hge⟩ := hO i (by omega)
        have hlt := hOi.lt
        refine ⟨((hOi.ex hx3).ex hx4).grown hgr (fun e => hne e.symm), fun e => ?_, hge⟩
        rcases hown with h1 | h1
        · exact hne (e.trans h1)
        · have := h1 (rb i) e.symm; omega
    · intro i j hij hj
      dsimp only at hj ⊢
      by_cases hjk : j = k
      · subst hjk
        have e1 : updN rb j b1 j = b1 := by simp [updN]
        have hij' : i ≠ j := by omega
        have e2 : updN rb j b1 i = rb i := by simp [updN, hij']
        rw [e1, e2]
        have := (hO i (by omega)).1.lt; omega
      · have hik : i ≠ k := by omega
        have e1 : updN rb k b1 j = rb j := by simp [updN, hjk]
        have e2 : updN rb k b1 i = rb i := by simp [updN, hik]
        rw [e1, e2]
        exact hmon i j hij (by omega)
  · have hkn : k = g.length := by omega
    subst hkn
    repeat (first | (refine isO ?_; refine s_move ?_) | (refine isC ?_; first | refine c_sr ?_ | refine c_exit ?_))
    refine s_bs1 (u := .int .i64 77) sl_ints in_int rfl rfl ?_
    intro b1 w3 hb1 hA hx3 hs3
    refine s_bs1 (u := sv b1 1 1) sl_rows in_ints rfl rfl ?_
    intro b2 w4 hb2 hA2 hx4 hs4
    refine s_app (news := [sv b1 1 1]) sl_rows in_ints (hv.ex (hx3.trans hx4)) (hA2.sl (Nat.le_refl _) (by simp) (by simp)) rfl rfl (by intro q hq; simp at hq; subst hq; rfl) (by simp; omega) ?_
    intro v' w5 hv' hgr hown
    obtain ⟨b3, c3, sp, rfl, hA5, hc, hcl, hcm⟩ := hv'.posL (by simp)
    have hsz3 := hx3.size
    have hsz4 := hx4.size
    have hsz := hx.size
    have hfr : w.heap.size ≤ b3 := by
      rcases hown with h1 | h1
      · exact hb b3 h1.symm
      · have := h1 b3 rfl; omega
    simp only [List.length_append, List.length_map, List.length_range, List.length_singleton] at hc hcl
    have hb13 : b1 ≠ b3 := fun e => by
      have hl1 := hA.lt
      rcases hown with h1 | h1
      · have := hv.lt b3 h1.symm; omega
      · have := h1 b3 rfl; have := hA2.lt; omega
    have hA15 := (hA.ex hx4).grown hgr (fun e => by have := hv.lt b1 e; omega)
    have hx5 := ((hx.trans hx3).trans hx4).storeo hgr hb
    have hg5 := hg.ex hx5
    repeat ((refine isO ?_; first | refine s_move ?_ | (refine isCall ?_; refine s_lenR sl_rows rfl (by assumption) ?_)))
    refine s_head (hi := g.length) sl_rows ty_ints rfl rfl (by omega) ?_
    repeat (first | (refine isO ?_; refine s_assign ?_) | (refine isC ?_; refine c_ret ?_) | (refine l_th ?_))
    refine ret1 rfl rfl ⟨b3, c3, rb, rc, rfl, hfr, fun i hi => (hO i hi).2.2, ⟨⟨b1, sp, by rw [List.append_assoc] at hA5; exact hA5, hA15, by omega⟩, by omega, hcm, by omega, fun i hi => ?_, hmon⟩, hx5⟩
    obtain ⟨hOi, hne, hge⟩ := hO i hi
    have hlt := hOi.lt
    refine ⟨((hOi.ex hx3).ex hx4).grown hgr (fun e => hne e.symm), fun e => ?_⟩
    rcases hown with h1 | h1
    · exact hne (by rw [e]; exact h1)
    · have := h1 b3 rfl; omega
theorem ok_LeftInts : CallOK Tryz.prog 15 := callOK Tryz.func15 (by kernel_rfl) rfl
theorem ok_LeftIntLists : CallOK Tryz.prog 14 := callOK Tryz.func14 (by kernel_rfl) rfl
theorem LeftInts_ct (b c : Nat) (l : List Int) (y : Value) (w : World) (hT : TwI w b c l) (hy : Ints w y l) :
    Ct Tryz.prog 15 #[sv b l.length c, y] w fun x w' => x = .bool true ∧ Ex w w' := by
  have hI := hT.ints
  obtain ⟨sp, hA, hc, he, h63, hm⟩ := hT
  have hS : Sl w (sv b (l.length + 1) c) (l.map (Value.int .i64) ++ [.int .i64 77]) := by
    have := hA.sl (n := l.length + 1) (c := c) (by simp) (by omega) (by omega)
    have e : (l.map (Value.int .i64) ++ .int .i64 77 :: sp).take (l.length + 1) = l.map (Value.int .i64) ++ [.int .i64 77] := by
      rw [List.take_append, List.take_of_length_le (by simp)]; simp
    rwa [e] at this
  refine enter (N := 45) (vs := [sv b l.length c, y]) Tryz.func15 rfl rfl rfl ?_
  repeat (first | (refine isO ?_; first | refine s_move ?_ | refine s_assign ?_ | (refine isG ?_; refine g_yes rfl rfl ?_) | (refine isBin ?_; refine s_neqF rfl rfl (by omega) ?_) | (refine isCall ?_; refine s_lenI sl_ints rfl (by assumption) ?_)) | (refine isC ?_; first | refine c_sr ?_ | refine c_seq ?_) | (refine l_th ?_))
  refine s_cap (a := some ⟨b, 0, none⟩) (n := l.length) (c := c) sl_ints rfl ?_
  repeat (first | (refine isO ?_; first | refine s_move ?_ | refine s_assign ?_ | (refine isG ?_; refine g_yes rfl rfl ?_) | (refine isBin ?_; refine s_leqF rfl rfl (by omega) ?_) | (refine isCall ?_; refine s_lenI sl_ints rfl (by assumption) ?_) | (refine isPick ?_; refine s_pickf rfl rfl ?_)) | (refine isC ?_; first | refine c_sr ?_ | refine c_th ?_ | refine c_seq ?_ | refine c_iff rfl ?_ | refine c_block ?_) | (refine l_th ?_))
  refine c_loop (γ := Nat) 17179344944 (fun k => [(5, .int .i64 (k : Int))]) (fun k W => k ≤ l.length ∧ Ex w W) (fun k => l.length - k) 0 ⟨rfl, trivial⟩ ⟨Nat.zero_le _, Ex.refl _⟩ ?_
  rintro k ρ W ⟨hk, hx⟩
  have hyW := hy.ex hx
  repeat (first | (refine isO ?_; first | refine s_move ?_ | (refine isBin ?_; refine s_lss rfl rfl ?_) | (refine isCall ?_; refine s_lenI sl_ints rfl (by assumption) ?_)) | (refine isC ?_; first | refine c_sr ?_ | refine c_seq ?_) | (refine l_th ?_))
  refine c_ifd rfl (fun h => ?_) (fun h => ?_)
  · have hk' : k < l.length := by omega
    repeat ((refine isC ?_; first | refine c_th ?_ | refine c_seq ?_ | refine c_block ?_))
    refine c_drawO hx 0 8 [(0, true), (1, true), (2, true), (3, true), (4, true), (5, true), (6, true), (7, true), (8, true)] mixed (by kernel_rfl) ?_
    refine d_move rfl ?_
    refine d_move rfl ?_
    refine d_iaI (n := k) rfl sl_ints ty_int rfl rfl hI hk' ?_
    intro ad1 hc1
    refine d_ld rfl ty_int rfl hc1 ?_
    refine d_move rfl ?_
    refine d_move rfl ?_
    refine d_iaI (n := k) rfl sl_ints ty_int rfl rfl hy hk' ?_
    intro ad2 hc2
    refine d_ld rfl ty_int rfl hc2 ?_
    refine d_neq rfl rfl rfl ?_
    refine d_re (v' := .bool false) (vbool (by simp)) ?_
    refine d_nil ?_
    repeat (first | (refine isO ?_; first | refine s_move ?_ | refine s_assign ?_ | (refine isBin ?_; refine s_inc rfl (by omega) ?_)) | (refine isC ?_; first | refine c_region ?_ | refine c_iff rfl ?_ | refine c_skip ?_) | (refine l_th ?_))
    exact loop_end (k + 1) (by (repeat (first | exact agree_refl _ _ | refine agree_upd rfl ?_ | refine agree_ext rfl ?_ | refine agree_mask rfl ?_))) ⟨rfl, trivial⟩ ⟨hk', hx.trans (Ex.drew W)⟩ (by omega)
  · have hSW := hS.ex hx
    repeat (first | (refine isO ?_; first | refine s_move ?_ | (refine isBin ?_; refine s_inc rfl (by omega) ?_) | (refine isCall ?_; refine s_lenI sl_ints rfl (by assumption) ?_)) | (refine isC ?_; first | refine c_sr ?_ | refine c_exit ?_))
    refine s_head (hi := l.length + 1) sl_ints ty_int rfl (vint (by omega)) (by omega) ?_
    repeat ((refine isO ?_; first | refine s_move ?_ | (refine isCall ?_; refine s_lenI sl_ints rfl (by assumption) ?_)))
    refine s_ix (n := l.length) (u := .int .i64 77) sl_ints ty_int rfl rfl rfl hSW (by rw [List.getElem?_append_right (by simp)]; simp) ?_
    intro _
    repeat (first | (refine isO ?_; first | refine s_move ?_ | refine s_assign ?_ | (refine isBin ?_; refine s_eqlT rfl rfl (by omega) ?_)) | (refine isC ?_; first | refine c_sr ?_ | refine c_ret ?_) | (refine l_th ?_))
    exact ret1 rfl rfl ⟨rfl, hx⟩
theorem LeftIntLists_ct (b c : Nat) (rb rc : Nat → Nat) (g : List (List Int)) (y : Value) (w : World) (hT : TwL w b c rb rc g) (hy : Rows w y g) :
    Ct Tryz.prog 14 #[sv b g.length c, y] w fun x w' => x = .bool true ∧ Ex w w' := by
  have hsl := hT.sl
  obtain ⟨⟨eb, sp, hA, hE, he⟩, hc, h63, hm, hR, _⟩ := hT
  have hS : Sl w (sv b (g.length + 1) c) ((List.range g.length).map (fun i => sv (rb i) (g.getD i []).length (rc i)) ++ [sv eb 1 1]) := by
    have := hA.sl (n := g.length + 1) (c := c) (by simp) (by omega) (by omega)
    have e : ((List.range g.length).map (fun i => sv (rb i) (g.getD i []).length (rc i)) ++ sv eb 1 1 :: sp).take (g.length + 1) = (List.range g.length).map (fun i => sv (rb i) (g.getD i []).length (rc i)) ++ [sv eb 1 1] := by
      rw [List.take_append, List.take_of_length_le (by simp)]; simp
    rwa [e] at this
  have hIE : Ints w (sv eb 1 1) [77] := hE.one
  refine enter (N := 53) (vs := [sv b g.length c, y]) Tryz.func14 rfl rfl rfl ?_
  repeat (first | (refine isO ?_; first | refine s_move ?_ | refine s_assign ?_ | (refine isG ?_; refine g_yes rfl rfl ?_) | (refine isBin ?_; refine s_neqF rfl rfl (by omega) ?_) | (refine isCall ?_; first | refine s_lenR sl_rows rfl (by assumption) ?_ | refine s_len sl_rows rfl ?_)) | (refine isC ?_; first | refine c_sr ?_ | refine c_seq ?_) | (refine l_th ?_))
  refine s_cap (a := some ⟨b, 0, none⟩) (n := g.length) (c := c) sl_rows rfl ?_
  repeat (first | (refine isO ?_; first | refine s_move ?_ | refine s_assign ?_ | (refine isG ?_; refine g_yes rfl rfl ?_) | (refine isBin ?_; refine s_leqF rfl rfl (by omega) ?_) | (refine isCall ?_; refine s_lenR sl_rows rfl (by assumption) ?_) | (refine isPick ?_; refine s_pickf rfl rfl ?_)) | (refine isC ?_; first | refine c_sr ?_ | refine c_th ?_ | refine c_seq ?_ | refine c_iff rfl ?_ | refine c_block ?_) | (refine l_th ?_))
  refine c_loop (γ := Nat) 34359214128 (fun k => [(5, .int .i64 (k : Int))]) (fun k W => k ≤ g.length ∧ Ex w W) (fun k => g.length - k) 0 ⟨rfl, trivial⟩ ⟨Nat.zero_le _, Ex.refl _⟩ ?_
  rintro k ρ W ⟨hk, hx⟩
  have hyW := hy.ex hx
  repeat (first | (refine isO ?_; first | refine s_move ?_ | (refine isBin ?_; refine s_lss rfl rfl ?_) | (refine isCall ?_; refine s_lenR sl_rows rfl (by assumption) ?_)) | (refine isC ?_; first | refine c_sr ?_ | refine c_seq ?_) | (refine l_th ?_))
  refine c_ifd rfl (fun h => ?_) (fun h => ?_)
  · have hk' : k < g.length := by omega
    repeat ((refine isC ?_; first | refine c_th ?_ | refine c_seq ?_ | refine c_block ?_))
    refine c_drawO hx 0 8 [(0, true), (1, true), (2, true), (3, true), (4, true), (5, true), (6, true), (7, true), (8, false), (9, true)] mixed (by kernel_rfl) ?_
    refine d_move rfl ?_
    refine d_move rfl ?_
    refine d_ia (n := k) (u := sv (rb k) (g.getD k []).length (rc k)) rfl sl_rows ty_ints rfl rfl hsl (by simp [hk']) ?_
    intro ad1 hc1
    refine d_ld rfl ty_ints rfl hc1 ?_
    refine d_move rfl ?_
    refine d_move rfl ?_
    refine d_iaR (n := k) rfl sl_rows ty_ints rfl rfl hy hk' ?_
    intro ad2 r2 hc2 hr2
    refine d_ld rfl ty_ints rfl hc2 ?_
    have hxd := hx.trans (Ex.drew W)
    refine d_ch rfl ?_
    refine s_call ok_LeftInts rfl (LeftInts_ct (rb k) (rc k) (g.getD k []) r2 W.drew ((hR k hk').1.ex hxd) (hr2.ex hxd)) ?_
    rintro v w1 ⟨rfl, hx1⟩
    refine l_nil ⟨rfl, .inr (hxd.trans hx1), ?_⟩
    refine d_not rfl rfl ?_
    refine d_nil ?_
    repeat (first | (refine isO ?_; first | refine s_move ?_ | refine s_assign ?_ | (refine isBin ?_; refine s_inc rfl (by omega) ?_)) | (refine isC ?_; first | refine c_region ?_ | refine c_iff rfl ?_ | refine c_skip ?_) | (refine l_th ?_))
    exact loop_end (k + 1) (by (repeat (first | exact agree_refl _ _ | refine agree_upd rfl ?_ | refine agree_ext rfl ?_ | refine agree_mask rfl ?_))) ⟨rfl, trivial⟩ ⟨hk', hxd.trans hx1⟩ (by omega)
  · have hSW := hS.ex hx
    have hIW := hIE.ex hx
    repeat (first | (refine isO ?_; first | refine s_move ?_ | (refine isBin ?_; refine s_inc rfl (by omega) ?_) | (refine isCall ?_; refine s_lenR sl_rows rfl (by assumption) ?_)) | (refine isC ?_; first | refine c_sr ?_ | refine c_exit ?_))
    refine s_head (hi := g.length + 1) sl_rows ty_ints rfl (vint (by omega)) (by omega) ?_
    repeat ((refine isO ?_; first | refine s_move ?_ | (refine isCall ?_; refine s_lenR sl_rows rfl (by assumption) ?_)))
    refine s_ix (n := g.length) (u := sv eb 1 1) sl_rows ty_ints rfl rfl rfl hSW (by rw [List.getElem?_append_right (by simp)]; simp) ?_
    intro _
    repeat (first | (refine isO ?_; first | refine s_move ?_ | refine s_assign ?_ | (refine isG ?_; refine g_yes rfl rfl ?_) | (refine isBin ?_; refine s_eql rfl rfl ?_) | (refine isCall ?_; refine s_lenI sl_ints rfl (by assumption) ?_)) | (refine isC ?_; refine c_sr ?_) | (refine l_th ?_))
    refine s_iaI (n := 0) sl_ints ty_int rfl rfl hIW (by simp) ?_
    intro ad hc1
    refine g_yes rfl rfl ?_
    have hc2 : W.cell? ad = some (.int .i64 77) := hc1
    refine s_ld ty_int rfl hc2 ?_
    repeat (first | (refine isO ?_; first | refine s_assign ?_ | (refine isG ?_; refine g_yes rfl rfl ?_) | (refine isBin ?_; refine s_eqlT rfl rfl (by omega) ?_) | (refine isPick ?_; refine s_pickt rfl rfl ?_)) | (refine isC ?_; refine c_ret ?_) | (refine l_th ?_))
    exact ret1 rfl rfl ⟨rfl, hx⟩
end Go.Proofs.YtifbgpkjbciblaaGreatDoor.Sal
end
section
/- salesroomlaw01.TwinMarket. -/
set_option maxRecDepth 100000
namespace Go.Proofs.YtifbgpkjbciblaaGreatDoor.Sal
open Go.RowKit
/-- A market of the call's own. -/
structure MkO (w0 w : World) (b1 c1 b2 c2 : Nat) (rb rc : Nat → Nat) (b3 c3 : Nat) (res : List Int) (bids : List (List Int)) (ord : List Int) : Prop where
  r : OwnI w 3 b1 c1 res
  b : Mat w 25 3 b2 c2 rb rc bids
  o : OwnI w 3 b3 c3 ord
  n12 : b1 ≠ b2
  n13 : b1 ≠ b3
  n23 : b2 ≠ b3
  nr : ∀ i, i < bids.length → rb i ≠ b1 ∧ rb i ≠ b3
  l1 : w0.heap.size ≤ b1
  l2 : w0.heap.size ≤ b2
  l3 : w0.heap.size ≤ b3
  lr : ∀ i, i < bids.length → w0.heap.size ≤ rb i
theorem MkO.mk' {w0 w : World} {b1 c1 b2 c2 : Nat} {rb rc : Nat → Nat} {b3 c3 : Nat} {res : List Int} {bids : List (List Int)} {ord : List Int} (h : MkO w0 w b1 c1 b2 c2 rb rc b3 c3 res bids ord) : Mk w (sv b1 res.length c1) (sv b2 bids.length c2) (sv b3 ord.length c3) res bids ord := ⟨h.r.ints, h.b.rows, h.o.ints⟩
theorem MkO.ex {w0 w w' : World} {b1 c1 b2 c2 : Nat} {rb rc : Nat → Nat} {b3 c3 : Nat} {res : List Int} {bids : List (List Int)} {ord : List Int} (h : MkO w0 w b1 c1 b2 c2 rb rc b3 c3 res bids ord) (hx : Ex w w') : MkO w0 w' b1 c1 b2 c2 rb rc b3 c3 res bids ord :=
  { h with r := h.r.ex hx, b := h.b.ex hx, o := h.o.ex hx }
attribute [local irreducible] Go.Code.wpIn Go.wpListIn Ct Ints Rows Sl At Rw WJ
attribute [local irreducible] Wd
set_option linter.all false
theorem ok_TwinMarket : CallOK Tryz.prog 23 := callOK Tryz.func23 (by kernel_rfl) rfl
end Go.Proofs.YtifbgpkjbciblaaGreatDoor.Sal
end
section
/- Plain: orders. -/
set_option maxRecDepth 100000
namespace Go.Proofs.YtifbgpkjbciblaaGreatDoor.Sal
set_option linter.all false
def upI (m : Nat) : List Int := (List.range m).map fun k : Nat => (k : Int)
theorem upI_nodup (m : Nat) : (upI m).Nodup := by
  unfold upI
  exact List.Pairwise.map _ (fun a b h e => h (by omega)) List.nodup_range
theorem upI_count (m k : Nat) : (upI m).count (k : Int) = if k < m then 1 else 0 := by
  have hmem : (k : Int) ∈ upI m ↔ k < m := by
    unfold upI
    rw [List.mem_map]
    constructor
    · rintro ⟨a, ha, e⟩; have := List.mem_range.1 ha; omega
    · intro h; exact ⟨k, List.mem_range.2 h, rfl⟩
  split
  · rename_i h; have h1 := List.count_pos_iff.2 (hmem.2 h)
    have h2 := List.nodup_iff_count.1 (upI_nodup m) (k : Int)
    omega
  · rename_i h; exact List.count_eq_zero.2 (fun hh => h (hmem.1 hh))
theorem ord_perm {l : List Int} {m : Nat} (hm : m ≤ 8) : ordB l m = true ↔ l.Perm (upI m) := by
  unfold ordB
  rw [Bool.and_eq_true, List.all_eq_true, decide_eq_true_eq, List.map_inj_left]
  constructor
  · rintro ⟨h1, h2⟩
    rw [List.perm_iff_count]
    intro a
    by_cases ha : 0 ≤ a ∧ a < 8
    · obtain ⟨k, rfl⟩ : ∃ k : Nat, a = (k : Int) := ⟨a.toNat, by omega⟩
      have := h2 k (List.mem_range.2 (by omega))
      rw [upI_count]
      split at this <;> rename_i h <;> simp only [h, if_true, if_false] <;> omega
    · have e1 : l.count a = 0 := List.count_eq_zero.2 fun hh => by have := h1 a hh; simp at this; omega
      have e2 : (upI m).count a = 0 := List.count_eq_zero.2 fun hh => by
        unfold upI at hh
        obtain ⟨k, hk, rfl⟩ := List.mem_map.1 hh
        have := List.mem_range.1 hk
        omega
      rw [e1, e2]
  · intro h
    refine ⟨fun x hx => ?_, fun k _ => ?_⟩
    · obtain ⟨k, hk, rfl⟩ := List.mem_map.1 (h.mem_iff.1 hx : x ∈ upI m)
      have := List.mem_range.1 hk
      simp; omega
    · rw [h.count_eq, upI_count]; split <;> rfl
theorem ord_len {l : List Int} {m : Nat} (hm : m ≤ 8) (h : ordB l m = true) : l.length = m := by
  rw [((ord_perm hm).1 h).length_eq]; simp [upI]
end Go.Proofs.YtifbgpkjbciblaaGreatDoor.Sal
end
section
/- RR1: the document's check of a bid and of a market. -/
set_option maxRecDepth 100000
namespace Go.Proofs.YtifbgpkjbciblaaGreatDoor.Sal
open Go.RowKit
set_option linter.all false
theorem ok_Check4 : CallOK Tryz.prog 120 := callOK Tryz.func120 (by kernel_rfl) rfl
theorem ok_Check5 : CallOK Tryz.prog 83 := callOK Tryz.func83 (by kernel_rfl) rfl
theorem vec_bad {bid : List Int} {items : Int} (h : items < 1 ∨ 8 < items ∨ (bid.length : Int) ≠ items) : vecB bid items = false := by
  unfold vecB inM
  rcases h with h | h | h
  · rw [decide_eq_false (show ¬ (0 : Int) ≤ items - 1 by omega)]; rfl
  · rw [decide_eq_false (show ¬ items - 1 ≤ 7 by omega)]; simp
  · rw [decide_eq_false h]; simp
theorem vec_bad2 {bid : List Int} {items : Int} {k : Nat} (hk : k < bid.length) (h : bid.getD k 0 < 0 ∨ 1000000 < bid.getD k 0) : vecB bid items = false := by
  unfold vecB
  have e : inM 1000000 (bid.getD k 0) = false := by
    unfold inM
    rcases h with h | h
    · rw [decide_eq_false (show ¬ 0 ≤ bid.getD k 0 by omega)]; rfl
    · rw [decide_eq_false (show ¬ bid.getD k 0 ≤ 1000000 by omega)]; simp
  rw [all_false_of hk e]
  simp
theorem vec_good {bid : List Int} {items : Int} (h1 : 1 ≤ items) (h8 : items ≤ 8) (hl : (bid.length : Int) = items) (h : ∀ k, k < bid.length → 0 ≤ bid.getD k 0 ∧ bid.getD k 0 ≤ 1000000) : vecB bid items = true := by
  unfold vecB inM
  rw [decide_eq_true (show (0 : Int) ≤ items - 1 by omega), decide_eq_true (show items - 1 ≤ 7 by omega), decide_eq_true hl, Bool.true_and, Bool.true_and, Bool.true_and, List.all_eq_true]
  intro x hx
  obtain ⟨k, hk, rfl⟩ := List.getElem_of_mem hx
  have := h k hk
  rw [List.getD_eq_getElem?_getD, List.getElem?_eq_getElem hk] at this
  simpa using this
attribute [local irreducible] Go.Code.wpIn Go.wpListIn Ct Ints Rows Sl At Rw WJ
set_option maxHeartbeats 4000000 in
theorem Check4_ct (v : Value) (bid : List Int) (items : Int) (w : World) (hl : Ints w v bid) :
    Ct Tryz.prog 120 #[v, .int .i64 items] w fun u w' => u = .bool (vecB bid items) ∧ Ex w w' := by
  have hlen := hl.len
  refine enter (N := 35) (vs := [v, .int .i64 items]) Tryz.func120 rfl rfl rfl ?_
  by_cases h1 : items < 1
  · repeat (first | (refine isO ?_; first | refine s_move ?_ | refine s_assign ?_ | (refine isG ?_; refine g_no rfl rfl rfl ?_) | (refine isBin ?_; refine s_lssT rfl rfl (by omega) ?_) | (refine isPick ?_; refine s_pickt rfl rfl ?_)) | (refine isC ?_; first | refine c_sr ?_ | refine c_seq ?_ | refine c_ift rfl ?_ | refine c_ret ?_) | (first | refine l_th ?_ | refine th_ret ?_))
    exact ret1 rfl rfl ⟨congrArg Value.bool (vec_bad (.inl h1)).symm, Ex.refl _⟩
  by_cases h2 : 8 < items
  · repeat (first | (refine isO ?_; first | refine s_move ?_ | refine s_assign ?_ | (refine isG ?_; first | refine g_yes rfl rfl ?_ | refine g_no rfl rfl rfl ?_) | (refine isBin ?_; first | refine s_lssF rfl rfl (by omega) ?_ | refine s_gtrT rfl rfl (by omega) ?_) | (refine isPick ?_; first | refine s_pickt rfl rfl ?_ | refine s_pickf rfl rfl ?_)) | (refine isC ?_; first | refine c_sr ?_ | refine c_seq ?_ | refine c_ift rfl ?_ | refine c_ret ?_) | (first | refine l_th ?_ | refine th_ret ?_))
    exact ret1 rfl rfl ⟨congrArg Value.bool (vec_bad (.inr (.inl h2))).symm, Ex.refl _⟩
  by_cases h3 : (bid.length : Int) = items
  · subst h3
    repeat (first | (refine isO ?_; first | refine s_move ?_ | refine s_assign ?_ | (refine isG ?_; refine g_yes rfl rfl ?_) | (refine isBin ?_; first | refine s_lssF rfl rfl (by omega) ?_ | refine s_neqF rfl rfl (by omega) ?_ | refine s_gtrF rfl rfl (by omega) ?_) | (refine isCall ?_; refine s_lenI sl_ints rfl (by assumption) ?_) | (refine isPick ?_; refine s_pickf rfl rfl ?_)) | (refine isC ?_; first | refine c_sr ?_ | refine c_th ?_ | refine c_seq ?_ | refine c_iff rfl ?_ | refine c_block ?_) | (refine l_th ?_))
    refine c_loop (γ := Nat) 34359476272 (fun k => [(5, .int .i64 (k : Int))]) (fun k W => k ≤ bid.length ∧ (∀ j, j < k → 0 ≤ bid.getD j 0 ∧ bid.getD j 0 ≤ 1000000) ∧ Ex w W) (fun k => bid.length - k) 0 ⟨rfl, trivial⟩ ⟨Nat.zero_le _, fun j hj => absurd hj (Nat.not_lt_zero _), Ex.refl _⟩ ?_
    rintro k ρ W ⟨hk, hall, hx⟩
    have hlW := hl.ex hx
    repeat (first | (refine isO ?_; first | refine s_move ?_ | (refine isBin ?_; refine s_lss rfl rfl ?_)) | (refine isC ?_; first | refine c_sr ?_ | refine c_seq ?_) | (refine l_th ?_))
    refine c_ifd rfl (fun h => ?_) (fun h => ?_)
    · have hk' : k < bid.length := by omega
      by_cases h4 : bid.getD k 0 < 0
      · repeat (first | (refine isO ?_; first | refine s_move ?_ | refine s_assign ?_ | (refine isG ?_; refine g_no rfl rfl rfl ?_) | (refine isBin ?_; refine s_lssT rfl rfl (by omega) ?_) | (refine isIA ?_; refine s_ixI sl_ints ty_int rfl rfl rfl (by assumption) (by omega) ?_; intro _) | (refine isPick ?_; refine s_pickt rfl rfl ?_)) | (refine isC ?_; first | refine c_sr ?_ | refine c_th ?_ | refine c_seq ?_ | refine c_ift rfl ?_ | refine c_block ?_ | refine c_ret ?_) | (first | refine l_th ?_ | refine th_ret ?_ | refine ib_ret ?_))
        exact ret1 rfl rfl ⟨congrArg Value.bool (vec_bad2 hk' (.inl h4)).symm, hx⟩
      by_cases h5 : 1000000 < bid.getD k 0
      · repeat (first | (refine isO ?_; first | refine s_move ?_ | (refine isG ?_; refine g_yes rfl rfl ?_) | (refine isBin ?_; refine s_lssF rfl rfl (by omega) ?_) | (refine isIA ?_; refine s_ixI sl_ints ty_int rfl rfl rfl (by assumption) (by omega) ?_; intro _)) | (refine isC ?_; first | refine c_sr ?_ | refine c_th ?_ | refine c_seq ?_ | refine c_block ?_))
        refine s_ixIg (n := k) sl_ints ty_int rfl rfl rfl rfl rfl rfl hlW (by omega) ?_
        intro _
        repeat (first | (refine isO ?_; first | refine s_assign ?_ | (refine isG ?_; refine g_yes rfl rfl ?_) | (refine isBin ?_; refine s_gtrT rfl rfl (by omega) ?_) | (refine isPick ?_; refine s_pickf rfl rfl ?_)) | (refine isC ?_; first | refine c_sr ?_ | refine c_ift rfl ?_ | refine c_ret ?_) | (first | refine l_th ?_ | refine th_ret ?_ | refine ib_ret ?_))
        exact ret1 rfl rfl ⟨congrArg Value.bool (vec_bad2 hk' (.inr h5)).symm, hx⟩
      repeat (first | (refine isO ?_; first | refine s_move ?_ | (refine isG ?_; refine g_yes rfl rfl ?_) | (refine isBin ?_; refine s_lssF rfl rfl (by omega) ?_) | (refine isIA ?_; refine s_ixI sl_ints ty_int rfl rfl rfl (by assumption) (by omega) ?_; intro _)) | (refine isC ?_; first | refine c_sr ?_ | refine c_th ?_ | refine c_seq ?_ | refine c_block ?_))
      refine s_ixIg (n := k) sl_ints ty_int rfl rfl rfl rfl rfl rfl hlW (by omega) ?_
      intro _
      repeat (first | (refine isO ?_; first | refine s_move ?_ | refine s_assign ?_ | (refine isG ?_; refine g_yes rfl rfl ?_) | (refine isBin ?_; first | refine s_inc rfl (by omega) ?_ | refine s_gtrF rfl rfl (by omega) ?_) | (refine isPick ?_; refine s_pickf rfl rfl ?_)) | (refine isC ?_; first | refine c_region ?_ | refine c_iff rfl ?_ | refine c_skip ?_) | (refine l_th ?_))
      refine loop_end (k + 1) (by (repeat (first | exact agree_refl _ _ | refine agree_upd rfl ?_ | refine agree_ext rfl ?_ | refine agree_mask rfl ?_))) ⟨vint (by omega), trivial⟩ ⟨hk', fun j hj => ?_, hx⟩ (by show bid.length - (k + 1) < bid.length - k; omega)
      by_cases e : j = k
      · subst e; omega
      · exact hall j (by omega)
    · repeat (first | (refine isO ?_; refine s_assign ?_) | (refine isC ?_; first | refine c_sr ?_ | refine c_ret ?_ | refine c_exit ?_) | (refine l_th ?_))
      exact ret1 rfl rfl ⟨congrArg Value.bool (vec_good (by omega) (by omega) rfl fun j hj => hall j (by omega)).symm, hx⟩
  · repeat (first | (refine isO ?_; first | refine s_move ?_ | refine s_assign ?_ | (refine isG ?_; refine g_yes rfl rfl ?_) | (refine isBin ?_; first | refine s_lssF rfl rfl (by omega) ?_ | refine s_neqT rfl rfl (by omega) ?_ | refine s_gtrF rfl rfl (by omega) ?_) | (refine isCall ?_; refine s_lenI sl_ints rfl (by assumption) ?_) | (refine isPick ?_; refine s_pickf rfl rfl ?_)) | (refine isC ?_; first | refine c_sr ?_ | refine c_seq ?_ | refine c_ift rfl ?_ | refine c_ret ?_) | (first | refine l_th ?_ | refine th_ret ?_))
    exact ret1 rfl rfl ⟨congrArg Value.bool (vec_bad (.inr (.inr h3))).symm, Ex.refl _⟩
/-- The counts of the first numbers add up to how many are in range. -/
def cin (l : List Int) : Nat → Nat
  | 0 => 0
  | n + 1 => cin l n + l.count (n : Int)
theorem flen (p : Int → Bool) (a : Int) (l : List Int) : ((a :: l).filter p).length = (if p a = true then 1 else 0) + (l.filter p).length := by
  cases h : p a <;> simp [h] <;> omega
theorem cin_le (l : List Int) : ∀ n, cin l n = (l.filter fun x => decide (0 ≤ x) && decide (x < (n : Int))).length
  | 0 => by
    have h : (l.filter fun x => decide (0 ≤ x) && decide (x < ((0 : Nat) : Int))) = [] := List.filter_eq_nil_iff.2 fun x _ => by
      rw [Bool.and_eq_true, decide_eq_true_eq, decide_eq_true_eq]; omega
    rw [h]; rfl
  | n + 1 => by
    unfold cin
    rw [cin_le l n]
    induction l with
    | nil => rfl
    | cons a l ih =>
      rw [List.count_cons, flen, flen]
      simp only [Bool.and_eq_true, decide_eq_true_eq, beq_iff_eq]
      have e : (if 0 ≤ a ∧ a < ((n + 1 : Nat) : Int) then 1 else 0) = (if 0 ≤ a ∧ a < (n : Int) then 1 else 0) + (if a = (n : Int) then 1 else 0) := by
        by_cases h0 : a = (n : Int)
        · rw [if_pos (by omega), if_neg (by omega), if_pos h0]
        · by_cases h1 : 0 ≤ a ∧ a < (n : Int)
          · rw [if_pos (by omega), if_pos h1, if_neg h0]
          · rw [if_neg (by omega), if_neg h1, if_neg h0]
      omega
theorem ord_once {l : List Int} {n : Nat} (hn : n ≤ 8) (hl : l.length = n) (h : ∀ i, i < n → l.count (i : Int) = 1) : ordB l n = true := by
  have h1 : ∀ k, k ≤ n → cin l k = k := by
    intro k
    induction k with
    | zero => intro _; rfl
    | succ k ih =>
      intro hk
      unfold cin
      rw [ih (by omega), h k (by omega)]
  have h2 := h1 n (Nat.le_refl _)
  rw [cin_le, ← hl] at h2
  have h3 : ∀ x ∈ l, (decide (0 ≤ x) && decide (x < ((l.length : Nat) : Int))) = true := List.length_filter_eq_length_iff.1 h2
  rw [hl] at h3
  unfold ordB
  rw [Bool.and_eq_true, List.all_eq_true, decide_eq_true_eq]
  refine ⟨h3, List.map_congr_left fun k hk => ?_⟩
  by_cases e : k < n
  · rw [if_pos e, h k e]; rfl
  · rw [if_neg e, List.count_eq_zero.2]; · rfl
    intro hm
    have := h3 _ hm
    simp at this
    omega
theorem ord_count {l : List Int} {n : Nat} (hn : n ≤ 8) (h : ordB l n = true) {i : Nat} (hi : i < n) : l.count (i : Int) = 1 := by
  unfold ordB at h
  rw [Bool.and_eq_true, decide_eq_true_eq] at h
  have h2 := congrArg (fun t => t[i]?) h.2
  simp [show i < 8 by omega, hi] at h2
  omega
theorem chkM_bad {res : List Int} {bids : List (List Int)} {ord : List Int} (h : vecB res res.length = false ∨ bids.length < 1 ∨ 8 < bids.length ∨ (bids.length ≤ 8 ∧ ord.length ≠ bids.length) ∨ (∃ i, i < bids.length ∧ badBid res.length (bids.getD i []) = true) ∨ (bids.length ≤ 8 ∧ ∃ i, i < bids.length ∧ ord.count (i : Int) ≠ 1)) : chkM res bids ord = false := by
  cases hc : chkM res bids ord with
  | false => rfl
  | true =>
    exfalso
    obtain ⟨h1, h2, h3, h4, h5⟩ := chk_parts hc
    rcases h with h | h | h | h | ⟨i, hi, h⟩ | ⟨_, i, hi, h⟩
    · rw [h1] at h; cases h
    · omega
    · omega
    · exact h.2 (ord_len h3 h4)
    · rw [h5 i hi] at h; cases h
    · exact h (ord_count h3 h4 hi)
theorem chkM_good {res : List Int} {bids : List (List Int)} {ord : List Int} (h1 : vecB res res.length = true) (h2 : 1 ≤ bids.length) (h3 : bids.length ≤ 8) (h4 : ord.length = bids.length) (h5 : ∀ i, i < bids.length → badBid res.length (bids.getD i []) = false) (h6 : ∀ i, i < bids.length → ord.count (i : Int) = 1) : chkM res bids ord = true := by
  unfold chkM
  rw [h1, decide_eq_true h2, decide_eq_true h3, ord_once h3 h4 h6, Bool.true_and, Bool.true_and, Bool.true_and, Bool.true_and, Bool.not_eq_true', List.any_eq_false]
  intro x hx
  obtain ⟨i, hi, rfl⟩ := List.getElem_of_mem hx
  have := h5 i hi
  rw [List.getD_eq_getElem?_getD, List.getElem?_eq_getElem hi] at this
  simpa using this
theorem count_take {l : List Int} {k : Nat} (hk : k < l.length) (x : Int) : (l.take (k + 1)).count x = (l.take k).count x + if l.getD k 0 = x then 1 else 0 := by
  rw [List.take_succ_eq_append_getElem hk, List.count_append, List.count_cons, List.count_nil, List.getD_eq_getElem?_getD, List.getElem?_eq_getElem hk]
  simp
set_option maxHeartbeats 8000000 in
theorem Check5_ct (rv bv ov : Value) (res : List Int) (bids : List (List Int)) (ord : List Int) (w : World) (hM : Mk w rv bv ov res bids ord) :
    Ct Tryz.prog 83 #[.agg #[rv, bv, ov]] w fun u w' => u = .bool (chkM res bids ord) ∧ Ex w w' := by
  have hlr := hM.r.len
  have hlb := hM.b.len
  have hlo := hM.o.len
  refine enter (N := 72) (vs := [.agg #[rv, bv, ov]]) Tryz.func83 rfl rfl rfl ?_
  repeat ((refine isC ?_; refine c_sr ?_))
  refine s_box (cs := [rv, bv, ov]) rfl rfl ?_
  intro b0 w0 hb0 hZ hx0 hs0
  have hM0 := hM.ex hx0
  have hr0 := hM0.r
  have hbb0 := hM0.b
  repeat (first | (refine isO ?_; first | refine s_move ?_ | refine s_assign ?_ | (refine isCall ?_; first | refine s_lenI sl_ints rfl (by assumption) ?_ | refine s_lenR sl_rows rfl (by assumption) ?_) | (refine isLD ?_; refine s_ldA ty_ints rfl (by assumption) rfl ?_)) | (refine isO ?_; first | refine s_fa Tryz.underlying54 rfl ty_ints rfl ?_ | refine s_fa Tryz.underlying54 rfl ty_rows rfl ?_ | refine s_ldA ty_rows rfl (by assumption) rfl ?_) | (refine isC ?_; first | refine c_sr ?_ | refine c_seq ?_) | (refine l_th ?_))
  refine s_call ok_Check4 rfl (Check4_ct rv res (res.length : Int) w0 hr0) ?_
  rintro u w1 ⟨rfl, hx1⟩
  have hx01 := hx0.trans hx1
  have hZ1 := hZ.ex hx1
  have hM1 := hM0.ex hx1
  have ho1 := hM1.o
  refine Or.elim (tfV (vecB res res.length)) (fun hv => ?_) (fun hv => ?_)
  · refine s_re (v' := .bool true) (vbool hv) ?_
    by_cases h1 : bids.length < 1
    · repeat (first | (refine isO ?_; first | refine s_move ?_ | refine s_assign ?_ | (refine isG ?_; first | refine g_yes rfl rfl ?_ | refine g_no rfl rfl rfl ?_) | (refine isBin ?_; refine s_lssT rfl rfl (by omega) ?_) | (refine isPick ?_; first | refine s_pickt rfl rfl ?_ | refine s_pickf rfl rfl ?_) | refine s_not rfl ?_) | (refine isC ?_; first | refine c_sr ?_ | refine c_ift rfl ?_ | refine c_ret ?_) | (first | refine l_th ?_ | refine th_ret ?_))
      exact ret1 rfl rfl ⟨congrArg Value.bool (chkM_bad (.inr (.inl h1))).symm, hx01⟩
    by_cases h2 : 8 < bids.length
    · repeat (first | (refine isO ?_; first | refine s_move ?_ | refine s_assign ?_ | (refine isG ?_; first | refine g_yes rfl rfl ?_ | refine g_no rfl rfl rfl ?_) | (refine isBin ?_; first | refine s_lssF rfl rfl (by omega) ?_ | refine s_gtrT rfl rfl (by omega) ?_) | (refine isPick ?_; first | refine s_pickt rfl rfl ?_ | refine s_pickf rfl rfl ?_) | refine s_not rfl ?_) | (refine isC ?_; first | refine c_sr ?_ | refine c_ift rfl ?_ | refine c_ret ?_) | (first | refine l_th ?_ | refine th_ret ?_))
      exact ret1 rfl rfl ⟨congrArg Value.bool (chkM_bad (.inr (.inr (.inl h2)))).symm, hx01⟩
    by_cases h3 : ord.length = bids.length
    · repeat (first | (refine isO ?_; first | refine s_move ?_ | refine s_assign ?_ | (refine isG ?_; refine g_yes rfl rfl ?_) | (refine isBin ?_; first | refine s_lssF rfl rfl (by omega) ?_ | refine s_neqF rfl rfl (by omega) ?_ | refine s_gtrF rfl rfl (by omega) ?_) | (refine isCall ?_; refine s_lenI sl_ints rfl (by assumption) ?_) | (refine isPick ?_; refine s_pickf rfl rfl ?_) | (refine isLD ?_; refine s_ldA ty_ints rfl (by assumption) rfl ?_) | refine s_not rfl ?_) | (refine isO ?_; refine s_fa Tryz.underlying54 rfl ty_ints rfl ?_) | (refine isC ?_; first | refine c_sr ?_ | refine c_th ?_ | refine c_seq ?_ | refine c_iff rfl ?_ | refine c_block ?_) | (refine l_th ?_))
      refine c_loop (γ := Nat) 4722366482852465344740 (fun i => [(5, .int .i64 (i : Int))]) (fun i W => i ≤ bids.length ∧ (∀ j, j < i → badBid res.length (bids.getD j []) = false ∧ ord.count (j : Int) = 1) ∧ Ex w1 W) (fun i => bids.length - i) 0 ⟨rfl, trivial⟩ ⟨Nat.zero_le _, fun j hj => absurd hj (Nat.not_lt_zero _), Ex.refl _⟩ ?_
      rintro i ρ W ⟨hi, hall, hx⟩
      have hZW := hZ1.ex hx
      repeat (first | (refine isO ?_; first | refine s_move ?_ | (refine isBin ?_; refine s_lss rfl rfl ?_)) | (refine isC ?_; first | refine c_sr ?_ | refine c_seq ?_) | (refine l_th ?_))
      refine c_ifd rfl (fun h => ?_) (fun h => ?_)
      · have hi' : i < bids.length := by omega
        refine c_th ?_
        refine c_seq ?_
        refine c_block ?_
        refine c_join (γ := Unit) 72057044282114052 (fun _ => []) (fun _ W' => badBid res.length (bids.getD i []) = false ∧ Ex W W') ?_ ?_
        · have hbW := hM1.b.ex hx
          repeat (first | (refine isO ?_; refine s_move ?_) | (refine isO ?_; first | refine s_fa Tryz.underlying54 rfl ty_rows rfl ?_ | refine s_ldA ty_rows rfl (by assumption) rfl ?_) | (refine isC ?_; refine c_sr ?_))
          refine s_ixR sl_rows ty_ints rfl rfl rfl hbW hi' ?_
          intro _ u1 hu1
          by_cases h5 : 0 < (bids.getD i []).length
          · repeat (first | (refine isO ?_; first | refine s_move ?_ | (refine isG ?_; refine g_yes rfl rfl ?_) | (refine isBin ?_; refine s_gtrT rfl rfl (by omega) ?_) | (refine isCall ?_; refine s_lenI sl_ints rfl (by assumption) ?_)) | (refine isO ?_; first | refine s_fa Tryz.underlying54 rfl ty_rows rfl ?_ | refine s_ldA ty_rows rfl (by assumption) rfl ?_))
            refine s_iaR (n := i) sl_rows ty_ints hbW (Ex.refl _) rfl rfl hi' ?_
            intro ad u2 hc2 hu2
            refine g_yes rfl rfl ?_
            refine s_ld ty_ints rfl hc2 ?_
            repeat ((refine isO ?_; first | refine s_move ?_ | (refine isG ?_; refine g_yes rfl rfl ?_)))
            refine s_call ok_Check4 rfl (Check4_ct u2 _ (res.length : Int) W hu2) ?_
            rintro u W1 ⟨rfl, hxW1⟩
            refine Or.elim (tfV (vecB (bids.getD i []) res.length)) (fun hvb => ?_) (fun hvb => ?_)
            · refine s_re (v' := .bool true) (vbool hvb) ?_
              repeat (first | (refine isO ?_; first | (refine isG ?_; refine g_yes rfl rfl ?_) | (refine isPick ?_; refine s_pickt rfl rfl ?_) | refine s_not rfl ?_) | (refine isC ?_; first | refine c_th ?_ | refine c_iff rfl ?_) | (refine l_th ?_))
              exact join_end () (by (repeat (first | exact agree_refl _ _ | refine agree_upd rfl ?_))) trivial ⟨by unfold badBid; rw [hvb]; simp, hxW1⟩
            · refine s_re (v' := .bool false) (vbool hvb) ?_
              repeat (first | (refine isO ?_; first | refine s_assign ?_ | (refine isG ?_; refine g_yes rfl rfl ?_) | (refine isPick ?_; refine s_pickt rfl rfl ?_) | refine s_not rfl ?_) | (refine isC ?_; first | refine c_sr ?_ | refine c_ift rfl ?_ | refine c_ret ?_) | (first | refine l_th ?_ | refine th_ret ?_ | refine ib_ret ?_))
              exact ret1 rfl rfl ⟨congrArg Value.bool (chkM_bad (.inr (.inr (.inr (.inr (.inl ⟨i, hi', by unfold badBid; rw [hvb, decide_eq_true h5]; rfl⟩)))))).symm, hx01.trans (hx.trans hxW1)⟩
          · repeat (first | (refine isO ?_; first | refine s_move ?_ | (refine isG ?_; refine g_no rfl rfl rfl ?_) | (refine isBin ?_; refine s_gtrF rfl rfl (by omega) ?_) | (refine isCall ?_; refine s_lenI sl_ints rfl (by assumption) ?_) | (refine isPick ?_; refine s_pickf rfl rfl ?_)) | (refine isC ?_; first | refine c_th ?_ | refine c_iff rfl ?_) | (refine l_th ?_))
            exact join_end () (by (repeat (first | exact agree_refl _ _ | refine agree_upd rfl ?_))) trivial ⟨by unfold badBid; rw [decide_eq_false h5]; rfl, Ex.refl _⟩
        rintro _ ρ2 W2 ⟨hb, hx2⟩
        have hxW2 := hx.trans hx2
        have hoW := hM1.o.ex hxW2
        have hZ2 := hZ1.ex hxW2
        repeat (first | (refine isO ?_; refine s_assign ?_) | (refine isC ?_; first | refine c_sr ?_ | refine c_seq ?_ | refine c_block ?_) | (refine l_th ?_))
        refine c_loop2 1180519563123373375680 (fun (k : Nat) (n : Nat) => [(7, .int .i64 (k : Int)), (6, .int .i64 (n : Int))]) (fun k n V => k ≤ bids.length ∧ n = (ord.take k).count (i : Int) ∧ Ex W2 V) (fun k _ => bids.length - k) 0 0 ⟨rfl, rfl, trivial⟩ ⟨Nat.zero_le _, rfl, Ex.refl _⟩ ?_
        rintro k n ρ3 V ⟨hk, hn, hxV⟩
        have hZV := hZ2.ex hxV
        have hoV := hoW.ex hxV
        repeat (first | (refine isO ?_; first | refine s_move ?_ | (refine isBin ?_; refine s_lss rfl rfl ?_)) | (refine isC ?_; first | refine c_sr ?_ | refine c_seq ?_) | (refine l_th ?_))
        refine c_ifd rfl (fun h6 => ?_) (fun h6 => ?_)
        · have hk' : k < bids.length := by omega
          have hct := count_take (l := ord) (k := k) (by omega) (i : Int)
          have hnk : n ≤ ord.length := by rw [hn]; exact Nat.le_trans List.count_le_length (by simp; omega)
          by_cases h7 : ord.getD k 0 = (i : Int)
          · rw [if_pos h7] at hct
            repeat (first | (refine isO ?_; first | refine s_move ?_ | refine s_assign ?_ | (refine isBin ?_; first | refine s_inc rfl (by omega) ?_ | refine s_eqlT rfl rfl (by omega) ?_) | (refine isIA ?_; refine s_ixI sl_ints ty_int rfl rfl rfl (by assumption) (by omega) ?_; intro _) | (refine isLD ?_; refine s_ldA ty_ints rfl (by assumption) rfl ?_)) | (refine isO ?_; refine s_fa Tryz.underlying54 rfl ty_ints rfl ?_) | (refine isC ?_; first | refine c_sr ?_ | refine c_th ?_ | refine c_seq ?_ | refine c_region ?_ | refine c_ift rfl ?_ | refine c_block ?_) | (first | refine l_th ?_ | refine l_nil ?_))
            exact loop_end2 (k + 1) (n + 1) (by (repeat (first | exact agree_refl _ _ | refine agree_upd rfl ?_ | refine agree_ext rfl ?_ | refine agree_mask rfl ?_))) ⟨vint (by omega), vint (by omega), trivial⟩ ⟨hk', by omega, hxV⟩ (by show bids.length - (k + 1) < bids.length - k; omega)
          · rw [if_neg h7] at hct
            repeat (first | (refine isO ?_; first | refine s_move ?_ | refine s_assign ?_ | (refine isBin ?_; first | refine s_inc rfl (by omega) ?_ | refine s_eqlF rfl rfl (by omega) ?_) | (refine isIA ?_; refine s_ixI sl_ints ty_int rfl rfl rfl (by assumption) (by omega) ?_; intro _) | (refine isLD ?_; refine s_ldA ty_ints rfl (by assumption) rfl ?_)) | (refine isO ?_; refine s_fa Tryz.underlying54 rfl ty_ints rfl ?_) | (refine isC ?_; first | refine c_sr ?_ | refine c_th ?_ | refine c_seq ?_ | refine c_region ?_ | refine c_iff rfl ?_ | refine c_block ?_ | refine c_skip ?_) | (refine l_th ?_))
            exact loop_end2 (k + 1) n (by (repeat (first | exact agree_refl _ _ | refine agree_upd rfl ?_ | refine agree_ext rfl ?_ | refine agree_mask rfl ?_))) ⟨vint (by omega), rfl, trivial⟩ ⟨hk', by omega, hxV⟩ (by show bids.length - (k + 1) < bids.length - k; omega)
        · have hkn : k = ord.length := by omega
          subst hkn
          rw [List.take_length] at hn
          by_cases h7 : n = 1
          · subst h7
            repeat (first | (refine isO ?_; first | refine s_move ?_ | refine s_assign ?_ | (refine isBin ?_; first | refine s_inc rfl (by omega) ?_ | refine s_neqF rfl rfl (by omega) ?_)) | (refine isC ?_; first | refine c_sr ?_ | refine c_region ?_ | refine c_iff rfl ?_ | refine c_exit ?_ | refine c_skip ?_) | (refine l_th ?_))
            refine loop_end (i + 1) (by (repeat (first | exact agree_refl _ _ | refine agree_upd rfl ?_ | refine agree_ext rfl ?_ | refine agree_mask rfl ?_))) ⟨vint (by omega), trivial⟩ ⟨hi', fun j hj => ?_, hxW2.trans hxV⟩ (by show bids.length - (i + 1) < bids.length - i; omega)
            by_cases e : j = i
            · subst e; exact ⟨hb, hn.symm⟩
            · exact hall j (by omega)
          · repeat (first | (refine isO ?_; first | refine s_move ?_ | refine s_assign ?_ | (refine isBin ?_; refine s_neqT rfl rfl (by omega) ?_)) | (refine isC ?_; first | refine c_sr ?_ | refine c_ift rfl ?_ | refine c_ret ?_ | refine c_exit ?_) | (first | refine l_th ?_ | refine th_ret ?_ | refine ib_ret ?_))
            exact ret1 rfl rfl ⟨congrArg Value.bool (chkM_bad (.inr (.inr (.inr (.inr (.inr ⟨by omega, i, hi', by omega⟩)))))).symm, hx01.trans (hxW2.trans hxV)⟩
      · repeat (first | (refine isO ?_; refine s_assign ?_) | (refine isC ?_; first | refine c_sr ?_ | refine c_ret ?_ | refine c_exit ?_) | (refine l_th ?_))
        exact ret1 rfl rfl ⟨congrArg Value.bool (chkM_good hv (by omega) (by omega) h3 (fun j hj => (hall j (by omega)).1) (fun j hj => (hall j (by omega)).2)).symm, hx01.trans hx⟩
    · repeat (first | (refine isO ?_; first | refine s_move ?_ | refine s_assign ?_ | (refine isG ?_; refine g_yes rfl rfl ?_) | (refine isBin ?_; first | refine s_lssF rfl rfl (by omega) ?_ | refine s_neqT rfl rfl (by omega) ?_ | refine s_gtrF rfl rfl (by omega) ?_) | (refine isCall ?_; refine s_lenI sl_ints rfl (by assumption) ?_) | (refine isPick ?_; refine s_pickf rfl rfl ?_) | (refine isLD ?_; refine s_ldA ty_ints rfl (by assumption) rfl ?_) | refine s_not rfl ?_) | (refine isO ?_; refine s_fa Tryz.underlying54 rfl ty_ints rfl ?_) | (refine isC ?_; first | refine c_sr ?_ | refine c_ift rfl ?_ | refine c_ret ?_) | (first | refine l_th ?_ | refine th_ret ?_))
      exact ret1 rfl rfl ⟨congrArg Value.bool (chkM_bad (.inr (.inr (.inr (.inl ⟨by omega, h3⟩))))).symm, hx01⟩
  · refine s_re (v' := .bool false) (vbool hv) ?_
    repeat (first | (refine isO ?_; first | refine s_move ?_ | refine s_assign ?_ | (refine isG ?_; refine g_no rfl rfl rfl ?_) | (refine isPick ?_; refine s_pickt rfl rfl ?_) | refine s_not rfl ?_) | (refine isC ?_; first | refine c_sr ?_ | refine c_ift rfl ?_ | refine c_ret ?_) | (first | refine l_th ?_ | refine th_ret ?_))
    exact ret1 rfl rfl ⟨congrArg Value.bool (chkM_bad (.inl hv)).symm, hx01⟩
end Go.Proofs.YtifbgpkjbciblaaGreatDoor.Sal
end
section
/- V21: stores into lists with room; bids in another order. -/
set_option maxRecDepth 100000
namespace Go.Proofs.YtifbgpkjbciblaaGreatDoor.Sal
open Go.RowKit
theorem in_wd {P : Program} {E : TypeId} {s B : Nat} {z : Value} (h : (P.info? E).map (fun i => (i.zero, i.size, i.bytes)) = some (some z, s, B)) (hz : z.cells.size = s) : InfoW P E s z B := by
  cases hi : P.info? E with
  | none => rw [hi] at h; cases h
  | some ti =>
    rw [hi] at h
    simp only [Option.map_some, Option.some.injEq, Prod.mk.injEq] at h
    exact ⟨⟨ti, hi, h.1, h.2.1, by omega⟩, hz⟩
theorem wd_int : InfoW Tryz.prog 3 1 (.int .i64 0) 8 := in_wd inf_int rfl
theorem wd_ints : InfoW Tryz.prog 25 1 (.slice none 0 0) 24 := in_wd inf_ints rfl
theorem Wd.ints {w : World} {E : TypeId} {v : Value} {n : Nat} {l : List Int} (h : Wd w E 1 v n (l.map (Value.int .i64))) (hm : n ≤ 1000000) : Ints w v l := h.sl (by omega)
theorem Wd.rows {w : World} {E : TypeId} {v : Value} {n : Nat} {us : Nat → Value} {g : List (List Int)} (h : Wd w E 1 v n ((List.range n).map us)) (hl : g.length = n) (hm : n ≤ 1000000) (hr : ∀ i, i < n → Ints w (us i) (g.getD i [])) : Rows w v g := by
  refine ⟨_, h.sl (by omega), by simp [hl], fun i u l hu hl2 => ?_⟩
  have hi := (List.getElem?_eq_some_iff.1 hl2).1
  have e1 : u = us i := by simp [show i < n by omega] at hu; exact hu.symm
  have e2 : g.getD i [] = l := by simp [List.getD_eq_getElem?_getD, hl2]
  rw [e1, ← e2]
  exact hr i (by omega)
theorem mfs_app (us : Nat → Value) (n : Nat) (u : Value) : (List.range n).map us ++ [u] = (List.range (n + 1)).map (fs us n u) := by
  rw [List.range_succ, List.map_append]
  congr 1
  · apply List.map_congr_left
    intro j hj
    have := List.mem_range.1 hj
    simp only [fs]
    rw [if_neg (by omega)]
  · simp [fs]
end Go.Proofs.YtifbgpkjbciblaaGreatDoor.Sal
end
section
/- RR2: the document's demands. -/
set_option maxRecDepth 100000
namespace Go.Proofs.YtifbgpkjbciblaaGreatDoor.Sal
open Go.RowKit
set_option linter.all false
theorem ok_Prices12 : CallOK Tryz.prog 121 := callOK Tryz.func121 (by kernel_rfl) rfl
theorem ok_Of12 : CallOK Tryz.prog 122 := callOK Tryz.func122 (by kernel_rfl) rfl
theorem ok_All12 : CallOK Tryz.prog 84 := callOK Tryz.func84 (by kernel_rfl) rfl
theorem wd_bl : InfoW Tryz.prog 4 1 (.bool false) 1 := in_wd (by kernel_rfl) rfl
theorem inO_bl : InfoOf Tryz.prog 4 (.bool false) := ⟨let ⟨i, h, hz, hs, hb⟩ := info_parts (show (Tryz.prog.info? 4).map (fun i => (i.zero, i.size, i.bytes)) = some (some (.bool false), 1, 1) by kernel_rfl); ⟨i, h, hz, hs, by omega⟩, rfl⟩
theorem Ints.kp {w w' : World} {u : Value} {l : List Int} {o : Option Nat} (hI : Ints w u l) (hg : w.grownBy w' o) (hne : ∀ b, o = some b → u.ownBlock ≠ some b) : Ints w' u l := by
  cases o with
  | none => exact hI.ex (Ex.of_grown hg)
  | some b => exact hI.kept hg (.inr (hne b rfl))
theorem own_same (a : Option Addr) (n c n' c' : Nat) : (Value.slice a n c).ownBlock = (Value.slice a n' c').ownBlock := by
  cases a with
  | none => rfl
  | some ad => cases ad; rfl
/-- Two lists built side by side: lists of numbers, and bools. -/
structure B3 (w0 w : World) (i j : Nat) (gv bv : Value) (vs : Nat → Value) (rows : Nat → List Int) (bl : Nat → Bool) : Prop where
  g : Wd w 25 1 gv i ((List.range i).map vs)
  b : Wd w 4 1 bv j ((List.range j).map fun k => .bool (bl k))
  go : ∀ b, gv.ownBlock = some b → w0.heap.size ≤ b
  bo : ∀ b, bv.ownBlock = some b → w0.heap.size ≤ b ∧ gv.ownBlock ≠ some b
  row : ∀ k, k < i → Ints w (vs k) (rows k) ∧ ∀ b, (vs k).ownBlock = some b → gv.ownBlock ≠ some b ∧ bv.ownBlock ≠ some b ∧ b < w.heap.size
theorem B3.nil (w0 w : World) (vs : Nat → Value) (rows : Nat → List Int) (bl : Nat → Bool) : B3 w0 w 0 0 (.slice none 0 0) (.slice none 0 0) vs rows bl :=
  ⟨Wd.nil _ _ _, Wd.nil _ _ _, fun b h => (by cases h), fun b h => (by cases h), fun k h => absurd h (Nat.not_lt_zero _)⟩
theorem B3.ex {w0 w w' : World} {i j : Nat} {gv bv : Value} {vs : Nat → Value} {rows : Nat → List Int} {bl : Nat → Bool} (h : B3 w0 w i j gv bv vs rows bl) (hx : Ex w w') : B3 w0 w' i j gv bv vs rows bl :=
  ⟨h.g.ex hx, h.b.ex hx, h.go, h.bo, fun k hk => ⟨(h.row k hk).1.ex hx, fun b hb => let ⟨h1, h2, h3⟩ := (h.row k hk).2 b hb; ⟨h1, h2, by have := hx.size; omega⟩⟩⟩
theorem B3.glt {w0 w : World} {i j : Nat} {gv bv : Value} {vs : Nat → Value} {rows : Nat → List Int} {bl : Nat → Bool} (h : B3 w0 w i j gv bv vs rows bl) (b : Nat) (hb : w.heap.size ≤ b) : gv.ownBlock ≠ some b ∧ bv.ownBlock ≠ some b :=
  ⟨fun e => by have := h.g.lt b e; omega, fun e => by have := h.b.lt b e; omega⟩
theorem B3.addG {w0 w w' : World} {i j : Nat} {gv bv v' u : Value} {vs : Nat → Value} {rows : Nat → List Int} {bl : Nat → Bool} (h : B3 w0 w i j gv bv vs rows bl) (hx0 : w0.heap.size ≤ w.heap.size) (hu : Ints w u (rows i)) (huo : ∀ b, u.ownBlock = some b → gv.ownBlock ≠ some b ∧ bv.ownBlock ≠ some b ∧ b < w.heap.size)
    (hW : Wd w' 25 1 v' (i + 1) ((List.range i).map vs ++ [u])) (hg : w.grownBy w' gv.ownBlock) (ha : (∃ a c, gv = .slice a i c ∧ v' = .slice a (i + 1) c) ∨ ((∀ b, v'.ownBlock = some b → w.heap.size ≤ b) ∧ Ex w w')) :
    B3 w0 w' (i + 1) j v' bv (fs vs i u) rows bl := by
  have hz := hg.size
  have hbl := h.b.lt
  have hv : ∀ b, v'.ownBlock = some b → gv.ownBlock = some b ∨ w.heap.size ≤ b := fun b hb => by
    rcases ha with ⟨a, c, h1, h2⟩ | ⟨h1, _⟩
    · left; rw [h1, own_same a i c (i + 1) c, ← h2]; exact hb
    · exact .inr (h1 b hb)
  refine ⟨by rw [← mfs_app]; exact hW, h.b.grown hg (fun b hb e => (h.bo b hb).2 e), fun b hb => ?_, fun b hb => ⟨(h.bo b hb).1, fun e => ?_⟩, fun k hk => ?_⟩
  · rcases hv b hb with h1 | h1
    · exact h.go b h1
    · omega
  · rcases hv b e with h1 | h1
    · exact (h.bo b hb).2 h1
    · have := hbl b hb; omega
  · by_cases e : k = i
    · subst e
      simp only [fs, if_true]
      refine ⟨hu.kp hg fun b hb e => (huo b e).1 hb, fun b hb => ?_⟩
      obtain ⟨h1, h2, h3⟩ := huo b hb
      refine ⟨fun e => ?_, h2, by omega⟩
      rcases hv b e with h4 | h4
      · exact h1 h4
      · omega
    · simp only [fs, if_neg e]
      obtain ⟨h1, h2⟩ := h.row k (by omega)
      refine ⟨h1.kp hg fun b hb e => (h2 b e).1 hb, fun b hb => ?_⟩
      obtain ⟨h3, h4, h5⟩ := h2 b hb
      refine ⟨fun e => ?_, h4, by omega⟩
      rcases hv b e with h6 | h6
      · exact h3 h6
      · omega
theorem B3.addB {w0 w w' : World} {i j : Nat} {gv bv v' : Value} {vs : Nat → Value} {rows : Nat → List Int} {bl : Nat → Bool} (h : B3 w0 w i j gv bv vs rows bl) (hx0 : w0.heap.size ≤ w.heap.size)
    (hW : Wd w' 4 1 v' (j + 1) (((List.range j).map fun k => Value.bool (bl k)) ++ [.bool (bl j)])) (hg : w.grownBy w' bv.ownBlock) (ha : (∃ a c, bv = .slice a j c ∧ v' = .slice a (j + 1) c) ∨ ((∀ b, v'.ownBlock = some b → w.heap.size ≤ b) ∧ Ex w w')) :
    B3 w0 w' i (j + 1) gv v' vs rows bl := by
  have hz := hg.size
  have hgl := h.g.lt
  have hv : ∀ b, v'.ownBlock = some b → bv.ownBlock = some b ∨ w.heap.size ≤ b := fun b hb => by
    rcases ha with ⟨a, c, h1, h2⟩ | ⟨h1, _⟩
    · left; rw [h1, own_same a j c (j + 1) c, ← h2]; exact hb
    · exact .inr (h1 b hb)
  refine ⟨h.g.grown hg (fun b hb e => (h.bo b e).2 hb), ?_, h.go, fun b hb => ?_, fun k hk => ?_⟩
  · rw [List.range_succ, List.map_append]; exact hW
  · rcases hv b hb with h1 | h1
    · exact h.bo b h1
    · exact ⟨by omega, fun e => by have := hgl b e; omega⟩
  · obtain ⟨h1, h2⟩ := h.row k hk
    refine ⟨h1.kp hg fun b hb e => (h2 b e).2.1 hb, fun b hb => ?_⟩
    obtain ⟨h3, h4, h5⟩ := h2 b hb
    refine ⟨h3, fun e => ?_, by omega⟩
    rcases hv b e with h6 | h6
    · exact h4 h6
    · omega
/-- The lists that bidders would have. -/
def dL (bids : List (List Int)) (prices : List Int) : List (List Int) := (List.range bids.length).map (dI bids prices)
theorem dL_len (bids : List (List Int)) (prices : List Int) : (dL bids prices).length = bids.length := by simp [dL]
theorem dL_get {bids : List (List Int)} {prices : List Int} {i : Nat} (hi : i < bids.length) : (dL bids prices).getD i [] = dI bids prices i := by simp [dL, hi]
theorem B3.rows {w0 w : World} {j : Nat} {gv bv : Value} {vs : Nat → Value} {bids : List (List Int)} {prices : List Int} {bl : Nat → Bool} (h : B3 w0 w bids.length j gv bv vs (dI bids prices) bl) (hm : bids.length ≤ 1000) : Rows w gv (dL bids prices) :=
  h.g.rows (dL_len _ _) (by omega) fun i hi => by rw [dL_get hi]; exact (h.row i hi).1
attribute [local irreducible] Go.Code.wpIn Go.wpListIn Ct Ints Rows Sl At Rw WJ
attribute [local irreducible] Wd
set_option maxHeartbeats 4000000 in
theorem Prices12_ok (v : Value) (prices : List Int) (w : World) (hl : Ints w v prices) (hm : mayD prices prices.length = true) :
    Ct Tryz.prog 121 #[v] w fun u w' => u = .bool true ∧ Ex w w' := by
  have hlen := hl.len
  have hb := bd_pr hm
  obtain ⟨h1, h2, _⟩ := len_pr hm
  refine enter (N := 30) (vs := [v]) Tryz.func121 rfl rfl rfl ?_
  repeat (first | (refine isO ?_; first | refine s_move ?_ | refine s_assign ?_ | (refine isG ?_; refine g_yes rfl rfl ?_) | (refine isBin ?_; first | refine s_lssF rfl rfl (by omega) ?_ | refine s_gtrF rfl rfl (by omega) ?_) | (refine isCall ?_; refine s_lenI sl_ints rfl (by assumption) ?_) | (refine isPick ?_; refine s_pickf rfl rfl ?_)) | (refine isC ?_; first | refine c_sr ?_ | refine c_th ?_ | refine c_seq ?_ | refine c_iff rfl ?_ | refine c_block ?_) | (refine l_th ?_))
  refine c_loop (γ := Nat) 1073737740 (fun k => [(3, .int .i64 (k : Int))]) (fun k W => k ≤ prices.length ∧ Ex w W) (fun k => prices.length - k) 0 ⟨rfl, trivial⟩ ⟨Nat.zero_le _, Ex.refl _⟩ ?_
  rintro k ρ W ⟨hk, hx⟩
  have hlW := hl.ex hx
  have hbk := hb k
  repeat (first | (refine isO ?_; first | refine s_move ?_ | (refine isBin ?_; refine s_lss rfl rfl ?_) | (refine isCall ?_; refine s_lenI sl_ints rfl (by assumption) ?_)) | (refine isC ?_; first | refine c_sr ?_ | refine c_seq ?_) | (refine l_th ?_))
  refine c_ifd rfl (fun h => ?_) (fun h => ?_)
  · have hk' : k < prices.length := by omega
    repeat (first | (refine isO ?_; first | refine s_move ?_ | (refine isG ?_; refine g_yes rfl rfl ?_) | (refine isBin ?_; refine s_lssF rfl rfl (by omega) ?_) | (refine isIA ?_; refine s_ixI sl_ints ty_int rfl rfl rfl (by assumption) (by omega) ?_; intro _)) | (refine isC ?_; first | refine c_sr ?_ | refine c_th ?_ | refine c_seq ?_ | refine c_block ?_))
    refine s_ixIg (n := k) sl_ints ty_int rfl rfl rfl rfl rfl rfl hlW (by omega) ?_
    intro _
    repeat (first | (refine isO ?_; first | refine s_move ?_ | refine s_assign ?_ | (refine isG ?_; refine g_yes rfl rfl ?_) | (refine isBin ?_; first | refine s_inc rfl (by omega) ?_ | refine s_gtrF rfl rfl (by omega) ?_) | (refine isPick ?_; refine s_pickf rfl rfl ?_)) | (refine isC ?_; first | refine c_region ?_ | refine c_iff rfl ?_ | refine c_skip ?_) | (refine l_th ?_))
    exact loop_end (k + 1) (by (repeat (first | exact agree_refl _ _ | refine agree_upd rfl ?_ | refine agree_ext rfl ?_ | refine agree_mask rfl ?_))) ⟨vint (by omega), trivial⟩ ⟨hk', hx⟩ (by show prices.length - (k + 1) < prices.length - k; omega)
  · repeat (first | (refine isO ?_; refine s_assign ?_) | (refine isC ?_; first | refine c_sr ?_ | refine c_ret ?_ | refine c_exit ?_) | (refine l_th ?_))
    exact ret1 rfl rfl ⟨rfl, hx⟩
set_option maxHeartbeats 8000000 in
theorem Of12_ok (bv pv : Value) (bid prices : List Int) (w : World) (hb : Ints w bv bid) (hp : Ints w pv prices) (hm : mayD prices prices.length = true) (hbad : badBid prices.length bid = false) :
    Ct Tryz.prog 122 #[bv, pv] w fun u w' => ∃ v, u = .tuple #[v, .bool (decide ((foldD (gpr bid prices bid.length)).2 = 0)), .int .i64 (foldD (gpr bid prices bid.length)).2, .int .i64 0] ∧ LI w w' 3 v (foldD (gpr bid prices bid.length)).1 ∧ (foldD (gpr bid prices bid.length)).1.length ≤ 8 ∧ Ex w w' := by
  have hbl := hb.len
  have hpl := hp.len
  have hbb := bd_bid hbad
  have hpb := bd_pr hm
  have hpr := len_pr hm
  have hbz := len_bid hbad
  have hle : bid.length ≤ prices.length := by omega
  have hfl := foldD_len (gpr bid prices bid.length)
  rw [gpr_len] at hfl
  refine Exists.elim (show ∃ f : Nat → Int, f = fun k => bid.getD k 0 - prices.getD k 0 from ⟨_, rfl⟩) fun f hfd => ?_
  have hf : foldD (gpr bid prices bid.length) = (rowL bid.length (fun k => decide (f k = gmx f bid.length)), gmx f bid.length) := by rw [hfd]; exact foldD_all (fun k => bid.getD k 0 - prices.getD k 0) bid.length
  have hfk : ∀ k, f k = bid.getD k 0 - prices.getD k 0 := fun k => by rw [hfd]
  refine Exists.elim (show ∃ G : Int, G = gmx f bid.length from ⟨_, rfl⟩) fun G hG => ?_
  rw [← hG] at hf
  simp only [hf] at hfl ⊢
  refine enter (N := 69) (vs := [bv, pv]) Tryz.func122 rfl rfl rfl ?_
  refine c_sr ?_
  refine s_assign ?_
  refine s_assign ?_
  refine s_assign ?_
  refine s_assign ?_
  refine l_th ?_
  refine c_join (γ := Unit) 134213872 (fun _ => []) (fun _ W' => Ex w W') ?_ ?_
  · repeat (first | (refine isO ?_; refine s_move ?_) | (refine isC ?_; refine c_sr ?_))
    refine s_call ok_Prices12 rfl (Prices12_ok pv prices w hp hm) ?_
    rintro u w1 ⟨rfl, hx1⟩
    have hb1 := hb.ex hx1
    have hp1 := hp.ex hx1
    by_cases h0 : bid.length = 0
    · repeat (first | (refine isO ?_; first | refine s_move ?_ | (refine isG ?_; first | refine g_yes rfl rfl ?_ | refine g_no rfl rfl rfl ?_) | (refine isBin ?_; refine s_gtrF rfl rfl (by omega) ?_) | (refine isCall ?_; refine s_lenI sl_ints rfl (by assumption) ?_) | (refine isPick ?_; refine s_pickf rfl rfl ?_) | refine s_not rfl ?_) | (refine isC ?_; first | refine c_th ?_ | refine c_iff rfl ?_) | (refine l_th ?_))
      exact join_end () (by (repeat (first | exact agree_refl _ _ | refine agree_upd rfl ?_))) trivial hx1
    · repeat ((refine isO ?_; first | refine s_move ?_ | (refine isG ?_; refine g_yes rfl rfl ?_) | (refine isBin ?_; refine s_gtrT rfl rfl (by omega) ?_) | (refine isCall ?_; refine s_lenI sl_ints rfl (by assumption) ?_) | refine s_not rfl ?_))
      refine s_call ok_Check4 rfl (Check4_ct bv bid (prices.length : Int) w1 hb1) ?_
      rintro u w2 ⟨rfl, hx2⟩
      refine s_re (v' := .bool true) (vbool (by
        unfold badBid at hbad
        rw [decide_eq_true (show 0 < bid.length by omega), Bool.true_and, Bool.not_eq_false'] at hbad
        exact hbad)) ?_
      repeat (first | (refine isO ?_; first | (refine isG ?_; refine g_yes rfl rfl ?_) | (refine isPick ?_; first | refine s_pickt rfl rfl ?_ | refine s_pickf rfl rfl ?_) | refine s_not rfl ?_) | (refine isC ?_; first | refine c_th ?_ | refine c_iff rfl ?_) | (refine l_th ?_))
      exact join_end () (by (repeat (first | exact agree_refl _ _ | refine agree_upd rfl ?_))) trivial (hx1.trans hx2)
  rintro _ ρ w1 hx1
  have hb1 := hb.ex hx1
  have hp1 := hp.ex hx1
  repeat (first | (refine isO ?_; refine s_assign ?_) | (refine isC ?_; first | refine c_sr ?_ | refine c_seq ?_ | refine c_block ?_) | (refine l_th ?_))
  refine c_loop (γ := Nat) 17592051827456 (fun k => [(9, .int .i64 (k : Int)), (8, .int .i64 (gmx f k))]) (fun k W => k ≤ bid.length ∧ Ex w1 W) (fun k => bid.length - k) 0 ⟨rfl, rfl, trivial⟩ ⟨Nat.zero_le _, Ex.refl _⟩ ?_
  rintro k ρ2 W ⟨hk, hx⟩
  have hbW := hb1.ex hx
  have hpW := hp1.ex hx
  repeat (first | (refine isO ?_; first | refine s_move ?_ | (refine isBin ?_; refine s_lss rfl rfl ?_) | (refine isCall ?_; refine s_lenI sl_ints rfl (by assumption) ?_)) | (refine isC ?_; first | refine c_sr ?_ | refine c_seq ?_) | (refine l_th ?_))
  refine c_ifd rfl (fun h => ?_) (fun h => ?_)
  · have hk' : k < bid.length := by omega
    have hbk := hbb k
    have hpk := hpb k
    repeat ((refine isC ?_; first | refine c_th ?_ | refine c_seq ?_ | refine c_block ?_))
    refine c_drawO (Ex.refl W) 0 8 [(0, true), (1, true), (2, true), (3, true), (4, true), (5, true), (6, true), (7, true), (8, true), (9, true), (10, true), (11, true)] mixed (by kernel_rfl) ?_
    have hxd := Ex.drew W
    refine d_move rfl ?_
    refine d_move rfl ?_
    refine d_move rfl ?_
    refine d_iaI (n := k) rfl sl_ints ty_int rfl rfl hbW hk' ?_
    intro ad1 hc1
    refine d_ld rfl ty_int rfl hc1 ?_
    refine d_move rfl ?_
    refine d_move rfl ?_
    refine d_iaI (n := k) rfl sl_ints ty_int rfl rfl hpW (by omega) ?_
    intro ad2 hc2
    refine d_ld rfl ty_int rfl hc2 ?_
    refine d_sub rfl rfl rfl ⟨by omega, by omega⟩ ?_
    refine d_max rfl rfl rfl ?_
    refine d_re (v' := .int .i64 (gmx f (k + 1))) (by rw [gmx_succ, hfk]) ?_
    refine d_assign rfl ?_
    refine d_nil ?_
    repeat (first | (refine isO ?_; first | refine s_move ?_ | refine s_assign ?_ | (refine isBin ?_; refine s_inc rfl (by omega) ?_)) | (refine isC ?_; refine c_region ?_) | (refine l_th ?_))
    exact loop_end (k + 1) (by (repeat (first | exact agree_refl _ _ | refine agree_upd rfl ?_ | refine agree_ext rfl ?_ | refine agree_mask rfl ?_))) ⟨vint (by omega), rfl, trivial⟩ ⟨hk', hx.trans hxd⟩ (by show bid.length - (k + 1) < bid.length - k; omega)
  · have hkn : k = bid.length := by omega
    subst hkn
    rw [← hG]
    clear hG
    repeat (first | (refine isO ?_; refine s_assign ?_) | (refine isC ?_; first | refine c_sr ?_ | refine c_seq ?_ | refine c_block ?_ | refine c_exit ?_) | (refine l_th ?_))
    refine c_loop2 36893470555233061888 (fun (k : Nat) (v : Value) => [(11, .int .i64 (k : Int)), (10, v)]) (fun k v U => k ≤ bid.length ∧ LI W U 3 v (rowL k (fun q => decide (f q = G))) ∧ Ex W U) (fun k _ => bid.length - k) 0 (.slice none 0 0) ⟨rfl, rfl, trivial⟩ ⟨Nat.zero_le _, LI.nil _ _ _, Ex.refl _⟩ ?_
    rintro k v ρ3 U ⟨hk, hL, hxU⟩
    have hbU := hbW.ex hxU
    have hpU := hpW.ex hxU
    have hx0U := (hx1.trans hx).trans hxU
    repeat (first | (refine isO ?_; first | refine s_move ?_ | (refine isBin ?_; refine s_lss rfl rfl ?_) | (refine isCall ?_; refine s_lenI sl_ints rfl (by assumption) ?_)) | (refine isC ?_; first | refine c_sr ?_ | refine c_seq ?_) | (refine l_th ?_))
    refine c_ifd rfl (fun h2 => ?_) (fun h2 => ?_)
    · have hk' : k < bid.length := by omega
      have hbk := hbb k
      have hpk := hpb k
      have hsn := rowL_snoc k (fun q => decide (f q = G))
      have hrl : (rowL k (fun q => decide (f q = G))).length ≤ k := by rw [rowL_len]; exact Nat.le_trans (List.length_filter_le _ _) (by simp)
      repeat ((refine isC ?_; first | refine c_th ?_ | refine c_seq ?_ | refine c_block ?_))
      refine c_drawO (Ex.refl U) 0 8 [(0, true), (1, true), (2, true), (3, true), (4, true), (5, true), (6, true), (7, true), (8, true), (9, true), (10, true)] mixed (by kernel_rfl) ?_
      have hxd := Ex.drew U
      refine d_move rfl ?_
      refine d_move rfl ?_
      refine d_iaI (n := k) rfl sl_ints ty_int rfl rfl hbU hk' ?_
      intro ad1 hc1
      refine d_ld rfl ty_int rfl hc1 ?_
      refine d_move rfl ?_
      refine d_move rfl ?_
      refine d_iaI (n := k) rfl sl_ints ty_int rfl rfl hpU (by omega) ?_
      intro ad2 hc2
      refine d_ld rfl ty_int rfl hc2 ?_
      refine d_sub rfl rfl rfl ⟨by omega, by omega⟩ ?_
      refine d_move rfl ?_
      refine d_eql rfl rfl rfl ?_
      refine d_re (v' := .bool (decide (f k = G))) (by rw [hfk]) ?_
      refine d_nil ?_
      by_cases e : f k = G
      · rw [decide_eq_true e] at hsn ⊢
        rw [if_pos rfl] at hsn
        repeat (first | (refine isO ?_; refine s_move ?_) | (refine isC ?_; first | refine c_region ?_ | refine c_ift rfl ?_))
        refine s_li (q := (k : Int)) sl_ints in_int rfl (hL.ex hxd) rfl rfl (fun _ => rfl) (by omega) (hxU.trans hxd) ?_
        intro v' U2 _ hL2 hx2
        repeat (first | (refine isO ?_; first | refine s_move ?_ | refine s_assign ?_ | (refine isBin ?_; refine s_inc rfl (by omega) ?_)) | (refine isC ?_; refine c_region ?_) | (first | refine l_th ?_ | refine l_nil ?_))
        exact loop_end2 (k + 1) v' (by (repeat (first | exact agree_refl _ _ | refine agree_upd rfl ?_ | refine agree_ext rfl ?_ | refine agree_mask rfl ?_))) ⟨vint (by omega), rfl, trivial⟩ ⟨hk', by rw [hsn]; exact hL2, hx2⟩ (by show bid.length - (k + 1) < bid.length - k; omega)
      · rw [decide_eq_false e] at hsn ⊢
        rw [if_neg (by simp), List.append_nil] at hsn
        repeat (first | (refine isO ?_; first | refine s_move ?_ | refine s_assign ?_ | (refine isBin ?_; refine s_inc rfl (by omega) ?_)) | (refine isC ?_; first | refine c_region ?_ | refine c_iff rfl ?_ | refine c_skip ?_) | (refine l_th ?_))
        exact loop_end2 (k + 1) v (by (repeat (first | exact agree_refl _ _ | refine agree_upd rfl ?_ | refine agree_ext rfl ?_ | refine agree_mask rfl ?_))) ⟨vint (by omega), rfl, trivial⟩ ⟨hk', by rw [hsn]; exact hL.ex hxd, hxU.trans hxd⟩ (by show bid.length - (k + 1) < bid.length - k; omega)
    · have hkn : k = bid.length := by omega
      subst hkn
      repeat (first | (refine isO ?_; first | refine s_move ?_ | refine s_assign ?_ | (refine isBin ?_; refine s_eql rfl rfl ?_)) | (refine isC ?_; first | refine c_sr ?_ | refine c_ret ?_ | refine c_exit ?_) | (refine l_th ?_))
      exact ret4 rfl rfl rfl rfl rfl ⟨v, rfl, hL.low (by have := (hx1.trans hx).size; omega), by omega, hx0U⟩
end Go.Proofs.YtifbgpkjbciblaaGreatDoor.Sal
end
section
/- RR2b: the document's demands of all. -/
set_option maxRecDepth 100000
namespace Go.Proofs.YtifbgpkjbciblaaGreatDoor.Sal
open Go.RowKit
set_option linter.all false
attribute [local irreducible] Go.Code.wpIn Go.wpListIn Ct Ints Rows Sl At Rw WJ
attribute [local irreducible] Wd
set_option maxHeartbeats 8000000 in
theorem All12_ok (rv bv ov pv : Value) (res : List Int) (bids : List (List Int)) (ord prices : List Int) (w : World) (hM : Mk w rv bv ov res bids ord) (hp : Ints w pv prices) (hck : chkM res bids ord = true) (hlen : prices.length = res.length) (hm : mayD prices res.length = true) :
    Ct Tryz.prog 84 #[.agg #[rv, bv, ov], pv] w fun u w' => ∃ gv nv, u = .tuple #[gv, nv, .int .i64 0] ∧ Rows w' gv (dL bids prices) ∧ Sl w' nv ((List.range bids.length).map fun j => .bool (decide (dG bids prices j = 0))) ∧ Ex w w' := by
  obtain ⟨hc1, hc2, hc3, hc4, hc5⟩ := chk_parts hck
  have hm' : mayD prices prices.length = true := by rw [hlen]; exact hm
  refine enter (N := 59) (vs := [.agg #[rv, bv, ov], pv]) Tryz.func84 rfl rfl rfl ?_
  refine c_sr ?_
  refine s_box (cs := [rv, bv, ov]) rfl rfl ?_
  intro b0 w0 hb0 hZ hx0 hs0
  have hM0 := hM.ex hx0
  have hp0 := hp.ex hx0
  refine s_assign ?_
  refine s_assign ?_
  refine s_assign ?_
  refine l_th ?_
  refine c_join (γ := Unit) 1073725552 (fun _ => []) (fun _ W' => Ex w0 W') ?_ ?_
  · repeat ((refine isC ?_; refine c_sr ?_))
    refine s_ldV Tryz.underlying54 rfl (sz_mk _ _ _) rfl hZ ?_
    refine s_call ok_Check5 rfl (Check5_ct rv bv ov res bids ord w0 hM0) ?_
    rintro u w1 ⟨rfl, hx1⟩
    refine s_re (v' := .bool true) (vbool hck) ?_
    have hp1 := hp0.ex hx1
    have hr1 := hM0.r.ex hx1
    have hZ1 := hZ.ex hx1
    repeat (first | (refine isO ?_; first | refine s_move ?_ | (refine isG ?_; refine g_yes rfl rfl ?_) | (refine isBin ?_; refine s_neqF rfl rfl (by omega) ?_) | (refine isCall ?_; refine s_lenI sl_ints rfl (by assumption) ?_) | (refine isPick ?_; refine s_pickf rfl rfl ?_) | (refine isLD ?_; refine s_ldA ty_ints rfl (by assumption) rfl ?_) | refine s_not rfl ?_) | (refine isO ?_; refine s_fa Tryz.underlying54 rfl ty_ints rfl ?_))
    refine s_call ok_Prices12 rfl (Prices12_ok pv prices w1 hp1 hm') ?_
    rintro u w2 ⟨rfl, hx2⟩
    repeat (first | (refine isO ?_; first | (refine isG ?_; refine g_yes rfl rfl ?_) | (refine isPick ?_; refine s_pickf rfl rfl ?_) | refine s_not rfl ?_) | (refine isC ?_; first | refine c_th ?_ | refine c_iff rfl ?_) | (refine l_th ?_))
    exact join_end () (by (repeat (first | exact agree_refl _ _ | refine agree_upd rfl ?_))) trivial (hx1.trans hx2)
  rintro _ ρ w1 hx1
  have hM1 := hM0.ex hx1
  have hp1 := hp0.ex hx1
  have hZ1 := hZ.ex hx1
  repeat (first | (refine isO ?_; refine s_assign ?_) | (refine isC ?_; first | refine c_sr ?_ | refine c_seq ?_ | refine c_block ?_) | (refine l_th ?_))
  refine c_loop3 144115187002130304 (fun (i : Nat) (gv nv : Value) => [(9, .int .i64 (i : Int)), (7, gv), (8, nv)]) (fun i gv nv V => i ≤ bids.length ∧ (∃ vs, B3 w1 V i i gv nv vs (dI bids prices) (fun j => decide (dG bids prices j = 0))) ∧ Ex w1 V) (fun i _ _ => bids.length - i) 0 (.slice none 0 0) (.slice none 0 0) ⟨rfl, rfl, rfl, trivial⟩ ⟨Nat.zero_le _, ⟨fun _ => .bool false, B3.nil _ _ _ _ _⟩, Ex.refl _⟩ ?_
  rintro i gv nv ρ2 V ⟨hi, hvs, hx⟩
  refine Exists.elim hvs fun vs hB => ?_
  have hZV := hZ1.ex hx
  have hbV := hM1.b.ex hx
  have hpV := hp1.ex hx
  repeat (first | (refine isO ?_; first | refine s_move ?_ | (refine isBin ?_; refine s_lss rfl rfl ?_) | (refine isCall ?_; refine s_lenR sl_rows rfl (by assumption) ?_)) | (refine isO ?_; first | refine s_fa Tryz.underlying54 rfl ty_rows rfl ?_ | refine s_ldA ty_rows rfl (by assumption) rfl ?_) | (refine isC ?_; first | refine c_sr ?_ | refine c_seq ?_) | (refine l_th ?_))
  refine c_ifd rfl (fun h => ?_) (fun h => ?_)
  · have hi' : i < bids.length := by omega
    repeat (first | (refine isO ?_; refine s_move ?_) | (refine isO ?_; first | refine s_fa Tryz.underlying54 rfl ty_rows rfl ?_ | refine s_ldA ty_rows rfl (by assumption) rfl ?_) | (refine isC ?_; first | refine c_sr ?_ | refine c_th ?_ | refine c_seq ?_ | refine c_block ?_))
    refine s_ixR sl_rows ty_ints rfl rfl rfl hbV hi' ?_
    intro _ u1 hu1
    repeat ((refine isO ?_; refine s_move ?_))
    refine s_call ok_Of12 rfl (Of12_ok u1 pv (bids.getD i []) prices V hu1 hpV hm' (by rw [hlen]; exact hc5 i hi')) ?_
    rintro u V1 ⟨v, rfl, hL, hl8, hx1V⟩
    have hB1 := hB.ex hx1V
    have hLI := hL.ints (by omega)
    have hvo : ∀ b, v.ownBlock = some b → gv.ownBlock ≠ some b ∧ nv.ownBlock ≠ some b ∧ b < V1.heap.size := fun b hb => ⟨(hB.glt b (hL.2 b hb)).1, (hB.glt b (hL.2 b hb)).2, hL.lt b hb⟩
    have hv1 := hL.one
    repeat (first | (refine isO ?_; first | refine s_move ?_ | refine s_assign ?_ | refine s_extract rfl rfl ?_) | (refine isC ?_; refine c_sr ?_) | (refine l_th ?_))
    refine s_bs1 (u := v) sl_rows in_ints rfl hv1 ?_
    intro c1 V2 hc1' hA2 hx2V hs2
    have hB2 := hB1.ex hx2V
    have hz2 := ((hx.trans hx1V).trans hx2V).size
    refine s_appW (m := 1) (news := [v]) sl_rows wd_ints (by omega) hB2.g ⟨c1, 1, rfl, [], by simpa using hA2⟩ rfl (by omega) (by intro p hp; simp at hp; subst hp; exact hv1) (by omega) (by omega) rfl rfl ?_
    intro g' V3 hW3 hg3 hf3
    have hB3 := hB2.addG hz2 (hLI.ex hx2V) (fun b hb => ⟨(hvo b hb).1, (hvo b hb).2.1, by have := (hvo b hb).2.2; have := hx2V.size; omega⟩) hW3 hg3 hf3
    have hx13 := ((hx.trans hx1V).trans hx2V).storeo hg3 hB2.go
    repeat (first | (refine isO ?_; first | refine s_move ?_ | refine s_assign ?_) | (refine isC ?_; refine c_region ?_) | (refine l_th ?_))
    refine s_bs1 (u := .bool (decide (dG bids prices i = 0))) sl_bls inO_bl rfl rfl ?_
    intro c2 V4 hc2' hA4 hx4V hs4
    have hB4 := hB3.ex hx4V
    have hx14 := hx13.trans hx4V
    refine s_appW (m := 1) (news := [.bool (decide (dG bids prices i = 0))]) sl_bls wd_bl (by omega) hB4.b ⟨c2, 1, rfl, [], by simpa using hA4⟩ rfl (by omega) (by intro p hp; simp at hp; subst hp; rfl) (by omega) (by omega) rfl rfl ?_
    intro n' V5 hW5 hg5 hf5
    have hB5 := hB4.addB hx14.size hW5 hg5 hf5
    have hx15 := hx14.storeo hg5 (fun b hb => (hB4.bo b hb).1)
    repeat (first | (refine isO ?_; first | refine s_move ?_ | refine s_assign ?_ | (refine isBin ?_; refine s_inc rfl (by omega) ?_)) | (refine isC ?_; refine c_region ?_) | (first | refine l_th ?_ | refine l_nil ?_))
    exact loop_end3 (i + 1) g' n' (by (repeat (first | exact agree_refl _ _ | refine agree_upd rfl ?_ | refine agree_ext rfl ?_ | refine agree_mask rfl ?_))) ⟨vint (by omega), rfl, rfl, trivial⟩ ⟨hi', ⟨_, hB5⟩, hx15⟩ (by show bids.length - (i + 1) < bids.length - i; omega)
  · have hin : i = bids.length := by omega
    subst hin
    repeat (first | (refine isO ?_; first | refine s_move ?_ | refine s_assign ?_) | (refine isC ?_; first | refine c_sr ?_ | refine c_ret ?_ | refine c_exit ?_) | (refine l_th ?_))
    exact ret3 rfl rfl rfl rfl ⟨gv, nv, rfl, hB.rows (by omega), hB.b.sl (by omega), (hx0.trans hx1).trans hx⟩
end Go.Proofs.YtifbgpkjbciblaaGreatDoor.Sal
end
