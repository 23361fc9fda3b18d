/- Texts that YtifbgpkjbciblaaDoorFWO leans on, laid together: BK3 BK4 BK5. -/
import Derived.Test.YtifbgpkjbciblaaDoorMFWO4
section
/- The Book of salesroomlaw01: fill. -/
set_option maxRecDepth 100000
namespace Go.Proofs.YtifbgpkjbciblaaDoor.Sal
open Go.RowKit
attribute [local irreducible] Go.Code.wpIn Go.wpListIn Ct Ints Rows Sl At Rw WJ
attribute [local irreducible] Wd
set_option linter.all false
theorem Wd.len {w : World} {E : TypeId} {s n : Nat} {v : Value} {xs : List Value} (h : Wd w E s v n xs) : xs.length = n * s := by unfold Wd at h; exact h.1
theorem nodup_inj : ∀ {ns : List Nat} {i j q : Nat}, ns.Nodup → ns[i]? = some q → ns[j]? = some q → i = j := by
  intro ns i j q hn hi hj
  obtain ⟨a1, a2⟩ := List.getElem?_eq_some_iff.1 hi
  obtain ⟨b1, b2⟩ := List.getElem?_eq_some_iff.1 hj
  have hp := List.pairwise_iff_getElem.1 hn
  rcases Nat.lt_trichotomy i j with h | h | h
  · exact absurd (a2.trans b2.symm) (hp i j a1 b1 h)
  · exact h
  · exact absurd (b2.trans a2.symm) (hp j i b1 a1 h)
/-- A mark of a list of numbers; of a list of lists. -/
def MKi (lo : Nat) (w : World) (q : Nat) (u : Value) : Prop := u = .int .i64 (-(q : Int))
def MKl (lo : Nat) (w : World) (q : Nat) (u : Value) : Prop := ∃ b, lo ≤ b ∧ u = sv b 1 1 ∧ At w b 3 [.int .i64 (q : Int)]
theorem MKi.ex {lo : Nat} {w w' : World} {q : Nat} {u : Value} (h : MKi lo w q u) (hx : Ex w w') : MKi lo w' q u := h
theorem MKl.ex {lo : Nat} {w w' : World} {q : Nat} {u : Value} (h : MKl lo w q u) (hx : Ex w w') : MKl lo w' q u := let ⟨b, h1, h2, h3⟩ := h; ⟨b, h1, h2, h3.ex hx⟩
theorem MKi.grown {lo : Nat} {w w' : World} {q : Nat} {u : Value} {o : Option Nat} (h : MKi lo w q u) (hg : w.grownBy w' o) (ho : ∀ b, o = some b → b < lo) : MKi lo w' q u := h
theorem MKl.grown {lo : Nat} {w w' : World} {q : Nat} {u : Value} {o : Option Nat} (h : MKl lo w q u) (hg : w.grownBy w' o) (ho : ∀ b, o = some b → b < lo) : MKl lo w' q u := by
  obtain ⟨b, h1, h2, h3⟩ := h
  exact ⟨b, h1, h2, h3.grown hg (fun e => by have := ho b e; omega)⟩
theorem MKi.kt {lo : Nat} {S : Nat → Prop} {w w' : World} {q : Nat} {u : Value} (h : MKi lo w q u) (hk : KtS S w w') (hs : ∀ b, S b → b < lo) : MKi lo w' q u := h
theorem MKl.kt {lo : Nat} {S : Nat → Prop} {w w' : World} {q : Nat} {u : Value} (h : MKl lo w q u) (hk : KtS S w w') (hs : ∀ b, S b → b < lo) : MKl lo w' q u := by
  obtain ⟨b, h1, h2, h3⟩ := h
  exact ⟨b, h1, h2, h3.kt hk (fun e => by have := hs b e; omega)⟩
theorem MKi.one {lo : Nat} {w : World} {q : Nat} {u : Value} (h : MKi lo w q u) : u.oneCell' = true := by rw [h]; rfl
theorem MKl.one {lo : Nat} {w : World} {q : Nat} {u : Value} (h : MKl lo w q u) : u.oneCell' = true := by obtain ⟨b, _, rfl, _⟩ := h; rfl
theorem ok_markInt : CallOK Tryd.prog 58 := callOK Tryd.func58 (by kernel_rfl) rfl
theorem ok_markIntList : CallOK Tryd.prog 60 := callOK Tryd.func60 (by kernel_rfl) rfl
theorem wrap_small {q : Nat} (h : q ≤ 200000) : IntKind.i64.wrap (-(q : Int)) = -(q : Int) := by
  simp only [IntKind.wrap, IntKind.signed, IntKind.bits]
  simp
  omega
theorem markInt_ct (lo q : Nat) (w : World) (hq : q ≤ 200000) (hlo : lo ≤ w.heap.size) : Ct Tryd.prog 58 #[.int .i64 (q : Int)] w fun u w' => MKi lo w' q u ∧ u.oneCell' = true ∧ Ex w w' := by
  refine enter (N := 5) (vs := [.int .i64 (q : Int)]) Tryd.func58 rfl rfl rfl ?_
  repeat (first | (refine isO ?_; first | refine s_move ?_ | refine s_assign ?_) | (refine isC ?_; refine c_sr ?_) | (refine l_th ?_))
  refine s_neg rfl ?_
  refine s_re (v' := .int .i64 (-(q : Int))) (vint (wrap_small hq)) ?_
  repeat (first | (refine isO ?_; refine s_assign ?_) | (refine isC ?_; refine c_ret ?_) | (refine l_th ?_))
  exact ret1 rfl rfl ⟨rfl, rfl, Ex.refl _⟩
theorem markIntList_ct (lo q : Nat) (w : World) (hq : q ≤ 200000) (hlo : lo ≤ w.heap.size) : Ct Tryd.prog 60 #[.int .i64 (q : Int)] w fun u w' => MKl lo w' q u ∧ u.oneCell' = true ∧ Ex w w' := by
  refine enter (N := 5) (vs := [.int .i64 (q : Int)]) Tryd.func60 rfl rfl rfl ?_
  repeat (first | (refine isO ?_; first | refine s_move ?_ | refine s_assign ?_) | (refine isC ?_; refine c_sr ?_) | (refine l_th ?_))
  refine s_bs1 sl_ints in_int rfl rfl ?_
  intro b1 w1 hb1 hA1 hx1 hs1
  repeat (first | (refine isO ?_; refine s_assign ?_) | (refine isC ?_; refine c_ret ?_) | (refine l_th ?_))
  exact ret1 rfl rfl ⟨⟨b1, by omega, rfl, hA1⟩, rfl, hx1⟩
theorem ok_fillInt : CallOK Tryd.prog 27 := callOK Tryd.func27 (by kernel_rfl) rfl
set_option maxHeartbeats 2000000 in
theorem fillInt_ct (bk M : Nat) (ns : List Nat) (L G : Nat → Value) (ln : Nat → Nat) (cs : Nat → List Value) (vi vl : Value) (w : World) (hA : At w bk 45 (bkc M vi vl)) (hW : Wd w 67 3 vi ns.length (flat3 L G ns)) (hN : ns.length ≤ 100000) (hq : ∀ q ∈ ns, q ≤ 200000)
    (hL : ∀ q ∈ ns, Wd w 3 1 (L q) (ln q) (cs q)) (hln : ∀ q ∈ ns, ln q ≤ 100000) (hLone : ∀ q ∈ ns, (L q).oneCell' = true) (hGone : ∀ q ∈ ns, (G q).oneCell' = true) (hnd : ns.Nodup) (hd : ∀ p ∈ ns, ∀ q ∈ ns, p ≠ q → ∀ b, (L p).ownBlock = some b → (L q).ownBlock ≠ some b) (hbk : ∀ q ∈ ns, ∀ b, (L q).ownBlock = some b → b ≠ bk ∧ vi.ownBlock ≠ some b) :
    Ct Tryd.prog 27 #[.pointer (some ⟨bk, 0, none⟩)] w fun u w' => u = .tuple #[] ∧ KtS (fun b => ∃ q ∈ ns, (L q).ownBlock = some b) w w' ∧ ∀ q ∈ ns, ∃ xs, Wd w' 3 1 (L q) (ln q) xs ∧ ∀ u ∈ xs, MKi w.heap.size w' q u := by
  obtain ⟨va, vc, hvf⟩ := hW.slen
  refine Exists.elim in_heldInt.ex fun ti hti => ?_
  have hS : ∀ b, (∃ q ∈ ns, (L q).ownBlock = some b) → b < w.heap.size := fun b ⟨q, h1, h2⟩ => (hL q h1).lt b h2
  refine enter (N := 35) (vs := [.pointer (some ⟨bk, 0, none⟩)]) Tryd.func27 rfl rfl rfl ?_
  repeat (first | (refine isO ?_; refine s_assign ?_) | (refine isC ?_; first | refine c_sr ?_ | refine c_block ?_) | (refine l_th ?_))
  refine c_loop (γ := Nat) 34359738364 (fun i => [(2, .int .i64 (i : Int))]) (fun i W => i ≤ ns.length ∧ KtS (fun b => ∃ q ∈ ns, (L q).ownBlock = some b) w W ∧ ∀ j q, ns[j]? = some q → (j < i → ∃ xs, Wd W 3 1 (L q) (ln q) xs ∧ ∀ u ∈ xs, MKi w.heap.size W q u) ∧ (i ≤ j → Wd W 3 1 (L q) (ln q) (cs q))) (fun i => ns.length - i) 0 ⟨rfl, trivial⟩ ⟨Nat.zero_le _, KtS.refl _ _, fun j q h => ⟨fun h => by omega, fun _ => hL q (List.mem_of_getElem? h)⟩⟩ ?_
  rintro i ρ W ⟨hi, hK, hI⟩
  have hAW := hA.kt hK (fun ⟨q, h1, h2⟩ => (hbk q h1 bk h2).1 rfl)
  have hWW := hW.kt hK (fun b hb ⟨q, h1, h2⟩ => (hbk q h1 b h2).2 hb)
  repeat (first | (refine isO ?_; refine s_move ?_) | (refine isC ?_; first | refine c_sr ?_ | refine c_seq ?_))
  refine s_nil rfl ?_
  refine s_faN Tryd.underlying45 rfl ty_hi.n rfl ?_
  refine s_ldA ty_hi rfl hAW rfl ?_
  refine s_len (n := ns.length) (a := va) (c := vc) sl_hi hvf ?_
  repeat (first | (refine isO ?_; (refine isBin ?_; refine s_lss rfl rfl ?_)) | (refine l_th ?_))
  refine c_ifd rfl (fun h => ?_) (fun h => ?_)
  · have hi' : i < ns.length := by omega
    have hqe : ∃ q, ns[i]? = some q := ⟨_, List.getElem?_eq_getElem hi'⟩
    refine Exists.elim hqe fun q hqi => ?_
    have hqm := List.mem_of_getElem? hqi
    refine Exists.elim (hWW.pos (by omega)) fun ib he1 => Exists.elim he1 fun ic he2 => Exists.elim he2 fun isp he3 => ?_
    have hcell : ∀ j v, [L q, G q, Value.int .i64 (q : Int)][j]? = some v → (flat3 L G ns ++ isp)[i * 3 + j]? = some v := fun j v hj => by
      have h1 := flat3_get L G ns i q hqi j v hj
      rw [List.getElem?_append_left (List.getElem?_eq_some_iff.1 h1).1]; exact h1
    repeat (first | (refine isO ?_; refine s_move ?_) | (refine isC ?_; first | refine c_sr ?_ | refine c_th ?_ | refine c_seq ?_ | refine c_block ?_))
    refine s_nil rfl ?_
    refine s_faN Tryd.underlying45 rfl ty_hi.n rfl ?_
    refine s_ldA ty_hi rfl hAW rfl ?_
    refine s_re (v' := .slice (some ⟨ib, 0, none⟩) ns.length ic) he3.1 ?_
    repeat ((refine isO ?_; refine s_move ?_))
    refine s_iaW (n := i) (s := 3) sl_hi ⟨ti, hti.1, hti.2.2.1⟩ rfl rfl hi' ?_
    refine s_ldM (cs := [L q, G q, .int .i64 (q : Int)]) Tryd.underlying67 rfl (by kernel_rfl) rfl he3.2.1 hcell ?_
    refine s_alloc (cs := [.slice none 0 0, .slice none 0 0, .int .i64 0]) hti.1 hti.2.1 rfl ?_
    intro b3 w3 hb3 hA3 hx3 hs3
    refine s_stV (cs := [L q, G q, .int .i64 (q : Int)]) (by kernel_rfl) rfl rfl hA3 rfl (by rw [List.all_cons, List.all_cons, hLone q hqm, hGone q hqm]; rfl) ?_
    intro w4 hA4 hg4 hz4
    have hWq := hW
    have z3 := hx3.size
    have hK4 : KtS (fun b => (L q).ownBlock = some b) W w4 := (KtS.of_ex hx3).later (KtS.of_grown (S := fun b => b3 = b) hg4 (fun k e => Option.some.inj e)) (fun k e => .inr (by omega))
    have hLq := ((hI i q hqi).2 (Nat.le_refl _))
    have hLq4 := hLq.kt ((KtS.of_ex (S := fun _ => False) hx3).later (KtS.of_grown (S := fun b => b3 = b) hg4 (fun k e => Option.some.inj e)) (fun k e => .inr (by omega))) (fun _ _ h => h)
    have hqb := hq q hqm
    have hlq := hln q hqm
    have hxl : (cs q).length = ln q := by have := hLq.len; simpa using this
    have hb3L : ∀ b, (L q).ownBlock = some b → b ≠ b3 := fun b hb e => by have := hLq.lt b hb; omega
    refine Exists.elim hLq.slen fun la hl1 => Exists.elim hl1 fun lc hlf => ?_
    repeat (first | (refine isO ?_; refine s_assign ?_) | (refine isC ?_; first | refine c_sr ?_ | refine c_block ?_) | (refine l_th ?_))
    refine c_loop (γ := Nat) 34357641232 (fun k => [(4, .int .i64 (k : Int))]) (fun k W2 => k ≤ ln q ∧ KtS (fun b => (L q).ownBlock = some b) w4 W2 ∧ ∃ xs, xs.length = k ∧ Wd W2 3 1 (L q) (ln q) (xs ++ (cs q).drop k) ∧ ∀ u ∈ xs, MKi w.heap.size W2 q u) (fun k => ln q - k) 0 ⟨rfl, trivial⟩ ⟨Nat.zero_le _, KtS.refl _ _, [], rfl, by simpa using hLq4, fun u hu => by cases hu⟩ ?_
    rintro k ρ2 W2 ⟨hk, hK2, hxe⟩
    refine Exists.elim hxe fun xs hxs => ?_
    have hA5 := hA4.kt hK2 (fun e => hb3L b3 e rfl)
    repeat (first | (refine isO ?_; refine s_move ?_) | (refine isC ?_; first | refine c_sr ?_ | refine c_seq ?_))
    refine s_faN Tryd.underlying67 rfl ty_ints.n rfl ?_
    refine s_ldA ty_ints rfl hA5 rfl ?_
    refine s_len (n := ln q) (a := la) (c := lc) sl_ints hlf ?_
    repeat (first | (refine isO ?_; (refine isBin ?_; refine s_lss rfl rfl ?_)) | (refine l_th ?_))
    refine c_ifd rfl (fun h2 => ?_) (fun h2 => ?_)
    · have hk' : k < ln q := by omega
      refine Exists.elim (hxs.2.1.pos (by omega)) fun lb hf1 => Exists.elim hf1 fun lc2 hf2 => Exists.elim hf2 fun lsp hf3 => ?_
      have hlb : (L q).ownBlock = some lb := by rw [hf3.1]; rfl
      have hlbb := hb3L lb hlb
      repeat ((refine isC ?_; first | refine c_th ?_ | refine c_seq ?_ | refine c_block ?_))
      refine c_drawO (Ex.refl W2) 7 8 [(0, true), (1, true), (2, true), (3, true), (4, true), (5, false), (6, true), (7, false)] mixed (by kernel_rfl) ?_
      refine d_faN rfl Tryd.underlying67 rfl ty_ints.n rfl ?_
      refine d_ldA rfl ty_ints rfl hA5 rfl ?_
      refine d_re (v' := .slice (some ⟨lb, 0, none⟩) (ln q) lc2) hf3.1 ?_
      refine d_move rfl ?_
      refine d_faN rfl Tryd.underlying67 rfl ty_int.n rfl ?_
      refine d_ldA rfl ty_int rfl hA5 rfl ?_
      refine d_ch rfl ?_
      refine s_call ok_markInt rfl (markInt_ct w.heap.size q W2.drew hqb (by have := hK.size; have := hK2.size; have := (Ex.drew W2).size; omega)) ?_
      rintro x w5 ⟨hmk, hone, hx5⟩
      have hx25 := (Ex.drew W2).trans hx5
      refine l_nil ⟨rfl, .inr hx25, ?_⟩
      refine d_iaA (n := k) rfl sl_ints ty_int rfl rfl hk' ?_
      refine d_ch rfl ?_
      refine s_stA (n := k) (u := x) ty_int rfl rfl hone (hf3.2.1.ex hx25) (by simp [hxs.1]; omega) ?_
      intro w6 hA6 hg6
      refine l_nil ⟨rfl, .inl rfl, ?_⟩
      refine d_nil ?_
      have hset : Wd w6 3 1 (.slice (some ⟨lb, 0, none⟩) (ln q) lc2) (ln q) ((xs ++ (cs q).drop k).set k x) := Wd.set (w := w6) (by simp [hxs.1]; omega) (by simp [hxs.1]; omega) hA6 hf3.2.2.1 hf3.2.2.2.1 hf3.2.2.2.2
      rw [← hf3.1] at hset
      have e : (xs ++ (cs q).drop k).set k x = (xs ++ [x]) ++ (cs q).drop (k + 1) := by
        rw [List.set_append_right _ _ (by omega), hxs.1, Nat.sub_self]
        have : (cs q).drop k = (cs q)[k] :: (cs q).drop (k + 1) := List.drop_eq_getElem_cons (by omega)
        rw [this, List.set_cons_zero, List.append_assoc]; rfl
      rw [e] at hset
      have hlo : lb < w.heap.size := hS lb ⟨q, hqm, hlb⟩
      repeat (first | (refine isO ?_; first | refine s_move ?_ | refine s_assign ?_ | (refine isBin ?_; refine s_inc rfl (by omega) ?_)) | (refine isC ?_; refine c_region ?_) | (refine l_th ?_))
      refine loop_end (k + 1) (by (repeat (first | exact agree_refl _ _ | refine agree_upd rfl ?_ | refine agree_ext rfl ?_ | refine agree_mask rfl ?_))) ⟨rfl, trivial⟩ ⟨hk', (hK2.trans (KtS.of_ex hx25)).trans (KtS.of_grown hg6 (fun b e => by rw [← e]; exact hlb)), xs ++ [x], by simp [hxs.1], hset, fun u hu => ?_⟩ (by omega)
      have hlt6 : ∀ b, some lb = some b → b < w.heap.size := fun b e => by cases e; exact hlo
      rcases List.mem_append.1 hu with hu | hu
      · exact MKi.grown ((hxs.2.2 u hu).ex hx25) hg6 hlt6
      · simp at hu; subst hu; exact MKi.grown hmk hg6 hlt6
    · have hke : k = ln q := by omega
      subst hke
      have hK6 : KtS (fun b => (L q).ownBlock = some b) W W2 := hK4.trans hK2
      repeat (first | (refine isO ?_; first | refine s_move ?_ | refine s_assign ?_ | (refine isBin ?_; refine s_inc rfl (by omega) ?_)) | (refine isC ?_; first | refine c_region ?_ | refine c_exit ?_) | (refine l_th ?_))
      refine loop_end (i + 1) (by (repeat (first | exact agree_refl _ _ | refine agree_upd rfl ?_ | refine agree_ext rfl ?_ | refine agree_mask rfl ?_))) ⟨rfl, trivial⟩ ⟨hi', hK.trans (hK6.mono fun b hb => ⟨q, hqm, hb⟩), fun j p hp => ⟨fun hj => ?_, fun hj => ?_⟩⟩ (by omega)
      · by_cases e : j = i
        · subst e
          rw [hqi] at hp
          have e2 := Option.some.inj hp
          subst e2
          exact ⟨xs, by have := hxs.2.1; rwa [List.drop_eq_nil_of_le (by omega), List.append_nil] at this, hxs.2.2⟩
        · have hpm := List.mem_of_getElem? hp
          have hpq : p ≠ q := fun e2 => e (nodup_inj hnd hp (e2 ▸ hqi))
          obtain ⟨ys, h1, h2⟩ := (hI j p hp).1 (by omega)
          exact ⟨ys, h1.kt hK6 (fun b hb hb2 => hd p hpm q hqm hpq b hb hb2), fun u hu => MKi.kt (h2 u hu) hK6 (fun b hb => hS b ⟨q, hqm, hb⟩)⟩
      · have hpm := List.mem_of_getElem? hp
        have hpq : p ≠ q := fun e2 => by have := nodup_inj hnd hp (e2 ▸ hqi); omega
        exact ((hI j p hp).2 (by omega)).kt hK6 (fun b hb hb2 => hd p hpm q hqm hpq b hb hb2)
  · have hie : i = ns.length := by omega
    subst hie
    repeat (first | (refine isC ?_; refine c_exit ?_) | (first | refine ib_exit ?_ | refine th_exit ?_))
    refine end0 rfl ⟨rfl, hK, fun q hqm => ?_⟩
    obtain ⟨j, hj⟩ := List.mem_iff_getElem?.1 hqm
    exact (hI j q hj).1 (List.getElem?_eq_some_iff.1 hj).1
theorem ok_fillIntList : CallOK Tryd.prog 29 := callOK Tryd.func29 (by kernel_rfl) rfl
set_option maxHeartbeats 2000000 in
theorem fillIntList_ct (bk M : Nat) (ns : List Nat) (L G : Nat → Value) (ln : Nat → Nat) (cs : Nat → List Value) (vi vl : Value) (w : World) (hA : At w bk 45 (bkc M vl vi)) (hW : Wd w 65 3 vi ns.length (flat3 L G ns)) (hN : ns.length ≤ 100000) (hq : ∀ q ∈ ns, q ≤ 200000)
    (hL : ∀ q ∈ ns, Wd w 30 1 (L q) (ln q) (cs q)) (hln : ∀ q ∈ ns, ln q ≤ 100000) (hLone : ∀ q ∈ ns, (L q).oneCell' = true) (hGone : ∀ q ∈ ns, (G q).oneCell' = true) (hnd : ns.Nodup) (hd : ∀ p ∈ ns, ∀ q ∈ ns, p ≠ q → ∀ b, (L p).ownBlock = some b → (L q).ownBlock ≠ some b) (hbk : ∀ q ∈ ns, ∀ b, (L q).ownBlock = some b → b ≠ bk ∧ vi.ownBlock ≠ some b) :
    Ct Tryd.prog 29 #[.pointer (some ⟨bk, 0, none⟩)] w fun u w' => u = .tuple #[] ∧ KtS (fun b => ∃ q ∈ ns, (L q).ownBlock = some b) w w' ∧ ∀ q ∈ ns, ∃ xs, Wd w' 30 1 (L q) (ln q) xs ∧ ∀ u ∈ xs, MKl w.heap.size w' q u := by
  obtain ⟨va, vc, hvf⟩ := hW.slen
  refine Exists.elim in_heldIntList.ex fun ti hti => ?_
  have hS : ∀ b, (∃ q ∈ ns, (L q).ownBlock = some b) → b < w.heap.size := fun b ⟨q, h1, h2⟩ => (hL q h1).lt b h2
  refine enter (N := 35) (vs := [.pointer (some ⟨bk, 0, none⟩)]) Tryd.func29 rfl rfl rfl ?_
  repeat (first | (refine isO ?_; refine s_assign ?_) | (refine isC ?_; first | refine c_sr ?_ | refine c_block ?_) | (refine l_th ?_))
  refine c_loop (γ := Nat) 34359738364 (fun i => [(2, .int .i64 (i : Int))]) (fun i W => i ≤ ns.length ∧ KtS (fun b => ∃ q ∈ ns, (L q).ownBlock = some b) w W ∧ ∀ j q, ns[j]? = some q → (j < i → ∃ xs, Wd W 30 1 (L q) (ln q) xs ∧ ∀ u ∈ xs, MKl w.heap.size W q u) ∧ (i ≤ j → Wd W 30 1 (L q) (ln q) (cs q))) (fun i => ns.length - i) 0 ⟨rfl, trivial⟩ ⟨Nat.zero_le _, KtS.refl _ _, fun j q h => ⟨fun h => by omega, fun _ => hL q (List.mem_of_getElem? h)⟩⟩ ?_
  rintro i ρ W ⟨hi, hK, hI⟩
  have hAW := hA.kt hK (fun ⟨q, h1, h2⟩ => (hbk q h1 bk h2).1 rfl)
  have hWW := hW.kt hK (fun b hb ⟨q, h1, h2⟩ => (hbk q h1 b h2).2 hb)
  repeat (first | (refine isO ?_; refine s_move ?_) | (refine isC ?_; first | refine c_sr ?_ | refine c_seq ?_))
  refine s_nil rfl ?_
  refine s_faN Tryd.underlying45 rfl ty_hl.n rfl ?_
  refine s_ldA ty_hl rfl hAW rfl ?_
  refine s_len (n := ns.length) (a := va) (c := vc) sl_hl hvf ?_
  repeat (first | (refine isO ?_; (refine isBin ?_; refine s_lss rfl rfl ?_)) | (refine l_th ?_))
  refine c_ifd rfl (fun h => ?_) (fun h => ?_)
  · have hi' : i < ns.length := by omega
    have hqe : ∃ q, ns[i]? = some q := ⟨_, List.getElem?_eq_getElem hi'⟩
    refine Exists.elim hqe fun q hqi => ?_
    have hqm := List.mem_of_getElem? hqi
    refine Exists.elim (hWW.pos (by omega)) fun ib he1 => Exists.elim he1 fun ic he2 => Exists.elim he2 fun isp he3 => ?_
    have hcell : ∀ j v, [L q, G q, Value.int .i64 (q : Int)][j]? = some v → (flat3 L G ns ++ isp)[i * 3 + j]? = some v := fun j v hj => by
      have h1 := flat3_get L G ns i q hqi j v hj
      rw [List.getElem?_append_left (List.getElem?_eq_some_iff.1 h1).1]; exact h1
    repeat (first | (refine isO ?_; refine s_move ?_) | (refine isC ?_; first | refine c_sr ?_ | refine c_th ?_ | refine c_seq ?_ | refine c_block ?_))
    refine s_nil rfl ?_
    refine s_faN Tryd.underlying45 rfl ty_hl.n rfl ?_
    refine s_ldA ty_hl rfl hAW rfl ?_
    refine s_re (v' := .slice (some ⟨ib, 0, none⟩) ns.length ic) he3.1 ?_
    repeat ((refine isO ?_; refine s_move ?_))
    refine s_iaW (n := i) (s := 3) sl_hl ⟨ti, hti.1, hti.2.2.1⟩ rfl rfl hi' ?_
    refine s_ldM (cs := [L q, G q, .int .i64 (q : Int)]) Tryd.underlying65 rfl (by kernel_rfl) rfl he3.2.1 hcell ?_
    refine s_alloc (cs := [.slice none 0 0, .slice none 0 0, .int .i64 0]) hti.1 hti.2.1 rfl ?_
    intro b3 w3 hb3 hA3 hx3 hs3
    refine s_stV (cs := [L q, G q, .int .i64 (q : Int)]) (by kernel_rfl) rfl rfl hA3 rfl (by rw [List.all_cons, List.all_cons, hLone q hqm, hGone q hqm]; rfl) ?_
    intro w4 hA4 hg4 hz4
    have hWq := hW
    have z3 := hx3.size
    have hK4 : KtS (fun b => (L q).ownBlock = some b) W w4 := (KtS.of_ex hx3).later (KtS.of_grown (S := fun b => b3 = b) hg4 (fun k e => Option.some.inj e)) (fun k e => .inr (by omega))
    have hLq := ((hI i q hqi).2 (Nat.le_refl _))
    have hLq4 := hLq.kt ((KtS.of_ex (S := fun _ => False) hx3).later (KtS.of_grown (S := fun b => b3 = b) hg4 (fun k e => Option.some.inj e)) (fun k e => .inr (by omega))) (fun _ _ h => h)
    have hqb := hq q hqm
    have hlq := hln q hqm
    have hxl : (cs q).length = ln q := by have := hLq.len; simpa using this
    have hb3L : ∀ b, (L q).ownBlock = some b → b ≠ b3 := fun b hb e => by have := hLq.lt b hb; omega
    refine Exists.elim hLq.slen fun la hl1 => Exists.elim hl1 fun lc hlf => ?_
    repeat (first | (refine isO ?_; refine s_assign ?_) | (refine isC ?_; first | refine c_sr ?_ | refine c_block ?_) | (refine l_th ?_))
    refine c_loop (γ := Nat) 34357641232 (fun k => [(4, .int .i64 (k : Int))]) (fun k W2 => k ≤ ln q ∧ KtS (fun b => (L q).ownBlock = some b) w4 W2 ∧ ∃ xs, xs.length = k ∧ Wd W2 30 1 (L q) (ln q) (xs ++ (cs q).drop k) ∧ ∀ u ∈ xs, MKl w.heap.size W2 q u) (fun k => ln q - k) 0 ⟨rfl, trivial⟩ ⟨Nat.zero_le _, KtS.refl _ _, [], rfl, by simpa using hLq4, fun u hu => by cases hu⟩ ?_
    rintro k ρ2 W2 ⟨hk, hK2, hxe⟩
    refine Exists.elim hxe fun xs hxs => ?_
    have hA5 := hA4.kt hK2 (fun e => hb3L b3 e rfl)
    repeat (first | (refine isO ?_; refine s_move ?_) | (refine isC ?_; first | refine c_sr ?_ | refine c_seq ?_))
    refine s_faN Tryd.underlying65 rfl ty_rows.n rfl ?_
    refine s_ldA ty_rows rfl hA5 rfl ?_
    refine s_len (n := ln q) (a := la) (c := lc) sl_rows hlf ?_
    repeat (first | (refine isO ?_; (refine isBin ?_; refine s_lss rfl rfl ?_)) | (refine l_th ?_))
    refine c_ifd rfl (fun h2 => ?_) (fun h2 => ?_)
    · have hk' : k < ln q := by omega
      refine Exists.elim (hxs.2.1.pos (by omega)) fun lb hf1 => Exists.elim hf1 fun lc2 hf2 => Exists.elim hf2 fun lsp hf3 => ?_
      have hlb : (L q).ownBlock = some lb := by rw [hf3.1]; rfl
      have hlbb := hb3L lb hlb
      repeat ((refine isC ?_; first | refine c_th ?_ | refine c_seq ?_ | refine c_block ?_))
      refine c_drawO (Ex.refl W2) 7 8 [(0, true), (1, true), (2, true), (3, true), (4, true), (5, false), (6, true), (7, false)] mixed (by kernel_rfl) ?_
      refine d_faN rfl Tryd.underlying65 rfl ty_rows.n rfl ?_
      refine d_ldA rfl ty_rows rfl hA5 rfl ?_
      refine d_re (v' := .slice (some ⟨lb, 0, none⟩) (ln q) lc2) hf3.1 ?_
      refine d_move rfl ?_
      refine d_faN rfl Tryd.underlying65 rfl ty_int.n rfl ?_
      refine d_ldA rfl ty_int rfl hA5 rfl ?_
      refine d_ch rfl ?_
      refine s_call ok_markIntList rfl (markIntList_ct w.heap.size q W2.drew hqb (by have := hK.size; have := hK2.size; have := (Ex.drew W2).size; omega)) ?_
      rintro x w5 ⟨hmk, hone, hx5⟩
      have hx25 := (Ex.drew W2).trans hx5
      refine l_nil ⟨rfl, .inr hx25, ?_⟩
      refine d_iaA (n := k) rfl sl_rows ty_ints rfl rfl hk' ?_
      refine d_ch rfl ?_
      refine s_stA (n := k) (u := x) ty_ints rfl rfl hone (hf3.2.1.ex hx25) (by simp [hxs.1]; omega) ?_
      intro w6 hA6 hg6
      refine l_nil ⟨rfl, .inl rfl, ?_⟩
      refine d_nil ?_
      have hset : Wd w6 30 1 (.slice (some ⟨lb, 0, none⟩) (ln q) lc2) (ln q) ((xs ++ (cs q).drop k).set k x) := Wd.set (w := w6) (by simp [hxs.1]; omega) (by simp [hxs.1]; omega) hA6 hf3.2.2.1 hf3.2.2.2.1 hf3.2.2.2.2
      rw [← hf3.1] at hset
      have e : (xs ++ (cs q).drop k).set k x = (xs ++ [x]) ++ (cs q).drop (k + 1) := by
        rw [List.set_append_right _ _ (by omega), hxs.1, Nat.sub_self]
        have : (cs q).drop k = (cs q)[k] :: (cs q).drop (k + 1) := List.drop_eq_getElem_cons (by omega)
        rw [this, List.set_cons_zero, List.append_assoc]; rfl
      rw [e] at hset
      have hlo : lb < w.heap.size := hS lb ⟨q, hqm, hlb⟩
      repeat (first | (refine isO ?_; first | refine s_move ?_ | refine s_assign ?_ | (refine isBin ?_; refine s_inc rfl (by omega) ?_)) | (refine isC ?_; refine c_region ?_) | (refine l_th ?_))
      refine loop_end (k + 1) (by (repeat (first | exact agree_refl _ _ | refine agree_upd rfl ?_ | refine agree_ext rfl ?_ | refine agree_mask rfl ?_))) ⟨rfl, trivial⟩ ⟨hk', (hK2.trans (KtS.of_ex hx25)).trans (KtS.of_grown hg6 (fun b e => by rw [← e]; exact hlb)), xs ++ [x], by simp [hxs.1], hset, fun u hu => ?_⟩ (by omega)
      have hlt6 : ∀ b, some lb = some b → b < w.heap.size := fun b e => by cases e; exact hlo
      rcases List.mem_append.1 hu with hu | hu
      · exact MKl.grown ((hxs.2.2 u hu).ex hx25) hg6 hlt6
      · simp at hu; subst hu; exact MKl.grown hmk hg6 hlt6
    · have hke : k = ln q := by omega
      subst hke
      have hK6 : KtS (fun b => (L q).ownBlock = some b) W W2 := hK4.trans hK2
      repeat (first | (refine isO ?_; first | refine s_move ?_ | refine s_assign ?_ | (refine isBin ?_; refine s_inc rfl (by omega) ?_)) | (refine isC ?_; first | refine c_region ?_ | refine c_exit ?_) | (refine l_th ?_))
      refine loop_end (i + 1) (by (repeat (first | exact agree_refl _ _ | refine agree_upd rfl ?_ | refine agree_ext rfl ?_ | refine agree_mask rfl ?_))) ⟨rfl, trivial⟩ ⟨hi', hK.trans (hK6.mono fun b hb => ⟨q, hqm, hb⟩), fun j p hp => ⟨fun hj => ?_, fun hj => ?_⟩⟩ (by omega)
      · by_cases e : j = i
        · subst e
          rw [hqi] at hp
          have e2 := Option.some.inj hp
          subst e2
          exact ⟨xs, by have := hxs.2.1; rwa [List.drop_eq_nil_of_le (by omega), List.append_nil] at this, hxs.2.2⟩
        · have hpm := List.mem_of_getElem? hp
          have hpq : p ≠ q := fun e2 => e (nodup_inj hnd hp (e2 ▸ hqi))
          obtain ⟨ys, h1, h2⟩ := (hI j p hp).1 (by omega)
          exact ⟨ys, h1.kt hK6 (fun b hb hb2 => hd p hpm q hqm hpq b hb hb2), fun u hu => MKl.kt (h2 u hu) hK6 (fun b hb => hS b ⟨q, hqm, hb⟩)⟩
      · have hpm := List.mem_of_getElem? hp
        have hpq : p ≠ q := fun e2 => by have := nodup_inj hnd hp (e2 ▸ hqi); omega
        exact ((hI j p hp).2 (by omega)).kt hK6 (fun b hb hb2 => hd p hpm q hqm hpq b hb hb2)
  · have hie : i = ns.length := by omega
    subst hie
    repeat (first | (refine isC ?_; refine c_exit ?_) | (first | refine ib_exit ?_ | refine th_exit ?_))
    refine end0 rfl ⟨rfl, hK, fun q hqm => ?_⟩
    obtain ⟨j, hj⟩ := List.mem_iff_getElem?.1 hqm
    exact (hI j q hj).1 (List.getElem?_eq_some_iff.1 hj).1
end Go.Proofs.YtifbgpkjbciblaaDoor.Sal
end
section
/- The Book of salesroomlaw01: grow. -/
set_option maxRecDepth 100000
namespace Go.Proofs.YtifbgpkjbciblaaDoor.Sal
open Go.RowKit
attribute [local irreducible] Go.Code.wpIn Go.wpListIn Ct Ints Rows Sl At Rw WJ
attribute [local irreducible] Wd
set_option linter.all false
theorem in_wint : InfoW Tryd.prog 3 1 (.int .i64 0) 8 := in_w inf_int rfl
theorem in_wints : InfoW Tryd.prog 30 1 (.slice none 0 0) 24 := in_w inf_ints rfl
/-- Marks stand when another list is written. -/
theorem MKi.app {lo n : Nat} {w w' : World} {q : Nat} {u v : Value} {xs : List Value} (h : MKi lo w q u) (hW : Wd w 3 1 v n xs) (hg : w.grownBy w' v.ownBlock) : MKi lo w' q u := h
theorem MKl.app {lo n : Nat} {w w' : World} {q : Nat} {u v : Value} {xs : List Value} (h : MKl lo w q u) (hW : Wd w 30 1 v n xs) (hg : w.grownBy w' v.ownBlock) : MKl lo w' q u := by
  obtain ⟨b, h1, h2, h3⟩ := h
  refine ⟨b, h1, h2, h3.grown hg (fun e => ?_)⟩
  unfold Wd at hW
  rcases hW.2 with ⟨rfl, _⟩ | ⟨b', c, sp, rfl, hA, _⟩
  · cases e
  · cases e
    unfold At at hA h3
    rw [hA] at h3
    have h4 := Option.some.inj h3
    rw [Obj.cells.injEq] at h4
    exact absurd h4.2.1 (by decide)
theorem own_case {a : Option Addr} {n n' c : Nat} : (Value.slice a n c).ownBlock = (Value.slice a n' c).ownBlock := by cases a <;> rfl
theorem ok_growInt : CallOK Tryd.prog 36 := callOK Tryd.func36 (by kernel_rfl) rfl
set_option maxHeartbeats 2000000 in
theorem growInt_ct (bk M lo : Nat) (ns : List Nat) (L G : Nat → Value) (ln : Nat → Nat) (vi vl : Value) (w : World) (hA : At w bk 45 (bkc M vi vl)) (hW : Wd w 67 3 vi ns.length (flat3 L G ns)) (hN : ns.length ≤ 100000) (hq : ∀ q ∈ ns, q ≤ 200000)
    (hL : ∀ q ∈ ns, ∃ xs, Wd w 3 1 (L q) (ln q) xs ∧ ∀ u ∈ xs, MKi lo w q u) (hln : ∀ q ∈ ns, ln q ≤ 100000) (hGone : ∀ q ∈ ns, (G q).oneCell' = true) (hnd : ns.Nodup) (hd : ∀ p ∈ ns, ∀ q ∈ ns, p ≠ q → ∀ b, (L p).ownBlock = some b → (L q).ownBlock ≠ some b) (hbk : ∀ q ∈ ns, ∀ b, (L q).ownBlock = some b → b ≠ bk ∧ vi.ownBlock ≠ some b ∧ b < lo) (hvb : ∀ b, vi.ownBlock = some b → b ≠ bk ∧ b < lo) (hlo : lo ≤ w.heap.size) :
    Ct Tryd.prog 36 #[.pointer (some ⟨bk, 0, none⟩)] w fun u w' => u = .tuple #[] ∧ KtS (fun b => (∃ q ∈ ns, (L q).ownBlock = some b) ∨ vi.ownBlock = some b) w w' ∧ ∃ G', Wd w' 67 3 vi ns.length (flat3 L G' ns) ∧ ∀ q ∈ ns, (∃ xs, Wd w' 3 1 (L q) (ln q) xs ∧ ∀ u ∈ xs, MKi lo w' q u) ∧ (∃ ys, Wd w' 3 1 (G' q) (ln q + 40) ys ∧ ∀ u ∈ ys, MKi lo w' q u) ∧ ∀ b, (G' q).ownBlock = some b → (L q).ownBlock = some b ∨ w.heap.size ≤ b := by
  obtain ⟨va, vc, hvf⟩ := hW.slen
  refine Exists.elim in_heldInt.ex fun ti hti => ?_
  have hLw : ∀ q ∈ ns, ∀ b, (L q).ownBlock = some b → b < w.heap.size := fun q h1 b h2 => by obtain ⟨xs, h3, _⟩ := hL q h1; exact h3.lt b h2
  have hLone : ∀ q ∈ ns, (L q).oneCell' = true := fun q h1 => by obtain ⟨xs, h3, _⟩ := hL q h1; exact h3.one
  have hSlo : ∀ b, ((∃ q ∈ ns, (L q).ownBlock = some b) ∨ vi.ownBlock = some b) → b < lo := fun b h => by
    rcases h with ⟨q, h1, h2⟩ | h
    · exact (hbk q h1 b h2).2.2
    · exact (hvb b h).2
  refine enter (N := 42) (vs := [.pointer (some ⟨bk, 0, none⟩)]) Tryd.func36 rfl rfl rfl ?_
  repeat (first | (refine isO ?_; refine s_assign ?_) | (refine isC ?_; first | refine c_sr ?_ | refine c_block ?_) | (refine l_th ?_))
  refine c_loop (γ := Nat) 4398046511100 (fun i => [(2, .int .i64 (i : Int))]) (fun i W => i ≤ ns.length ∧ KtS (fun b => (∃ q ∈ ns, (L q).ownBlock = some b) ∨ vi.ownBlock = some b) w W ∧ ∃ G', Wd W 67 3 vi ns.length (flat3 L G' ns) ∧ (∀ q ∈ ns, (G' q).oneCell' = true) ∧ ∀ j q, ns[j]? = some q → (∃ xs, Wd W 3 1 (L q) (ln q) xs ∧ ∀ u ∈ xs, MKi lo W q u) ∧ (j < i → (∃ ys, Wd W 3 1 (G' q) (ln q + 40) ys ∧ ∀ u ∈ ys, MKi lo W q u) ∧ ∀ b, (G' q).ownBlock = some b → (L q).ownBlock = some b ∨ w.heap.size ≤ b)) (fun i => ns.length - i) 0 ⟨rfl, trivial⟩ ⟨Nat.zero_le _, KtS.refl _ _, G, hW, hGone, fun j q h => ⟨hL q (List.mem_of_getElem? h), fun h => by omega⟩⟩ ?_
  rintro i ρ W ⟨hi, hK, hGe⟩
  refine Exists.elim hGe fun G' hG => ?_
  have hWW := hG.1
  have hI := hG.2.2
  have hAW := hA.kt hK (fun h => by
    rcases h with ⟨q, h1, h2⟩ | h
    · exact (hbk q h1 bk h2).1 rfl
    · exact (hvb bk h).1 rfl)
  repeat (first | (refine isO ?_; refine s_move ?_) | (refine isC ?_; first | refine c_sr ?_ | refine c_seq ?_))
  refine s_nil rfl ?_
  refine s_faN Tryd.underlying45 rfl ty_hi.n rfl ?_
  refine s_ldA ty_hi rfl hAW rfl ?_
  refine s_len (n := ns.length) (a := va) (c := vc) sl_hi hvf ?_
  repeat (first | (refine isO ?_; (refine isBin ?_; refine s_lss rfl rfl ?_)) | (refine l_th ?_))
  refine c_ifd rfl (fun h => ?_) (fun h => ?_)
  · have hi' : i < ns.length := by omega
    have hqe : ∃ q, ns[i]? = some q := ⟨_, List.getElem?_eq_getElem hi'⟩
    refine Exists.elim hqe fun q hqi => ?_
    have hqm := List.mem_of_getElem? hqi
    refine Exists.elim (hWW.pos (by omega)) fun ib he1 => Exists.elim he1 fun ic he2 => Exists.elim he2 fun isp he3 => ?_
    have hcell : ∀ j v, [L q, G' q, Value.int .i64 (q : Int)][j]? = some v → (flat3 L G' ns ++ isp)[i * 3 + j]? = some v := fun j v hj => by
      have h1 := flat3_get L G' ns i q hqi j v hj
      rw [List.getElem?_append_left (List.getElem?_eq_some_iff.1 h1).1]; exact h1
    have hib : vi.ownBlock = some ib := by rw [he3.1]; rfl
    repeat (first | (refine isO ?_; refine s_move ?_) | (refine isC ?_; first | refine c_sr ?_ | refine c_th ?_ | refine c_seq ?_ | refine c_block ?_))
    refine s_nil rfl ?_
    refine s_faN Tryd.underlying45 rfl ty_hi.n rfl ?_
    refine s_ldA ty_hi rfl hAW rfl ?_
    refine s_re (v' := .slice (some ⟨ib, 0, none⟩) ns.length ic) he3.1 ?_
    repeat ((refine isO ?_; refine s_move ?_))
    refine s_iaW (n := i) (s := 3) sl_hi ⟨ti, hti.1, hti.2.2.1⟩ rfl rfl hi' ?_
    refine s_ldM (cs := [L q, G' q, .int .i64 (q : Int)]) Tryd.underlying67 rfl (by kernel_rfl) rfl he3.2.1 hcell ?_
    refine s_alloc (cs := [.slice none 0 0, .slice none 0 0, .int .i64 0]) hti.1 hti.2.1 rfl ?_
    intro b3 w3 hb3 hA3 hx3 hs3
    refine s_stV (cs := [L q, G' q, .int .i64 (q : Int)]) (by kernel_rfl) rfl rfl hA3 rfl (by rw [List.all_cons, List.all_cons, hLone q hqm, hG.2.1 q hqm]; rfl) ?_
    intro w4 hA4 hg4 hz4
    have z3 := hx3.size
    have hK4 : KtS (fun _ => False) W w4 := (KtS.of_ex hx3).later (KtS.of_grown (S := fun b => b3 = b) hg4 (fun k e => Option.some.inj e)) (fun k e => .inr (by omega))
    have hxW4 : Ex W w4 := ⟨hK4.os, hK4.tape, hK4.output, hK4.size, fun k hk => hK4.block k hk (fun h => h)⟩
    have hLq := (hI i q hqi).1
    refine Exists.elim hLq fun cs hcs => ?_
    have hLq4 := hcs.1.ex hxW4
    have hqb := hq q hqm
    have hlq := hln q hqm
    have hb3L : ∀ b, (L q).ownBlock = some b → b ≠ b3 := fun b hb e => by have := hcs.1.lt b hb; omega
    refine Exists.elim hcs.1.slen fun la hl1 => Exists.elim hl1 fun lc hlf => ?_
    have zW := hK.size
    repeat (first | (refine isC ?_; refine c_sr ?_) | (refine l_th ?_))
    refine s_faN Tryd.underlying67 rfl ty_ints.n rfl ?_
    refine s_ldA ty_ints rfl hA4 rfl ?_
    repeat (first | (refine isO ?_; refine s_assign ?_) | (refine isC ?_; first | refine c_sr ?_ | refine c_seq ?_ | refine c_block ?_) | (refine l_th ?_))
    refine c_loop2 17163092016 (fun (k : Nat) (v4 : Value) => [(5, .int .i64 (k : Int)), (4, v4)]) (fun k v4 W2 => k ≤ 40 ∧ KtS (fun b => (L q).ownBlock = some b) w4 W2 ∧ (∃ ys, Wd W2 3 1 v4 (ln q + k) ys ∧ ∀ u ∈ ys, MKi lo W2 q u) ∧ ((v4 = .slice la (ln q + k) lc) ∨ ((∀ b, v4.ownBlock = some b → w4.heap.size ≤ b) ∧ ∃ xs, Wd W2 3 1 (L q) (ln q) xs ∧ ∀ u ∈ xs, MKi lo W2 q u))) (fun k _ => 40 - k) 0 (L q) ⟨rfl, rfl, trivial⟩ ⟨Nat.zero_le _, KtS.refl _ _, ⟨cs, hLq4, fun u hu => MKi.ex (hcs.2 u hu) hxW4⟩, .inl hlf⟩ ?_
    rintro k v4 ρ2 W2 ⟨hk, hK2, hye, hcase⟩
    refine Exists.elim hye fun ys hys => ?_
    have hA5 := hA4.kt hK2 (fun e => hb3L b3 e rfl)
    have z2 := hK2.size
    have z4 := hxW4.size
    repeat (first | (refine isO ?_; first | refine s_move ?_ | (refine isBin ?_; refine s_lss rfl rfl ?_)) | (refine isC ?_; first | refine c_sr ?_ | refine c_seq ?_) | (refine l_th ?_))
    refine c_ifd rfl (fun h2 => ?_) (fun h2 => ?_)
    · have hk' : k < 40 := by omega
      repeat (first | (refine isO ?_; refine s_move ?_) | (refine isC ?_; first | refine c_th ?_ | refine c_seq ?_ | refine c_region ?_ | refine c_block ?_))
      refine s_faN Tryd.underlying67 rfl ty_int.n rfl ?_
      refine s_ldA ty_int rfl hA5 rfl ?_
      refine s_call ok_markInt rfl (markInt_ct lo q W2 hqb (by omega)) ?_
      rintro x w5 ⟨hmk, hone, hx5⟩
      refine s_bs1 (u := x) sl_ints in_int rfl hone ?_
      intro b6 w6 hb6 hA6 hx6 hs6
      have hx26 := hx5.trans hx6
      refine s_appW (n := ln q + k) (m := 1) (news := [x]) sl_ints in_wint (by omega) (hys.1.ex hx26) ⟨b6, 1, rfl, [], by simpa using hA6⟩ rfl (by omega) (by intro u hu; simp at hu; subst hu; exact hone) (by omega) (by omega) rfl rfl ?_
      intro v5 w7 hW7 hg7 hf7
      have hys7 : ∀ u ∈ ys ++ [x], MKi lo w7 q u := fun u hu => by
        rcases List.mem_append.1 hu with hu | hu
        · exact MKi.app ((hys.2 u hu).ex hx26) (hys.1.ex hx26) hg7
        · simp at hu; subst hu; exact MKi.app (hmk.ex hx6) (hys.1.ex hx26) hg7
      have hown : v4.ownBlock = (L q).ownBlock ∨ ∀ b, v4.ownBlock = some b → w4.heap.size ≤ b := by
        rcases hcase with hc | hc
        · left; rw [hc, hlf]; exact own_case
        · exact .inr hc.1
      have hK7 : KtS (fun b => (L q).ownBlock = some b) w4 w7 := (hK2.trans (KtS.of_ex hx26)).later (KtS.of_grown (S := fun b => v4.ownBlock = some b) hg7 (fun b e => e)) (fun b hb => by
        rcases hown with he | hf
        · exact .inl (he ▸ hb)
        · exact .inr (hf b hb))
      have z26 := hx26.size
      have hnext : (v5 = .slice la (ln q + (k + 1)) lc) ∨ ((∀ b, v5.ownBlock = some b → w4.heap.size ≤ b) ∧ ∃ xs, Wd w7 3 1 (L q) (ln q) xs ∧ ∀ u ∈ xs, MKi lo w7 q u) := by
        rcases hcase with hc | hc
        · rcases hf7 with ⟨a, c, h5, h6⟩ | ⟨h5, h6⟩
          · left
            rw [hc] at h5; cases h5
            rw [h6]; rfl
          · right
            refine ⟨fun b hb => by have := h5 b hb; omega, ys.take (ln q), ?_, fun u hu => ?_⟩
            · have h9 := hys.1
              rw [hc] at h9
              have h8 := h9.head
              rw [← hlf] at h8
              exact (h8.ex hx26).ex h6
            · exact hys7 u (List.mem_append_left _ (List.mem_of_mem_take hu))
        · right
          refine ⟨fun b hb => ?_, ?_⟩
          · rcases hf7 with ⟨a, c, h5, h6⟩ | ⟨h5, h6⟩
            · exact hc.1 b (by rw [h5, own_case (n' := ln q + k + 1), ← h6]; exact hb)
            · have := h5 b hb; omega
          · obtain ⟨xs, h8, h9⟩ := hc.2
            refine ⟨xs, (h8.ex hx26).grown hg7 (fun b hb e => ?_), fun u hu => ?_⟩
            · have := hc.1 b e
              have := hLq4.lt b hb
              omega
            · exact MKi.app ((h9 u hu).ex hx26) (hys.1.ex hx26) hg7
      repeat (first | (refine isO ?_; first | refine s_move ?_ | refine s_assign ?_ | (refine isBin ?_; refine s_inc rfl (by omega) ?_)) | (refine isC ?_; refine c_region ?_) | (first | refine l_th ?_ | refine l_nil ?_))
      exact loop_end2 (k + 1) v5 (by (repeat (first | exact agree_refl _ _ | refine agree_upd rfl ?_ | refine agree_ext rfl ?_ | refine agree_mask rfl ?_))) ⟨rfl, rfl, trivial⟩ ⟨hk', hK7, ⟨ys ++ [x], hW7, hys7⟩, hnext⟩ (by omega)
    · have hke : k = 40 := by omega
      subst hke
      have hK6 : KtS (fun b => (L q).ownBlock = some b) W W2 := (hK4.mono (fun _ h => h.elim)).trans hK2
      have hibL : ∀ b, (L q).ownBlock = some b → b ≠ ib := fun b hb e => (hbk q hqm b hb).2.1 (by rw [hib, e])
      have hAb6 := hAW.kt hK6 (fun e => (hbk q hqm bk e).1 rfl)
      have hAi6 := he3.2.1.kt hK6 (fun e => hibL ib e rfl)
      repeat (first | (refine isO ?_; refine s_move ?_) | (refine isC ?_; first | refine c_region ?_ | refine c_exit ?_))
      refine s_nil rfl ?_
      refine s_faN Tryd.underlying45 rfl ty_hi.n rfl ?_
      refine s_ldA ty_hi rfl hAb6 rfl ?_
      refine s_re (v' := .slice (some ⟨ib, 0, none⟩) ns.length ic) he3.1 ?_
      repeat ((refine isO ?_; refine s_move ?_))
      refine s_iaW (n := i) (s := 3) sl_hi ⟨ti, hti.1, hti.2.2.1⟩ rfl rfl hi' ?_
      refine s_faN Tryd.underlying67 rfl ty_ints.n rfl ?_
      refine s_stA (n := i * 3 + 1) (u := v4) ty_ints rfl rfl hys.1.one hAi6 (by have := flat3_len L G' ns; simp; omega) ?_
      intro w8 hA8 hg8
      have hset : Wd w8 67 3 (.slice (some ⟨ib, 0, none⟩) ns.length ic) ns.length ((flat3 L G' ns).set (i * 3 + 1) v4) := Wd.set (w := w8) (flat3_len _ _ _) (by have := flat3_len L G' ns; omega) hA8 he3.2.2.1 he3.2.2.2.1 he3.2.2.2.2
      rw [← he3.1, flat3_set L G' v4 ns i q hnd hqi] at hset
      have hown : v4.ownBlock = (L q).ownBlock ∨ ∀ b, v4.ownBlock = some b → w4.heap.size ≤ b := by
        rcases hcase with hc | hc
        · left; rw [hc, hlf]; exact own_case
        · exact .inr hc.1
      have hibW := hWW.lt ib hib
      have hv4 : ∀ b, v4.ownBlock = some b → b ≠ ib := fun b hb e => by
        rcases hown with he | hf
        · exact hibL b (he ▸ hb) e
        · have := hf b hb; omega
      have hK8 : KtS (fun b => (L q).ownBlock = some b ∨ vi.ownBlock = some b) W w8 := (hK6.mono (fun _ h => .inl h)).trans (KtS.of_grown hg8 (fun b e => .inr (by rw [← e]; exact hib)))
      have hKw : KtS (fun b => (∃ q ∈ ns, (L q).ownBlock = some b) ∨ vi.ownBlock = some b) w w8 := hK.trans (hK8.mono (fun b h => h.imp (fun h => ⟨q, hqm, h⟩) id))
      have hiblo : ∀ b, some ib = some b → b < lo := fun b e => (hvb b (by rw [hib]; exact e)).2
      have hk8lo : ∀ b, ((L q).ownBlock = some b ∨ vi.ownBlock = some b) → b < lo := fun b h => h.elim (fun h => (hbk q hqm b h).2.2) (fun h => (hvb b h).2)
      repeat (first | (refine isO ?_; first | refine s_move ?_ | refine s_assign ?_ | (refine isBin ?_; refine s_inc rfl (by omega) ?_)) | (refine isC ?_; refine c_region ?_) | (first | refine l_th ?_ | refine l_nil ?_))
      refine loop_end (i + 1) (by (repeat (first | exact agree_refl _ _ | refine agree_upd rfl ?_ | refine agree_ext rfl ?_ | refine agree_mask rfl ?_))) ⟨rfl, trivial⟩ ⟨hi', hKw, fset1 G' q v4, hset, fun p hp => ?_, fun j p hp => ⟨?_, fun hj => ?_⟩⟩ (by omega)
      · unfold fset1
        split
        · exact hys.1.one
        · exact hG.2.1 p hp
      · by_cases e : p = q
        · subst e
          have h9 : ∃ xs, Wd W2 3 1 (L p) (ln p) xs ∧ ∀ u ∈ xs, MKi lo W2 p u := by
            rcases hcase with hc | hc
            · have h9 := hys.1
              rw [hc] at h9
              have h8 := h9.head
              rw [← hlf] at h8
              exact ⟨_, h8, fun u hu => hys.2 u (List.mem_of_mem_take hu)⟩
            · exact hc.2
          obtain ⟨xs, h1, h2⟩ := h9
          exact ⟨xs, h1.grown hg8 (fun b hb e => hibL b hb (Option.some.inj e).symm), fun u hu => MKi.grown (h2 u hu) hg8 hiblo⟩
        · have hpm := List.mem_of_getElem? hp
          obtain ⟨xs, h1, h2⟩ := (hI j p hp).1
          refine ⟨xs, h1.kt hK8 (fun b hb hb2 => ?_), fun u hu => MKi.kt (h2 u hu) hK8 hk8lo⟩
          rcases hb2 with hb2 | hb2
          · exact hd p hpm q hqm e b hb hb2
          · exact (hbk p hpm b hb).2.1 hb2
      · by_cases e : p = q
        · subst e
          have e9 : fset1 G' p v4 p = v4 := by unfold fset1; rw [if_pos rfl]
          rw [e9]
          refine ⟨⟨ys, hys.1.grown hg8 (fun b hb e => hv4 b hb (Option.some.inj e).symm), fun u hu => MKi.grown (hys.2 u hu) hg8 hiblo⟩, fun b hb => ?_⟩
          rcases hown with he | hf
          · exact .inl (he ▸ hb)
          · have := hf b hb; exact .inr (by omega)
        · have hpm := List.mem_of_getElem? hp
          have e9 : fset1 G' q v4 p = G' p := by unfold fset1; rw [if_neg e]
          have hji : j ≠ i := fun e2 => by subst e2; rw [hqi] at hp; exact e (Option.some.inj hp).symm
          rw [e9]
          obtain ⟨⟨zs, h1, h2⟩, h3⟩ := (hI j p hp).2 (by omega)
          refine ⟨⟨zs, h1.kt hK8 (fun b hb hb2 => ?_), fun u hu => MKi.kt (h2 u hu) hK8 hk8lo⟩, h3⟩
          rcases h3 b hb with h4 | h4
          · rcases hb2 with hb2 | hb2
            · exact hd p hpm q hqm e b h4 hb2
            · exact (hbk p hpm b h4).2.1 hb2
          · have := hk8lo b hb2; omega
  · have hie : i = ns.length := by omega
    subst hie
    repeat (first | (refine isC ?_; refine c_exit ?_) | (first | refine ib_exit ?_ | refine th_exit ?_))
    refine end0 rfl ⟨rfl, hK, G', hWW, fun q hqm => ?_⟩
    obtain ⟨j, hj⟩ := List.mem_iff_getElem?.1 hqm
    have h1 := hI j q hj
    have h2 := h1.2 (List.getElem?_eq_some_iff.1 hj).1
    exact ⟨h1.1, h2.1, h2.2⟩
theorem ok_growIntList : CallOK Tryd.prog 38 := callOK Tryd.func38 (by kernel_rfl) rfl
set_option maxHeartbeats 2000000 in
theorem growIntList_ct (bk M lo : Nat) (ns : List Nat) (L G : Nat → Value) (ln : Nat → Nat) (vi vl : Value) (w : World) (hA : At w bk 45 (bkc M vl vi)) (hW : Wd w 65 3 vi ns.length (flat3 L G ns)) (hN : ns.length ≤ 100000) (hq : ∀ q ∈ ns, q ≤ 200000)
    (hL : ∀ q ∈ ns, ∃ xs, Wd w 30 1 (L q) (ln q) xs ∧ ∀ u ∈ xs, MKl lo w q u) (hln : ∀ q ∈ ns, ln q ≤ 100000) (hGone : ∀ q ∈ ns, (G q).oneCell' = true) (hnd : ns.Nodup) (hd : ∀ p ∈ ns, ∀ q ∈ ns, p ≠ q → ∀ b, (L p).ownBlock = some b → (L q).ownBlock ≠ some b) (hbk : ∀ q ∈ ns, ∀ b, (L q).ownBlock = some b → b ≠ bk ∧ vi.ownBlock ≠ some b ∧ b < lo) (hvb : ∀ b, vi.ownBlock = some b → b ≠ bk ∧ b < lo) (hlo : lo ≤ w.heap.size) :
    Ct Tryd.prog 38 #[.pointer (some ⟨bk, 0, none⟩)] w fun u w' => u = .tuple #[] ∧ KtS (fun b => (∃ q ∈ ns, (L q).ownBlock = some b) ∨ vi.ownBlock = some b) w w' ∧ ∃ G', Wd w' 65 3 vi ns.length (flat3 L G' ns) ∧ ∀ q ∈ ns, (∃ xs, Wd w' 30 1 (L q) (ln q) xs ∧ ∀ u ∈ xs, MKl lo w' q u) ∧ (∃ ys, Wd w' 30 1 (G' q) (ln q + 40) ys ∧ ∀ u ∈ ys, MKl lo w' q u) ∧ ∀ b, (G' q).ownBlock = some b → (L q).ownBlock = some b ∨ w.heap.size ≤ b := by
  obtain ⟨va, vc, hvf⟩ := hW.slen
  refine Exists.elim in_heldIntList.ex fun ti hti => ?_
  have hLw : ∀ q ∈ ns, ∀ b, (L q).ownBlock = some b → b < w.heap.size := fun q h1 b h2 => by obtain ⟨xs, h3, _⟩ := hL q h1; exact h3.lt b h2
  have hLone : ∀ q ∈ ns, (L q).oneCell' = true := fun q h1 => by obtain ⟨xs, h3, _⟩ := hL q h1; exact h3.one
  have hSlo : ∀ b, ((∃ q ∈ ns, (L q).ownBlock = some b) ∨ vi.ownBlock = some b) → b < lo := fun b h => by
    rcases h with ⟨q, h1, h2⟩ | h
    · exact (hbk q h1 b h2).2.2
    · exact (hvb b h).2
  refine enter (N := 42) (vs := [.pointer (some ⟨bk, 0, none⟩)]) Tryd.func38 rfl rfl rfl ?_
  repeat (first | (refine isO ?_; refine s_assign ?_) | (refine isC ?_; first | refine c_sr ?_ | refine c_block ?_) | (refine l_th ?_))
  refine c_loop (γ := Nat) 4398046511100 (fun i => [(2, .int .i64 (i : Int))]) (fun i W => i ≤ ns.length ∧ KtS (fun b => (∃ q ∈ ns, (L q).ownBlock = some b) ∨ vi.ownBlock = some b) w W ∧ ∃ G', Wd W 65 3 vi ns.length (flat3 L G' ns) ∧ (∀ q ∈ ns, (G' q).oneCell' = true) ∧ ∀ j q, ns[j]? = some q → (∃ xs, Wd W 30 1 (L q) (ln q) xs ∧ ∀ u ∈ xs, MKl lo W q u) ∧ (j < i → (∃ ys, Wd W 30 1 (G' q) (ln q + 40) ys ∧ ∀ u ∈ ys, MKl lo W q u) ∧ ∀ b, (G' q).ownBlock = some b → (L q).ownBlock = some b ∨ w.heap.size ≤ b)) (fun i => ns.length - i) 0 ⟨rfl, trivial⟩ ⟨Nat.zero_le _, KtS.refl _ _, G, hW, hGone, fun j q h => ⟨hL q (List.mem_of_getElem? h), fun h => by omega⟩⟩ ?_
  rintro i ρ W ⟨hi, hK, hGe⟩
  refine Exists.elim hGe fun G' hG => ?_
  have hWW := hG.1
  have hI := hG.2.2
  have hAW := hA.kt hK (fun h => by
    rcases h with ⟨q, h1, h2⟩ | h
    · exact (hbk q h1 bk h2).1 rfl
    · exact (hvb bk h).1 rfl)
  repeat (first | (refine isO ?_; refine s_move ?_) | (refine isC ?_; first | refine c_sr ?_ | refine c_seq ?_))
  refine s_nil rfl ?_
  refine s_faN Tryd.underlying45 rfl ty_hl.n rfl ?_
  refine s_ldA ty_hl rfl hAW rfl ?_
  refine s_len (n := ns.length) (a := va) (c := vc) sl_hl hvf ?_
  repeat (first | (refine isO ?_; (refine isBin ?_; refine s_lss rfl rfl ?_)) | (refine l_th ?_))
  refine c_ifd rfl (fun h => ?_) (fun h => ?_)
  · have hi' : i < ns.length := by omega
    have hqe : ∃ q, ns[i]? = some q := ⟨_, List.getElem?_eq_getElem hi'⟩
    refine Exists.elim hqe fun q hqi => ?_
    have hqm := List.mem_of_getElem? hqi
    refine Exists.elim (hWW.pos (by omega)) fun ib he1 => Exists.elim he1 fun ic he2 => Exists.elim he2 fun isp he3 => ?_
    have hcell : ∀ j v, [L q, G' q, Value.int .i64 (q : Int)][j]? = some v → (flat3 L G' ns ++ isp)[i * 3 + j]? = some v := fun j v hj => by
      have h1 := flat3_get L G' ns i q hqi j v hj
      rw [List.getElem?_append_left (List.getElem?_eq_some_iff.1 h1).1]; exact h1
    have hib : vi.ownBlock = some ib := by rw [he3.1]; rfl
    repeat (first | (refine isO ?_; refine s_move ?_) | (refine isC ?_; first | refine c_sr ?_ | refine c_th ?_ | refine c_seq ?_ | refine c_block ?_))
    refine s_nil rfl ?_
    refine s_faN Tryd.underlying45 rfl ty_hl.n rfl ?_
    refine s_ldA ty_hl rfl hAW rfl ?_
    refine s_re (v' := .slice (some ⟨ib, 0, none⟩) ns.length ic) he3.1 ?_
    repeat ((refine isO ?_; refine s_move ?_))
    refine s_iaW (n := i) (s := 3) sl_hl ⟨ti, hti.1, hti.2.2.1⟩ rfl rfl hi' ?_
    refine s_ldM (cs := [L q, G' q, .int .i64 (q : Int)]) Tryd.underlying65 rfl (by kernel_rfl) rfl he3.2.1 hcell ?_
    refine s_alloc (cs := [.slice none 0 0, .slice none 0 0, .int .i64 0]) hti.1 hti.2.1 rfl ?_
    intro b3 w3 hb3 hA3 hx3 hs3
    refine s_stV (cs := [L q, G' q, .int .i64 (q : Int)]) (by kernel_rfl) rfl rfl hA3 rfl (by rw [List.all_cons, List.all_cons, hLone q hqm, hG.2.1 q hqm]; rfl) ?_
    intro w4 hA4 hg4 hz4
    have z3 := hx3.size
    have hK4 : KtS (fun _ => False) W w4 := (KtS.of_ex hx3).later (KtS.of_grown (S := fun b => b3 = b) hg4 (fun k e => Option.some.inj e)) (fun k e => .inr (by omega))
    have hxW4 : Ex W w4 := ⟨hK4.os, hK4.tape, hK4.output, hK4.size, fun k hk => hK4.block k hk (fun h => h)⟩
    have hLq := (hI i q hqi).1
    refine Exists.elim hLq fun cs hcs => ?_
    have hLq4 := hcs.1.ex hxW4
    have hqb := hq q hqm
    have hlq := hln q hqm
    have hb3L : ∀ b, (L q).ownBlock = some b → b ≠ b3 := fun b hb e => by have := hcs.1.lt b hb; omega
    refine Exists.elim hcs.1.slen fun la hl1 => Exists.elim hl1 fun lc hlf => ?_
    have zW := hK.size
    repeat (first | (refine isC ?_; refine c_sr ?_) | (refine l_th ?_))
    refine s_faN Tryd.underlying65 rfl ty_rows.n rfl ?_
    refine s_ldA ty_rows rfl hA4 rfl ?_
    repeat (first | (refine isO ?_; refine s_assign ?_) | (refine isC ?_; first | refine c_sr ?_ | refine c_seq ?_ | refine c_block ?_) | (refine l_th ?_))
    refine c_loop2 17163092016 (fun (k : Nat) (v4 : Value) => [(5, .int .i64 (k : Int)), (4, v4)]) (fun k v4 W2 => k ≤ 40 ∧ KtS (fun b => (L q).ownBlock = some b) w4 W2 ∧ (∃ ys, Wd W2 30 1 v4 (ln q + k) ys ∧ ∀ u ∈ ys, MKl lo W2 q u) ∧ ((v4 = .slice la (ln q + k) lc) ∨ ((∀ b, v4.ownBlock = some b → w4.heap.size ≤ b) ∧ ∃ xs, Wd W2 30 1 (L q) (ln q) xs ∧ ∀ u ∈ xs, MKl lo W2 q u))) (fun k _ => 40 - k) 0 (L q) ⟨rfl, rfl, trivial⟩ ⟨Nat.zero_le _, KtS.refl _ _, ⟨cs, hLq4, fun u hu => MKl.ex (hcs.2 u hu) hxW4⟩, .inl hlf⟩ ?_
    rintro k v4 ρ2 W2 ⟨hk, hK2, hye, hcase⟩
    refine Exists.elim hye fun ys hys => ?_
    have hA5 := hA4.kt hK2 (fun e => hb3L b3 e rfl)
    have z2 := hK2.size
    have z4 := hxW4.size
    repeat (first | (refine isO ?_; first | refine s_move ?_ | (refine isBin ?_; refine s_lss rfl rfl ?_)) | (refine isC ?_; first | refine c_sr ?_ | refine c_seq ?_) | (refine l_th ?_))
    refine c_ifd rfl (fun h2 => ?_) (fun h2 => ?_)
    · have hk' : k < 40 := by omega
      repeat (first | (refine isO ?_; refine s_move ?_) | (refine isC ?_; first | refine c_th ?_ | refine c_seq ?_ | refine c_region ?_ | refine c_block ?_))
      refine s_faN Tryd.underlying65 rfl ty_int.n rfl ?_
      refine s_ldA ty_int rfl hA5 rfl ?_
      refine s_call ok_markIntList rfl (markIntList_ct lo q W2 hqb (by omega)) ?_
      rintro x w5 ⟨hmk, hone, hx5⟩
      refine s_bs1 (u := x) sl_rows in_ints rfl hone ?_
      intro b6 w6 hb6 hA6 hx6 hs6
      have hx26 := hx5.trans hx6
      refine s_appW (n := ln q + k) (m := 1) (news := [x]) sl_rows in_wints (by omega) (hys.1.ex hx26) ⟨b6, 1, rfl, [], by simpa using hA6⟩ rfl (by omega) (by intro u hu; simp at hu; subst hu; exact hone) (by omega) (by omega) rfl rfl ?_
      intro v5 w7 hW7 hg7 hf7
      have hys7 : ∀ u ∈ ys ++ [x], MKl lo w7 q u := fun u hu => by
        rcases List.mem_append.1 hu with hu | hu
        · exact MKl.app ((hys.2 u hu).ex hx26) (hys.1.ex hx26) hg7
        · simp at hu; subst hu; exact MKl.app (hmk.ex hx6) (hys.1.ex hx26) hg7
      have hown : v4.ownBlock = (L q).ownBlock ∨ ∀ b, v4.ownBlock = some b → w4.heap.size ≤ b := by
        rcases hcase with hc | hc
        · left; rw [hc, hlf]; exact own_case
        · exact .inr hc.1
      have hK7 : KtS (fun b => (L q).ownBlock = some b) w4 w7 := (hK2.trans (KtS.of_ex hx26)).later (KtS.of_grown (S := fun b => v4.ownBlock = some b) hg7 (fun b e => e)) (fun b hb => by
        rcases hown with he | hf
        · exact .inl (he ▸ hb)
        · exact .inr (hf b hb))
      have z26 := hx26.size
      have hnext : (v5 = .slice la (ln q + (k + 1)) lc) ∨ ((∀ b, v5.ownBlock = some b → w4.heap.size ≤ b) ∧ ∃ xs, Wd w7 30 1 (L q) (ln q) xs ∧ ∀ u ∈ xs, MKl lo w7 q u) := by
        rcases hcase with hc | hc
        · rcases hf7 with ⟨a, c, h5, h6⟩ | ⟨h5, h6⟩
          · left
            rw [hc] at h5; cases h5
            rw [h6]; rfl
          · right
            refine ⟨fun b hb => by have := h5 b hb; omega, ys.take (ln q), ?_, fun u hu => ?_⟩
            · have h9 := hys.1
              rw [hc] at h9
              have h8 := h9.head
              rw [← hlf] at h8
              exact (h8.ex hx26).ex h6
            · exact hys7 u (List.mem_append_left _ (List.mem_of_mem_take hu))
        · right
          refine ⟨fun b hb => ?_, ?_⟩
          · rcases hf7 with ⟨a, c, h5, h6⟩ | ⟨h5, h6⟩
            · exact hc.1 b (by rw [h5, own_case (n' := ln q + k + 1), ← h6]; exact hb)
            · have := h5 b hb; omega
          · obtain ⟨xs, h8, h9⟩ := hc.2
            refine ⟨xs, (h8.ex hx26).grown hg7 (fun b hb e => ?_), fun u hu => ?_⟩
            · have := hc.1 b e
              have := hLq4.lt b hb
              omega
            · exact MKl.app ((h9 u hu).ex hx26) (hys.1.ex hx26) hg7
      repeat (first | (refine isO ?_; first | refine s_move ?_ | refine s_assign ?_ | (refine isBin ?_; refine s_inc rfl (by omega) ?_)) | (refine isC ?_; refine c_region ?_) | (first | refine l_th ?_ | refine l_nil ?_))
      exact loop_end2 (k + 1) v5 (by (repeat (first | exact agree_refl _ _ | refine agree_upd rfl ?_ | refine agree_ext rfl ?_ | refine agree_mask rfl ?_))) ⟨rfl, rfl, trivial⟩ ⟨hk', hK7, ⟨ys ++ [x], hW7, hys7⟩, hnext⟩ (by omega)
    · have hke : k = 40 := by omega
      subst hke
      have hK6 : KtS (fun b => (L q).ownBlock = some b) W W2 := (hK4.mono (fun _ h => h.elim)).trans hK2
      have hibL : ∀ b, (L q).ownBlock = some b → b ≠ ib := fun b hb e => (hbk q hqm b hb).2.1 (by rw [hib, e])
      have hAb6 := hAW.kt hK6 (fun e => (hbk q hqm bk e).1 rfl)
      have hAi6 := he3.2.1.kt hK6 (fun e => hibL ib e rfl)
      repeat (first | (refine isO ?_; refine s_move ?_) | (refine isC ?_; first | refine c_region ?_ | refine c_exit ?_))
      refine s_nil rfl ?_
      refine s_faN Tryd.underlying45 rfl ty_hl.n rfl ?_
      refine s_ldA ty_hl rfl hAb6 rfl ?_
      refine s_re (v' := .slice (some ⟨ib, 0, none⟩) ns.length ic) he3.1 ?_
      repeat ((refine isO ?_; refine s_move ?_))
      refine s_iaW (n := i) (s := 3) sl_hl ⟨ti, hti.1, hti.2.2.1⟩ rfl rfl hi' ?_
      refine s_faN Tryd.underlying65 rfl ty_rows.n rfl ?_
      refine s_stA (n := i * 3 + 1) (u := v4) ty_rows rfl rfl hys.1.one hAi6 (by have := flat3_len L G' ns; simp; omega) ?_
      intro w8 hA8 hg8
      have hset : Wd w8 65 3 (.slice (some ⟨ib, 0, none⟩) ns.length ic) ns.length ((flat3 L G' ns).set (i * 3 + 1) v4) := Wd.set (w := w8) (flat3_len _ _ _) (by have := flat3_len L G' ns; omega) hA8 he3.2.2.1 he3.2.2.2.1 he3.2.2.2.2
      rw [← he3.1, flat3_set L G' v4 ns i q hnd hqi] at hset
      have hown : v4.ownBlock = (L q).ownBlock ∨ ∀ b, v4.ownBlock = some b → w4.heap.size ≤ b := by
        rcases hcase with hc | hc
        · left; rw [hc, hlf]; exact own_case
        · exact .inr hc.1
      have hibW := hWW.lt ib hib
      have hv4 : ∀ b, v4.ownBlock = some b → b ≠ ib := fun b hb e => by
        rcases hown with he | hf
        · exact hibL b (he ▸ hb) e
        · have := hf b hb; omega
      have hK8 : KtS (fun b => (L q).ownBlock = some b ∨ vi.ownBlock = some b) W w8 := (hK6.mono (fun _ h => .inl h)).trans (KtS.of_grown hg8 (fun b e => .inr (by rw [← e]; exact hib)))
      have hKw : KtS (fun b => (∃ q ∈ ns, (L q).ownBlock = some b) ∨ vi.ownBlock = some b) w w8 := hK.trans (hK8.mono (fun b h => h.imp (fun h => ⟨q, hqm, h⟩) id))
      have hiblo : ∀ b, some ib = some b → b < lo := fun b e => (hvb b (by rw [hib]; exact e)).2
      have hk8lo : ∀ b, ((L q).ownBlock = some b ∨ vi.ownBlock = some b) → b < lo := fun b h => h.elim (fun h => (hbk q hqm b h).2.2) (fun h => (hvb b h).2)
      repeat (first | (refine isO ?_; first | refine s_move ?_ | refine s_assign ?_ | (refine isBin ?_; refine s_inc rfl (by omega) ?_)) | (refine isC ?_; refine c_region ?_) | (first | refine l_th ?_ | refine l_nil ?_))
      refine loop_end (i + 1) (by (repeat (first | exact agree_refl _ _ | refine agree_upd rfl ?_ | refine agree_ext rfl ?_ | refine agree_mask rfl ?_))) ⟨rfl, trivial⟩ ⟨hi', hKw, fset1 G' q v4, hset, fun p hp => ?_, fun j p hp => ⟨?_, fun hj => ?_⟩⟩ (by omega)
      · unfold fset1
        split
        · exact hys.1.one
        · exact hG.2.1 p hp
      · by_cases e : p = q
        · subst e
          have h9 : ∃ xs, Wd W2 30 1 (L p) (ln p) xs ∧ ∀ u ∈ xs, MKl lo W2 p u := by
            rcases hcase with hc | hc
            · have h9 := hys.1
              rw [hc] at h9
              have h8 := h9.head
              rw [← hlf] at h8
              exact ⟨_, h8, fun u hu => hys.2 u (List.mem_of_mem_take hu)⟩
            · exact hc.2
          obtain ⟨xs, h1, h2⟩ := h9
          exact ⟨xs, h1.grown hg8 (fun b hb e => hibL b hb (Option.some.inj e).symm), fun u hu => MKl.grown (h2 u hu) hg8 hiblo⟩
        · have hpm := List.mem_of_getElem? hp
          obtain ⟨xs, h1, h2⟩ := (hI j p hp).1
          refine ⟨xs, h1.kt hK8 (fun b hb hb2 => ?_), fun u hu => MKl.kt (h2 u hu) hK8 hk8lo⟩
          rcases hb2 with hb2 | hb2
          · exact hd p hpm q hqm e b hb hb2
          · exact (hbk p hpm b hb).2.1 hb2
      · by_cases e : p = q
        · subst e
          have e9 : fset1 G' p v4 p = v4 := by unfold fset1; rw [if_pos rfl]
          rw [e9]
          refine ⟨⟨ys, hys.1.grown hg8 (fun b hb e => hv4 b hb (Option.some.inj e).symm), fun u hu => MKl.grown (hys.2 u hu) hg8 hiblo⟩, fun b hb => ?_⟩
          rcases hown with he | hf
          · exact .inl (he ▸ hb)
          · have := hf b hb; exact .inr (by omega)
        · have hpm := List.mem_of_getElem? hp
          have e9 : fset1 G' q v4 p = G' p := by unfold fset1; rw [if_neg e]
          have hji : j ≠ i := fun e2 => by subst e2; rw [hqi] at hp; exact e (Option.some.inj hp).symm
          rw [e9]
          obtain ⟨⟨zs, h1, h2⟩, h3⟩ := (hI j p hp).2 (by omega)
          refine ⟨⟨zs, h1.kt hK8 (fun b hb hb2 => ?_), fun u hu => MKl.kt (h2 u hu) hK8 hk8lo⟩, h3⟩
          rcases h3 b hb with h4 | h4
          · rcases hb2 with hb2 | hb2
            · exact hd p hpm q hqm e b h4 hb2
            · exact (hbk p hpm b h4).2.1 hb2
          · have := hk8lo b hb2; omega
  · have hie : i = ns.length := by omega
    subst hie
    repeat (first | (refine isC ?_; refine c_exit ?_) | (first | refine ib_exit ?_ | refine th_exit ?_))
    refine end0 rfl ⟨rfl, hK, G', hWW, fun q hqm => ?_⟩
    obtain ⟨j, hj⟩ := List.mem_iff_getElem?.1 hqm
    have h1 := hI j q hj
    have h2 := h1.2 (List.getElem?_eq_some_iff.1 hj).1
    exact ⟨h1.1, h2.1, h2.2⟩
end Go.Proofs.YtifbgpkjbciblaaDoor.Sal
end
section
/- The Book of salesroomlaw01: look. -/
set_option maxRecDepth 100000
namespace Go.Proofs.YtifbgpkjbciblaaDoor.Sal
open Go.RowKit
attribute [local irreducible] Go.Code.wpIn Go.wpListIn Ct Ints Rows Sl At Rw WJ
attribute [local irreducible] Wd
set_option linter.all false
theorem ok_isInt : CallOK Tryd.prog 67 := callOK Tryd.func67 (by kernel_rfl) rfl
theorem ok_isIntList : CallOK Tryd.prog 69 := callOK Tryd.func69 (by kernel_rfl) rfl
theorem isInt_ct (lo q : Nat) (x : Value) (w : World) (hq : q ≤ 200000) (hx : MKi lo w q x) : Ct Tryd.prog 67 #[x, .int .i64 (q : Int)] w fun u w' => u = .bool true ∧ Ex w w' := by
  unfold MKi at hx
  subst hx
  refine enter (N := 9) (vs := [.int .i64 (-(q : Int)), .int .i64 (q : Int)]) Tryd.func67 rfl rfl rfl ?_
  repeat (first | (refine isO ?_; first | refine s_move ?_ | refine s_assign ?_) | (refine isC ?_; refine c_sr ?_) | (refine l_th ?_))
  refine s_neg rfl ?_
  refine s_re (v' := .int .i64 (-(q : Int))) (vint (wrap_small hq)) ?_
  repeat (first | (refine isO ?_; first | refine s_assign ?_ | (refine isBin ?_; refine s_eqlT rfl rfl (by omega) ?_)) | (refine isC ?_; refine c_ret ?_) | (refine l_th ?_))
  exact ret1 rfl rfl ⟨rfl, Ex.refl _⟩
theorem isIntList_ct (lo q : Nat) (x : Value) (w : World) (hq : q ≤ 200000) (hx : MKl lo w q x) : Ct Tryd.prog 69 #[x, .int .i64 (q : Int)] w fun u w' => u = .bool true ∧ Ex w w' := by
  obtain ⟨b, _, rfl, hA⟩ := hx
  have hI : Ints w (sv b 1 1) [(q : Int)] := hA.one
  refine enter (N := 15) (vs := [sv b 1 1, .int .i64 (q : Int)]) Tryd.func69 rfl rfl rfl ?_
  repeat (first | (refine isO ?_; first | refine s_move ?_ | refine s_assign ?_ | (refine isG ?_; refine g_yes rfl rfl ?_) | (refine isBin ?_; refine s_eql rfl rfl ?_) | (refine isCall ?_; refine s_lenI sl_ints rfl (by assumption) ?_)) | (refine isC ?_; refine c_sr ?_) | (refine l_th ?_))
  refine s_iaI (n := 0) sl_ints ty_int rfl rfl hI (by simp) ?_
  intro ad hc
  refine g_yes rfl rfl ?_
  have hc2 : w.cell? ad = some (.int .i64 (q : Int)) := hc
  refine s_ld ty_int rfl hc2 ?_
  repeat (first | (refine isO ?_; first | refine s_move ?_ | refine s_assign ?_ | (refine isG ?_; refine g_yes rfl rfl ?_) | (refine isBin ?_; refine s_eqlT rfl rfl (by omega) ?_) | (refine isPick ?_; refine s_pickt rfl rfl ?_)) | (refine isC ?_; refine c_ret ?_) | (refine l_th ?_))
  exact ret1 rfl rfl ⟨rfl, Ex.refl _⟩
theorem ok_lookInt : CallOK Tryd.prog 45 := callOK Tryd.func45 (by kernel_rfl) rfl
set_option maxHeartbeats 4000000 in
theorem lookInt_ct (bk M lo : Nat) (ns : List Nat) (L G : Nat → Value) (ln : Nat → Nat) (vi vl : Value) (w : World) (hA : At w bk 45 (bkc M vi vl)) (hW : Wd w 67 3 vi ns.length (flat3 L G ns)) (hN : ns.length ≤ 100000) (hq : ∀ q ∈ ns, q ≤ 200000)
    (hL : ∀ q ∈ ns, (∃ xs, Wd w 3 1 (L q) (ln q) xs ∧ ∀ u ∈ xs, MKi lo w q u) ∧ ∃ ys, Wd w 3 1 (G q) (ln q + 40) ys ∧ ∀ u ∈ ys, MKi lo w q u) (hln : ∀ q ∈ ns, ln q ≤ 100000) :
    Ct Tryd.prog 45 #[.pointer (some ⟨bk, 0, none⟩)] w fun u w' => u = .bool true ∧ Ex w w' := by
  obtain ⟨va, vc, hvf⟩ := hW.slen
  refine Exists.elim in_heldInt.ex fun ti hti => ?_
  refine enter (N := 64) (vs := [.pointer (some ⟨bk, 0, none⟩)]) Tryd.func45 rfl rfl rfl ?_
  repeat (first | (refine isO ?_; refine s_assign ?_) | (refine isC ?_; first | refine c_sr ?_ | refine c_seq ?_ | refine c_block ?_) | (refine l_th ?_))
  refine c_loop (γ := Nat) 18446744073709551612 (fun i => [(3, .int .i64 (i : Int))]) (fun i W => i ≤ ns.length ∧ Ex w W) (fun i => ns.length - i) 0 ⟨rfl, trivial⟩ ⟨Nat.zero_le _, Ex.refl _⟩ ?_
  rintro i ρ W ⟨hi, hx⟩
  have hAW := hA.ex hx
  have hWW := hW.ex hx
  repeat (first | (refine isO ?_; refine s_move ?_) | (refine isC ?_; first | refine c_sr ?_ | refine c_seq ?_))
  refine s_nil rfl ?_
  refine s_faN Tryd.underlying45 rfl ty_hi.n rfl ?_
  refine s_ldA ty_hi rfl hAW rfl ?_
  refine s_len (n := ns.length) (a := va) (c := vc) sl_hi hvf ?_
  repeat (first | (refine isO ?_; (refine isBin ?_; refine s_lss rfl rfl ?_)) | (refine l_th ?_))
  refine c_ifd rfl (fun h => ?_) (fun h => ?_)
  · have hi' : i < ns.length := by omega
    have hqe : ∃ q, ns[i]? = some q := ⟨_, List.getElem?_eq_getElem hi'⟩
    refine Exists.elim hqe fun q hqi => ?_
    have hqm := List.mem_of_getElem? hqi
    refine Exists.elim (hWW.pos (by omega)) fun ib he1 => Exists.elim he1 fun ic he2 => Exists.elim he2 fun isp he3 => ?_
    have hcell : ∀ j v, [L q, G q, Value.int .i64 (q : Int)][j]? = some v → (flat3 L G ns ++ isp)[i * 3 + j]? = some v := fun j v hj => by
      have h1 := flat3_get L G ns i q hqi j v hj
      rw [List.getElem?_append_left (List.getElem?_eq_some_iff.1 h1).1]; exact h1
    refine Exists.elim (hL q hqm).1 fun xs hxs => Exists.elim (hL q hqm).2 fun ys hys => ?_
    have hLo := hxs.1.one
    have hGo := hys.1.one
    repeat (first | (refine isO ?_; refine s_move ?_) | (refine isC ?_; first | refine c_sr ?_ | refine c_th ?_ | refine c_seq ?_ | refine c_block ?_))
    refine s_nil rfl ?_
    refine s_faN Tryd.underlying45 rfl ty_hi.n rfl ?_
    refine s_ldA ty_hi rfl hAW rfl ?_
    refine s_re (v' := .slice (some ⟨ib, 0, none⟩) ns.length ic) he3.1 ?_
    repeat ((refine isO ?_; refine s_move ?_))
    refine s_iaW (n := i) (s := 3) sl_hi ⟨ti, hti.1, hti.2.2.1⟩ rfl rfl hi' ?_
    refine s_ldM (cs := [L q, G q, .int .i64 (q : Int)]) Tryd.underlying67 rfl (by kernel_rfl) rfl he3.2.1 hcell ?_
    refine s_alloc (cs := [.slice none 0 0, .slice none 0 0, .int .i64 0]) hti.1 hti.2.1 rfl ?_
    intro b3 w3 hb3 hA3 hx3 hs3
    refine s_stV (cs := [L q, G q, .int .i64 (q : Int)]) (by kernel_rfl) rfl rfl hA3 rfl (by rw [List.all_cons, List.all_cons, hLo, hGo]; rfl) ?_
    intro w4 hA4 hg4 hz4
    have hxW4 : Ex W w4 := Ex.store hx3 hg4 (by omega)
    have hqb := hq q hqm
    have hlq := hln q hqm
    have hS1 := (hxs.1.ex (hx.trans hxW4)).sl (by omega)
    have hS2 := (hys.1.ex (hx.trans hxW4)).sl (by omega)
    have hxl : xs.length = ln q := by have := hxs.1.len; simpa using this
    have hyl : ys.length = ln q + 40 := by have := hys.1.len; simpa using this
    refine Exists.elim hxs.1.slen fun la hl1 => Exists.elim hl1 fun lc hlf => ?_
    refine Exists.elim hys.1.slen fun ga hg1 => Exists.elim hg1 fun gc hgf => ?_
    repeat (first | (refine isC ?_; first | refine c_sr ?_ | refine c_seq ?_) | (refine l_th ?_))
    refine s_faN Tryd.underlying67 rfl ty_ints.n rfl ?_
    refine s_ldA ty_ints rfl hA4 rfl ?_
    refine s_len (n := ln q + 40) (a := ga) (c := gc) sl_ints hgf ?_
    refine s_faN Tryd.underlying67 rfl ty_ints.n rfl ?_
    refine s_ldA ty_ints rfl hA4 rfl ?_
    refine s_len (n := ln q) (a := la) (c := lc) sl_ints hlf ?_
    refine s_add rfl rfl ⟨by omega, by omega⟩ ?_
    refine s_neqF rfl rfl (by omega) ?_
    repeat (first | (refine isO ?_; refine s_assign ?_) | (refine isC ?_; first | refine c_sr ?_ | refine c_th ?_ | refine c_iff rfl ?_ | refine c_block ?_) | (refine l_th ?_))
    refine c_loop (γ := Nat) 18446744072635809828 (fun k => [(5, .int .i64 (k : Int))]) (fun k W2 => k ≤ ln q + 40 ∧ Ex w4 W2) (fun k => ln q + 40 - k) 0 ⟨rfl, trivial⟩ ⟨Nat.zero_le _, Ex.refl _⟩ ?_
    rintro k ρ2 W2 ⟨hk, hx2⟩
    have hA5 := hA4.ex hx2
    repeat (first | (refine isO ?_; refine s_move ?_) | (refine isC ?_; first | refine c_sr ?_ | refine c_seq ?_))
    refine s_faN Tryd.underlying67 rfl ty_ints.n rfl ?_
    refine s_ldA ty_ints rfl hA5 rfl ?_
    refine s_len (n := ln q + 40) (a := ga) (c := gc) sl_ints hgf ?_
    repeat (first | (refine isO ?_; (refine isBin ?_; refine s_lss rfl rfl ?_)) | (refine l_th ?_))
    refine c_ifd rfl (fun h2 => ?_) (fun h2 => ?_)
    · have hk' : k < ln q + 40 := by omega
      have hky : k < ys.length := by omega
      have hm1 := hys.2 ys[k] (List.getElem_mem hky)
      repeat ((refine isC ?_; first | refine c_th ?_ | refine c_seq ?_ | refine c_block ?_))
      refine c_drawO hx2 27 8 [(0, true), (1, true), (2, true), (3, true), (4, true), (5, true), (6, true), (7, false), (8, true), (9, true), (10, true), (11, true), (12, true), (13, true), (14, true), (15, true), (16, true), (17, true), (18, true), (19, true), (20, true), (21, true), (22, true), (23, false), (24, true), (25, true), (26, true)] mixed (by kernel_rfl) ?_
      have hx2d := hx2.trans (Ex.drew W2)
      refine d_faN rfl Tryd.underlying67 rfl ty_ints.n rfl ?_
      refine d_ldA rfl ty_ints rfl hA4 rfl ?_
      refine d_move rfl ?_
      refine d_ia (n := k) (u := ys[k]) rfl sl_ints ty_int rfl rfl hS2 (List.getElem?_eq_getElem hky) ?_
      intro ad1 hc1
      refine d_ld rfl ty_int rfl hc1 ?_
      refine d_faN rfl Tryd.underlying67 rfl ty_int.n rfl ?_
      refine d_ldA rfl ty_int rfl hA4 rfl ?_
      refine d_ch rfl ?_
      refine s_call (vs := [ys[k], .int .i64 (q : Int)]) ok_isInt rfl (isInt_ct lo q ys[k] W2.drew hqb (hm1.ex ((hx.trans hxW4).trans hx2d))) ?_
      rintro v w5 ⟨rfl, hx5⟩
      have hx25 := hx2d.trans hx5
      refine l_nil ⟨rfl, .inr hx25, ?_⟩
      refine d_not rfl rfl ?_
      refine d_re (v' := .bool false) rfl ?_
      refine d_move rfl ?_
      refine d_move rfl ?_
      refine d_faN rfl Tryd.underlying67 rfl ty_ints.n rfl ?_
      refine d_ldA rfl ty_ints rfl hA4 rfl ?_
      refine d_len (n := ln q) (a := la) (c := lc) rfl sl_ints hlf ?_
      refine d_lss rfl rfl rfl ?_
      by_cases hkl : k < ln q
      · have hkx : k < xs.length := by omega
        have hm2 := hxs.2 xs[k] (List.getElem_mem hkx)
        refine d_re (v' := .bool true) (vbool (decide_eq_true (by omega))) ?_
        refine d_move rfl ?_
        refine d_faN rfl Tryd.underlying67 rfl ty_ints.n rfl ?_
        refine d_ldA rfl ty_ints rfl hA4 rfl ?_
        refine d_move rfl ?_
        refine d_ia (n := k) (u := xs[k]) rfl sl_ints ty_int rfl rfl hS1 (List.getElem?_eq_getElem hkx) ?_
        intro ad2 hc2
        refine d_ld rfl ty_int rfl hc2 ?_
        refine d_faN rfl Tryd.underlying67 rfl ty_int.n rfl ?_
        refine d_ldA rfl ty_int rfl hA4 rfl ?_
        refine d_ch rfl ?_
        refine g_yes rfl rfl ?_
        refine s_call (vs := [xs[k], .int .i64 (q : Int)]) ok_isInt rfl (isInt_ct lo q xs[k] w5 hqb (hm2.ex ((hx.trans hxW4).trans hx25))) ?_
        rintro v w6 ⟨rfl, hx6⟩
        have hx26 := hx25.trans hx6
        refine l_nil ⟨rfl, .inr hx26, ?_⟩
        refine d_not rfl rfl ?_
        refine d_re (v' := .bool false) rfl ?_
        refine d_pickt rfl rfl rfl ?_
        refine d_pickf rfl rfl rfl ?_
        refine d_nil ?_
        repeat (first | (refine isO ?_; first | refine s_move ?_ | refine s_assign ?_ | (refine isBin ?_; refine s_inc rfl (by omega) ?_)) | (refine isC ?_; first | refine c_region ?_ | refine c_iff rfl ?_ | refine c_skip ?_) | (refine l_th ?_))
        exact loop_end (k + 1) (by (repeat (first | exact agree_refl _ _ | refine agree_upd rfl ?_ | refine agree_ext rfl ?_ | refine agree_mask rfl ?_))) ⟨rfl, trivial⟩ ⟨hk', hx26⟩ (by omega)
      · refine d_re (v' := .bool false) (vbool (decide_eq_false (by omega))) ?_
        refine d_move rfl ?_
        refine d_gno rfl rfl rfl rfl ?_
        refine d_gno rfl rfl rfl rfl ?_
        refine d_gno rfl rfl rfl rfl ?_
        refine d_gno rfl rfl rfl rfl ?_
        refine d_gno rfl rfl rfl rfl ?_
        refine d_gno rfl rfl rfl rfl ?_
        refine d_gno rfl rfl rfl rfl ?_
        refine d_ch rfl ?_
        refine g_no rfl rfl rfl ?_
        refine l_nil ⟨rfl, .inr hx25, ?_⟩
        refine d_gno rfl rfl rfl rfl ?_
        refine d_pickf rfl rfl rfl ?_
        refine d_pickf rfl rfl rfl ?_
        refine d_nil ?_
        repeat (first | (refine isO ?_; first | refine s_move ?_ | refine s_assign ?_ | (refine isBin ?_; refine s_inc rfl (by omega) ?_)) | (refine isC ?_; first | refine c_region ?_ | refine c_iff rfl ?_ | refine c_skip ?_) | (refine l_th ?_))
        exact loop_end (k + 1) (by (repeat (first | exact agree_refl _ _ | refine agree_upd rfl ?_ | refine agree_ext rfl ?_ | refine agree_mask rfl ?_))) ⟨rfl, trivial⟩ ⟨hk', hx25⟩ (by omega)
    · repeat (first | (refine isO ?_; first | refine s_move ?_ | refine s_assign ?_ | (refine isBin ?_; refine s_inc rfl (by omega) ?_)) | (refine isC ?_; first | refine c_region ?_ | refine c_exit ?_) | (refine l_th ?_))
      exact loop_end (i + 1) (by (repeat (first | exact agree_refl _ _ | refine agree_upd rfl ?_ | refine agree_ext rfl ?_ | refine agree_mask rfl ?_))) ⟨rfl, trivial⟩ ⟨hi', (hx.trans hxW4).trans hx2⟩ (by omega)
  · repeat (first | (refine isO ?_; refine s_assign ?_) | (refine isC ?_; first | refine c_sr ?_ | refine c_ret ?_ | refine c_exit ?_) | (refine l_th ?_))
    exact ret1 rfl rfl ⟨rfl, hx⟩
theorem ok_lookIntList : CallOK Tryd.prog 47 := callOK Tryd.func47 (by kernel_rfl) rfl
set_option maxHeartbeats 4000000 in
theorem lookIntList_ct (bk M lo : Nat) (ns : List Nat) (L G : Nat → Value) (ln : Nat → Nat) (vi vl : Value) (w : World) (hA : At w bk 45 (bkc M vl vi)) (hW : Wd w 65 3 vi ns.length (flat3 L G ns)) (hN : ns.length ≤ 100000) (hq : ∀ q ∈ ns, q ≤ 200000)
    (hL : ∀ q ∈ ns, (∃ xs, Wd w 30 1 (L q) (ln q) xs ∧ ∀ u ∈ xs, MKl lo w q u) ∧ ∃ ys, Wd w 30 1 (G q) (ln q + 40) ys ∧ ∀ u ∈ ys, MKl lo w q u) (hln : ∀ q ∈ ns, ln q ≤ 100000) :
    Ct Tryd.prog 47 #[.pointer (some ⟨bk, 0, none⟩)] w fun u w' => u = .bool true ∧ Ex w w' := by
  obtain ⟨va, vc, hvf⟩ := hW.slen
  refine Exists.elim in_heldIntList.ex fun ti hti => ?_
  refine enter (N := 64) (vs := [.pointer (some ⟨bk, 0, none⟩)]) Tryd.func47 rfl rfl rfl ?_
  repeat (first | (refine isO ?_; refine s_assign ?_) | (refine isC ?_; first | refine c_sr ?_ | refine c_seq ?_ | refine c_block ?_) | (refine l_th ?_))
  refine c_loop (γ := Nat) 18446744073709551612 (fun i => [(3, .int .i64 (i : Int))]) (fun i W => i ≤ ns.length ∧ Ex w W) (fun i => ns.length - i) 0 ⟨rfl, trivial⟩ ⟨Nat.zero_le _, Ex.refl _⟩ ?_
  rintro i ρ W ⟨hi, hx⟩
  have hAW := hA.ex hx
  have hWW := hW.ex hx
  repeat (first | (refine isO ?_; refine s_move ?_) | (refine isC ?_; first | refine c_sr ?_ | refine c_seq ?_))
  refine s_nil rfl ?_
  refine s_faN Tryd.underlying45 rfl ty_hl.n rfl ?_
  refine s_ldA ty_hl rfl hAW rfl ?_
  refine s_len (n := ns.length) (a := va) (c := vc) sl_hl hvf ?_
  repeat (first | (refine isO ?_; (refine isBin ?_; refine s_lss rfl rfl ?_)) | (refine l_th ?_))
  refine c_ifd rfl (fun h => ?_) (fun h => ?_)
  · have hi' : i < ns.length := by omega
    have hqe : ∃ q, ns[i]? = some q := ⟨_, List.getElem?_eq_getElem hi'⟩
    refine Exists.elim hqe fun q hqi => ?_
    have hqm := List.mem_of_getElem? hqi
    refine Exists.elim (hWW.pos (by omega)) fun ib he1 => Exists.elim he1 fun ic he2 => Exists.elim he2 fun isp he3 => ?_
    have hcell : ∀ j v, [L q, G q, Value.int .i64 (q : Int)][j]? = some v → (flat3 L G ns ++ isp)[i * 3 + j]? = some v := fun j v hj => by
      have h1 := flat3_get L G ns i q hqi j v hj
      rw [List.getElem?_append_left (List.getElem?_eq_some_iff.1 h1).1]; exact h1
    refine Exists.elim (hL q hqm).1 fun xs hxs => Exists.elim (hL q hqm).2 fun ys hys => ?_
    have hLo := hxs.1.one
    have hGo := hys.1.one
    repeat (first | (refine isO ?_; refine s_move ?_) | (refine isC ?_; first | refine c_sr ?_ | refine c_th ?_ | refine c_seq ?_ | refine c_block ?_))
    refine s_nil rfl ?_
    refine s_faN Tryd.underlying45 rfl ty_hl.n rfl ?_
    refine s_ldA ty_hl rfl hAW rfl ?_
    refine s_re (v' := .slice (some ⟨ib, 0, none⟩) ns.length ic) he3.1 ?_
    repeat ((refine isO ?_; refine s_move ?_))
    refine s_iaW (n := i) (s := 3) sl_hl ⟨ti, hti.1, hti.2.2.1⟩ rfl rfl hi' ?_
    refine s_ldM (cs := [L q, G q, .int .i64 (q : Int)]) Tryd.underlying65 rfl (by kernel_rfl) rfl he3.2.1 hcell ?_
    refine s_alloc (cs := [.slice none 0 0, .slice none 0 0, .int .i64 0]) hti.1 hti.2.1 rfl ?_
    intro b3 w3 hb3 hA3 hx3 hs3
    refine s_stV (cs := [L q, G q, .int .i64 (q : Int)]) (by kernel_rfl) rfl rfl hA3 rfl (by rw [List.all_cons, List.all_cons, hLo, hGo]; rfl) ?_
    intro w4 hA4 hg4 hz4
    have hxW4 : Ex W w4 := Ex.store hx3 hg4 (by omega)
    have hqb := hq q hqm
    have hlq := hln q hqm
    have hS1 := (hxs.1.ex (hx.trans hxW4)).sl (by omega)
    have hS2 := (hys.1.ex (hx.trans hxW4)).sl (by omega)
    have hxl : xs.length = ln q := by have := hxs.1.len; simpa using this
    have hyl : ys.length = ln q + 40 := by have := hys.1.len; simpa using this
    refine Exists.elim hxs.1.slen fun la hl1 => Exists.elim hl1 fun lc hlf => ?_
    refine Exists.elim hys.1.slen fun ga hg1 => Exists.elim hg1 fun gc hgf => ?_
    repeat (first | (refine isC ?_; first | refine c_sr ?_ | refine c_seq ?_) | (refine l_th ?_))
    refine s_faN Tryd.underlying65 rfl ty_rows.n rfl ?_
    refine s_ldA ty_rows rfl hA4 rfl ?_
    refine s_len (n := ln q + 40) (a := ga) (c := gc) sl_rows hgf ?_
    refine s_faN Tryd.underlying65 rfl ty_rows.n rfl ?_
    refine s_ldA ty_rows rfl hA4 rfl ?_
    refine s_len (n := ln q) (a := la) (c := lc) sl_rows hlf ?_
    refine s_add rfl rfl ⟨by omega, by omega⟩ ?_
    refine s_neqF rfl rfl (by omega) ?_
    repeat (first | (refine isO ?_; refine s_assign ?_) | (refine isC ?_; first | refine c_sr ?_ | refine c_th ?_ | refine c_iff rfl ?_ | refine c_block ?_) | (refine l_th ?_))
    refine c_loop (γ := Nat) 18446744072635809828 (fun k => [(5, .int .i64 (k : Int))]) (fun k W2 => k ≤ ln q + 40 ∧ Ex w4 W2) (fun k => ln q + 40 - k) 0 ⟨rfl, trivial⟩ ⟨Nat.zero_le _, Ex.refl _⟩ ?_
    rintro k ρ2 W2 ⟨hk, hx2⟩
    have hA5 := hA4.ex hx2
    repeat (first | (refine isO ?_; refine s_move ?_) | (refine isC ?_; first | refine c_sr ?_ | refine c_seq ?_))
    refine s_faN Tryd.underlying65 rfl ty_rows.n rfl ?_
    refine s_ldA ty_rows rfl hA5 rfl ?_
    refine s_len (n := ln q + 40) (a := ga) (c := gc) sl_rows hgf ?_
    repeat (first | (refine isO ?_; (refine isBin ?_; refine s_lss rfl rfl ?_)) | (refine l_th ?_))
    refine c_ifd rfl (fun h2 => ?_) (fun h2 => ?_)
    · have hk' : k < ln q + 40 := by omega
      have hky : k < ys.length := by omega
      have hm1 := hys.2 ys[k] (List.getElem_mem hky)
      repeat ((refine isC ?_; first | refine c_th ?_ | refine c_seq ?_ | refine c_block ?_))
      refine c_drawO hx2 27 8 [(0, true), (1, true), (2, true), (3, true), (4, true), (5, true), (6, true), (7, false), (8, true), (9, true), (10, true), (11, true), (12, true), (13, true), (14, true), (15, true), (16, true), (17, true), (18, true), (19, true), (20, true), (21, true), (22, true), (23, false), (24, true), (25, true), (26, true)] mixed (by kernel_rfl) ?_
      have hx2d := hx2.trans (Ex.drew W2)
      refine d_faN rfl Tryd.underlying65 rfl ty_rows.n rfl ?_
      refine d_ldA rfl ty_rows rfl hA4 rfl ?_
      refine d_move rfl ?_
      refine d_ia (n := k) (u := ys[k]) rfl sl_rows ty_ints rfl rfl hS2 (List.getElem?_eq_getElem hky) ?_
      intro ad1 hc1
      refine d_ld rfl ty_ints rfl hc1 ?_
      refine d_faN rfl Tryd.underlying65 rfl ty_int.n rfl ?_
      refine d_ldA rfl ty_int rfl hA4 rfl ?_
      refine d_ch rfl ?_
      refine s_call (vs := [ys[k], .int .i64 (q : Int)]) ok_isIntList rfl (isIntList_ct lo q ys[k] W2.drew hqb (hm1.ex ((hx.trans hxW4).trans hx2d))) ?_
      rintro v w5 ⟨rfl, hx5⟩
      have hx25 := hx2d.trans hx5
      refine l_nil ⟨rfl, .inr hx25, ?_⟩
      refine d_not rfl rfl ?_
      refine d_re (v' := .bool false) rfl ?_
      refine d_move rfl ?_
      refine d_move rfl ?_
      refine d_faN rfl Tryd.underlying65 rfl ty_rows.n rfl ?_
      refine d_ldA rfl ty_rows rfl hA4 rfl ?_
      refine d_len (n := ln q) (a := la) (c := lc) rfl sl_rows hlf ?_
      refine d_lss rfl rfl rfl ?_
      by_cases hkl : k < ln q
      · have hkx : k < xs.length := by omega
        have hm2 := hxs.2 xs[k] (List.getElem_mem hkx)
        refine d_re (v' := .bool true) (vbool (decide_eq_true (by omega))) ?_
        refine d_move rfl ?_
        refine d_faN rfl Tryd.underlying65 rfl ty_rows.n rfl ?_
        refine d_ldA rfl ty_rows rfl hA4 rfl ?_
        refine d_move rfl ?_
        refine d_ia (n := k) (u := xs[k]) rfl sl_rows ty_ints rfl rfl hS1 (List.getElem?_eq_getElem hkx) ?_
        intro ad2 hc2
        refine d_ld rfl ty_ints rfl hc2 ?_
        refine d_faN rfl Tryd.underlying65 rfl ty_int.n rfl ?_
        refine d_ldA rfl ty_int rfl hA4 rfl ?_
        refine d_ch rfl ?_
        refine g_yes rfl rfl ?_
        refine s_call (vs := [xs[k], .int .i64 (q : Int)]) ok_isIntList rfl (isIntList_ct lo q xs[k] w5 hqb (hm2.ex ((hx.trans hxW4).trans hx25))) ?_
        rintro v w6 ⟨rfl, hx6⟩
        have hx26 := hx25.trans hx6
        refine l_nil ⟨rfl, .inr hx26, ?_⟩
        refine d_not rfl rfl ?_
        refine d_re (v' := .bool false) rfl ?_
        refine d_pickt rfl rfl rfl ?_
        refine d_pickf rfl rfl rfl ?_
        refine d_nil ?_
        repeat (first | (refine isO ?_; first | refine s_move ?_ | refine s_assign ?_ | (refine isBin ?_; refine s_inc rfl (by omega) ?_)) | (refine isC ?_; first | refine c_region ?_ | refine c_iff rfl ?_ | refine c_skip ?_) | (refine l_th ?_))
        exact loop_end (k + 1) (by (repeat (first | exact agree_refl _ _ | refine agree_upd rfl ?_ | refine agree_ext rfl ?_ | refine agree_mask rfl ?_))) ⟨rfl, trivial⟩ ⟨hk', hx26⟩ (by omega)
      · refine d_re (v' := .bool false) (vbool (decide_eq_false (by omega))) ?_
        refine d_move rfl ?_
        refine d_gno rfl rfl rfl rfl ?_
        refine d_gno rfl rfl rfl rfl ?_
        refine d_gno rfl rfl rfl rfl ?_
        refine d_gno rfl rfl rfl rfl ?_
        refine d_gno rfl rfl rfl rfl ?_
        refine d_gno rfl rfl rfl rfl ?_
        refine d_gno rfl rfl rfl rfl ?_
        refine d_ch rfl ?_
        refine g_no rfl rfl rfl ?_
        refine l_nil ⟨rfl, .inr hx25, ?_⟩
        refine d_gno rfl rfl rfl rfl ?_
        refine d_pickf rfl rfl rfl ?_
        refine d_pickf rfl rfl rfl ?_
        refine d_nil ?_
        repeat (first | (refine isO ?_; first | refine s_move ?_ | refine s_assign ?_ | (refine isBin ?_; refine s_inc rfl (by omega) ?_)) | (refine isC ?_; first | refine c_region ?_ | refine c_iff rfl ?_ | refine c_skip ?_) | (refine l_th ?_))
        exact loop_end (k + 1) (by (repeat (first | exact agree_refl _ _ | refine agree_upd rfl ?_ | refine agree_ext rfl ?_ | refine agree_mask rfl ?_))) ⟨rfl, trivial⟩ ⟨hk', hx25⟩ (by omega)
    · repeat (first | (refine isO ?_; first | refine s_move ?_ | refine s_assign ?_ | (refine isBin ?_; refine s_inc rfl (by omega) ?_)) | (refine isC ?_; first | refine c_region ?_ | refine c_exit ?_) | (refine l_th ?_))
      exact loop_end (i + 1) (by (repeat (first | exact agree_refl _ _ | refine agree_upd rfl ?_ | refine agree_ext rfl ?_ | refine agree_mask rfl ?_))) ⟨rfl, trivial⟩ ⟨hi', (hx.trans hxW4).trans hx2⟩ (by omega)
  · repeat (first | (refine isO ?_; refine s_assign ?_) | (refine isC ?_; first | refine c_sr ?_ | refine c_ret ?_ | refine c_exit ?_) | (refine l_th ?_))
    exact ret1 rfl rfl ⟨rfl, hx⟩
end Go.Proofs.YtifbgpkjbciblaaDoor.Sal
end
