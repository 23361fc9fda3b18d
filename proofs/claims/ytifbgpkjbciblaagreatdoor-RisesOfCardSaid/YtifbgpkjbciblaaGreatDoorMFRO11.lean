/- Texts that YtifbgpkjbciblaaGreatDoorFRO leans on, laid together: BK4 BK5 BK6 BO1. -/
import Derived.Test.YtifbgpkjbciblaaGreatDoorMFRO10
import Derived.Test.YtifbgpkjbciblaaGreatDoorMFRO8
import Derived.Test.YtifbgpkjbciblaaGreatDoorMFRO4
section
/- The Book of salesroomlaw01: grow. -/
set_option maxRecDepth 100000
namespace Go.Proofs.YtifbgpkjbciblaaGreatDoor.Sal
open Go.RowKit
attribute [local irreducible] Go.Code.wpIn Go.wpListIn Ct Ints Rows Sl At Rw WJ
attribute [local irreducible] Wd
set_option linter.all false
theorem in_wint : InfoW Tryz.prog 3 1 (.int .i64 0) 8 := in_w inf_int rfl
theorem in_wints : InfoW Tryz.prog 25 1 (.slice none 0 0) 24 := in_w inf_ints rfl
/-- Marks stand when another list is written. -/
theorem MKi.app {lo n : Nat} {w w' : World} {q : Nat} {u v : Value} {xs : List Value} (h : MKi lo w q u) (hW : Wd w 3 1 v n xs) (hg : w.grownBy w' v.ownBlock) : MKi lo w' q u := h
theorem MKl.app {lo n : Nat} {w w' : World} {q : Nat} {u v : Value} {xs : List Value} (h : MKl lo w q u) (hW : Wd w 25 1 v n xs) (hg : w.grownBy w' v.ownBlock) : MKl lo w' q u := by
  obtain ⟨b, h1, h2, h3⟩ := h
  refine ⟨b, h1, h2, h3.grown hg (fun e => ?_)⟩
  unfold Wd at hW
  rcases hW.2 with ⟨rfl, _⟩ | ⟨b', c, sp, rfl, hA, _⟩
  · cases e
  · cases e
    unfold At at hA h3
    rw [hA] at h3
    have h4 := Option.some.inj h3
    rw [Obj.cells.injEq] at h4
    exact absurd h4.2.1 (by decide)
theorem own_case {a : Option Addr} {n n' c : Nat} : (Value.slice a n c).ownBlock = (Value.slice a n' c).ownBlock := by cases a <;> rfl
theorem ok_growInt : CallOK Tryz.prog 54 := callOK Tryz.func54 (by kernel_rfl) rfl
set_option maxHeartbeats 2000000 in
theorem growInt_ct (bk M lo : Nat) (ns : List Nat) (L G : Nat → Value) (ln : Nat → Nat) (vi vl : Value) (w : World) (hA : At w bk 46 (bkc M vi vl)) (hW : Wd w 107 3 vi ns.length (flat3 L G ns)) (hN : ns.length ≤ 100000) (hq : ∀ q ∈ ns, q ≤ 200000)
    (hL : ∀ q ∈ ns, ∃ xs, Wd w 3 1 (L q) (ln q) xs ∧ ∀ u ∈ xs, MKi lo w q u) (hln : ∀ q ∈ ns, ln q ≤ 100000) (hGone : ∀ q ∈ ns, (G q).oneCell' = true) (hnd : ns.Nodup) (hd : ∀ p ∈ ns, ∀ q ∈ ns, p ≠ q → ∀ b, (L p).ownBlock = some b → (L q).ownBlock ≠ some b) (hbk : ∀ q ∈ ns, ∀ b, (L q).ownBlock = some b → b ≠ bk ∧ vi.ownBlock ≠ some b ∧ b < lo) (hvb : ∀ b, vi.ownBlock = some b → b ≠ bk ∧ b < lo) (hlo : lo ≤ w.heap.size) :
    Ct Tryz.prog 54 #[.pointer (some ⟨bk, 0, none⟩)] w fun u w' => u = .tuple #[] ∧ KtS (fun b => (∃ q ∈ ns, (L q).ownBlock = some b) ∨ vi.ownBlock = some b) w w' ∧ ∃ G', Wd w' 107 3 vi ns.length (flat3 L G' ns) ∧ ∀ q ∈ ns, (∃ xs, Wd w' 3 1 (L q) (ln q) xs ∧ ∀ u ∈ xs, MKi lo w' q u) ∧ (∃ ys, Wd w' 3 1 (G' q) (ln q + 40) ys ∧ ∀ u ∈ ys, MKi lo w' q u) ∧ ∀ b, (G' q).ownBlock = some b → (L q).ownBlock = some b ∨ w.heap.size ≤ b := by
  obtain ⟨va, vc, hvf⟩ := hW.slen
  refine Exists.elim in_heldInt.ex fun ti hti => ?_
  have hLw : ∀ q ∈ ns, ∀ b, (L q).ownBlock = some b → b < w.heap.size := fun q h1 b h2 => by obtain ⟨xs, h3, _⟩ := hL q h1; exact h3.lt b h2
  have hLone : ∀ q ∈ ns, (L q).oneCell' = true := fun q h1 => by obtain ⟨xs, h3, _⟩ := hL q h1; exact h3.one
  have hSlo : ∀ b, ((∃ q ∈ ns, (L q).ownBlock = some b) ∨ vi.ownBlock = some b) → b < lo := fun b h => by
    rcases h with ⟨q, h1, h2⟩ | h
    · exact (hbk q h1 b h2).2.2
    · exact (hvb b h).2
  refine enter (N := 42) (vs := [.pointer (some ⟨bk, 0, none⟩)]) Tryz.func54 rfl rfl rfl ?_
  repeat (first | (refine isO ?_; refine s_assign ?_) | (refine isC ?_; first | refine c_sr ?_ | refine c_block ?_) | (refine l_th ?_))
  refine c_loop (γ := Nat) 4398046511100 (fun i => [(2, .int .i64 (i : Int))]) (fun i W => i ≤ ns.length ∧ KtS (fun b => (∃ q ∈ ns, (L q).ownBlock = some b) ∨ vi.ownBlock = some b) w W ∧ ∃ G', Wd W 107 3 vi ns.length (flat3 L G' ns) ∧ (∀ q ∈ ns, (G' q).oneCell' = true) ∧ ∀ j q, ns[j]? = some q → (∃ xs, Wd W 3 1 (L q) (ln q) xs ∧ ∀ u ∈ xs, MKi lo W q u) ∧ (j < i → (∃ ys, Wd W 3 1 (G' q) (ln q + 40) ys ∧ ∀ u ∈ ys, MKi lo W q u) ∧ ∀ b, (G' q).ownBlock = some b → (L q).ownBlock = some b ∨ w.heap.size ≤ b)) (fun i => ns.length - i) 0 ⟨rfl, trivial⟩ ⟨Nat.zero_le _, KtS.refl _ _, G, hW, hGone, fun j q h => ⟨hL q (List.mem_of_getElem? h), fun h => by omega⟩⟩ ?_
  rintro i ρ W ⟨hi, hK, hGe⟩
  refine Exists.elim hGe fun G' hG => ?_
  have hWW := hG.1
  have hI := hG.2.2
  have hAW := hA.kt hK (fun h => by
    rcases h with ⟨q, h1, h2⟩ | h
    · exact (hbk q h1 bk h2).1 rfl
    · exact (hvb bk h).1 rfl)
  repeat (first | (refine isO ?_; refine s_move ?_) | (refine isC ?_; first | refine c_sr ?_ | refine c_seq ?_))
  refine s_nil rfl ?_
  refine s_faN Tryz.underlying46 rfl ty_hi.n rfl ?_
  refine s_ldA ty_hi rfl hAW rfl ?_
  refine s_len (n := ns.length) (a := va) (c := vc) sl_hi hvf ?_
  repeat (first | (refine isO ?_; (refine isBin ?_; refine s_lss rfl rfl ?_)) | (refine l_th ?_))
  refine c_ifd rfl (fun h => ?_) (fun h => ?_)
  · have hi' : i < ns.length := by omega
    have hqe : ∃ q, ns[i]? = some q := ⟨_, List.getElem?_eq_getElem hi'⟩
    refine Exists.elim hqe fun q hqi => ?_
    have hqm := List.mem_of_getElem? hqi
    refine Exists.elim (hWW.pos (by omega)) fun ib he1 => Exists.elim he1 fun ic he2 => Exists.elim he2 fun isp he3 => ?_
    have hcell : ∀ j v, [L q, G' q, Value.int .i64 (q : Int)][j]? = some v → (flat3 L G' ns ++ isp)[i * 3 + j]? = some v := fun j v hj => by
      have h1 := flat3_get L G' ns i q hqi j v hj
      rw [List.getElem?_append_left (List.getElem?_eq_some_iff.1 h1).1]; exact h1
    have hib : vi.ownBlock = some ib := by rw [he3.1]; rfl
    repeat (first | (refine isO ?_; refine s_move ?_) | (refine isC ?_; first | refine c_sr ?_ | refine c_th ?_ | refine c_seq ?_ | refine c_block ?_))
    refine s_nil rfl ?_
    refine s_faN Tryz.underlying46 rfl ty_hi.n rfl ?_
    refine s_ldA ty_hi rfl hAW rfl ?_
    refine s_re (v' := .slice (some ⟨ib, 0, none⟩) ns.length ic) he3.1 ?_
    repeat ((refine isO ?_; refine s_move ?_))
    refine s_iaW (n := i) (s := 3) sl_hi ⟨ti, hti.1, hti.2.2.1⟩ rfl rfl hi' ?_
    refine s_ldM (cs := [L q, G' q, .int .i64 (q : Int)]) Tryz.underlying107 rfl (by kernel_rfl) rfl he3.2.1 hcell ?_
    refine s_alloc (cs := [.slice none 0 0, .slice none 0 0, .int .i64 0]) hti.1 hti.2.1 rfl ?_
    intro b3 w3 hb3 hA3 hx3 hs3
    refine s_stV (cs := [L q, G' q, .int .i64 (q : Int)]) (by kernel_rfl) rfl rfl hA3 rfl (by rw [List.all_cons, List.all_cons, hLone q hqm, hG.2.1 q hqm]; rfl) ?_
    intro w4 hA4 hg4 hz4
    have z3 := hx3.size
    have hK4 : KtS (fun _ => False) W w4 := (KtS.of_ex hx3).later (KtS.of_grown (S := fun b => b3 = b) hg4 (fun k e => Option.some.inj e)) (fun k e => .inr (by omega))
    have hxW4 : Ex W w4 := ⟨hK4.os, hK4.tape, hK4.output, hK4.size, fun k hk => hK4.block k hk (fun h => h)⟩
    have hLq := (hI i q hqi).1
    refine Exists.elim hLq fun cs hcs => ?_
    have hLq4 := hcs.1.ex hxW4
    have hqb := hq q hqm
    have hlq := hln q hqm
    have hb3L : ∀ b, (L q).ownBlock = some b → b ≠ b3 := fun b hb e => by have := hcs.1.lt b hb; omega
    refine Exists.elim hcs.1.slen fun la hl1 => Exists.elim hl1 fun lc hlf => ?_
    have zW := hK.size
    repeat (first | (refine isC ?_; refine c_sr ?_) | (refine l_th ?_))
    refine s_faN Tryz.underlying107 rfl ty_ints.n rfl ?_
    refine s_ldA ty_ints rfl hA4 rfl ?_
    repeat (first | (refine isO ?_; refine s_assign ?_) | (refine isC ?_; first | refine c_sr ?_ | refine c_seq ?_ | refine c_block ?_) | (refine l_th ?_))
    refine c_loop2 17163092016 (fun (k : Nat) (v4 : Value) => [(5, .int .i64 (k : Int)), (4, v4)]) (fun k v4 W2 => k ≤ 40 ∧ KtS (fun b => (L q).ownBlock = some b) w4 W2 ∧ (∃ ys, Wd W2 3 1 v4 (ln q + k) ys ∧ ∀ u ∈ ys, MKi lo W2 q u) ∧ ((v4 = .slice la (ln q + k) lc) ∨ ((∀ b, v4.ownBlock = some b → w4.heap.size ≤ b) ∧ ∃ xs, Wd W2 3 1 (L q) (ln q) xs ∧ ∀ u ∈ xs, MKi lo W2 q u))) (fun k _ => 40 - k) 0 (L q) ⟨rfl, rfl, trivial⟩ ⟨Nat.zero_le _, KtS.refl _ _, ⟨cs, hLq4, fun u hu => MKi.ex (hcs.2 u hu) hxW4⟩, .inl hlf⟩ ?_
    rintro k v4 ρ2 W2 ⟨hk, hK2, hye, hcase⟩
    refine Exists.elim hye fun ys hys => ?_
    have hA5 := hA4.kt hK2 (fun e => hb3L b3 e rfl)
    have z2 := hK2.size
    have z4 := hxW4.size
    repeat (first | (refine isO ?_; first | refine s_move ?_ | (refine isBin ?_; refine s_lss rfl rfl ?_)) | (refine isC ?_; first | refine c_sr ?_ | refine c_seq ?_) | (refine l_th ?_))
    refine c_ifd rfl (fun h2 => ?_) (fun h2 => ?_)
    · have hk' : k < 40 := by omega
      repeat (first | (refine isO ?_; refine s_move ?_) | (refine isC ?_; first | refine c_th ?_ | refine c_seq ?_ | refine c_region ?_ | refine c_block ?_))
      refine s_faN Tryz.underlying107 rfl ty_int.n rfl ?_
      refine s_ldA ty_int rfl hA5 rfl ?_
      refine s_call ok_markInt rfl (markInt_ct lo q W2 hqb (by omega)) ?_
      rintro x w5 ⟨hmk, hone, hx5⟩
      refine s_bs1 (u := x) sl_ints in_int rfl hone ?_
      intro b6 w6 hb6 hA6 hx6 hs6
      have hx26 := hx5.trans hx6
      refine s_appW (n := ln q + k) (m := 1) (news := [x]) sl_ints in_wint (by omega) (hys.1.ex hx26) ⟨b6, 1, rfl, [], by simpa using hA6⟩ rfl (by omega) (by intro u hu; simp at hu; subst hu; exact hone) (by omega) (by omega) rfl rfl ?_
      intro v5 w7 hW7 hg7 hf7
      have hys7 : ∀ u ∈ ys ++ [x], MKi lo w7 q u := fun u hu => by
        rcases List.mem_append.1 hu with hu | hu
        · exact MKi.app ((hys.2 u hu).ex hx26) (hys.1.ex hx26) hg7
        · simp at hu; subst hu; exact MKi.app (hmk.ex hx6) (hys.1.ex hx26) hg7
      have hown : v4.ownBlock = (L q).ownBlock ∨ ∀ b, v4.ownBlock = some b → w4.heap.size ≤ b := by
        rcases hcase with hc | hc
        · left; rw [hc, hlf]; exact own_case
        · exact .inr hc.1
      have hK7 : KtS (fun b => (L q).ownBlock = some b) w4 w7 := (hK2.trans (KtS.of_ex hx26)).later (KtS.of_grown (S := fun b => v4.ownBlock = some b) hg7 (fun b e => e)) (fun b hb => by
        rcases hown with he | hf
        · exact .inl (he ▸ hb)
        · exact .inr (hf b hb))
      have z26 := hx26.size
      have hnext : (v5 = .slice la (ln q + (k + 1)) lc) ∨ ((∀ b, v5.ownBlock = some b → w4.heap.size ≤ b) ∧ ∃ xs, Wd w7 3 1 (L q) (ln q) xs ∧ ∀ u ∈ xs, MKi lo w7 q u) := by
        rcases hcase with hc | hc
        · rcases hf7 with ⟨a, c, h5, h6⟩ | ⟨h5, h6⟩
          · left
            rw [hc] at h5; cases h5
            rw [h6]; rfl
          · right
            refine ⟨fun b hb => by have := h5 b hb; omega, ys.take (ln q), ?_, fun u hu => ?_⟩
            · have h9 := hys.1
              rw [hc] at h9
              have h8 := h9.head
              rw [← hlf] at h8
              exact (h8.ex hx26).ex h6
            · exact hys7 u (List.mem_append_left _ (List.mem_of_mem_take hu))
        · right
          refine ⟨fun b hb => ?_, ?_⟩
          · rcases hf7 with ⟨a, c, h5, h6⟩ | ⟨h5, h6⟩
            · exact hc.1 b (by rw [h5, own_case (n' := ln q + k + 1), ← h6]; exact hb)
            · have := h5 b hb; omega
          · obtain ⟨xs, h8, h9⟩ := hc.2
            refine ⟨xs, (h8.ex hx26).grown hg7 (fun b hb e => ?_), fun u hu => ?_⟩
            · have := hc.1 b e
              have := hLq4.lt b hb
              omega
            · exact MKi.app ((h9 u hu).ex hx26) (hys.1.ex hx26) hg7
      repeat (first | (refine isO ?_; first | refine s_move ?_ | refine s_assign ?_ | (refine isBin ?_; refine s_inc rfl (by omega) ?_)) | (refine isC ?_; refine c_region ?_) | (first | refine l_th ?_ | refine l_nil ?_))
      exact loop_end2 (k + 1) v5 (by (repeat (first | exact agree_refl _ _ | refine agree_upd rfl ?_ | refine agree_ext rfl ?_ | refine agree_mask rfl ?_))) ⟨rfl, rfl, trivial⟩ ⟨hk', hK7, ⟨ys ++ [x], hW7, hys7⟩, hnext⟩ (by omega)
    · have hke : k = 40 := by omega
      subst hke
      have hK6 : KtS (fun b => (L q).ownBlock = some b) W W2 := (hK4.mono (fun _ h => h.elim)).trans hK2
      have hibL : ∀ b, (L q).ownBlock = some b → b ≠ ib := fun b hb e => (hbk q hqm b hb).2.1 (by rw [hib, e])
      have hAb6 := hAW.kt hK6 (fun e => (hbk q hqm bk e).1 rfl)
      have hAi6 := he3.2.1.kt hK6 (fun e => hibL ib e rfl)
      repeat (first | (refine isO ?_; refine s_move ?_) | (refine isC ?_; first | refine c_region ?_ | refine c_exit ?_))
      refine s_nil rfl ?_
      refine s_faN Tryz.underlying46 rfl ty_hi.n rfl ?_
      refine s_ldA ty_hi rfl hAb6 rfl ?_
      refine s_re (v' := .slice (some ⟨ib, 0, none⟩) ns.length ic) he3.1 ?_
      repeat ((refine isO ?_; refine s_move ?_))
      refine s_iaW (n := i) (s := 3) sl_hi ⟨ti, hti.1, hti.2.2.1⟩ rfl rfl hi' ?_
      refine s_faN Tryz.underlying107 rfl ty_ints.n rfl ?_
      refine s_stA (n := i * 3 + 1) (u := v4) ty_ints rfl rfl hys.1.one hAi6 (by have := flat3_len L G' ns; simp; omega) ?_
      intro w8 hA8 hg8
      have hset : Wd w8 107 3 (.slice (some ⟨ib, 0, none⟩) ns.length ic) ns.length ((flat3 L G' ns).set (i * 3 + 1) v4) := Wd.set (w := w8) (flat3_len _ _ _) (by have := flat3_len L G' ns; omega) hA8 he3.2.2.1 he3.2.2.2.1 he3.2.2.2.2
      rw [← he3.1, flat3_set L G' v4 ns i q hnd hqi] at hset
      have hown : v4.ownBlock = (L q).ownBlock ∨ ∀ b, v4.ownBlock = some b → w4.heap.size ≤ b := by
        rcases hcase with hc | hc
        · left; rw [hc, hlf]; exact own_case
        · exact .inr hc.1
      have hibW := hWW.lt ib hib
      have hv4 : ∀ b, v4.ownBlock = some b → b ≠ ib := fun b hb e => by
        rcases hown with he | hf
        · exact hibL b (he ▸ hb) e
        · have := hf b hb; omega
      have hK8 : KtS (fun b => (L q).ownBlock = some b ∨ vi.ownBlock = some b) W w8 := (hK6.mono (fun _ h => .inl h)).trans (KtS.of_grown hg8 (fun b e => .inr (by rw [← e]; exact hib)))
      have hKw : KtS (fun b => (∃ q ∈ ns, (L q).ownBlock = some b) ∨ vi.ownBlock = some b) w w8 := hK.trans (hK8.mono (fun b h => h.imp (fun h => ⟨q, hqm, h⟩) id))
      have hiblo : ∀ b, some ib = some b → b < lo := fun b e => (hvb b (by rw [hib]; exact e)).2
      have hk8lo : ∀ b, ((L q).ownBlock = some b ∨ vi.ownBlock = some b) → b < lo := fun b h => h.elim (fun h => (hbk q hqm b h).2.2) (fun h => (hvb b h).2)
      repeat (first | (refine isO ?_; first | refine s_move ?_ | refine s_assign ?_ | (refine isBin ?_; refine s_inc rfl (by omega) ?_)) | (refine isC ?_; refine c_region ?_) | (first | refine l_th ?_ | refine l_nil ?_))
      refine loop_end (i + 1) (by (repeat (first | exact agree_refl _ _ | refine agree_upd rfl ?_ | refine agree_ext rfl ?_ | refine agree_mask rfl ?_))) ⟨rfl, trivial⟩ ⟨hi', hKw, fset1 G' q v4, hset, fun p hp => ?_, fun j p hp => ⟨?_, fun hj => ?_⟩⟩ (by omega)
      · unfold fset1
        split
        · exact hys.1.one
        · exact hG.2.1 p hp
      · by_cases e : p = q
        · subst e
          have h9 : ∃ xs, Wd W2 3 1 (L p) (ln p) xs ∧ ∀ u ∈ xs, MKi lo W2 p u := by
            rcases hcase with hc | hc
            · have h9 := hys.1
              rw [hc] at h9
              have h8 := h9.head
              rw [← hlf] at h8
              exact ⟨_, h8, fun u hu => hys.2 u (List.mem_of_mem_take hu)⟩
            · exact hc.2
          obtain ⟨xs, h1, h2⟩ := h9
          exact ⟨xs, h1.grown hg8 (fun b hb e => hibL b hb (Option.some.inj e).symm), fun u hu => MKi.grown (h2 u hu) hg8 hiblo⟩
        · have hpm := List.mem_of_getElem? hp
          obtain ⟨xs, h1, h2⟩ := (hI j p hp).1
          refine ⟨xs, h1.kt hK8 (fun b hb hb2 => ?_), fun u hu => MKi.kt (h2 u hu) hK8 hk8lo⟩
          rcases hb2 with hb2 | hb2
          · exact hd p hpm q hqm e b hb hb2
          · exact (hbk p hpm b hb).2.1 hb2
      · by_cases e : p = q
        · subst e
          have e9 : fset1 G' p v4 p = v4 := by unfold fset1; rw [if_pos rfl]
          rw [e9]
          refine ⟨⟨ys, hys.1.grown hg8 (fun b hb e => hv4 b hb (Option.some.inj e).symm), fun u hu => MKi.grown (hys.2 u hu) hg8 hiblo⟩, fun b hb => ?_⟩
          rcases hown with he | hf
          · exact .inl (he ▸ hb)
          · have := hf b hb; exact .inr (by omega)
        · have hpm := List.mem_of_getElem? hp
          have e9 : fset1 G' q v4 p = G' p := by unfold fset1; rw [if_neg e]
          have hji : j ≠ i := fun e2 => by subst e2; rw [hqi] at hp; exact e (Option.some.inj hp).symm
          rw [e9]
          obtain ⟨⟨zs, h1, h2⟩, h3⟩ := (hI j p hp).2 (by omega)
          refine ⟨⟨zs, h1.kt hK8 (fun b hb hb2 => ?_), fun u hu => MKi.kt (h2 u hu) hK8 hk8lo⟩, h3⟩
          rcases h3 b hb with h4 | h4
          · rcases hb2 with hb2 | hb2
            · exact hd p hpm q hqm e b h4 hb2
            · exact (hbk p hpm b h4).2.1 hb2
          · have := hk8lo b hb2; omega
  · have hie : i = ns.length := by omega
    subst hie
    repeat (first | (refine isC ?_; refine c_exit ?_) | (first | refine ib_exit ?_ | refine th_exit ?_))
    refine end0 rfl ⟨rfl, hK, G', hWW, fun q hqm => ?_⟩
    obtain ⟨j, hj⟩ := List.mem_iff_getElem?.1 hqm
    have h1 := hI j q hj
    have h2 := h1.2 (List.getElem?_eq_some_iff.1 hj).1
    exact ⟨h1.1, h2.1, h2.2⟩
theorem ok_growIntList : CallOK Tryz.prog 56 := callOK Tryz.func56 (by kernel_rfl) rfl
set_option maxHeartbeats 2000000 in
theorem growIntList_ct (bk M lo : Nat) (ns : List Nat) (L G : Nat → Value) (ln : Nat → Nat) (vi vl : Value) (w : World) (hA : At w bk 46 (bkc M vl vi)) (hW : Wd w 105 3 vi ns.length (flat3 L G ns)) (hN : ns.length ≤ 100000) (hq : ∀ q ∈ ns, q ≤ 200000)
    (hL : ∀ q ∈ ns, ∃ xs, Wd w 25 1 (L q) (ln q) xs ∧ ∀ u ∈ xs, MKl lo w q u) (hln : ∀ q ∈ ns, ln q ≤ 100000) (hGone : ∀ q ∈ ns, (G q).oneCell' = true) (hnd : ns.Nodup) (hd : ∀ p ∈ ns, ∀ q ∈ ns, p ≠ q → ∀ b, (L p).ownBlock = some b → (L q).ownBlock ≠ some b) (hbk : ∀ q ∈ ns, ∀ b, (L q).ownBlock = some b → b ≠ bk ∧ vi.ownBlock ≠ some b ∧ b < lo) (hvb : ∀ b, vi.ownBlock = some b → b ≠ bk ∧ b < lo) (hlo : lo ≤ w.heap.size) :
    Ct Tryz.prog 56 #[.pointer (some ⟨bk, 0, none⟩)] w fun u w' => u = .tuple #[] ∧ KtS (fun b => (∃ q ∈ ns, (L q).ownBlock = some b) ∨ vi.ownBlock = some b) w w' ∧ ∃ G', Wd w' 105 3 vi ns.length (flat3 L G' ns) ∧ ∀ q ∈ ns, (∃ xs, Wd w' 25 1 (L q) (ln q) xs ∧ ∀ u ∈ xs, MKl lo w' q u) ∧ (∃ ys, Wd w' 25 1 (G' q) (ln q + 40) ys ∧ ∀ u ∈ ys, MKl lo w' q u) ∧ ∀ b, (G' q).ownBlock = some b → (L q).ownBlock = some b ∨ w.heap.size ≤ b := by
  obtain ⟨va, vc, hvf⟩ := hW.slen
  refine Exists.elim in_heldIntList.ex fun ti hti => ?_
  have hLw : ∀ q ∈ ns, ∀ b, (L q).ownBlock = some b → b < w.heap.size := fun q h1 b h2 => by obtain ⟨xs, h3, _⟩ := hL q h1; exact h3.lt b h2
  have hLone : ∀ q ∈ ns, (L q).oneCell' = true := fun q h1 => by obtain ⟨xs, h3, _⟩ := hL q h1; exact h3.one
  have hSlo : ∀ b, ((∃ q ∈ ns, (L q).ownBlock = some b) ∨ vi.ownBlock = some b) → b < lo := fun b h => by
    rcases h with ⟨q, h1, h2⟩ | h
    · exact (hbk q h1 b h2).2.2
    · exact (hvb b h).2
  refine enter (N := 42) (vs := [.pointer (some ⟨bk, 0, none⟩)]) Tryz.func56 rfl rfl rfl ?_
  repeat (first | (refine isO ?_; refine s_assign ?_) | (refine isC ?_; first | refine c_sr ?_ | refine c_block ?_) | (refine l_th ?_))
  refine c_loop (γ := Nat) 4398046511100 (fun i => [(2, .int .i64 (i : Int))]) (fun i W => i ≤ ns.length ∧ KtS (fun b => (∃ q ∈ ns, (L q).ownBlock = some b) ∨ vi.ownBlock = some b) w W ∧ ∃ G', Wd W 105 3 vi ns.length (flat3 L G' ns) ∧ (∀ q ∈ ns, (G' q).oneCell' = true) ∧ ∀ j q, ns[j]? = some q → (∃ xs, Wd W 25 1 (L q) (ln q) xs ∧ ∀ u ∈ xs, MKl lo W q u) ∧ (j < i → (∃ ys, Wd W 25 1 (G' q) (ln q + 40) ys ∧ ∀ u ∈ ys, MKl lo W q u) ∧ ∀ b, (G' q).ownBlock = some b → (L q).ownBlock = some b ∨ w.heap.size ≤ b)) (fun i => ns.length - i) 0 ⟨rfl, trivial⟩ ⟨Nat.zero_le _, KtS.refl _ _, G, hW, hGone, fun j q h => ⟨hL q (List.mem_of_getElem? h), fun h => by omega⟩⟩ ?_
  rintro i ρ W ⟨hi, hK, hGe⟩
  refine Exists.elim hGe fun G' hG => ?_
  have hWW := hG.1
  have hI := hG.2.2
  have hAW := hA.kt hK (fun h => by
    rcases h with ⟨q, h1, h2⟩ | h
    · exact (hbk q h1 bk h2).1 rfl
    · exact (hvb bk h).1 rfl)
  repeat (first | (refine isO ?_; refine s_move ?_) | (refine isC ?_; first | refine c_sr ?_ | refine c_seq ?_))
  refine s_nil rfl ?_
  refine s_faN Tryz.underlying46 rfl ty_hl.n rfl ?_
  refine s_ldA ty_hl rfl hAW rfl ?_
  refine s_len (n := ns.length) (a := va) (c := vc) sl_hl hvf ?_
  repeat (first | (refine isO ?_; (refine isBin ?_; refine s_lss rfl rfl ?_)) | (refine l_th ?_))
  refine c_ifd rfl (fun h => ?_) (fun h => ?_)
  · have hi' : i < ns.length := by omega
    have hqe : ∃ q, ns[i]? = some q := ⟨_, List.getElem?_eq_getElem hi'⟩
    refine Exists.elim hqe fun q hqi => ?_
    have hqm := List.mem_of_getElem? hqi
    refine Exists.elim (hWW.pos (by omega)) fun ib he1 => Exists.elim he1 fun ic he2 => Exists.elim he2 fun isp he3 => ?_
    have hcell : ∀ j v, [L q, G' q, Value.int .i64 (q : Int)][j]? = some v → (flat3 L G' ns ++ isp)[i * 3 + j]? = some v := fun j v hj => by
      have h1 := flat3_get L G' ns i q hqi j v hj
      rw [List.getElem?_append_left (List.getElem?_eq_some_iff.1 h1).1]; exact h1
    have hib : vi.ownBlock = some ib := by rw [he3.1]; rfl
    repeat (first | (refine isO ?_; refine s_move ?_) | (refine isC ?_; first | refine c_sr ?_ | refine c_th ?_ | refine c_seq ?_ | refine c_block ?_))
    refine s_nil rfl ?_
    refine s_faN Tryz.underlying46 rfl ty_hl.n rfl ?_
    refine s_ldA ty_hl rfl hAW rfl ?_
    refine s_re (v' := .slice (some ⟨ib, 0, none⟩) ns.length ic) he3.1 ?_
    repeat ((refine isO ?_; refine s_move ?_))
    refine s_iaW (n := i) (s := 3) sl_hl ⟨ti, hti.1, hti.2.2.1⟩ rfl rfl hi' ?_
    refine s_ldM (cs := [L q, G' q, .int .i64 (q : Int)]) Tryz.underlying105 rfl (by kernel_rfl) rfl he3.2.1 hcell ?_
    refine s_alloc (cs := [.slice none 0 0, .slice none 0 0, .int .i64 0]) hti.1 hti.2.1 rfl ?_
    intro b3 w3 hb3 hA3 hx3 hs3
    refine s_stV (cs := [L q, G' q, .int .i64 (q : Int)]) (by kernel_rfl) rfl rfl hA3 rfl (by rw [List.all_cons, List.all_cons, hLone q hqm, hG.2.1 q hqm]; rfl) ?_
    intro w4 hA4 hg4 hz4
    have z3 := hx3.size
    have hK4 : KtS (fun _ => False) W w4 := (KtS.of_ex hx3).later (KtS.of_grown (S := fun b => b3 = b) hg4 (fun k e => Option.some.inj e)) (fun k e => .inr (by omega))
    have hxW4 : Ex W w4 := ⟨hK4.os, hK4.tape, hK4.output, hK4.size, fun k hk => hK4.block k hk (fun h => h)⟩
    have hLq := (hI i q hqi).1
    refine Exists.elim hLq fun cs hcs => ?_
    have hLq4 := hcs.1.ex hxW4
    have hqb := hq q hqm
    have hlq := hln q hqm
    have hb3L : ∀ b, (L q).ownBlock = some b → b ≠ b3 := fun b hb e => by have := hcs.1.lt b hb; omega
    refine Exists.elim hcs.1.slen fun la hl1 => Exists.elim hl1 fun lc hlf => ?_
    have zW := hK.size
    repeat (first | (refine isC ?_; refine c_sr ?_) | (refine l_th ?_))
    refine s_faN Tryz.underlying105 rfl ty_rows.n rfl ?_
    refine s_ldA ty_rows rfl hA4 rfl ?_
    repeat (first | (refine isO ?_; refine s_assign ?_) | (refine isC ?_; first | refine c_sr ?_ | refine c_seq ?_ | refine c_block ?_) | (refine l_th ?_))
    refine c_loop2 17163092016 (fun (k : Nat) (v4 : Value) => [(5, .int .i64 (k : Int)), (4, v4)]) (fun k v4 W2 => k ≤ 40 ∧ KtS (fun b => (L q).ownBlock = some b) w4 W2 ∧ (∃ ys, Wd W2 25 1 v4 (ln q + k) ys ∧ ∀ u ∈ ys, MKl lo W2 q u) ∧ ((v4 = .slice la (ln q + k) lc) ∨ ((∀ b, v4.ownBlock = some b → w4.heap.size ≤ b) ∧ ∃ xs, Wd W2 25 1 (L q) (ln q) xs ∧ ∀ u ∈ xs, MKl lo W2 q u))) (fun k _ => 40 - k) 0 (L q) ⟨rfl, rfl, trivial⟩ ⟨Nat.zero_le _, KtS.refl _ _, ⟨cs, hLq4, fun u hu => MKl.ex (hcs.2 u hu) hxW4⟩, .inl hlf⟩ ?_
    rintro k v4 ρ2 W2 ⟨hk, hK2, hye, hcase⟩
    refine Exists.elim hye fun ys hys => ?_
    have hA5 := hA4.kt hK2 (fun e => hb3L b3 e rfl)
    have z2 := hK2.size
    have z4 := hxW4.size
    repeat (first | (refine isO ?_; first | refine s_move ?_ | (refine isBin ?_; refine s_lss rfl rfl ?_)) | (refine isC ?_; first | refine c_sr ?_ | refine c_seq ?_) | (refine l_th ?_))
    refine c_ifd rfl (fun h2 => ?_) (fun h2 => ?_)
    · have hk' : k < 40 := by omega
      repeat (first | (refine isO ?_; refine s_move ?_) | (refine isC ?_; first | refine c_th ?_ | refine c_seq ?_ | refine c_region ?_ | refine c_block ?_))
      refine s_faN Tryz.underlying105 rfl ty_int.n rfl ?_
      refine s_ldA ty_int rfl hA5 rfl ?_
      refine s_call ok_markIntList rfl (markIntList_ct lo q W2 hqb (by omega)) ?_
      rintro x w5 ⟨hmk, hone, hx5⟩
      refine s_bs1 (u := x) sl_rows in_ints rfl hone ?_
      intro b6 w6 hb6 hA6 hx6 hs6
      have hx26 := hx5.trans hx6
      refine s_appW (n := ln q + k) (m := 1) (news := [x]) sl_rows in_wints (by omega) (hys.1.ex hx26) ⟨b6, 1, rfl, [], by simpa using hA6⟩ rfl (by omega) (by intro u hu; simp at hu; subst hu; exact hone) (by omega) (by omega) rfl rfl ?_
      intro v5 w7 hW7 hg7 hf7
      have hys7 : ∀ u ∈ ys ++ [x], MKl lo w7 q u := fun u hu => by
        rcases List.mem_append.1 hu with hu | hu
        · exact MKl.app ((hys.2 u hu).ex hx26) (hys.1.ex hx26) hg7
        · simp at hu; subst hu; exact MKl.app (hmk.ex hx6) (hys.1.ex hx26) hg7
      have hown : v4.ownBlock = (L q).ownBlock ∨ ∀ b, v4.ownBlock = some b → w4.heap.size ≤ b := by
        rcases hcase with hc | hc
        · left; rw [hc, hlf]; exact own_case
        · exact .inr hc.1
      have hK7 : KtS (fun b => (L q).ownBlock = some b) w4 w7 := (hK2.trans (KtS.of_ex hx26)).later (KtS.of_grown (S := fun b => v4.ownBlock = some b) hg7 (fun b e => e)) (fun b hb => by
        rcases hown with he | hf
        · exact .inl (he ▸ hb)
        · exact .inr (hf b hb))
      have z26 := hx26.size
      have hnext : (v5 = .slice la (ln q + (k + 1)) lc) ∨ ((∀ b, v5.ownBlock = some b → w4.heap.size ≤ b) ∧ ∃ xs, Wd w7 25 1 (L q) (ln q) xs ∧ ∀ u ∈ xs, MKl lo w7 q u) := by
        rcases hcase with hc | hc
        · rcases hf7 with ⟨a, c, h5, h6⟩ | ⟨h5, h6⟩
          · left
            rw [hc] at h5; cases h5
            rw [h6]; rfl
          · right
            refine ⟨fun b hb => by have := h5 b hb; omega, ys.take (ln q), ?_, fun u hu => ?_⟩
            · have h9 := hys.1
              rw [hc] at h9
              have h8 := h9.head
              rw [← hlf] at h8
              exact (h8.ex hx26).ex h6
            · exact hys7 u (List.mem_append_left _ (List.mem_of_mem_take hu))
        · right
          refine ⟨fun b hb => ?_, ?_⟩
          · rcases hf7 with ⟨a, c, h5, h6⟩ | ⟨h5, h6⟩
            · exact hc.1 b (by rw [h5, own_case (n' := ln q + k + 1), ← h6]; exact hb)
            · have := h5 b hb; omega
          · obtain ⟨xs, h8, h9⟩ := hc.2
            refine ⟨xs, (h8.ex hx26).grown hg7 (fun b hb e => ?_), fun u hu => ?_⟩
            · have := hc.1 b e
              have := hLq4.lt b hb
              omega
            · exact MKl.app ((h9 u hu).ex hx26) (hys.1.ex hx26) hg7
      repeat (first | (refine isO ?_; first | refine s_move ?_ | refine s_assign ?_ | (refine isBin ?_; refine s_inc rfl (by omega) ?_)) | (refine isC ?_; refine c_region ?_) | (first | refine l_th ?_ | refine l_nil ?_))
      exact loop_end2 (k + 1) v5 (by (repeat (first | exact agree_refl _ _ | refine agree_upd rfl ?_ | refine agree_ext rfl ?_ | refine agree_mask rfl ?_))) ⟨rfl, rfl, trivial⟩ ⟨hk', hK7, ⟨ys ++ [x], hW7, hys7⟩, hnext⟩ (by omega)
    · have hke : k = 40 := by omega
      subst hke
      have hK6 : KtS (fun b => (L q).ownBlock = some b) W W2 := (hK4.mono (fun _ h => h.elim)).trans hK2
      have hibL : ∀ b, (L q).ownBlock = some b → b ≠ ib := fun b hb e => (hbk q hqm b hb).2.1 (by rw [hib, e])
      have hAb6 := hAW.kt hK6 (fun e => (hbk q hqm bk e).1 rfl)
      have hAi6 := he3.2.1.kt hK6 (fun e => hibL ib e rfl)
      repeat (first | (refine isO ?_; refine s_move ?_) | (refine isC ?_; first | refine c_region ?_ | refine c_exit ?_))
      refine s_nil rfl ?_
      refine s_faN Tryz.underlying46 rfl ty_hl.n rfl ?_
      refine s_ldA ty_hl rfl hAb6 rfl ?_
      refine s_re (v' := .slice (some ⟨ib, 0, none⟩) ns.length ic) he3.1 ?_
      repeat ((refine isO ?_; refine s_move ?_))
      refine s_iaW (n := i) (s := 3) sl_hl ⟨ti, hti.1, hti.2.2.1⟩ rfl rfl hi' ?_
      refine s_faN Tryz.underlying105 rfl ty_rows.n rfl ?_
      refine s_stA (n := i * 3 + 1) (u := v4) ty_rows rfl rfl hys.1.one hAi6 (by have := flat3_len L G' ns; simp; omega) ?_
      intro w8 hA8 hg8
      have hset : Wd w8 105 3 (.slice (some ⟨ib, 0, none⟩) ns.length ic) ns.length ((flat3 L G' ns).set (i * 3 + 1) v4) := Wd.set (w := w8) (flat3_len _ _ _) (by have := flat3_len L G' ns; omega) hA8 he3.2.2.1 he3.2.2.2.1 he3.2.2.2.2
      rw [← he3.1, flat3_set L G' v4 ns i q hnd hqi] at hset
      have hown : v4.ownBlock = (L q).ownBlock ∨ ∀ b, v4.ownBlock = some b → w4.heap.size ≤ b := by
        rcases hcase with hc | hc
        · left; rw [hc, hlf]; exact own_case
        · exact .inr hc.1
      have hibW := hWW.lt ib hib
      have hv4 : ∀ b, v4.ownBlock = some b → b ≠ ib := fun b hb e => by
        rcases hown with he | hf
        · exact hibL b (he ▸ hb) e
        · have := hf b hb; omega
      have hK8 : KtS (fun b => (L q).ownBlock = some b ∨ vi.ownBlock = some b) W w8 := (hK6.mono (fun _ h => .inl h)).trans (KtS.of_grown hg8 (fun b e => .inr (by rw [← e]; exact hib)))
      have hKw : KtS (fun b => (∃ q ∈ ns, (L q).ownBlock = some b) ∨ vi.ownBlock = some b) w w8 := hK.trans (hK8.mono (fun b h => h.imp (fun h => ⟨q, hqm, h⟩) id))
      have hiblo : ∀ b, some ib = some b → b < lo := fun b e => (hvb b (by rw [hib]; exact e)).2
      have hk8lo : ∀ b, ((L q).ownBlock = some b ∨ vi.ownBlock = some b) → b < lo := fun b h => h.elim (fun h => (hbk q hqm b h).2.2) (fun h => (hvb b h).2)
      repeat (first | (refine isO ?_; first | refine s_move ?_ | refine s_assign ?_ | (refine isBin ?_; refine s_inc rfl (by omega) ?_)) | (refine isC ?_; refine c_region ?_) | (first | refine l_th ?_ | refine l_nil ?_))
      refine loop_end (i + 1) (by (repeat (first | exact agree_refl _ _ | refine agree_upd rfl ?_ | refine agree_ext rfl ?_ | refine agree_mask rfl ?_))) ⟨rfl, trivial⟩ ⟨hi', hKw, fset1 G' q v4, hset, fun p hp => ?_, fun j p hp => ⟨?_, fun hj => ?_⟩⟩ (by omega)
      · unfold fset1
        split
        · exact hys.1.one
        · exact hG.2.1 p hp
      · by_cases e : p = q
        · subst e
          have h9 : ∃ xs, Wd W2 25 1 (L p) (ln p) xs ∧ ∀ u ∈ xs, MKl lo W2 p u := by
            rcases hcase with hc | hc
            · have h9 := hys.1
              rw [hc] at h9
              have h8 := h9.head
              rw [← hlf] at h8
              exact ⟨_, h8, fun u hu => hys.2 u (List.mem_of_mem_take hu)⟩
            · exact hc.2
          obtain ⟨xs, h1, h2⟩ := h9
          exact ⟨xs, h1.grown hg8 (fun b hb e => hibL b hb (Option.some.inj e).symm), fun u hu => MKl.grown (h2 u hu) hg8 hiblo⟩
        · have hpm := List.mem_of_getElem? hp
          obtain ⟨xs, h1, h2⟩ := (hI j p hp).1
          refine ⟨xs, h1.kt hK8 (fun b hb hb2 => ?_), fun u hu => MKl.kt (h2 u hu) hK8 hk8lo⟩
          rcases hb2 with hb2 | hb2
          · exact hd p hpm q hqm e b hb hb2
          · exact (hbk p hpm b hb).2.1 hb2
      · by_cases e : p = q
        · subst e
          have e9 : fset1 G' p v4 p = v4 := by unfold fset1; rw [if_pos rfl]
          rw [e9]
          refine ⟨⟨ys, hys.1.grown hg8 (fun b hb e => hv4 b hb (Option.some.inj e).symm), fun u hu => MKl.grown (hys.2 u hu) hg8 hiblo⟩, fun b hb => ?_⟩
          rcases hown with he | hf
          · exact .inl (he ▸ hb)
          · have := hf b hb; exact .inr (by omega)
        · have hpm := List.mem_of_getElem? hp
          have e9 : fset1 G' q v4 p = G' p := by unfold fset1; rw [if_neg e]
          have hji : j ≠ i := fun e2 => by subst e2; rw [hqi] at hp; exact e (Option.some.inj hp).symm
          rw [e9]
          obtain ⟨⟨zs, h1, h2⟩, h3⟩ := (hI j p hp).2 (by omega)
          refine ⟨⟨zs, h1.kt hK8 (fun b hb hb2 => ?_), fun u hu => MKl.kt (h2 u hu) hK8 hk8lo⟩, h3⟩
          rcases h3 b hb with h4 | h4
          · rcases hb2 with hb2 | hb2
            · exact hd p hpm q hqm e b h4 hb2
            · exact (hbk p hpm b h4).2.1 hb2
          · have := hk8lo b hb2; omega
  · have hie : i = ns.length := by omega
    subst hie
    repeat (first | (refine isC ?_; refine c_exit ?_) | (first | refine ib_exit ?_ | refine th_exit ?_))
    refine end0 rfl ⟨rfl, hK, G', hWW, fun q hqm => ?_⟩
    obtain ⟨j, hj⟩ := List.mem_iff_getElem?.1 hqm
    have h1 := hI j q hj
    have h2 := h1.2 (List.getElem?_eq_some_iff.1 hj).1
    exact ⟨h1.1, h2.1, h2.2⟩
end Go.Proofs.YtifbgpkjbciblaaGreatDoor.Sal
end
section
/- The Book of salesroomlaw01: look. -/
set_option maxRecDepth 100000
namespace Go.Proofs.YtifbgpkjbciblaaGreatDoor.Sal
open Go.RowKit
attribute [local irreducible] Go.Code.wpIn Go.wpListIn Ct Ints Rows Sl At Rw WJ
attribute [local irreducible] Wd
set_option linter.all false
theorem ok_isInt : CallOK Tryz.prog 107 := callOK Tryz.func107 (by kernel_rfl) rfl
theorem ok_isIntList : CallOK Tryz.prog 109 := callOK Tryz.func109 (by kernel_rfl) rfl
theorem isInt_ct (lo q : Nat) (x : Value) (w : World) (hq : q ≤ 200000) (hx : MKi lo w q x) : Ct Tryz.prog 107 #[x, .int .i64 (q : Int)] w fun u w' => u = .bool true ∧ Ex w w' := by
  unfold MKi at hx
  subst hx
  refine enter (N := 9) (vs := [.int .i64 (-(q : Int)), .int .i64 (q : Int)]) Tryz.func107 rfl rfl rfl ?_
  repeat (first | (refine isO ?_; first | refine s_move ?_ | refine s_assign ?_) | (refine isC ?_; refine c_sr ?_) | (refine l_th ?_))
  refine s_neg rfl ?_
  refine s_re (v' := .int .i64 (-(q : Int))) (vint (wrap_small hq)) ?_
  repeat (first | (refine isO ?_; first | refine s_assign ?_ | (refine isBin ?_; refine s_eqlT rfl rfl (by omega) ?_)) | (refine isC ?_; refine c_ret ?_) | (refine l_th ?_))
  exact ret1 rfl rfl ⟨rfl, Ex.refl _⟩
theorem isIntList_ct (lo q : Nat) (x : Value) (w : World) (hq : q ≤ 200000) (hx : MKl lo w q x) : Ct Tryz.prog 109 #[x, .int .i64 (q : Int)] w fun u w' => u = .bool true ∧ Ex w w' := by
  obtain ⟨b, _, rfl, hA⟩ := hx
  have hI : Ints w (sv b 1 1) [(q : Int)] := hA.one
  refine enter (N := 15) (vs := [sv b 1 1, .int .i64 (q : Int)]) Tryz.func109 rfl rfl rfl ?_
  repeat (first | (refine isO ?_; first | refine s_move ?_ | refine s_assign ?_ | (refine isG ?_; refine g_yes rfl rfl ?_) | (refine isBin ?_; refine s_eql rfl rfl ?_) | (refine isCall ?_; refine s_lenI sl_ints rfl (by assumption) ?_)) | (refine isC ?_; refine c_sr ?_) | (refine l_th ?_))
  refine s_iaI (n := 0) sl_ints ty_int rfl rfl hI (by simp) ?_
  intro ad hc
  refine g_yes rfl rfl ?_
  have hc2 : w.cell? ad = some (.int .i64 (q : Int)) := hc
  refine s_ld ty_int rfl hc2 ?_
  repeat (first | (refine isO ?_; first | refine s_move ?_ | refine s_assign ?_ | (refine isG ?_; refine g_yes rfl rfl ?_) | (refine isBin ?_; refine s_eqlT rfl rfl (by omega) ?_) | (refine isPick ?_; refine s_pickt rfl rfl ?_)) | (refine isC ?_; refine c_ret ?_) | (refine l_th ?_))
  exact ret1 rfl rfl ⟨rfl, Ex.refl _⟩
theorem ok_lookInt : CallOK Tryz.prog 63 := callOK Tryz.func63 (by kernel_rfl) rfl
set_option maxHeartbeats 4000000 in
theorem lookInt_ct (bk M lo : Nat) (ns : List Nat) (L G : Nat → Value) (ln : Nat → Nat) (vi vl : Value) (w : World) (hA : At w bk 46 (bkc M vi vl)) (hW : Wd w 107 3 vi ns.length (flat3 L G ns)) (hN : ns.length ≤ 100000) (hq : ∀ q ∈ ns, q ≤ 200000)
    (hL : ∀ q ∈ ns, (∃ xs, Wd w 3 1 (L q) (ln q) xs ∧ ∀ u ∈ xs, MKi lo w q u) ∧ ∃ ys, Wd w 3 1 (G q) (ln q + 40) ys ∧ ∀ u ∈ ys, MKi lo w q u) (hln : ∀ q ∈ ns, ln q ≤ 100000) :
    Ct Tryz.prog 63 #[.pointer (some ⟨bk, 0, none⟩)] w fun u w' => u = .bool true ∧ Ex w w' := by
  obtain ⟨va, vc, hvf⟩ := hW.slen
  refine Exists.elim in_heldInt.ex fun ti hti => ?_
  refine enter (N := 64) (vs := [.pointer (some ⟨bk, 0, none⟩)]) Tryz.func63 rfl rfl rfl ?_
  repeat (first | (refine isO ?_; refine s_assign ?_) | (refine isC ?_; first | refine c_sr ?_ | refine c_seq ?_ | refine c_block ?_) | (refine l_th ?_))
  refine c_loop (γ := Nat) 18446744073709551612 (fun i => [(3, .int .i64 (i : Int))]) (fun i W => i ≤ ns.length ∧ Ex w W) (fun i => ns.length - i) 0 ⟨rfl, trivial⟩ ⟨Nat.zero_le _, Ex.refl _⟩ ?_
  rintro i ρ W ⟨hi, hx⟩
  have hAW := hA.ex hx
  have hWW := hW.ex hx
  repeat (first | (refine isO ?_; refine s_move ?_) | (refine isC ?_; first | refine c_sr ?_ | refine c_seq ?_))
  refine s_nil rfl ?_
  refine s_faN Tryz.underlying46 rfl ty_hi.n rfl ?_
  refine s_ldA ty_hi rfl hAW rfl ?_
  refine s_len (n := ns.length) (a := va) (c := vc) sl_hi hvf ?_
  repeat (first | (refine isO ?_; (refine isBin ?_; refine s_lss rfl rfl ?_)) | (refine l_th ?_))
  refine c_ifd rfl (fun h => ?_) (fun h => ?_)
  · have hi' : i < ns.length := by omega
    have hqe : ∃ q, ns[i]? = some q := ⟨_, List.getElem?_eq_getElem hi'⟩
    refine Exists.elim hqe fun q hqi => ?_
    have hqm := List.mem_of_getElem? hqi
    refine Exists.elim (hWW.pos (by omega)) fun ib he1 => Exists.elim he1 fun ic he2 => Exists.elim he2 fun isp he3 => ?_
    have hcell : ∀ j v, [L q, G q, Value.int .i64 (q : Int)][j]? = some v → (flat3 L G ns ++ isp)[i * 3 + j]? = some v := fun j v hj => by
      have h1 := flat3_get L G ns i q hqi j v hj
      rw [List.getElem?_append_left (List.getElem?_eq_some_iff.1 h1).1]; exact h1
    refine Exists.elim (hL q hqm).1 fun xs hxs => Exists.elim (hL q hqm).2 fun ys hys => ?_
    have hLo := hxs.1.one
    have hGo := hys.1.one
    repeat (first | (refine isO ?_; refine s_move ?_) | (refine isC ?_; first | refine c_sr ?_ | refine c_th ?_ | refine c_seq ?_ | refine c_block ?_))
    refine s_nil rfl ?_
    refine s_faN Tryz.underlying46 rfl ty_hi.n rfl ?_
    refine s_ldA ty_hi rfl hAW rfl ?_
    refine s_re (v' := .slice (some ⟨ib, 0, none⟩) ns.length ic) he3.1 ?_
    repeat ((refine isO ?_; refine s_move ?_))
    refine s_iaW (n := i) (s := 3) sl_hi ⟨ti, hti.1, hti.2.2.1⟩ rfl rfl hi' ?_
    refine s_ldM (cs := [L q, G q, .int .i64 (q : Int)]) Tryz.underlying107 rfl (by kernel_rfl) rfl he3.2.1 hcell ?_
    refine s_alloc (cs := [.slice none 0 0, .slice none 0 0, .int .i64 0]) hti.1 hti.2.1 rfl ?_
    intro b3 w3 hb3 hA3 hx3 hs3
    refine s_stV (cs := [L q, G q, .int .i64 (q : Int)]) (by kernel_rfl) rfl rfl hA3 rfl (by rw [List.all_cons, List.all_cons, hLo, hGo]; rfl) ?_
    intro w4 hA4 hg4 hz4
    have hxW4 : Ex W w4 := Ex.store hx3 hg4 (by omega)
    have hqb := hq q hqm
    have hlq := hln q hqm
    have hS1 := (hxs.1.ex (hx.trans hxW4)).sl (by omega)
    have hS2 := (hys.1.ex (hx.trans hxW4)).sl (by omega)
    have hxl : xs.length = ln q := by have := hxs.1.len; simpa using this
    have hyl : ys.length = ln q + 40 := by have := hys.1.len; simpa using this
    refine Exists.elim hxs.1.slen fun la hl1 => Exists.elim hl1 fun lc hlf => ?_
    refine Exists.elim hys.1.slen fun ga hg1 => Exists.elim hg1 fun gc hgf => ?_
    repeat (first | (refine isC ?_; first | refine c_sr ?_ | refine c_seq ?_) | (refine l_th ?_))
    refine s_faN Tryz.underlying107 rfl ty_ints.n rfl ?_
    refine s_ldA ty_ints rfl hA4 rfl ?_
    refine s_len (n := ln q + 40) (a := ga) (c := gc) sl_ints hgf ?_
    refine s_faN Tryz.underlying107 rfl ty_ints.n rfl ?_
    refine s_ldA ty_ints rfl hA4 rfl ?_
    refine s_len (n := ln q) (a := la) (c := lc) sl_ints hlf ?_
    refine s_add rfl rfl ⟨by omega, by omega⟩ ?_
    refine s_neqF rfl rfl (by omega) ?_
    repeat (first | (refine isO ?_; refine s_assign ?_) | (refine isC ?_; first | refine c_sr ?_ | refine c_th ?_ | refine c_iff rfl ?_ | refine c_block ?_) | (refine l_th ?_))
    refine c_loop (γ := Nat) 18446744072635809828 (fun k => [(5, .int .i64 (k : Int))]) (fun k W2 => k ≤ ln q + 40 ∧ Ex w4 W2) (fun k => ln q + 40 - k) 0 ⟨rfl, trivial⟩ ⟨Nat.zero_le _, Ex.refl _⟩ ?_
    rintro k ρ2 W2 ⟨hk, hx2⟩
    have hA5 := hA4.ex hx2
    repeat (first | (refine isO ?_; refine s_move ?_) | (refine isC ?_; first | refine c_sr ?_ | refine c_seq ?_))
    refine s_faN Tryz.underlying107 rfl ty_ints.n rfl ?_
    refine s_ldA ty_ints rfl hA5 rfl ?_
    refine s_len (n := ln q + 40) (a := ga) (c := gc) sl_ints hgf ?_
    repeat (first | (refine isO ?_; (refine isBin ?_; refine s_lss rfl rfl ?_)) | (refine l_th ?_))
    refine c_ifd rfl (fun h2 => ?_) (fun h2 => ?_)
    · have hk' : k < ln q + 40 := by omega
      have hky : k < ys.length := by omega
      have hm1 := hys.2 ys[k] (List.getElem_mem hky)
      repeat ((refine isC ?_; first | refine c_th ?_ | refine c_seq ?_ | refine c_block ?_))
      refine c_drawO hx2 0 8 [(0, true), (1, true), (2, true), (3, true), (4, true), (5, true), (6, true), (7, false), (8, true), (9, true), (10, true), (11, true), (12, true), (13, true), (14, true), (15, true), (16, true), (17, true), (18, true), (19, true), (20, true), (21, true), (22, true), (23, false), (24, true), (25, true), (26, true)] mixed (by kernel_rfl) ?_
      have hx2d := hx2.trans (Ex.drew W2)
      refine d_faN rfl Tryz.underlying107 rfl ty_ints.n rfl ?_
      refine d_ldA rfl ty_ints rfl hA4 rfl ?_
      refine d_move rfl ?_
      refine d_ia (n := k) (u := ys[k]) rfl sl_ints ty_int rfl rfl hS2 (List.getElem?_eq_getElem hky) ?_
      intro ad1 hc1
      refine d_ld rfl ty_int rfl hc1 ?_
      refine d_faN rfl Tryz.underlying107 rfl ty_int.n rfl ?_
      refine d_ldA rfl ty_int rfl hA4 rfl ?_
      refine d_ch rfl ?_
      refine s_call (vs := [ys[k], .int .i64 (q : Int)]) ok_isInt rfl (isInt_ct lo q ys[k] W2.drew hqb (hm1.ex ((hx.trans hxW4).trans hx2d))) ?_
      rintro v w5 ⟨rfl, hx5⟩
      have hx25 := hx2d.trans hx5
      refine l_nil ⟨rfl, .inr hx25, ?_⟩
      refine d_not rfl rfl ?_
      refine d_re (v' := .bool false) rfl ?_
      refine d_move rfl ?_
      refine d_move rfl ?_
      refine d_faN rfl Tryz.underlying107 rfl ty_ints.n rfl ?_
      refine d_ldA rfl ty_ints rfl hA4 rfl ?_
      refine d_len (n := ln q) (a := la) (c := lc) rfl sl_ints hlf ?_
      refine d_lss rfl rfl rfl ?_
      by_cases hkl : k < ln q
      · have hkx : k < xs.length := by omega
        have hm2 := hxs.2 xs[k] (List.getElem_mem hkx)
        refine d_re (v' := .bool true) (vbool (decide_eq_true (by omega))) ?_
        refine d_move rfl ?_
        refine d_faN rfl Tryz.underlying107 rfl ty_ints.n rfl ?_
        refine d_ldA rfl ty_ints rfl hA4 rfl ?_
        refine d_move rfl ?_
        refine d_ia (n := k) (u := xs[k]) rfl sl_ints ty_int rfl rfl hS1 (List.getElem?_eq_getElem hkx) ?_
        intro ad2 hc2
        refine d_ld rfl ty_int rfl hc2 ?_
        refine d_faN rfl Tryz.underlying107 rfl ty_int.n rfl ?_
        refine d_ldA rfl ty_int rfl hA4 rfl ?_
        refine d_ch rfl ?_
        refine g_yes rfl rfl ?_
        refine s_call (vs := [xs[k], .int .i64 (q : Int)]) ok_isInt rfl (isInt_ct lo q xs[k] w5 hqb (hm2.ex ((hx.trans hxW4).trans hx25))) ?_
        rintro v w6 ⟨rfl, hx6⟩
        have hx26 := hx25.trans hx6
        refine l_nil ⟨rfl, .inr hx26, ?_⟩
        refine d_not rfl rfl ?_
        refine d_re (v' := .bool false) rfl ?_
        refine d_pickt rfl rfl rfl ?_
        refine d_pickf rfl rfl rfl ?_
        refine d_nil ?_
        repeat (first | (refine isO ?_; first | refine s_move ?_ | refine s_assign ?_ | (refine isBin ?_; refine s_inc rfl (by omega) ?_)) | (refine isC ?_; first | refine c_region ?_ | refine c_iff rfl ?_ | refine c_skip ?_) | (refine l_th ?_))
        exact loop_end (k + 1) (by (repeat (first | exact agree_refl _ _ | refine agree_upd rfl ?_ | refine agree_ext rfl ?_ | refine agree_mask rfl ?_))) ⟨rfl, trivial⟩ ⟨hk', hx26⟩ (by omega)
      · refine d_re (v' := .bool false) (vbool (decide_eq_false (by omega))) ?_
        refine d_move rfl ?_
        refine d_gno rfl rfl rfl rfl ?_
        refine d_gno rfl rfl rfl rfl ?_
        refine d_gno rfl rfl rfl rfl ?_
        refine d_gno rfl rfl rfl rfl ?_
        refine d_gno rfl rfl rfl rfl ?_
        refine d_gno rfl rfl rfl rfl ?_
        refine d_gno rfl rfl rfl rfl ?_
        refine d_ch rfl ?_
        refine g_no rfl rfl rfl ?_
        refine l_nil ⟨rfl, .inr hx25, ?_⟩
        refine d_gno rfl rfl rfl rfl ?_
        refine d_pickf rfl rfl rfl ?_
        refine d_pickf rfl rfl rfl ?_
        refine d_nil ?_
        repeat (first | (refine isO ?_; first | refine s_move ?_ | refine s_assign ?_ | (refine isBin ?_; refine s_inc rfl (by omega) ?_)) | (refine isC ?_; first | refine c_region ?_ | refine c_iff rfl ?_ | refine c_skip ?_) | (refine l_th ?_))
        exact loop_end (k + 1) (by (repeat (first | exact agree_refl _ _ | refine agree_upd rfl ?_ | refine agree_ext rfl ?_ | refine agree_mask rfl ?_))) ⟨rfl, trivial⟩ ⟨hk', hx25⟩ (by omega)
    · repeat (first | (refine isO ?_; first | refine s_move ?_ | refine s_assign ?_ | (refine isBin ?_; refine s_inc rfl (by omega) ?_)) | (refine isC ?_; first | refine c_region ?_ | refine c_exit ?_) | (refine l_th ?_))
      exact loop_end (i + 1) (by (repeat (first | exact agree_refl _ _ | refine agree_upd rfl ?_ | refine agree_ext rfl ?_ | refine agree_mask rfl ?_))) ⟨rfl, trivial⟩ ⟨hi', (hx.trans hxW4).trans hx2⟩ (by omega)
  · repeat (first | (refine isO ?_; refine s_assign ?_) | (refine isC ?_; first | refine c_sr ?_ | refine c_ret ?_ | refine c_exit ?_) | (refine l_th ?_))
    exact ret1 rfl rfl ⟨rfl, hx⟩
theorem ok_lookIntList : CallOK Tryz.prog 65 := callOK Tryz.func65 (by kernel_rfl) rfl
set_option maxHeartbeats 4000000 in
theorem lookIntList_ct (bk M lo : Nat) (ns : List Nat) (L G : Nat → Value) (ln : Nat → Nat) (vi vl : Value) (w : World) (hA : At w bk 46 (bkc M vl vi)) (hW : Wd w 105 3 vi ns.length (flat3 L G ns)) (hN : ns.length ≤ 100000) (hq : ∀ q ∈ ns, q ≤ 200000)
    (hL : ∀ q ∈ ns, (∃ xs, Wd w 25 1 (L q) (ln q) xs ∧ ∀ u ∈ xs, MKl lo w q u) ∧ ∃ ys, Wd w 25 1 (G q) (ln q + 40) ys ∧ ∀ u ∈ ys, MKl lo w q u) (hln : ∀ q ∈ ns, ln q ≤ 100000) :
    Ct Tryz.prog 65 #[.pointer (some ⟨bk, 0, none⟩)] w fun u w' => u = .bool true ∧ Ex w w' := by
  obtain ⟨va, vc, hvf⟩ := hW.slen
  refine Exists.elim in_heldIntList.ex fun ti hti => ?_
  refine enter (N := 64) (vs := [.pointer (some ⟨bk, 0, none⟩)]) Tryz.func65 rfl rfl rfl ?_
  repeat (first | (refine isO ?_; refine s_assign ?_) | (refine isC ?_; first | refine c_sr ?_ | refine c_seq ?_ | refine c_block ?_) | (refine l_th ?_))
  refine c_loop (γ := Nat) 18446744073709551612 (fun i => [(3, .int .i64 (i : Int))]) (fun i W => i ≤ ns.length ∧ Ex w W) (fun i => ns.length - i) 0 ⟨rfl, trivial⟩ ⟨Nat.zero_le _, Ex.refl _⟩ ?_
  rintro i ρ W ⟨hi, hx⟩
  have hAW := hA.ex hx
  have hWW := hW.ex hx
  repeat (first | (refine isO ?_; refine s_move ?_) | (refine isC ?_; first | refine c_sr ?_ | refine c_seq ?_))
  refine s_nil rfl ?_
  refine s_faN Tryz.underlying46 rfl ty_hl.n rfl ?_
  refine s_ldA ty_hl rfl hAW rfl ?_
  refine s_len (n := ns.length) (a := va) (c := vc) sl_hl hvf ?_
  repeat (first | (refine isO ?_; (refine isBin ?_; refine s_lss rfl rfl ?_)) | (refine l_th ?_))
  refine c_ifd rfl (fun h => ?_) (fun h => ?_)
  · have hi' : i < ns.length := by omega
    have hqe : ∃ q, ns[i]? = some q := ⟨_, List.getElem?_eq_getElem hi'⟩
    refine Exists.elim hqe fun q hqi => ?_
    have hqm := List.mem_of_getElem? hqi
    refine Exists.elim (hWW.pos (by omega)) fun ib he1 => Exists.elim he1 fun ic he2 => Exists.elim he2 fun isp he3 => ?_
    have hcell : ∀ j v, [L q, G q, Value.int .i64 (q : Int)][j]? = some v → (flat3 L G ns ++ isp)[i * 3 + j]? = some v := fun j v hj => by
      have h1 := flat3_get L G ns i q hqi j v hj
      rw [List.getElem?_append_left (List.getElem?_eq_some_iff.1 h1).1]; exact h1
    refine Exists.elim (hL q hqm).1 fun xs hxs => Exists.elim (hL q hqm).2 fun ys hys => ?_
    have hLo := hxs.1.one
    have hGo := hys.1.one
    repeat (first | (refine isO ?_; refine s_move ?_) | (refine isC ?_; first | refine c_sr ?_ | refine c_th ?_ | refine c_seq ?_ | refine c_block ?_))
    refine s_nil rfl ?_
    refine s_faN Tryz.underlying46 rfl ty_hl.n rfl ?_
    refine s_ldA ty_hl rfl hAW rfl ?_
    refine s_re (v' := .slice (some ⟨ib, 0, none⟩) ns.length ic) he3.1 ?_
    repeat ((refine isO ?_; refine s_move ?_))
    refine s_iaW (n := i) (s := 3) sl_hl ⟨ti, hti.1, hti.2.2.1⟩ rfl rfl hi' ?_
    refine s_ldM (cs := [L q, G q, .int .i64 (q : Int)]) Tryz.underlying105 rfl (by kernel_rfl) rfl he3.2.1 hcell ?_
    refine s_alloc (cs := [.slice none 0 0, .slice none 0 0, .int .i64 0]) hti.1 hti.2.1 rfl ?_
    intro b3 w3 hb3 hA3 hx3 hs3
    refine s_stV (cs := [L q, G q, .int .i64 (q : Int)]) (by kernel_rfl) rfl rfl hA3 rfl (by rw [List.all_cons, List.all_cons, hLo, hGo]; rfl) ?_
    intro w4 hA4 hg4 hz4
    have hxW4 : Ex W w4 := Ex.store hx3 hg4 (by omega)
    have hqb := hq q hqm
    have hlq := hln q hqm
    have hS1 := (hxs.1.ex (hx.trans hxW4)).sl (by omega)
    have hS2 := (hys.1.ex (hx.trans hxW4)).sl (by omega)
    have hxl : xs.length = ln q := by have := hxs.1.len; simpa using this
    have hyl : ys.length = ln q + 40 := by have := hys.1.len; simpa using this
    refine Exists.elim hxs.1.slen fun la hl1 => Exists.elim hl1 fun lc hlf => ?_
    refine Exists.elim hys.1.slen fun ga hg1 => Exists.elim hg1 fun gc hgf => ?_
    repeat (first | (refine isC ?_; first | refine c_sr ?_ | refine c_seq ?_) | (refine l_th ?_))
    refine s_faN Tryz.underlying105 rfl ty_rows.n rfl ?_
    refine s_ldA ty_rows rfl hA4 rfl ?_
    refine s_len (n := ln q + 40) (a := ga) (c := gc) sl_rows hgf ?_
    refine s_faN Tryz.underlying105 rfl ty_rows.n rfl ?_
    refine s_ldA ty_rows rfl hA4 rfl ?_
    refine s_len (n := ln q) (a := la) (c := lc) sl_rows hlf ?_
    refine s_add rfl rfl ⟨by omega, by omega⟩ ?_
    refine s_neqF rfl rfl (by omega) ?_
    repeat (first | (refine isO ?_; refine s_assign ?_) | (refine isC ?_; first | refine c_sr ?_ | refine c_th ?_ | refine c_iff rfl ?_ | refine c_block ?_) | (refine l_th ?_))
    refine c_loop (γ := Nat) 18446744072635809828 (fun k => [(5, .int .i64 (k : Int))]) (fun k W2 => k ≤ ln q + 40 ∧ Ex w4 W2) (fun k => ln q + 40 - k) 0 ⟨rfl, trivial⟩ ⟨Nat.zero_le _, Ex.refl _⟩ ?_
    rintro k ρ2 W2 ⟨hk, hx2⟩
    have hA5 := hA4.ex hx2
    repeat (first | (refine isO ?_; refine s_move ?_) | (refine isC ?_; first | refine c_sr ?_ | refine c_seq ?_))
    refine s_faN Tryz.underlying105 rfl ty_rows.n rfl ?_
    refine s_ldA ty_rows rfl hA5 rfl ?_
    refine s_len (n := ln q + 40) (a := ga) (c := gc) sl_rows hgf ?_
    repeat (first | (refine isO ?_; (refine isBin ?_; refine s_lss rfl rfl ?_)) | (refine l_th ?_))
    refine c_ifd rfl (fun h2 => ?_) (fun h2 => ?_)
    · have hk' : k < ln q + 40 := by omega
      have hky : k < ys.length := by omega
      have hm1 := hys.2 ys[k] (List.getElem_mem hky)
      repeat ((refine isC ?_; first | refine c_th ?_ | refine c_seq ?_ | refine c_block ?_))
      refine c_drawO hx2 0 8 [(0, true), (1, true), (2, true), (3, true), (4, true), (5, true), (6, true), (7, false), (8, true), (9, true), (10, true), (11, true), (12, true), (13, true), (14, true), (15, true), (16, true), (17, true), (18, true), (19, true), (20, true), (21, true), (22, true), (23, false), (24, true), (25, true), (26, true)] mixed (by kernel_rfl) ?_
      have hx2d := hx2.trans (Ex.drew W2)
      refine d_faN rfl Tryz.underlying105 rfl ty_rows.n rfl ?_
      refine d_ldA rfl ty_rows rfl hA4 rfl ?_
      refine d_move rfl ?_
      refine d_ia (n := k) (u := ys[k]) rfl sl_rows ty_ints rfl rfl hS2 (List.getElem?_eq_getElem hky) ?_
      intro ad1 hc1
      refine d_ld rfl ty_ints rfl hc1 ?_
      refine d_faN rfl Tryz.underlying105 rfl ty_int.n rfl ?_
      refine d_ldA rfl ty_int rfl hA4 rfl ?_
      refine d_ch rfl ?_
      refine s_call (vs := [ys[k], .int .i64 (q : Int)]) ok_isIntList rfl (isIntList_ct lo q ys[k] W2.drew hqb (hm1.ex ((hx.trans hxW4).trans hx2d))) ?_
      rintro v w5 ⟨rfl, hx5⟩
      have hx25 := hx2d.trans hx5
      refine l_nil ⟨rfl, .inr hx25, ?_⟩
      refine d_not rfl rfl ?_
      refine d_re (v' := .bool false) rfl ?_
      refine d_move rfl ?_
      refine d_move rfl ?_
      refine d_faN rfl Tryz.underlying105 rfl ty_rows.n rfl ?_
      refine d_ldA rfl ty_rows rfl hA4 rfl ?_
      refine d_len (n := ln q) (a := la) (c := lc) rfl sl_rows hlf ?_
      refine d_lss rfl rfl rfl ?_
      by_cases hkl : k < ln q
      · have hkx : k < xs.length := by omega
        have hm2 := hxs.2 xs[k] (List.getElem_mem hkx)
        refine d_re (v' := .bool true) (vbool (decide_eq_true (by omega))) ?_
        refine d_move rfl ?_
        refine d_faN rfl Tryz.underlying105 rfl ty_rows.n rfl ?_
        refine d_ldA rfl ty_rows rfl hA4 rfl ?_
        refine d_move rfl ?_
        refine d_ia (n := k) (u := xs[k]) rfl sl_rows ty_ints rfl rfl hS1 (List.getElem?_eq_getElem hkx) ?_
        intro ad2 hc2
        refine d_ld rfl ty_ints rfl hc2 ?_
        refine d_faN rfl Tryz.underlying105 rfl ty_int.n rfl ?_
        refine d_ldA rfl ty_int rfl hA4 rfl ?_
        refine d_ch rfl ?_
        refine g_yes rfl rfl ?_
        refine s_call (vs := [xs[k], .int .i64 (q : Int)]) ok_isIntList rfl (isIntList_ct lo q xs[k] w5 hqb (hm2.ex ((hx.trans hxW4).trans hx25))) ?_
        rintro v w6 ⟨rfl, hx6⟩
        have hx26 := hx25.trans hx6
        refine l_nil ⟨rfl, .inr hx26, ?_⟩
        refine d_not rfl rfl ?_
        refine d_re (v' := .bool false) rfl ?_
        refine d_pickt rfl rfl rfl ?_
        refine d_pickf rfl rfl rfl ?_
        refine d_nil ?_
        repeat (first | (refine isO ?_; first | refine s_move ?_ | refine s_assign ?_ | (refine isBin ?_; refine s_inc rfl (by omega) ?_)) | (refine isC ?_; first | refine c_region ?_ | refine c_iff rfl ?_ | refine c_skip ?_) | (refine l_th ?_))
        exact loop_end (k + 1) (by (repeat (first | exact agree_refl _ _ | refine agree_upd rfl ?_ | refine agree_ext rfl ?_ | refine agree_mask rfl ?_))) ⟨rfl, trivial⟩ ⟨hk', hx26⟩ (by omega)
      · refine d_re (v' := .bool false) (vbool (decide_eq_false (by omega))) ?_
        refine d_move rfl ?_
        refine d_gno rfl rfl rfl rfl ?_
        refine d_gno rfl rfl rfl rfl ?_
        refine d_gno rfl rfl rfl rfl ?_
        refine d_gno rfl rfl rfl rfl ?_
        refine d_gno rfl rfl rfl rfl ?_
        refine d_gno rfl rfl rfl rfl ?_
        refine d_gno rfl rfl rfl rfl ?_
        refine d_ch rfl ?_
        refine g_no rfl rfl rfl ?_
        refine l_nil ⟨rfl, .inr hx25, ?_⟩
        refine d_gno rfl rfl rfl rfl ?_
        refine d_pickf rfl rfl rfl ?_
        refine d_pickf rfl rfl rfl ?_
        refine d_nil ?_
        repeat (first | (refine isO ?_; first | refine s_move ?_ | refine s_assign ?_ | (refine isBin ?_; refine s_inc rfl (by omega) ?_)) | (refine isC ?_; first | refine c_region ?_ | refine c_iff rfl ?_ | refine c_skip ?_) | (refine l_th ?_))
        exact loop_end (k + 1) (by (repeat (first | exact agree_refl _ _ | refine agree_upd rfl ?_ | refine agree_ext rfl ?_ | refine agree_mask rfl ?_))) ⟨rfl, trivial⟩ ⟨hk', hx25⟩ (by omega)
    · repeat (first | (refine isO ?_; first | refine s_move ?_ | refine s_assign ?_ | (refine isBin ?_; refine s_inc rfl (by omega) ?_)) | (refine isC ?_; first | refine c_region ?_ | refine c_exit ?_) | (refine l_th ?_))
      exact loop_end (i + 1) (by (repeat (first | exact agree_refl _ _ | refine agree_upd rfl ?_ | refine agree_ext rfl ?_ | refine agree_mask rfl ?_))) ⟨rfl, trivial⟩ ⟨hi', (hx.trans hxW4).trans hx2⟩ (by omega)
  · repeat (first | (refine isO ?_; refine s_assign ?_) | (refine isC ?_; first | refine c_sr ?_ | refine c_ret ?_ | refine c_exit ?_) | (refine l_th ?_))
    exact ret1 rfl rfl ⟨rfl, hx⟩
end Go.Proofs.YtifbgpkjbciblaaGreatDoor.Sal
end
section
/- The Book of salesroomlaw01: the kinds that lie empty; Apart. -/
set_option maxRecDepth 100000
namespace Go.Proofs.YtifbgpkjbciblaaGreatDoor.Sal
open Go.RowKit
attribute [local irreducible] Go.Code.wpIn Go.wpListIn Ct Ints Rows Sl At Rw WJ
attribute [local irreducible] Wd
set_option linter.all false
theorem ty_eByte : Ty1 Tryz.prog 36 := ⟨let ⟨i, h, _, hs, _⟩ := info_parts (show (Tryz.prog.info? 36).map (fun i => (i.zero, i.size, i.bytes)) = some (some (.slice none 0 0), 1, 24) by kernel_rfl); ⟨i, h, hs⟩, _, Tryz.underlying36, rfl⟩
theorem sl_eByte : SlT Tryz.prog 36 110 := Tryz.underlying36
theorem ok_fillByte : CallOK Tryz.prog 44 := callOK Tryz.func44 (by kernel_rfl) rfl
theorem fillByte_ct (bk M : Nat) (vi vl : Value) (w : World) (hA : At w bk 46 (bkc M vi vl)) : Ct Tryz.prog 44 #[.pointer (some ⟨bk, 0, none⟩)] w fun u w' => u = .tuple #[] ∧ Ex w w' := by
  refine enter (N := 35) (vs := [.pointer (some ⟨bk, 0, none⟩)]) Tryz.func44 rfl rfl rfl ?_
  repeat (first | (refine isO ?_; refine s_assign ?_) | (refine isC ?_; first | refine c_sr ?_ | refine c_block ?_) | (refine l_th ?_))
  refine c_loop (γ := Unit) 34359738364 (fun _ => [(2, .int .i64 0)]) (fun _ W => Ex w W) (fun _ => 0) () ⟨rfl, trivial⟩ (Ex.refl _) ?_
  rintro _ ρ W hx
  repeat (first | (refine isO ?_; refine s_move ?_) | (refine isC ?_; first | refine c_sr ?_ | refine c_seq ?_))
  refine s_nil rfl ?_
  refine s_faN Tryz.underlying46 rfl ty_eByte.n rfl ?_
  refine s_ldA ty_eByte rfl (hA.ex hx) rfl ?_
  refine s_len (n := 0) (a := none) (c := 0) sl_eByte rfl ?_
  refine s_lssF rfl rfl (by omega) ?_
  repeat (first | (refine isC ?_; first | refine c_iff rfl ?_ | refine c_exit ?_) | (first | refine l_th ?_ | refine ib_exit ?_ | refine th_exit ?_))
  exact end0 rfl ⟨rfl, hx⟩
theorem ok_growByte : CallOK Tryz.prog 53 := callOK Tryz.func53 (by kernel_rfl) rfl
theorem growByte_ct (bk M : Nat) (vi vl : Value) (w : World) (hA : At w bk 46 (bkc M vi vl)) : Ct Tryz.prog 53 #[.pointer (some ⟨bk, 0, none⟩)] w fun u w' => u = .tuple #[] ∧ Ex w w' := by
  refine enter (N := 42) (vs := [.pointer (some ⟨bk, 0, none⟩)]) Tryz.func53 rfl rfl rfl ?_
  repeat (first | (refine isO ?_; refine s_assign ?_) | (refine isC ?_; first | refine c_sr ?_ | refine c_block ?_) | (refine l_th ?_))
  refine c_loop (γ := Unit) 4398046511100 (fun _ => [(2, .int .i64 0)]) (fun _ W => Ex w W) (fun _ => 0) () ⟨rfl, trivial⟩ (Ex.refl _) ?_
  rintro _ ρ W hx
  repeat (first | (refine isO ?_; refine s_move ?_) | (refine isC ?_; first | refine c_sr ?_ | refine c_seq ?_))
  refine s_nil rfl ?_
  refine s_faN Tryz.underlying46 rfl ty_eByte.n rfl ?_
  refine s_ldA ty_eByte rfl (hA.ex hx) rfl ?_
  refine s_len (n := 0) (a := none) (c := 0) sl_eByte rfl ?_
  refine s_lssF rfl rfl (by omega) ?_
  repeat (first | (refine isC ?_; first | refine c_iff rfl ?_ | refine c_exit ?_) | (first | refine l_th ?_ | refine ib_exit ?_ | refine th_exit ?_))
  exact end0 rfl ⟨rfl, hx⟩
theorem ok_lookByte : CallOK Tryz.prog 62 := callOK Tryz.func62 (by kernel_rfl) rfl
theorem lookByte_ct (bk M : Nat) (vi vl : Value) (w : World) (hA : At w bk 46 (bkc M vi vl)) : Ct Tryz.prog 62 #[.pointer (some ⟨bk, 0, none⟩)] w fun u w' => u = .bool true ∧ Ex w w' := by
  refine enter (N := 64) (vs := [.pointer (some ⟨bk, 0, none⟩)]) Tryz.func62 rfl rfl rfl ?_
  repeat (first | (refine isO ?_; refine s_assign ?_) | (refine isC ?_; first | refine c_sr ?_ | refine c_seq ?_ | refine c_block ?_) | (refine l_th ?_))
  refine c_loop (γ := Unit) 18446744073709551612 (fun _ => [(3, .int .i64 0)]) (fun _ W => Ex w W) (fun _ => 0) () ⟨rfl, trivial⟩ (Ex.refl _) ?_
  rintro _ ρ W hx
  repeat (first | (refine isO ?_; refine s_move ?_) | (refine isC ?_; first | refine c_sr ?_ | refine c_seq ?_))
  refine s_nil rfl ?_
  refine s_faN Tryz.underlying46 rfl ty_eByte.n rfl ?_
  refine s_ldA ty_eByte rfl (hA.ex hx) rfl ?_
  refine s_len (n := 0) (a := none) (c := 0) sl_eByte rfl ?_
  refine s_lssF rfl rfl (by omega) ?_
  repeat (first | (refine isO ?_; refine s_assign ?_) | (refine isC ?_; first | refine c_sr ?_ | refine c_iff rfl ?_ | refine c_ret ?_ | refine c_exit ?_) | (refine l_th ?_))
  exact ret1 rfl rfl ⟨rfl, hx⟩
theorem ty_eText : Ty1 Tryz.prog 38 := ⟨let ⟨i, h, _, hs, _⟩ := info_parts (show (Tryz.prog.info? 38).map (fun i => (i.zero, i.size, i.bytes)) = some (some (.slice none 0 0), 1, 24) by kernel_rfl); ⟨i, h, hs⟩, _, Tryz.underlying38, rfl⟩
theorem sl_eText : SlT Tryz.prog 38 115 := Tryz.underlying38
theorem ok_fillText : CallOK Tryz.prog 46 := callOK Tryz.func46 (by kernel_rfl) rfl
theorem fillText_ct (bk M : Nat) (vi vl : Value) (w : World) (hA : At w bk 46 (bkc M vi vl)) : Ct Tryz.prog 46 #[.pointer (some ⟨bk, 0, none⟩)] w fun u w' => u = .tuple #[] ∧ Ex w w' := by
  refine enter (N := 35) (vs := [.pointer (some ⟨bk, 0, none⟩)]) Tryz.func46 rfl rfl rfl ?_
  repeat (first | (refine isO ?_; refine s_assign ?_) | (refine isC ?_; first | refine c_sr ?_ | refine c_block ?_) | (refine l_th ?_))
  refine c_loop (γ := Unit) 34359738364 (fun _ => [(2, .int .i64 0)]) (fun _ W => Ex w W) (fun _ => 0) () ⟨rfl, trivial⟩ (Ex.refl _) ?_
  rintro _ ρ W hx
  repeat (first | (refine isO ?_; refine s_move ?_) | (refine isC ?_; first | refine c_sr ?_ | refine c_seq ?_))
  refine s_nil rfl ?_
  refine s_faN Tryz.underlying46 rfl ty_eText.n rfl ?_
  refine s_ldA ty_eText rfl (hA.ex hx) rfl ?_
  refine s_len (n := 0) (a := none) (c := 0) sl_eText rfl ?_
  refine s_lssF rfl rfl (by omega) ?_
  repeat (first | (refine isC ?_; first | refine c_iff rfl ?_ | refine c_exit ?_) | (first | refine l_th ?_ | refine ib_exit ?_ | refine th_exit ?_))
  exact end0 rfl ⟨rfl, hx⟩
theorem ok_growText : CallOK Tryz.prog 55 := callOK Tryz.func55 (by kernel_rfl) rfl
theorem growText_ct (bk M : Nat) (vi vl : Value) (w : World) (hA : At w bk 46 (bkc M vi vl)) : Ct Tryz.prog 55 #[.pointer (some ⟨bk, 0, none⟩)] w fun u w' => u = .tuple #[] ∧ Ex w w' := by
  refine enter (N := 42) (vs := [.pointer (some ⟨bk, 0, none⟩)]) Tryz.func55 rfl rfl rfl ?_
  repeat (first | (refine isO ?_; refine s_assign ?_) | (refine isC ?_; first | refine c_sr ?_ | refine c_block ?_) | (refine l_th ?_))
  refine c_loop (γ := Unit) 4398046511100 (fun _ => [(2, .int .i64 0)]) (fun _ W => Ex w W) (fun _ => 0) () ⟨rfl, trivial⟩ (Ex.refl _) ?_
  rintro _ ρ W hx
  repeat (first | (refine isO ?_; refine s_move ?_) | (refine isC ?_; first | refine c_sr ?_ | refine c_seq ?_))
  refine s_nil rfl ?_
  refine s_faN Tryz.underlying46 rfl ty_eText.n rfl ?_
  refine s_ldA ty_eText rfl (hA.ex hx) rfl ?_
  refine s_len (n := 0) (a := none) (c := 0) sl_eText rfl ?_
  refine s_lssF rfl rfl (by omega) ?_
  repeat (first | (refine isC ?_; first | refine c_iff rfl ?_ | refine c_exit ?_) | (first | refine l_th ?_ | refine ib_exit ?_ | refine th_exit ?_))
  exact end0 rfl ⟨rfl, hx⟩
theorem ok_lookText : CallOK Tryz.prog 64 := callOK Tryz.func64 (by kernel_rfl) rfl
theorem lookText_ct (bk M : Nat) (vi vl : Value) (w : World) (hA : At w bk 46 (bkc M vi vl)) : Ct Tryz.prog 64 #[.pointer (some ⟨bk, 0, none⟩)] w fun u w' => u = .bool true ∧ Ex w w' := by
  refine enter (N := 64) (vs := [.pointer (some ⟨bk, 0, none⟩)]) Tryz.func64 rfl rfl rfl ?_
  repeat (first | (refine isO ?_; refine s_assign ?_) | (refine isC ?_; first | refine c_sr ?_ | refine c_seq ?_ | refine c_block ?_) | (refine l_th ?_))
  refine c_loop (γ := Unit) 18446744073709551612 (fun _ => [(3, .int .i64 0)]) (fun _ W => Ex w W) (fun _ => 0) () ⟨rfl, trivial⟩ (Ex.refl _) ?_
  rintro _ ρ W hx
  repeat (first | (refine isO ?_; refine s_move ?_) | (refine isC ?_; first | refine c_sr ?_ | refine c_seq ?_))
  refine s_nil rfl ?_
  refine s_faN Tryz.underlying46 rfl ty_eText.n rfl ?_
  refine s_ldA ty_eText rfl (hA.ex hx) rfl ?_
  refine s_len (n := 0) (a := none) (c := 0) sl_eText rfl ?_
  refine s_lssF rfl rfl (by omega) ?_
  repeat (first | (refine isO ?_; refine s_assign ?_) | (refine isC ?_; first | refine c_sr ?_ | refine c_iff rfl ?_ | refine c_ret ?_ | refine c_exit ?_) | (refine l_th ?_))
  exact ret1 rfl rfl ⟨rfl, hx⟩
theorem ty_eByteList : Ty1 Tryz.prog 40 := ⟨let ⟨i, h, _, hs, _⟩ := info_parts (show (Tryz.prog.info? 40).map (fun i => (i.zero, i.size, i.bytes)) = some (some (.slice none 0 0), 1, 24) by kernel_rfl); ⟨i, h, hs⟩, _, Tryz.underlying40, rfl⟩
theorem sl_eByteList : SlT Tryz.prog 40 120 := Tryz.underlying40
theorem ok_fillByteList : CallOK Tryz.prog 48 := callOK Tryz.func48 (by kernel_rfl) rfl
theorem fillByteList_ct (bk M : Nat) (vi vl : Value) (w : World) (hA : At w bk 46 (bkc M vi vl)) : Ct Tryz.prog 48 #[.pointer (some ⟨bk, 0, none⟩)] w fun u w' => u = .tuple #[] ∧ Ex w w' := by
  refine enter (N := 35) (vs := [.pointer (some ⟨bk, 0, none⟩)]) Tryz.func48 rfl rfl rfl ?_
  repeat (first | (refine isO ?_; refine s_assign ?_) | (refine isC ?_; first | refine c_sr ?_ | refine c_block ?_) | (refine l_th ?_))
  refine c_loop (γ := Unit) 34359738364 (fun _ => [(2, .int .i64 0)]) (fun _ W => Ex w W) (fun _ => 0) () ⟨rfl, trivial⟩ (Ex.refl _) ?_
  rintro _ ρ W hx
  repeat (first | (refine isO ?_; refine s_move ?_) | (refine isC ?_; first | refine c_sr ?_ | refine c_seq ?_))
  refine s_nil rfl ?_
  refine s_faN Tryz.underlying46 rfl ty_eByteList.n rfl ?_
  refine s_ldA ty_eByteList rfl (hA.ex hx) rfl ?_
  refine s_len (n := 0) (a := none) (c := 0) sl_eByteList rfl ?_
  refine s_lssF rfl rfl (by omega) ?_
  repeat (first | (refine isC ?_; first | refine c_iff rfl ?_ | refine c_exit ?_) | (first | refine l_th ?_ | refine ib_exit ?_ | refine th_exit ?_))
  exact end0 rfl ⟨rfl, hx⟩
theorem ok_growByteList : CallOK Tryz.prog 57 := callOK Tryz.func57 (by kernel_rfl) rfl
theorem growByteList_ct (bk M : Nat) (vi vl : Value) (w : World) (hA : At w bk 46 (bkc M vi vl)) : Ct Tryz.prog 57 #[.pointer (some ⟨bk, 0, none⟩)] w fun u w' => u = .tuple #[] ∧ Ex w w' := by
  refine enter (N := 42) (vs := [.pointer (some ⟨bk, 0, none⟩)]) Tryz.func57 rfl rfl rfl ?_
  repeat (first | (refine isO ?_; refine s_assign ?_) | (refine isC ?_; first | refine c_sr ?_ | refine c_block ?_) | (refine l_th ?_))
  refine c_loop (γ := Unit) 4398046511100 (fun _ => [(2, .int .i64 0)]) (fun _ W => Ex w W) (fun _ => 0) () ⟨rfl, trivial⟩ (Ex.refl _) ?_
  rintro _ ρ W hx
  repeat (first | (refine isO ?_; refine s_move ?_) | (refine isC ?_; first | refine c_sr ?_ | refine c_seq ?_))
  refine s_nil rfl ?_
  refine s_faN Tryz.underlying46 rfl ty_eByteList.n rfl ?_
  refine s_ldA ty_eByteList rfl (hA.ex hx) rfl ?_
  refine s_len (n := 0) (a := none) (c := 0) sl_eByteList rfl ?_
  refine s_lssF rfl rfl (by omega) ?_
  repeat (first | (refine isC ?_; first | refine c_iff rfl ?_ | refine c_exit ?_) | (first | refine l_th ?_ | refine ib_exit ?_ | refine th_exit ?_))
  exact end0 rfl ⟨rfl, hx⟩
theorem ok_lookByteList : CallOK Tryz.prog 66 := callOK Tryz.func66 (by kernel_rfl) rfl
theorem lookByteList_ct (bk M : Nat) (vi vl : Value) (w : World) (hA : At w bk 46 (bkc M vi vl)) : Ct Tryz.prog 66 #[.pointer (some ⟨bk, 0, none⟩)] w fun u w' => u = .bool true ∧ Ex w w' := by
  refine enter (N := 64) (vs := [.pointer (some ⟨bk, 0, none⟩)]) Tryz.func66 rfl rfl rfl ?_
  repeat (first | (refine isO ?_; refine s_assign ?_) | (refine isC ?_; first | refine c_sr ?_ | refine c_seq ?_ | refine c_block ?_) | (refine l_th ?_))
  refine c_loop (γ := Unit) 18446744073709551612 (fun _ => [(3, .int .i64 0)]) (fun _ W => Ex w W) (fun _ => 0) () ⟨rfl, trivial⟩ (Ex.refl _) ?_
  rintro _ ρ W hx
  repeat (first | (refine isO ?_; refine s_move ?_) | (refine isC ?_; first | refine c_sr ?_ | refine c_seq ?_))
  refine s_nil rfl ?_
  refine s_faN Tryz.underlying46 rfl ty_eByteList.n rfl ?_
  refine s_ldA ty_eByteList rfl (hA.ex hx) rfl ?_
  refine s_len (n := 0) (a := none) (c := 0) sl_eByteList rfl ?_
  refine s_lssF rfl rfl (by omega) ?_
  repeat (first | (refine isO ?_; refine s_assign ?_) | (refine isC ?_; first | refine c_sr ?_ | refine c_iff rfl ?_ | refine c_ret ?_ | refine c_exit ?_) | (refine l_th ?_))
  exact ret1 rfl rfl ⟨rfl, hx⟩
theorem ty_eWhy : Ty1 Tryz.prog 41 := ⟨let ⟨i, h, _, hs, _⟩ := info_parts (show (Tryz.prog.info? 41).map (fun i => (i.zero, i.size, i.bytes)) = some (some (.slice none 0 0), 1, 24) by kernel_rfl); ⟨i, h, hs⟩, _, Tryz.underlying41, rfl⟩
theorem sl_eWhy : SlT Tryz.prog 41 124 := Tryz.underlying41
theorem ok_fillWhy : CallOK Tryz.prog 49 := callOK Tryz.func49 (by kernel_rfl) rfl
theorem fillWhy_ct (bk M : Nat) (vi vl : Value) (w : World) (hA : At w bk 46 (bkc M vi vl)) : Ct Tryz.prog 49 #[.pointer (some ⟨bk, 0, none⟩)] w fun u w' => u = .tuple #[] ∧ Ex w w' := by
  refine enter (N := 35) (vs := [.pointer (some ⟨bk, 0, none⟩)]) Tryz.func49 rfl rfl rfl ?_
  repeat (first | (refine isO ?_; refine s_assign ?_) | (refine isC ?_; first | refine c_sr ?_ | refine c_block ?_) | (refine l_th ?_))
  refine c_loop (γ := Unit) 34359738364 (fun _ => [(2, .int .i64 0)]) (fun _ W => Ex w W) (fun _ => 0) () ⟨rfl, trivial⟩ (Ex.refl _) ?_
  rintro _ ρ W hx
  repeat (first | (refine isO ?_; refine s_move ?_) | (refine isC ?_; first | refine c_sr ?_ | refine c_seq ?_))
  refine s_nil rfl ?_
  refine s_faN Tryz.underlying46 rfl ty_eWhy.n rfl ?_
  refine s_ldA ty_eWhy rfl (hA.ex hx) rfl ?_
  refine s_len (n := 0) (a := none) (c := 0) sl_eWhy rfl ?_
  refine s_lssF rfl rfl (by omega) ?_
  repeat (first | (refine isC ?_; first | refine c_iff rfl ?_ | refine c_exit ?_) | (first | refine l_th ?_ | refine ib_exit ?_ | refine th_exit ?_))
  exact end0 rfl ⟨rfl, hx⟩
theorem ok_growWhy : CallOK Tryz.prog 58 := callOK Tryz.func58 (by kernel_rfl) rfl
theorem growWhy_ct (bk M : Nat) (vi vl : Value) (w : World) (hA : At w bk 46 (bkc M vi vl)) : Ct Tryz.prog 58 #[.pointer (some ⟨bk, 0, none⟩)] w fun u w' => u = .tuple #[] ∧ Ex w w' := by
  refine enter (N := 42) (vs := [.pointer (some ⟨bk, 0, none⟩)]) Tryz.func58 rfl rfl rfl ?_
  repeat (first | (refine isO ?_; refine s_assign ?_) | (refine isC ?_; first | refine c_sr ?_ | refine c_block ?_) | (refine l_th ?_))
  refine c_loop (γ := Unit) 4398046511100 (fun _ => [(2, .int .i64 0)]) (fun _ W => Ex w W) (fun _ => 0) () ⟨rfl, trivial⟩ (Ex.refl _) ?_
  rintro _ ρ W hx
  repeat (first | (refine isO ?_; refine s_move ?_) | (refine isC ?_; first | refine c_sr ?_ | refine c_seq ?_))
  refine s_nil rfl ?_
  refine s_faN Tryz.underlying46 rfl ty_eWhy.n rfl ?_
  refine s_ldA ty_eWhy rfl (hA.ex hx) rfl ?_
  refine s_len (n := 0) (a := none) (c := 0) sl_eWhy rfl ?_
  refine s_lssF rfl rfl (by omega) ?_
  repeat (first | (refine isC ?_; first | refine c_iff rfl ?_ | refine c_exit ?_) | (first | refine l_th ?_ | refine ib_exit ?_ | refine th_exit ?_))
  exact end0 rfl ⟨rfl, hx⟩
theorem ok_lookWhy : CallOK Tryz.prog 67 := callOK Tryz.func67 (by kernel_rfl) rfl
theorem lookWhy_ct (bk M : Nat) (vi vl : Value) (w : World) (hA : At w bk 46 (bkc M vi vl)) : Ct Tryz.prog 67 #[.pointer (some ⟨bk, 0, none⟩)] w fun u w' => u = .bool true ∧ Ex w w' := by
  refine enter (N := 64) (vs := [.pointer (some ⟨bk, 0, none⟩)]) Tryz.func67 rfl rfl rfl ?_
  repeat (first | (refine isO ?_; refine s_assign ?_) | (refine isC ?_; first | refine c_sr ?_ | refine c_seq ?_ | refine c_block ?_) | (refine l_th ?_))
  refine c_loop (γ := Unit) 18446744073709551612 (fun _ => [(3, .int .i64 0)]) (fun _ W => Ex w W) (fun _ => 0) () ⟨rfl, trivial⟩ (Ex.refl _) ?_
  rintro _ ρ W hx
  repeat (first | (refine isO ?_; refine s_move ?_) | (refine isC ?_; first | refine c_sr ?_ | refine c_seq ?_))
  refine s_nil rfl ?_
  refine s_faN Tryz.underlying46 rfl ty_eWhy.n rfl ?_
  refine s_ldA ty_eWhy rfl (hA.ex hx) rfl ?_
  refine s_len (n := 0) (a := none) (c := 0) sl_eWhy rfl ?_
  refine s_lssF rfl rfl (by omega) ?_
  repeat (first | (refine isO ?_; refine s_assign ?_) | (refine isC ?_; first | refine c_sr ?_ | refine c_iff rfl ?_ | refine c_ret ?_ | refine c_exit ?_) | (refine l_th ?_))
  exact ret1 rfl rfl ⟨rfl, hx⟩
theorem ty_eFrame : Ty1 Tryz.prog 42 := ⟨let ⟨i, h, _, hs, _⟩ := info_parts (show (Tryz.prog.info? 42).map (fun i => (i.zero, i.size, i.bytes)) = some (some (.slice none 0 0), 1, 24) by kernel_rfl); ⟨i, h, hs⟩, _, Tryz.underlying42, rfl⟩
theorem sl_eFrame : SlT Tryz.prog 42 130 := Tryz.underlying42
theorem ok_fillFrame : CallOK Tryz.prog 50 := callOK Tryz.func50 (by kernel_rfl) rfl
theorem fillFrame_ct (bk M : Nat) (vi vl : Value) (w : World) (hA : At w bk 46 (bkc M vi vl)) : Ct Tryz.prog 50 #[.pointer (some ⟨bk, 0, none⟩)] w fun u w' => u = .tuple #[] ∧ Ex w w' := by
  refine enter (N := 35) (vs := [.pointer (some ⟨bk, 0, none⟩)]) Tryz.func50 rfl rfl rfl ?_
  repeat (first | (refine isO ?_; refine s_assign ?_) | (refine isC ?_; first | refine c_sr ?_ | refine c_block ?_) | (refine l_th ?_))
  refine c_loop (γ := Unit) 34359738364 (fun _ => [(2, .int .i64 0)]) (fun _ W => Ex w W) (fun _ => 0) () ⟨rfl, trivial⟩ (Ex.refl _) ?_
  rintro _ ρ W hx
  repeat (first | (refine isO ?_; refine s_move ?_) | (refine isC ?_; first | refine c_sr ?_ | refine c_seq ?_))
  refine s_nil rfl ?_
  refine s_faN Tryz.underlying46 rfl ty_eFrame.n rfl ?_
  refine s_ldA ty_eFrame rfl (hA.ex hx) rfl ?_
  refine s_len (n := 0) (a := none) (c := 0) sl_eFrame rfl ?_
  refine s_lssF rfl rfl (by omega) ?_
  repeat (first | (refine isC ?_; first | refine c_iff rfl ?_ | refine c_exit ?_) | (first | refine l_th ?_ | refine ib_exit ?_ | refine th_exit ?_))
  exact end0 rfl ⟨rfl, hx⟩
theorem ok_growFrame : CallOK Tryz.prog 59 := callOK Tryz.func59 (by kernel_rfl) rfl
theorem growFrame_ct (bk M : Nat) (vi vl : Value) (w : World) (hA : At w bk 46 (bkc M vi vl)) : Ct Tryz.prog 59 #[.pointer (some ⟨bk, 0, none⟩)] w fun u w' => u = .tuple #[] ∧ Ex w w' := by
  refine enter (N := 42) (vs := [.pointer (some ⟨bk, 0, none⟩)]) Tryz.func59 rfl rfl rfl ?_
  repeat (first | (refine isO ?_; refine s_assign ?_) | (refine isC ?_; first | refine c_sr ?_ | refine c_block ?_) | (refine l_th ?_))
  refine c_loop (γ := Unit) 4398046511100 (fun _ => [(2, .int .i64 0)]) (fun _ W => Ex w W) (fun _ => 0) () ⟨rfl, trivial⟩ (Ex.refl _) ?_
  rintro _ ρ W hx
  repeat (first | (refine isO ?_; refine s_move ?_) | (refine isC ?_; first | refine c_sr ?_ | refine c_seq ?_))
  refine s_nil rfl ?_
  refine s_faN Tryz.underlying46 rfl ty_eFrame.n rfl ?_
  refine s_ldA ty_eFrame rfl (hA.ex hx) rfl ?_
  refine s_len (n := 0) (a := none) (c := 0) sl_eFrame rfl ?_
  refine s_lssF rfl rfl (by omega) ?_
  repeat (first | (refine isC ?_; first | refine c_iff rfl ?_ | refine c_exit ?_) | (first | refine l_th ?_ | refine ib_exit ?_ | refine th_exit ?_))
  exact end0 rfl ⟨rfl, hx⟩
theorem ok_lookFrame : CallOK Tryz.prog 68 := callOK Tryz.func68 (by kernel_rfl) rfl
theorem lookFrame_ct (bk M : Nat) (vi vl : Value) (w : World) (hA : At w bk 46 (bkc M vi vl)) : Ct Tryz.prog 68 #[.pointer (some ⟨bk, 0, none⟩)] w fun u w' => u = .bool true ∧ Ex w w' := by
  refine enter (N := 64) (vs := [.pointer (some ⟨bk, 0, none⟩)]) Tryz.func68 rfl rfl rfl ?_
  repeat (first | (refine isO ?_; refine s_assign ?_) | (refine isC ?_; first | refine c_sr ?_ | refine c_seq ?_ | refine c_block ?_) | (refine l_th ?_))
  refine c_loop (γ := Unit) 18446744073709551612 (fun _ => [(3, .int .i64 0)]) (fun _ W => Ex w W) (fun _ => 0) () ⟨rfl, trivial⟩ (Ex.refl _) ?_
  rintro _ ρ W hx
  repeat (first | (refine isO ?_; refine s_move ?_) | (refine isC ?_; first | refine c_sr ?_ | refine c_seq ?_))
  refine s_nil rfl ?_
  refine s_faN Tryz.underlying46 rfl ty_eFrame.n rfl ?_
  refine s_ldA ty_eFrame rfl (hA.ex hx) rfl ?_
  refine s_len (n := 0) (a := none) (c := 0) sl_eFrame rfl ?_
  refine s_lssF rfl rfl (by omega) ?_
  repeat (first | (refine isO ?_; refine s_assign ?_) | (refine isC ?_; first | refine c_sr ?_ | refine c_iff rfl ?_ | refine c_ret ?_ | refine c_exit ?_) | (refine l_th ?_))
  exact ret1 rfl rfl ⟨rfl, hx⟩
theorem ty_eReply : Ty1 Tryz.prog 43 := ⟨let ⟨i, h, _, hs, _⟩ := info_parts (show (Tryz.prog.info? 43).map (fun i => (i.zero, i.size, i.bytes)) = some (some (.slice none 0 0), 1, 24) by kernel_rfl); ⟨i, h, hs⟩, _, Tryz.underlying43, rfl⟩
theorem sl_eReply : SlT Tryz.prog 43 139 := Tryz.underlying43
theorem ok_fillReply : CallOK Tryz.prog 51 := callOK Tryz.func51 (by kernel_rfl) rfl
theorem fillReply_ct (bk M : Nat) (vi vl : Value) (w : World) (hA : At w bk 46 (bkc M vi vl)) : Ct Tryz.prog 51 #[.pointer (some ⟨bk, 0, none⟩)] w fun u w' => u = .tuple #[] ∧ Ex w w' := by
  refine enter (N := 35) (vs := [.pointer (some ⟨bk, 0, none⟩)]) Tryz.func51 rfl rfl rfl ?_
  repeat (first | (refine isO ?_; refine s_assign ?_) | (refine isC ?_; first | refine c_sr ?_ | refine c_block ?_) | (refine l_th ?_))
  refine c_loop (γ := Unit) 34359738364 (fun _ => [(2, .int .i64 0)]) (fun _ W => Ex w W) (fun _ => 0) () ⟨rfl, trivial⟩ (Ex.refl _) ?_
  rintro _ ρ W hx
  repeat (first | (refine isO ?_; refine s_move ?_) | (refine isC ?_; first | refine c_sr ?_ | refine c_seq ?_))
  refine s_nil rfl ?_
  refine s_faN Tryz.underlying46 rfl ty_eReply.n rfl ?_
  refine s_ldA ty_eReply rfl (hA.ex hx) rfl ?_
  refine s_len (n := 0) (a := none) (c := 0) sl_eReply rfl ?_
  refine s_lssF rfl rfl (by omega) ?_
  repeat (first | (refine isC ?_; first | refine c_iff rfl ?_ | refine c_exit ?_) | (first | refine l_th ?_ | refine ib_exit ?_ | refine th_exit ?_))
  exact end0 rfl ⟨rfl, hx⟩
theorem ok_growReply : CallOK Tryz.prog 60 := callOK Tryz.func60 (by kernel_rfl) rfl
theorem growReply_ct (bk M : Nat) (vi vl : Value) (w : World) (hA : At w bk 46 (bkc M vi vl)) : Ct Tryz.prog 60 #[.pointer (some ⟨bk, 0, none⟩)] w fun u w' => u = .tuple #[] ∧ Ex w w' := by
  refine enter (N := 42) (vs := [.pointer (some ⟨bk, 0, none⟩)]) Tryz.func60 rfl rfl rfl ?_
  repeat (first | (refine isO ?_; refine s_assign ?_) | (refine isC ?_; first | refine c_sr ?_ | refine c_block ?_) | (refine l_th ?_))
  refine c_loop (γ := Unit) 4398046511100 (fun _ => [(2, .int .i64 0)]) (fun _ W => Ex w W) (fun _ => 0) () ⟨rfl, trivial⟩ (Ex.refl _) ?_
  rintro _ ρ W hx
  repeat (first | (refine isO ?_; refine s_move ?_) | (refine isC ?_; first | refine c_sr ?_ | refine c_seq ?_))
  refine s_nil rfl ?_
  refine s_faN Tryz.underlying46 rfl ty_eReply.n rfl ?_
  refine s_ldA ty_eReply rfl (hA.ex hx) rfl ?_
  refine s_len (n := 0) (a := none) (c := 0) sl_eReply rfl ?_
  refine s_lssF rfl rfl (by omega) ?_
  repeat (first | (refine isC ?_; first | refine c_iff rfl ?_ | refine c_exit ?_) | (first | refine l_th ?_ | refine ib_exit ?_ | refine th_exit ?_))
  exact end0 rfl ⟨rfl, hx⟩
theorem ok_lookReply : CallOK Tryz.prog 69 := callOK Tryz.func69 (by kernel_rfl) rfl
theorem lookReply_ct (bk M : Nat) (vi vl : Value) (w : World) (hA : At w bk 46 (bkc M vi vl)) : Ct Tryz.prog 69 #[.pointer (some ⟨bk, 0, none⟩)] w fun u w' => u = .bool true ∧ Ex w w' := by
  refine enter (N := 64) (vs := [.pointer (some ⟨bk, 0, none⟩)]) Tryz.func69 rfl rfl rfl ?_
  repeat (first | (refine isO ?_; refine s_assign ?_) | (refine isC ?_; first | refine c_sr ?_ | refine c_seq ?_ | refine c_block ?_) | (refine l_th ?_))
  refine c_loop (γ := Unit) 18446744073709551612 (fun _ => [(3, .int .i64 0)]) (fun _ W => Ex w W) (fun _ => 0) () ⟨rfl, trivial⟩ (Ex.refl _) ?_
  rintro _ ρ W hx
  repeat (first | (refine isO ?_; refine s_move ?_) | (refine isC ?_; first | refine c_sr ?_ | refine c_seq ?_))
  refine s_nil rfl ?_
  refine s_faN Tryz.underlying46 rfl ty_eReply.n rfl ?_
  refine s_ldA ty_eReply rfl (hA.ex hx) rfl ?_
  refine s_len (n := 0) (a := none) (c := 0) sl_eReply rfl ?_
  refine s_lssF rfl rfl (by omega) ?_
  repeat (first | (refine isO ?_; refine s_assign ?_) | (refine isC ?_; first | refine c_sr ?_ | refine c_iff rfl ?_ | refine c_ret ?_ | refine c_exit ?_) | (refine l_th ?_))
  exact ret1 rfl rfl ⟨rfl, hx⟩
theorem ty_eRecord : Ty1 Tryz.prog 44 := ⟨let ⟨i, h, _, hs, _⟩ := info_parts (show (Tryz.prog.info? 44).map (fun i => (i.zero, i.size, i.bytes)) = some (some (.slice none 0 0), 1, 24) by kernel_rfl); ⟨i, h, hs⟩, _, Tryz.underlying44, rfl⟩
theorem sl_eRecord : SlT Tryz.prog 44 146 := Tryz.underlying44
theorem ok_fillRecord : CallOK Tryz.prog 52 := callOK Tryz.func52 (by kernel_rfl) rfl
theorem fillRecord_ct (bk M : Nat) (vi vl : Value) (w : World) (hA : At w bk 46 (bkc M vi vl)) : Ct Tryz.prog 52 #[.pointer (some ⟨bk, 0, none⟩)] w fun u w' => u = .tuple #[] ∧ Ex w w' := by
  refine enter (N := 35) (vs := [.pointer (some ⟨bk, 0, none⟩)]) Tryz.func52 rfl rfl rfl ?_
  repeat (first | (refine isO ?_; refine s_assign ?_) | (refine isC ?_; first | refine c_sr ?_ | refine c_block ?_) | (refine l_th ?_))
  refine c_loop (γ := Unit) 34359738364 (fun _ => [(2, .int .i64 0)]) (fun _ W => Ex w W) (fun _ => 0) () ⟨rfl, trivial⟩ (Ex.refl _) ?_
  rintro _ ρ W hx
  repeat (first | (refine isO ?_; refine s_move ?_) | (refine isC ?_; first | refine c_sr ?_ | refine c_seq ?_))
  refine s_nil rfl ?_
  refine s_faN Tryz.underlying46 rfl ty_eRecord.n rfl ?_
  refine s_ldA ty_eRecord rfl (hA.ex hx) rfl ?_
  refine s_len (n := 0) (a := none) (c := 0) sl_eRecord rfl ?_
  refine s_lssF rfl rfl (by omega) ?_
  repeat (first | (refine isC ?_; first | refine c_iff rfl ?_ | refine c_exit ?_) | (first | refine l_th ?_ | refine ib_exit ?_ | refine th_exit ?_))
  exact end0 rfl ⟨rfl, hx⟩
theorem ok_growRecord : CallOK Tryz.prog 61 := callOK Tryz.func61 (by kernel_rfl) rfl
theorem growRecord_ct (bk M : Nat) (vi vl : Value) (w : World) (hA : At w bk 46 (bkc M vi vl)) : Ct Tryz.prog 61 #[.pointer (some ⟨bk, 0, none⟩)] w fun u w' => u = .tuple #[] ∧ Ex w w' := by
  refine enter (N := 42) (vs := [.pointer (some ⟨bk, 0, none⟩)]) Tryz.func61 rfl rfl rfl ?_
  repeat (first | (refine isO ?_; refine s_assign ?_) | (refine isC ?_; first | refine c_sr ?_ | refine c_block ?_) | (refine l_th ?_))
  refine c_loop (γ := Unit) 4398046511100 (fun _ => [(2, .int .i64 0)]) (fun _ W => Ex w W) (fun _ => 0) () ⟨rfl, trivial⟩ (Ex.refl _) ?_
  rintro _ ρ W hx
  repeat (first | (refine isO ?_; refine s_move ?_) | (refine isC ?_; first | refine c_sr ?_ | refine c_seq ?_))
  refine s_nil rfl ?_
  refine s_faN Tryz.underlying46 rfl ty_eRecord.n rfl ?_
  refine s_ldA ty_eRecord rfl (hA.ex hx) rfl ?_
  refine s_len (n := 0) (a := none) (c := 0) sl_eRecord rfl ?_
  refine s_lssF rfl rfl (by omega) ?_
  repeat (first | (refine isC ?_; first | refine c_iff rfl ?_ | refine c_exit ?_) | (first | refine l_th ?_ | refine ib_exit ?_ | refine th_exit ?_))
  exact end0 rfl ⟨rfl, hx⟩
theorem ok_lookRecord : CallOK Tryz.prog 70 := callOK Tryz.func70 (by kernel_rfl) rfl
theorem lookRecord_ct (bk M : Nat) (vi vl : Value) (w : World) (hA : At w bk 46 (bkc M vi vl)) : Ct Tryz.prog 70 #[.pointer (some ⟨bk, 0, none⟩)] w fun u w' => u = .bool true ∧ Ex w w' := by
  refine enter (N := 64) (vs := [.pointer (some ⟨bk, 0, none⟩)]) Tryz.func70 rfl rfl rfl ?_
  repeat (first | (refine isO ?_; refine s_assign ?_) | (refine isC ?_; first | refine c_sr ?_ | refine c_seq ?_ | refine c_block ?_) | (refine l_th ?_))
  refine c_loop (γ := Unit) 18446744073709551612 (fun _ => [(3, .int .i64 0)]) (fun _ W => Ex w W) (fun _ => 0) () ⟨rfl, trivial⟩ (Ex.refl _) ?_
  rintro _ ρ W hx
  repeat (first | (refine isO ?_; refine s_move ?_) | (refine isC ?_; first | refine c_sr ?_ | refine c_seq ?_))
  refine s_nil rfl ?_
  refine s_faN Tryz.underlying46 rfl ty_eRecord.n rfl ?_
  refine s_ldA ty_eRecord rfl (hA.ex hx) rfl ?_
  refine s_len (n := 0) (a := none) (c := 0) sl_eRecord rfl ?_
  refine s_lssF rfl rfl (by omega) ?_
  repeat (first | (refine isO ?_; refine s_assign ?_) | (refine isC ?_; first | refine c_sr ?_ | refine c_iff rfl ?_ | refine c_ret ?_ | refine c_exit ?_) | (refine l_th ?_))
  exact ret1 rfl rfl ⟨rfl, hx⟩
theorem ok_Apart : CallOK Tryz.prog 18 := callOK Tryz.func18 (by kernel_rfl) rfl
set_option maxHeartbeats 4000000 in
theorem Apart_ct (wB : World) (bk M : Nat) (ns nl : List Nat) (L : Nat → Value) (ln : Nat → Nat) (vi vl : Value) (w : World) (hB : Bk wB w bk M ns nl L vi vl) (hI : ∀ q ∈ ns, ∃ xs, Wd w 3 1 (L q) (ln q) xs) (hJ : ∀ q ∈ nl, ∃ xs, Wd w 25 1 (L q) (ln q) xs)
    (hN : ns.length ≤ 100000) (hN2 : nl.length ≤ 100000) (hq : ∀ q ∈ ns ++ nl, q ≤ 200000) (hln : ∀ q ∈ ns ++ nl, ln q ≤ 100000) (hnd : (ns ++ nl).Nodup) (hd : ∀ p ∈ ns ++ nl, ∀ q ∈ ns ++ nl, p ≠ q → ∀ b, (L p).ownBlock = some b → (L q).ownBlock ≠ some b) (hlow : ∀ q ∈ ns ++ nl, ∀ b, (L q).ownBlock = some b → b < wB.heap.size) :
    Ct Tryz.prog 18 #[.pointer (some ⟨bk, 0, none⟩)] w fun u w' => u = .bool true ∧ KtS (fun b => (∃ q ∈ ns ++ nl, (L q).ownBlock = some b) ∨ wB.heap.size ≤ b) w w' := by
  have hin : ∀ q ∈ ns, q ∈ ns ++ nl := fun q h => List.mem_append_left _ h
  have hil : ∀ q ∈ nl, q ∈ ns ++ nl := fun q h => List.mem_append_right _ h
  have hnd1 : ns.Nodup := (List.nodup_append.1 hnd).1
  have hnd2 : nl.Nodup := (List.nodup_append.1 hnd).2.1
  have hnd3 : ∀ p ∈ ns, ∀ q ∈ nl, p ≠ q := (List.nodup_append.1 hnd).2.2
  have hbkl := hB.lo
  have hvi : ∀ q ∈ ns ++ nl, ∀ b, (L q).ownBlock = some b → b ≠ bk ∧ vi.ownBlock ≠ some b ∧ vl.ownBlock ≠ some b := fun q h1 b h2 => by
    have h3 := hlow q h1 b h2
    refine ⟨by omega, fun e => ?_, fun e => ?_⟩
    · have := (hB.oi b e).1; omega
    · have := (hB.ol b e).1; omega
  have hzB := hB.ex.size
  -- the functions
  let cs : Nat → List Value := fun q => if h : q ∈ ns then Classical.choose (hI q h) else []
  have hcs : ∀ q ∈ ns, Wd w 3 1 (L q) (ln q) (cs q) := fun q h => by
    have := Classical.choose_spec (hI q h)
    have e : cs q = Classical.choose (hI q h) := dif_pos h
    rw [e]; exact this
  let cl : Nat → List Value := fun q => if h : q ∈ nl then Classical.choose (hJ q h) else []
  have hcl : ∀ q ∈ nl, Wd w 25 1 (L q) (ln q) (cl q) := fun q h => by
    have := Classical.choose_spec (hJ q h)
    have e : cl q = Classical.choose (hJ q h) := dif_pos h
    rw [e]; exact this
  have hLi : ∀ q ∈ ns, (L q).oneCell' = true := fun q h => (hcs q h).one
  have hLl : ∀ q ∈ nl, (L q).oneCell' = true := fun q h => (hcl q h).one
  clear_value cs cl
  have hdi : ∀ p ∈ ns, ∀ q ∈ ns, p ≠ q → ∀ b, (L p).ownBlock = some b → (L q).ownBlock ≠ some b := fun p h1 q h2 => hd p (hin p h1) q (hin q h2)
  have hdl : ∀ p ∈ nl, ∀ q ∈ nl, p ≠ q → ∀ b, (L p).ownBlock = some b → (L q).ownBlock ≠ some b := fun p h1 q h2 => hd p (hil p h1) q (hil q h2)
  have hG0 : ∀ q : Nat, ((fun _ : Nat => nilV) q).oneCell' = true := fun _ => rfl
  refine enter (N := 73) (vs := [.pointer (some ⟨bk, 0, none⟩)]) Tryz.func18 rfl rfl rfl ?_
  repeat (first | (refine isO ?_; first | refine s_move ?_ | refine s_assign ?_) | (refine isC ?_; refine c_sr ?_) | (refine l_th ?_))
  refine s_call ok_fillByte rfl (fillByte_ct bk M vi vl w hB.hd) ?_
  rintro v w1 ⟨rfl, hx1⟩
  have hB1 := hB.exd hx1
  repeat (first | (refine isO ?_; refine s_move ?_) | (refine isC ?_; refine c_sr ?_) | (refine l_th ?_))
  refine s_call ok_fillInt rfl (fillInt_ct bk M ns L (fun _ => nilV) ln cs vi vl w1 hB1.hd hB1.wi hN (fun q h => hq q (hin q h)) (fun q h => (hcs q h).ex hx1) (fun q h => hln q (hin q h)) hLi (fun q _ => hG0 q) hnd1 hdi (fun q h b hb => ⟨(hvi q (hin q h) b hb).1, (hvi q (hin q h) b hb).2.1⟩)) ?_
  rintro v w2 ⟨rfl, hk2, hf2⟩
  have z1 := hx1.size
  have z2 := hk2.size
  have hd2 := hB1.hd.kt hk2 (fun ⟨q, h1, h2⟩ => (hvi q (hin q h1) bk h2).1 rfl)
  have hwi2 := hB1.wi.kt hk2 (fun b hb ⟨q, h1, h2⟩ => (hvi q (hin q h1) b h2).2.1 hb)
  have hwl2 := hB1.wl.kt hk2 (fun b hb ⟨q, h1, h2⟩ => (hvi q (hin q h1) b h2).2.2 hb)
  have hcl2 : ∀ q ∈ nl, Wd w2 25 1 (L q) (ln q) (cl q) := fun q h => ((hcl q h).ex hx1).kt hk2 (fun b hb ⟨p, h1, h2⟩ => hd p (hin p h1) q (hil q h) (hnd3 p h1 q h) b h2 hb)
  repeat (first | (refine isO ?_; refine s_move ?_) | (refine isC ?_; refine c_sr ?_) | (refine l_th ?_))
  refine s_call ok_fillText rfl (fillText_ct bk M vi vl w2 hd2) ?_
  rintro v w3 ⟨rfl, hx3⟩
  have z3 := hx3.size
  repeat (first | (refine isO ?_; refine s_move ?_) | (refine isC ?_; refine c_sr ?_) | (refine l_th ?_))
  refine s_call ok_fillIntList rfl (fillIntList_ct bk M nl L (fun _ => nilV) ln cl vl vi w3 (hd2.ex hx3) (hwl2.ex hx3) hN2 (fun q h => hq q (hil q h)) (fun q h => (hcl2 q h).ex hx3) (fun q h => hln q (hil q h)) hLl (fun q _ => hG0 q) hnd2 hdl (fun q h b hb => ⟨(hvi q (hil q h) b hb).1, (hvi q (hil q h) b hb).2.2⟩)) ?_
  rintro v w4 ⟨rfl, hk4, hf4⟩
  have z4 := hk4.size
  have hd4 := (hd2.ex hx3).kt hk4 (fun ⟨q, h1, h2⟩ => (hvi q (hil q h1) bk h2).1 rfl)
  have hwi4 := (hwi2.ex hx3).kt hk4 (fun b hb ⟨q, h1, h2⟩ => (hvi q (hil q h1) b h2).2.1 hb)
  have hwl4 := (hwl2.ex hx3).kt hk4 (fun b hb ⟨q, h1, h2⟩ => (hvi q (hil q h1) b h2).2.2 hb)
  have hI4 : ∀ q ∈ ns, ∃ xs, Wd w4 3 1 (L q) (ln q) xs ∧ ∀ u ∈ xs, MKi w3.heap.size w4 q u := fun q h => by
    obtain ⟨xs, h1, h2⟩ := hf2 q h
    exact ⟨xs, (h1.ex hx3).kt hk4 (fun b hb ⟨p, h3, h4⟩ => hd q (hin q h) p (hil p h3) (hnd3 q h p h3) b hb h4), h2⟩
  repeat (first | (refine isO ?_; refine s_move ?_) | (refine isC ?_; refine c_sr ?_) | (refine l_th ?_))
  refine s_call ok_fillByteList rfl (fillByteList_ct bk M vi vl w4 hd4) ?_
  rintro v w5 ⟨rfl, hx5⟩
  repeat (first | (refine isO ?_; refine s_move ?_) | (refine isC ?_; refine c_sr ?_) | (refine l_th ?_))
  refine s_call ok_fillWhy rfl (fillWhy_ct bk M vi vl w5 (hd4.ex hx5)) ?_
  rintro v w6 ⟨rfl, hx6⟩
  have hx46 := hx5.trans hx6
  repeat (first | (refine isO ?_; refine s_move ?_) | (refine isC ?_; refine c_sr ?_) | (refine l_th ?_))
  refine s_call ok_fillFrame rfl (fillFrame_ct bk M vi vl w6 (hd4.ex hx46)) ?_
  rintro v w7 ⟨rfl, hx7⟩
  have hx47 := hx46.trans hx7
  repeat (first | (refine isO ?_; refine s_move ?_) | (refine isC ?_; refine c_sr ?_) | (refine l_th ?_))
  refine s_call ok_fillReply rfl (fillReply_ct bk M vi vl w7 (hd4.ex hx47)) ?_
  rintro v w8 ⟨rfl, hx8⟩
  have hx48 := hx47.trans hx8
  repeat (first | (refine isO ?_; refine s_move ?_) | (refine isC ?_; refine c_sr ?_) | (refine l_th ?_))
  refine s_call ok_fillRecord rfl (fillRecord_ct bk M vi vl w8 (hd4.ex hx48)) ?_
  rintro v w9 ⟨rfl, hx9⟩
  have hx49 := hx48.trans hx9
  repeat (first | (refine isO ?_; refine s_move ?_) | (refine isC ?_; refine c_sr ?_) | (refine l_th ?_))
  refine s_call ok_growByte rfl (growByte_ct bk M vi vl w9 (hd4.ex hx49)) ?_
  rintro v wa ⟨rfl, hxa⟩
  have hx4a := hx49.trans hxa
  have z4a := hx4a.size
  repeat (first | (refine isO ?_; refine s_move ?_) | (refine isC ?_; refine c_sr ?_) | (refine l_th ?_))
  refine s_call ok_growInt rfl (growInt_ct bk M w3.heap.size ns L (fun _ => nilV) ln vi vl wa (hd4.ex hx4a) (hwi4.ex hx4a) hN (fun q h => hq q (hin q h)) (fun q h => let ⟨xs, h1, h2⟩ := hI4 q h; ⟨xs, h1.ex hx4a, h2⟩) (fun q h => hln q (hin q h)) (fun q _ => hG0 q) hnd1 hdi (fun q h b hb => ⟨(hvi q (hin q h) b hb).1, (hvi q (hin q h) b hb).2.1, by have := hlow q (hin q h) b hb; omega⟩) (fun b hb => ⟨(hB.oi b hb).2.1, by have := hB.wi.lt b hb; omega⟩) (by omega)) ?_
  rintro v wb ⟨rfl, hkb, Gi, hwib, hfb⟩
  have zb := hkb.size
  have hdb := (hd4.ex hx4a).kt hkb (fun h => by
    rcases h with ⟨q, h1, h2⟩ | h
    · exact (hvi q (hin q h1) bk h2).1 rfl
    · exact (hB.oi bk h).2.1 rfl)
  have hwlb := (hwl4.ex hx4a).kt hkb (fun b hb h => by
    rcases h with ⟨q, h1, h2⟩ | h
    · exact (hvi q (hin q h1) b h2).2.2 hb
    · exact (hB.oi b h).2.2 hb)
  have hSb : ∀ b, ((∃ q ∈ ns, (L q).ownBlock = some b) ∨ vi.ownBlock = some b) → b < w3.heap.size := fun b h => by
    rcases h with ⟨q, h1, h2⟩ | h
    · have := hlow q (hin q h1) b h2; omega
    · have := hB.wi.lt b h; omega
  have hJb : ∀ q ∈ nl, ∃ xs, Wd wb 25 1 (L q) (ln q) xs ∧ ∀ u ∈ xs, MKl w3.heap.size wb q u := fun q h => by
    obtain ⟨xs, h1, h2⟩ := hf4 q h
    refine ⟨xs, (h1.ex hx4a).kt hkb (fun b hb h9 => ?_), fun u hu => MKl.kt ((h2 u hu).ex hx4a) hkb hSb⟩
    rcases h9 with ⟨p, h3, h4⟩ | h3
    · exact hd p (hin p h3) q (hil q h) (hnd3 p h3 q h) b h4 hb
    · exact (hvi q (hil q h) b hb).2.1 h3
  repeat (first | (refine isO ?_; refine s_move ?_) | (refine isC ?_; refine c_sr ?_) | (refine l_th ?_))
  refine s_call ok_growText rfl (growText_ct bk M vi vl wb hdb) ?_
  rintro v wc ⟨rfl, hxc⟩
  have zc := hxc.size
  repeat (first | (refine isO ?_; refine s_move ?_) | (refine isC ?_; refine c_sr ?_) | (refine l_th ?_))
  refine s_call ok_growIntList rfl (growIntList_ct bk M w3.heap.size nl L (fun _ => nilV) ln vl vi wc (hdb.ex hxc) (hwlb.ex hxc) hN2 (fun q h => hq q (hil q h)) (fun q h => let ⟨xs, h1, h2⟩ := hJb q h; ⟨xs, h1.ex hxc, fun u hu => (h2 u hu).ex hxc⟩) (fun q h => hln q (hil q h)) (fun q _ => hG0 q) hnd2 hdl (fun q h b hb => ⟨(hvi q (hil q h) b hb).1, (hvi q (hil q h) b hb).2.2, by have := hlow q (hil q h) b hb; omega⟩) (fun b hb => ⟨(hB.ol b hb).2, by have := hB.wl.lt b hb; omega⟩) (by omega)) ?_
  rintro v wd ⟨rfl, hkd, Gl, hwld, hfd⟩
  have zd := hkd.size
  have hdd := (hdb.ex hxc).kt hkd (fun h => by
    rcases h with ⟨q, h1, h2⟩ | h
    · exact (hvi q (hil q h1) bk h2).1 rfl
    · exact (hB.ol bk h).2 rfl)
  have hwid := (hwib.ex hxc).kt hkd (fun b hb h => by
    rcases h with ⟨q, h1, h2⟩ | h
    · exact (hvi q (hil q h1) b h2).2.1 hb
    · exact (hB.oi b hb).2.2 h)
  have hSd : ∀ b, ((∃ q ∈ nl, (L q).ownBlock = some b) ∨ vl.ownBlock = some b) → b < w3.heap.size := fun b h => by
    rcases h with ⟨q, h1, h2⟩ | h
    · have := hlow q (hil q h1) b h2; omega
    · have := hB.wl.lt b h; omega
  have hId : ∀ q ∈ ns, (∃ xs, Wd wd 3 1 (L q) (ln q) xs ∧ ∀ u ∈ xs, MKi w3.heap.size wd q u) ∧ ∃ ys, Wd wd 3 1 (Gi q) (ln q + 40) ys ∧ ∀ u ∈ ys, MKi w3.heap.size wd q u := fun q h => by
    obtain ⟨⟨xs, h1, h2⟩, ⟨ys, h3, h4⟩, h5⟩ := hfb q h
    refine ⟨⟨xs, (h1.ex hxc).kt hkd (fun b hb h9 => ?_), h2⟩, ys, (h3.ex hxc).kt hkd (fun b hb h9 => ?_), h4⟩
    · rcases h9 with ⟨p, h6, h7⟩ | h6
      · exact hd q (hin q h) p (hil p h6) (hnd3 q h p h6) b hb h7
      · exact (hvi q (hin q h) b hb).2.2 h6
    · rcases h5 b hb with h8 | h8
      · rcases h9 with ⟨p, h6, h7⟩ | h6
        · exact hd q (hin q h) p (hil p h6) (hnd3 q h p h6) b h8 h7
        · exact (hvi q (hin q h) b h8).2.2 h6
      · have := hSd b h9; omega
  repeat (first | (refine isO ?_; refine s_move ?_) | (refine isC ?_; refine c_sr ?_) | (refine l_th ?_))
  refine s_call ok_growByteList rfl (growByteList_ct bk M vi vl wd hdd) ?_
  rintro v we ⟨rfl, hxe⟩
  repeat (first | (refine isO ?_; refine s_move ?_) | (refine isC ?_; refine c_sr ?_) | (refine l_th ?_))
  refine s_call ok_growWhy rfl (growWhy_ct bk M vi vl we (hdd.ex hxe)) ?_
  rintro v wf ⟨rfl, hxf⟩
  have hxdf := hxe.trans hxf
  repeat (first | (refine isO ?_; refine s_move ?_) | (refine isC ?_; refine c_sr ?_) | (refine l_th ?_))
  refine s_call ok_growFrame rfl (growFrame_ct bk M vi vl wf (hdd.ex hxdf)) ?_
  rintro v wg ⟨rfl, hxg⟩
  have hxdg := hxdf.trans hxg
  repeat (first | (refine isO ?_; refine s_move ?_) | (refine isC ?_; refine c_sr ?_) | (refine l_th ?_))
  refine s_call ok_growReply rfl (growReply_ct bk M vi vl wg (hdd.ex hxdg)) ?_
  rintro v wh ⟨rfl, hxh⟩
  have hxdh := hxdg.trans hxh
  repeat (first | (refine isO ?_; refine s_move ?_) | (refine isC ?_; refine c_sr ?_) | (refine l_th ?_))
  refine s_call ok_growRecord rfl (growRecord_ct bk M vi vl wh (hdd.ex hxdh)) ?_
  rintro v wi ⟨rfl, hxi⟩
  have hxdi := hxdh.trans hxi
  repeat (first | (refine isO ?_; refine s_move ?_) | (refine isC ?_; refine c_sr ?_) | (refine l_th ?_))
  refine s_call ok_lookByte rfl (lookByte_ct bk M vi vl wi (hdd.ex hxdi)) ?_
  rintro v wj ⟨rfl, hxj⟩
  have hxdj := hxdi.trans hxj
  repeat ((refine isO ?_; first | refine s_move ?_ | (refine isG ?_; refine g_yes rfl rfl ?_)))
  refine s_call ok_lookInt rfl (lookInt_ct bk M w3.heap.size ns L Gi ln vi vl wj (hdd.ex hxdj) (hwid.ex hxdj) hN (fun q h => hq q (hin q h)) (fun q h => let ⟨⟨xs, h1, h2⟩, ys, h3, h4⟩ := hId q h; ⟨⟨xs, h1.ex hxdj, h2⟩, ys, h3.ex hxdj, h4⟩) (fun q h => hln q (hin q h))) ?_
  rintro v wk ⟨rfl, hxk⟩
  have hxdk := hxdj.trans hxk
  repeat ((refine isO ?_; first | refine s_move ?_ | (refine isG ?_; refine g_yes rfl rfl ?_) | (refine isPick ?_; refine s_pickt rfl rfl ?_)))
  refine s_call ok_lookText rfl (lookText_ct bk M vi vl wk (hdd.ex hxdk)) ?_
  rintro v wl ⟨rfl, hxl⟩
  have hxdl := hxdk.trans hxl
  repeat ((refine isO ?_; first | refine s_move ?_ | (refine isG ?_; refine g_yes rfl rfl ?_) | (refine isPick ?_; refine s_pickt rfl rfl ?_)))
  refine s_call ok_lookIntList rfl (lookIntList_ct bk M w3.heap.size nl L Gl ln vl vi wl (hdd.ex hxdl) (hwld.ex hxdl) hN2 (fun q h => hq q (hil q h)) (fun q h => let ⟨⟨xs, h1, h2⟩, ⟨ys, h3, h4⟩, _⟩ := hfd q h; ⟨⟨xs, h1.ex hxdl, fun u hu => (h2 u hu).ex hxdl⟩, ys, h3.ex hxdl, fun u hu => (h4 u hu).ex hxdl⟩) (fun q h => hln q (hil q h))) ?_
  rintro v wm ⟨rfl, hxm⟩
  have hxdm := hxdl.trans hxm
  repeat ((refine isO ?_; first | refine s_move ?_ | (refine isG ?_; refine g_yes rfl rfl ?_) | (refine isPick ?_; refine s_pickt rfl rfl ?_)))
  refine s_call ok_lookByteList rfl (lookByteList_ct bk M vi vl wm (hdd.ex hxdm)) ?_
  rintro v wn ⟨rfl, hxn⟩
  have hxdn := hxdm.trans hxn
  repeat ((refine isO ?_; first | refine s_move ?_ | (refine isG ?_; refine g_yes rfl rfl ?_) | (refine isPick ?_; refine s_pickt rfl rfl ?_)))
  refine s_call ok_lookWhy rfl (lookWhy_ct bk M vi vl wn (hdd.ex hxdn)) ?_
  rintro v wo ⟨rfl, hxo⟩
  have hxdo := hxdn.trans hxo
  repeat ((refine isO ?_; first | refine s_move ?_ | (refine isG ?_; refine g_yes rfl rfl ?_) | (refine isPick ?_; refine s_pickt rfl rfl ?_)))
  refine s_call ok_lookFrame rfl (lookFrame_ct bk M vi vl wo (hdd.ex hxdo)) ?_
  rintro v wp ⟨rfl, hxp⟩
  have hxdp := hxdo.trans hxp
  repeat ((refine isO ?_; first | refine s_move ?_ | (refine isG ?_; refine g_yes rfl rfl ?_) | (refine isPick ?_; refine s_pickt rfl rfl ?_)))
  refine s_call ok_lookReply rfl (lookReply_ct bk M vi vl wp (hdd.ex hxdp)) ?_
  rintro v wq ⟨rfl, hxq⟩
  have hxdq := hxdp.trans hxq
  repeat ((refine isO ?_; first | refine s_move ?_ | (refine isG ?_; refine g_yes rfl rfl ?_) | (refine isPick ?_; refine s_pickt rfl rfl ?_)))
  refine s_call ok_lookRecord rfl (lookRecord_ct bk M vi vl wq (hdd.ex hxdq)) ?_
  rintro v wr ⟨rfl, hxr⟩
  have hxdr := hxdq.trans hxr
  repeat (first | (refine isO ?_; first | refine s_assign ?_ | (refine isPick ?_; refine s_pickt rfl rfl ?_)) | (refine isC ?_; refine c_ret ?_) | (refine l_th ?_))
  refine ret1 rfl rfl ⟨rfl, ?_⟩
  have t1 : KtS (fun b => (∃ q ∈ ns ++ nl, (L q).ownBlock = some b) ∨ wB.heap.size ≤ b) w w2 := (KtS.of_ex hx1).trans (hk2.mono (fun b ⟨q, h1, h2⟩ => .inl ⟨q, hin q h1, h2⟩))
  have t2 : KtS (fun b => (∃ q ∈ ns ++ nl, (L q).ownBlock = some b) ∨ wB.heap.size ≤ b) w2 w4 := (KtS.of_ex hx3).trans (hk4.mono (fun b ⟨q, h1, h2⟩ => .inl ⟨q, hil q h1, h2⟩))
  have t3 : KtS (fun b => (∃ q ∈ ns ++ nl, (L q).ownBlock = some b) ∨ wB.heap.size ≤ b) w4 wb := (KtS.of_ex hx4a).trans (hkb.mono (fun b h => by
    rcases h with ⟨q, h1, h2⟩ | h
    · exact .inl ⟨q, hin q h1, h2⟩
    · exact .inr (hB.oi b h).1))
  have t4 : KtS (fun b => (∃ q ∈ ns ++ nl, (L q).ownBlock = some b) ∨ wB.heap.size ≤ b) wb wd := (KtS.of_ex hxc).trans (hkd.mono (fun b h => by
    rcases h with ⟨q, h1, h2⟩ | h
    · exact .inl ⟨q, hil q h1, h2⟩
    · exact .inr (hB.ol b h).1))
  exact (((t1.trans t2).trans t3).trans t4).trans (KtS.of_ex hxdr)
end Go.Proofs.YtifbgpkjbciblaaGreatDoor.Sal
end
section
/- What the laws that ask the document's answer have in common: sizes, memory of one's own. -/
set_option maxRecDepth 100000
namespace Go.Proofs.YtifbgpkjbciblaaGreatDoor.Sal
open Go.RowKit
set_option linter.all false
/-- A list, lists, that lie in memory that was laid since some world. -/
def OwI (w0 w : World) (v : Value) (l : List Int) : Prop := Wd w 3 1 v l.length (l.map (Value.int .i64)) ∧ ∀ b, v.ownBlock = some b → w0.heap.size ≤ b
structure OwL (w0 w : World) (v : Value) (us : List Value) (A : List (List Int)) : Prop where
  len : us.length = A.length
  out : Wd w 25 1 v A.length us
  row : ∀ (j : Nat) (u : Value), us[j]? = some u → Wd w 3 1 u (A.getD j []).length ((A.getD j []).map (Value.int .i64)) ∧ (∃ a k c, u = .slice a k c)
  low : ∀ (j : Nat) (u : Value) (b : Nat), us[j]? = some u → u.ownBlock = some b → w0.heap.size ≤ b ∧ v.ownBlock ≠ some b
  dis : ∀ (i j : Nat) (u x : Value) (b : Nat), us[i]? = some u → us[j]? = some x → i ≠ j → u.ownBlock = some b → x.ownBlock ≠ some b
  lov : ∀ b, v.ownBlock = some b → w0.heap.size ≤ b
theorem OwI.ex {w0 w w' : World} {v : Value} {l : List Int} (h : OwI w0 w v l) (hx : Ex w w') : OwI w0 w' v l := ⟨h.1.ex hx, h.2⟩
theorem OwL.ex {w0 w w' : World} {v : Value} {us : List Value} {A : List (List Int)} (h : OwL w0 w v us A) (hx : Ex w w') : OwL w0 w' v us A := ⟨h.len, h.out.ex hx, fun j u hu => ⟨(h.row j u hu).1.ex hx, (h.row j u hu).2⟩, h.low, h.dis, h.lov⟩
theorem OwI.nil (w0 w : World) : OwI w0 w (.slice none 0 0) [] := ⟨Wd.nil _ _ _, fun b h => by cases h⟩
theorem OwL.nil (w0 w : World) : OwL w0 w (.slice none 0 0) [] [] := ⟨rfl, Wd.nil _ _ _, fun j u h => by simp at h, fun j u b h => by simp at h, fun i j u x b h => by simp at h, fun b h => by cases h⟩
theorem TwI.ow {w0 w : World} {b c : Nat} {l : List Int} (h : TwI w b c l) (hb : w0.heap.size ≤ b) : OwI w0 w (sv b l.length c) l := ⟨h.wd, fun b' e => by cases e; exact hb⟩
theorem TwL.ow {w0 w : World} {b c : Nat} {rb rc : Nat → Nat} {g : List (List Int)} (h : TwL w b c rb rc g) (hb : w0.heap.size ≤ b) (hr : ∀ i, i < g.length → w0.heap.size ≤ rb i) : OwL w0 w (sv b g.length c) ((List.range g.length).map (fun i => sv (rb i) (g.getD i []).length (rc i))) g := by
  have hw := h.wd
  obtain ⟨_, _, _, _, h7, h8⟩ := h
  have key : ∀ j u, ((List.range g.length).map (fun i => sv (rb i) (g.getD i []).length (rc i)))[j]? = some u → j < g.length ∧ u = sv (rb j) (g.getD j []).length (rc j) := fun j u hu => by
    have hj := (List.getElem?_eq_some_iff.1 hu).1
    simp only [List.length_map, List.length_range] at hj
    simp only [List.getElem?_map, List.getElem?_range hj, Option.map_some, Option.some.injEq] at hu
    exact ⟨hj, hu.symm⟩
  refine ⟨by simp, hw, fun j u hu => ?_, fun j u b' hu e => ?_, fun i j u x b' hu hx hij e e2 => ?_, fun b' e => by cases e; exact hb⟩
  · obtain ⟨hj, rfl⟩ := key j u hu
    exact ⟨(h7 j hj).1.wd, _, _, _, rfl⟩
  · obtain ⟨hj, rfl⟩ := key j u hu
    cases e
    exact ⟨hr j hj, fun e => (h7 j hj).2 (by cases e; rfl)⟩
  · obtain ⟨hi, rfl⟩ := key i u hu
    obtain ⟨hj, rfl⟩ := key j x hx
    have e3 : rb i = b' := by cases e; rfl
    have e4 : rb j = b' := by cases e2; rfl
    rcases Nat.lt_or_ge i j with h9 | h9
    · have := h8 i j h9 hj; omega
    · have := h8 j i (by omega) hi; omega
attribute [local irreducible] Go.Code.wpIn Go.wpListIn Ct Ints Rows Sl At Rw WJ
attribute [local irreducible] Wd
theorem IntListsSizeV_ct (v : Value) (g : List (List Int)) (w : World) (hg : Rows w v g) : Ct Tryz.prog 6 #[v] w fun u w' => (∃ n : Int, u = .int .i64 n ∧ 0 ≤ n ∧ n ≤ 600000000000000 ∧ (n ≤ 3000 → g.length ≤ 3000 ∧ ∀ i, i < g.length → (g.getD i []).length ≤ 3000)) ∧ Ex w w' := by
  have hlen := hg.len
  refine enter (N := 25) (vs := [v]) Tryz.func6 rfl rfl rfl ?_
  repeat (first | (refine isO ?_; first | refine s_move ?_ | refine s_assign ?_ | (refine isCall ?_; refine s_lenR sl_rows rfl (by assumption) ?_)) | (refine isC ?_; first | refine c_sr ?_ | refine c_seq ?_ | refine c_block ?_) | (refine l_th ?_))
  refine c_loop2 16777112 (fun (i : Nat) (q : Int) => [(4, .int .i64 (i : Int)), (3, .int .i64 q)]) (fun i q w' => i ≤ g.length ∧ (0 ≤ q ∧ q ≤ 300000000000000 ∧ (g.length : Int) ≤ q ∧ ∀ j, j < i → ((g.getD j []).length : Int) ≤ q) ∧ Ex w w') (fun i _ => g.length - i) 0 (g.length : Int) ⟨rfl, rfl, trivial⟩ ⟨Nat.zero_le _, ⟨by omega, by omega, Int.le_refl _, fun j h => by omega⟩, Ex.refl _⟩ ?_
  rintro i q ρ w1 ⟨hi, ⟨hq1, hq2, hq3, hq4⟩, hx1⟩
  have hg1 := hg.ex hx1
  by_cases h1 : (i : Int) < (g.length : Int)
  · by_cases h2 : q ≤ 1048576
    · have hi' : i < g.length := by omega
      have hrl := hg.rowlen i
      repeat (first | (refine isO ?_; first | refine s_move ?_ | (refine isG ?_; refine g_yes rfl rfl ?_) | (refine isBin ?_; first | refine s_lssT rfl rfl (by omega) ?_ | refine s_leqT rfl rfl (by omega) ?_) | (refine isCall ?_; refine s_lenR sl_rows rfl (by assumption) ?_) | (refine isPick ?_; refine s_pickt rfl rfl ?_)) | (refine isC ?_; first | refine c_sr ?_ | refine c_th ?_ | refine c_seq ?_ | refine c_region ?_ | refine c_ift rfl ?_ | refine c_block ?_) | (refine l_th ?_))
      refine s_ixR sl_rows ty_ints rfl rfl rfl hg1 hi' ?_
      intro _ u hu
      refine s_call ok_IntsSize rfl (IntsSize_ct u _ w1 hu) ?_
      rintro x w2 ⟨rfl, hx2⟩
      repeat (first | (refine isO ?_; first | refine s_move ?_ | refine s_assign ?_ | (refine isBin ?_; first | refine s_inc rfl (by omega) ?_ | refine s_add rfl rfl ⟨by omega, by omega⟩ ?_)) | (refine isC ?_; refine c_region ?_) | (first | refine l_th ?_ | refine l_nil ?_))
      refine loop_end2 (i + 1) _ (by (repeat (first | exact agree_refl _ _ | refine agree_upd rfl ?_ | refine agree_ext rfl ?_ | refine agree_mask rfl ?_))) ⟨rfl, rfl, trivial⟩ ⟨hi', ⟨by omega, by omega, by omega, fun j hj => ?_⟩, hx1.trans hx2⟩ (by omega)
      by_cases e : j = i
      · subst e; omega
      · have := hq4 j (by omega); omega
    · repeat (first | (refine isO ?_; first | refine s_move ?_ | refine s_assign ?_ | (refine isG ?_; refine g_yes rfl rfl ?_) | (refine isBin ?_; first | refine s_lssT rfl rfl (by omega) ?_ | refine s_leqF rfl rfl (by omega) ?_) | (refine isCall ?_; refine s_lenR sl_rows rfl (by assumption) ?_) | (refine isPick ?_; refine s_pickt rfl rfl ?_)) | (refine isC ?_; first | refine c_sr ?_ | refine c_seq ?_ | refine c_iff rfl ?_ | refine c_ret ?_ | refine c_exit ?_) | (refine l_th ?_))
      exact ret1 rfl rfl ⟨⟨_, rfl, hq1, by omega, fun h => by omega⟩, hx1⟩
  · repeat (first | (refine isO ?_; first | refine s_move ?_ | refine s_assign ?_ | (refine isG ?_; refine g_no rfl rfl rfl ?_) | (refine isBin ?_; refine s_lssF rfl rfl (by omega) ?_) | (refine isCall ?_; refine s_lenR sl_rows rfl (by assumption) ?_) | (refine isPick ?_; refine s_pickf rfl rfl ?_)) | (refine isC ?_; first | refine c_sr ?_ | refine c_seq ?_ | refine c_iff rfl ?_ | refine c_ret ?_ | refine c_exit ?_) | (refine l_th ?_))
    refine ret1 rfl rfl ⟨⟨_, rfl, hq1, by omega, fun h => ⟨by omega, fun j hj => ?_⟩⟩, hx1⟩
    have := hq4 j (by omega); omega
end Go.Proofs.YtifbgpkjbciblaaGreatDoor.Sal
end
