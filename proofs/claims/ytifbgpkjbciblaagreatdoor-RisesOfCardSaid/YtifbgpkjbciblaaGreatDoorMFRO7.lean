/- Texts that YtifbgpkjbciblaaGreatDoorFRO leans on, laid together: Core18 V6 V7 V8 V9 V10 V11 V12. -/
import Derived.Test.YtifbgpkjbciblaaGreatDoorMFRO6
section
/- Core18: slices of structs; a struct read out of the middle of a block. -/
set_option maxRecDepth 100000
namespace Go.Proofs.YtifbgpkjbciblaaGreatDoor.Sal
set_option linter.all false
open Go.RowKit
def SzN (P : Program) (E : TypeId) (s : Nat) : Prop := ∃ i, P.info? E = some i ∧ i.size = s
theorem run_sizeOfS {P : Program} {E : TypeId} {s : Nat} (h : SzN P E s) (w : World) : (sizeOf E).run P w = .ok s w := by
  obtain ⟨i, hi, hs⟩ := h
  simp [sizeOf, typeInfo, hi, hs]
/-- What a type of a slice's elements is. -/
structure InfoW (P : Program) (E : TypeId) (s : Nat) (z : Value) (B : Nat) : Prop where
  ex : ∃ ti, P.info? E = some ti ∧ ti.zero = some z ∧ ti.size = s ∧ ti.bytes ≤ B
  cs : z.cells.size = s
section ops
variable {r : Option Nat} {P : Program} {ops : Array Oper} {Q : Exit → Act → World → Prop} {N : Nat} {σ : Nat → Value} {ds : List Deferred} {w : World} {rest : List Oper}
variable {d d1 d2 : Nat} {ty ty2 : TypeId} {pos pos2 : String} {after after2 : Array Edge} {T E T' : TypeId} {x i y : Operand}
theorem s_bsV3 {a b c z0 z1 z2 : Value} {op1 : Operand} {B : Nat} (hT : SlT P T E) (hi : InfoW P E 3 (.agg #[z0, z1, z2]) B) (h1 : ev N σ op1 = .agg #[a, b, c])
    (h : ∀ bb w', bb = w.heap.size → At w' bb E [a, b, c] → Ex w w' → w'.heap.size = bb + 1 → WL r P ops Q rest (mk N (upd σ d (.slice (some ⟨bb, 0, none⟩) 1 1)) ds) w') :
    WL r P ops Q (⟨some d, .buildSlice T 1 #[(0, op1)], ty, pos, after, none⟩ :: rest) (mk N σ ds) w := by
  obtain ⟨ti, h1i, h2i, h3i, h4i⟩ := hi.ex
  have hT' : P.underlying T = some (.slice E) := hT
  have hc1 : (Value.agg #[a, b, c]).cells = #[a, b, c] := rfl
  have hc2 : (Value.agg #[z0, z1, z2]).cells = #[z0, z1, z2] := rfl
  refine l_val (v := .slice (some ⟨w.heap.size, 0, none⟩) 1 1) (w' := w.alloc (.cells [a, b, c].toArray E)) (by intro c e; cases e) ?_ (h _ _ rfl (at_new w _ E) (Ex.alloc w _) (size_new w _))
  simp [execOp, Instr.buildSlice, run_underlying hT', sizeOf, typeInfo, h1i, h2i, h3i, zeroValue, Instr.fill, h1, hc1, hc2, newRow, Array.range_succ, Array.range_zero', Array.zipIdx]
theorem s_appW {z v xv : Value} {n m s B : Nat} {xs news : List Value} (hT : SlT P T E) (hi : InfoW P E s z B) (hs : 0 < s) (hR : Wd w E s v n xs) (hx : ∃ b c, xv = .slice (some ⟨b, 0, none⟩) m c ∧ ∃ sp, At w b E (news ++ sp)) (hl : news.length = m * s) (hm0 : 0 < m) (h1 : ∀ u ∈ news, u.oneCell' = true) (hm : n + m ≤ 140737488355328) (hbytes : (n + m) * B ≤ 140737488355328)
    (hv : ev N σ x = v) (hxv : ev N σ y = xv)
    (h : ∀ v' w', Wd w' E s v' (n + m) (xs ++ news) → w.grownBy w' v.ownBlock → ((∃ a c, v = .slice a n c ∧ v' = .slice a (n + m) c) ∨ ((∀ b, v'.ownBlock = some b → w.heap.size ≤ b) ∧ Ex w w')) → WL r P ops Q rest (mk N (upd σ d v') ds) w') :
    WL r P ops Q (⟨some d, .call { callee := .builtin .append, args := #[x, y], argTypes := #[T, T] }, ty, pos, after, none⟩ :: rest) (mk N σ ds) w := by
  obtain ⟨ti, h1i, h2i, h3i, h4i⟩ := hi.ex
  obtain ⟨v', w', hr, a1, a2, a3⟩ := run_appW (ty := ty) hT h1i h2i h3i hi.cs hs hR hx hl hm0 h1 hm (Nat.le_trans (Nat.mul_le_mul_left _ h4i) hbytes)
  refine l_val (by intro c e; cases e) ?_ (h v' w' a1 a2 a3)
  simp [execOp, resolve, invoke, builtin, hv, hxv, hr, Result.andThen]
theorem s_iaW {b len c s : Nat} {k : IntKind} {n : Nat} (hT : SlT P T E) (hE : SzN P E s) (hx : ev N σ x = .slice (some ⟨b, 0, none⟩) len c) (hi : ev N σ i = .int k (n : Int)) (hn : n < len)
    (h : WL r P ops Q rest (mk N (upd σ d (.pointer (some ⟨b, n * s, none⟩))) ds) w) : WL r P ops Q (⟨some d, .indexAddr T x i, ty, pos, after, none⟩ :: rest) (mk N σ ds) w := by
  refine l_val (v := .pointer (some ⟨b, n * s, none⟩)) (by intro c e; cases e) ?_ h
  have hT' : P.underlying T = some (.slice E) := hT
  simp [execOp, hx, hi, Instr.indexAt, asIntOf, run_underlying hT', hn, run_sizeOfS hE, go_sem, add_at]
theorem s_ldM {b o : Nat} {B : TypeId} {cs all : List Value} {dd : TypeDesc} (hu : P.underlying E = some dd) (hd : dd.isRow = true) (hsz : (P.info? E).map (·.size) = some cs.length)
    (hx : ev N σ x = .pointer (some ⟨b, o, none⟩)) (hA : At w b B all) (hc : ∀ j v, cs[j]? = some v → all[o + j]? = some v) (h : WL r P ops Q rest (mk N (upd σ d (.agg cs.toArray)) ds) w) :
    WL r P ops Q (⟨some d, .load E x, ty, pos, after, none⟩ :: rest) (mk N σ ds) w :=
  l_val (by intro c e; cases e) (by
    simp [execOp, hx, Instr.loadAt, Instr.sureAddr, run_loadVar_mid (P := P) w b o E cs dd (fun j v hj => by rw [hA.cell]; exact hc j v hj) hu hd hsz]) h
theorem s_bldW {parts : List (Nat × Operand)} {cells : List Value} (h : P.built T (parts.map fun p => (p.1, ev N σ p.2)) = some cells.toArray) (hK : WL r P ops Q rest (mk N (upd σ d (.agg cells.toArray)) ds) w) :
    WL r P ops Q (⟨some d, .build T parts.toArray, ty, pos, after, none⟩ :: rest) (mk N σ ds) w :=
  l_val (by intro c e; cases e) (by
    have := run_build (P := P) w T (parts.map fun p => (p.1, ev N σ p.2)).toArray cells.toArray h
    simp [execOp, this]) hK
theorem s_neg {k : IntKind} {a : Int} {t : TypeId} (hx : ev N σ x = .int k a) (h : WL r P ops Q rest (mk N (upd σ d (.int k (k.wrap (-a)))) ds) w) : WL r P ops Q (⟨some d, .unOp .neg t x, ty, pos, after, none⟩ :: rest) (mk N σ ds) w :=
  l_val (by intro c e; cases e) (by simp [execOp, hx, go_sem]) h
theorem s_cap {a : Option Addr} {n c : Nat} (hT : SlT P T E) (hx : ev N σ x = .slice a n c) (h : WL r P ops Q rest (mk N (upd σ d (.int .i64 (c : Int))) ds) w) :
    WL r P ops Q (⟨some d, .call { callee := .builtin .cap, args := #[x], argTypes := #[T] }, ty, pos, after, none⟩ :: rest) (mk N σ ds) w := by
  have hT' : P.underlying T = some (.slice E) := hT
  exact l_val (by intro c e; cases e) (by simp [execOp, resolve, invoke, builtin, hx, go_sem, Result.andThen, Builtin.cap_, run_underlying hT', Sem.run_bind]) h
end ops
end Go.Proofs.YtifbgpkjbciblaaGreatDoor.Sal
end
section
/- rises.at. -/
set_option maxRecDepth 100000
namespace Go.Proofs.YtifbgpkjbciblaaGreatDoor.Sal
open Go.RowKit
/-- A state in memory. -/
structure St (w : World) (s : Nat) (rv bv ov pcv wv mv : Value) (res : List Int) (bids : List (List Int)) (ord prices : List Int) (must : List Int) (g : List (List Int)) : Prop where
  at' : At w s 161 [rv, bv, ov, pcv, wv, mv]
  mkt : Mk w rv bv ov res bids ord
  pr : Ints w pcv prices
  wa : Rows w wv g
  mu : Ints w mv must
theorem St.ex {w w' : World} {s : Nat} {rv bv ov pcv wv mv : Value} {res : List Int} {bids : List (List Int)} {ord prices must : List Int} {g : List (List Int)} (h : St w s rv bv ov pcv wv mv res bids ord prices must g) (hx : Ex w w') : St w' s rv bv ov pcv wv mv res bids ord prices must g :=
  ⟨h.at'.ex hx, h.mkt.ex hx, h.pr.ex hx, h.wa.ex hx, h.mu.ex hx⟩
theorem lenB_or {bids : List (List Int)} {res : List Int} (h : ∀ i, i < bids.length → badBid res.length (bids.getD i []) = false) {i : Nat} (hi : i < bids.length) : lenB bids i = 0 ∨ lenB bids i = res.length := by
  rcases len_bid (h i hi) with h1 | h1
  · exact .inl h1
  · exact .inr (by unfold lenB; omega)
attribute [local irreducible] Go.Code.wpIn Go.wpListIn Ct Ints Rows Sl At Rw WJ
set_option linter.all false
theorem ok_at : CallOK Tryz.prog 81 := callOK Tryz.func81 (by kernel_rfl) rfl
theorem built_st (rv bv ov : Value) (a : Option Addr) (n c : Nat) : Tryz.prog.built 161 [(0, .agg #[rv, bv, ov]), (1, .slice a n c)] = some [rv, bv, ov, .slice a n c, .slice none 0 0, .slice none 0 0].toArray := by kernel_rfl
set_option maxHeartbeats 4000000 in
theorem at_ct (rv bv ov pv : Value) (res : List Int) (bids : List (List Int)) (ord prices : List Int) (w : World) (hM : Mk w rv bv ov res bids ord) (hp : Ints w pv prices) (hck : chkM res bids ord = true) (hm : mayD prices res.length = true) :
    Ct Tryz.prog 81 #[.agg #[rv, bv, ov], pv] w fun u w' => ∃ s pcv wv mv, u = .pointer (some ⟨s, 0, none⟩) ∧ St w' s rv bv ov pcv wv mv res bids ord prices (rowL bids.length (mustB bids prices)) (gL (RD bids prices) bids.length res.length) ∧ Ex w w' := by
  obtain ⟨hc1, hc2, hc3, hc4, hc5⟩ := chk_parts hck
  have hlp := len_pr hm
  obtain ⟨hl1, hl2, hl3⟩ := hlp
  obtain ⟨n, hn⟩ : ∃ n, n = bids.length := ⟨_, rfl⟩
  refine enter (N := 50) (vs := [.agg #[rv, bv, ov], pv]) Tryz.func81 rfl rfl rfl ?_
  repeat ((refine isC ?_; refine c_sr ?_))
  refine s_box (cs := [rv, bv, ov]) rfl rfl ?_
  intro b0 w0 hb0 hZ hx0 hs0
  have hM0 := hM.ex hx0
  have hp0 := hp.ex hx0
  repeat (first | (refine isO ?_; refine s_assign ?_) | (refine isC ?_; refine c_seq ?_) | (refine l_th ?_))
  refine c_drawO (Ex.refl w0) 0 6 [(0, true), (1, true), (2, false), (3, false), (4, false), (5, true)] mixed (by kernel_rfl) ?_
  have hxd := Ex.drew w0
  refine d_ldV rfl Tryz.underlying54 rfl (by kernel_rfl) rfl hZ ?_
  refine d_move rfl ?_
  refine d_ch rfl ?_
  refine s_call ok_Clone rfl (Clone_ct pv prices w0.drew (hp0.ex hxd) (by omega)) ?_
  rintro pcv w1 ⟨hL1, hx1⟩
  obtain ⟨pa, pc, hpc⟩ := hL1.1.slen
  rw [List.length_map] at hpc
  subst hpc
  have hpl := hL1.1.lt
  have hI1 : Ints w1 (.slice pa prices.length pc) prices := hL1.1.ints (by omega)
  refine l_nil ⟨rfl, .inr (hxd.trans hx1), ?_⟩
  refine d_ch rfl ?_
  refine s_bldW (cells := [rv, bv, ov, .slice pa prices.length pc, .slice none 0 0, .slice none 0 0]) (built_st rv bv ov pa _ pc) ?_
  refine l_nil ⟨rfl, .inr (hxd.trans hx1), ?_⟩
  refine d_ch rfl ?_
  refine s_box (cs := [rv, bv, ov, .slice pa prices.length pc, .slice none 0 0, .slice none 0 0]) rfl rfl ?_
  intro s w2 hs' hA2 hx2 hs2
  have hx02 := (hxd.trans hx1).trans hx2
  refine l_nil ⟨rfl, .inr hx02, ?_⟩
  refine d_assign rfl ?_
  refine d_nil ?_
  have hZ2 := hZ.ex hx02
  have hM2 := hM0.ex hx02
  have hp2 := hp0.ex hx02
  repeat ((refine isC ?_; refine c_sr ?_))
  refine s_ldV Tryz.underlying54 rfl (by kernel_rfl) rfl hZ2 ?_
  repeat ((refine isO ?_; refine s_move ?_))
  refine s_call ok_dAll rfl (dAll_ct rv bv ov pv res bids ord prices w2 hM2 hp2 hck hm) ?_
  rintro u w3 ⟨b1, b2, vs, rfl, hb1, hb2, hne, hA1, hA2', hvs, hx3⟩
  have hx23 := hx02.trans hx3
  have hAs := hA2.ex hx3
  have hIp := hI1.ex (hx2.trans hx3)
  have z0 := hx0.size
  have zd := hxd.size
  have z1 := hx1.size
  have z2 := hx2.size
  have z3 := hx3.size
  have l1 := hA1.lt
  have l2 := hA2'.lt
  rw [← hn] at hA1 hA2' hvs ⊢
  have hsl := hA2.lt
  repeat (first | (refine isO ?_; first | refine s_move ?_ | refine s_assign ?_ | (refine isCall ?_; refine s_len sl_rows rfl ?_) | refine s_extract rfl rfl ?_) | (refine isC ?_; first | refine c_sr ?_ | refine c_seq ?_ | refine c_block ?_) | (refine l_th ?_))
  refine c_loop (γ := Nat) 35184355312128 (fun k => [(24, .int .i64 (k : Int))]) (fun k W => k ≤ n ∧ (∃ us, At W b1 25 ((List.range n).map us) ∧ ∀ j, j < n → Ints W (us j) (if j < k ∧ dG bids prices j = 0 then [] else dI bids prices j) ∧ ∀ b, (us j).ownBlock = some b → w2.heap.size ≤ b ∧ b ≠ b1 ∧ b < w3.heap.size) ∧ At W b2 4 ((List.range n).map fun j => .bool (decide (dG bids prices j = 0))) ∧ (∃ mv, At W s 161 [rv, bv, ov, .slice pa prices.length pc, .slice none 0 0, mv] ∧ Rw W 3 mv ((rowL k (mustB bids prices)).map (Value.int .i64)) ∧ ∀ b, mv.ownBlock = some b → w3.heap.size ≤ b) ∧ Ints W (.slice pa prices.length pc) prices ∧ Ex w W ∧ w3.heap.size ≤ W.heap.size) (fun k => n - k) 0 ⟨rfl, trivial⟩
    ⟨Nat.zero_le _, ⟨vs, hA1, fun j hj => ⟨by rw [if_neg (by omega)]; exact (hvs j hj).1, (hvs j hj).2⟩⟩, hA2', ⟨_, hAs, Rw.nil _ _, fun b h => by cases h⟩, hIp, hx0.trans hx23, Nat.le_refl _⟩ ?_
  rintro k ρ W ⟨hk, hU, hA2W, hMv, hIpW, hxW, hzW⟩
  refine Exists.elim hU fun us hus => ?_
  refine Exists.elim hMv fun mv hmv => ?_
  have hA1W := hus.1
  have hAsW := hmv.1
  have hRW := hmv.2.1
  have hme : mustB bids prices k = !decide (dG bids prices k = 0) := rfl
  repeat (first | (refine isO ?_; (refine isBin ?_; refine s_lss rfl rfl ?_)) | (refine isC ?_; first | refine c_sr ?_ | refine c_seq ?_) | (refine l_th ?_))
  refine c_ifd rfl (fun h => ?_) (fun h => ?_)
  · have hk' : k < n := by omega
    have hrs := rowL_snoc k (mustB bids prices)
    have hkl : (rowL k (mustB bids prices)).length ≤ 8 := by rw [rowL_len]; have := rowN_le k (mustB bids prices); omega
    repeat (first | (refine isO ?_; first | refine s_move ?_ | refine s_assign ?_) | (refine isC ?_; first | refine c_sr ?_ | refine c_th ?_ | refine c_seq ?_ | refine c_block ?_) | (refine l_th ?_))
    refine s_iaA (n := k) sl_bls ty_bl rfl rfl hk' ?_
    refine s_ldA ty_bl rfl hA2W (u := .bool (decide (dG bids prices k = 0))) (by simp [hk']) ?_
    repeat ((refine l_th ?_))
    refine c_ifd rfl (fun h0 => ?_) (fun h0 => ?_)
    · have hmf : mustB bids prices k = false := by unfold mustB; simp [h0]
      rw [hmf] at hrs
      repeat (first | (refine isO ?_; refine s_move ?_) | (refine isC ?_; refine c_sr ?_))
      refine s_iaA (n := k) sl_rows ty_ints rfl rfl hk' ?_
      refine s_stA (n := k) (u := .slice none 0 0) ty_ints rfl rfl rfl hA1W (by simp [hk']) ?_
      intro W1 hA11 hg1
      rw [map_fs _ _ hk'] at hA11
      have z4 := hg1.size
      have hx1W : Ex w W1 := hxW.store hg1 (by omega)
      have hRW1 := hRW.kept hg1 (.inr fun e => by have := hmv.2.2 b1 e; omega)
      have hIp1 := hIpW.kept hg1 (.inr fun e => by have := hpl b1 e; omega)
      repeat (first | (refine isO ?_; first | refine s_move ?_ | (refine isBin ?_; refine s_inc rfl (by omega) ?_)) | (refine isC ?_; first | refine c_region ?_ | refine c_exit ?_) | (refine l_th ?_))
      refine loop_end (k + 1) (by (repeat (first | exact agree_refl _ _ | refine agree_upd rfl ?_ | refine agree_ext rfl ?_ | refine agree_mask rfl ?_))) ⟨vint (by omega), trivial⟩ ⟨hk', ⟨_, hA11, fun j hj => ?_⟩, hA2W.grown hg1 (fun e => hne (Option.some.inj e)), ⟨mv, hAsW.grown hg1 (fun e => by cases e; omega), by rw [hrs]; simpa using hRW1, hmv.2.2⟩, hIp1, hx1W, by omega⟩ (by omega)
      by_cases e : j = k
      · subst e
        simp only [fs, if_true]
        rw [if_pos ⟨by omega, h0⟩]
        exact ⟨Ints.nil _, fun b hb => by cases hb⟩
      · simp only [fs, if_neg e]
        have h1 := hus.2 j hj
        have e2 : (j < k + 1 ∧ dG bids prices j = 0) ↔ (j < k ∧ dG bids prices j = 0) := ⟨fun ⟨a, b⟩ => ⟨by omega, b⟩, fun ⟨a, b⟩ => ⟨by omega, b⟩⟩
        simp only [e2]
        exact ⟨h1.1.kept hg1 (.inr fun e => by have := h1.2 b1 e; omega), h1.2⟩
    · have hmf : mustB bids prices k = true := by unfold mustB; simp [h0]
      rw [hmf] at hrs
      repeat (first | (refine isO ?_; refine s_move ?_) | (refine isC ?_; first | refine c_th ?_ | refine c_region ?_))
      refine s_nil rfl ?_
      refine s_faN Tryz.underlying161 rfl ty_ints.n rfl ?_
      refine s_ldA ty_ints rfl hAsW rfl ?_
      repeat ((refine isO ?_; refine s_move ?_))
      refine s_bs1 sl_ints in_int rfl rfl ?_
      intro b7 W1 hb7 hA7 hx7 hs7
      refine s_app (news := [.int .i64 (k : Int)]) sl_ints in_int (hRW.ex hx7) (hA7.sl (Nat.le_refl _) (by simp) (by simp)) rfl rfl (by intro q hq; simp at hq; subst hq; rfl) (by simp; omega) ?_
      intro v' W2 hR2 hg2 hf2
      have z7 := hx7.size
      have z4 := hg2.size
      have hAs2 := (hAsW.ex hx7).grown hg2 (fun e => by have := hmv.2.2 _ e; omega)
      have hA12 := (hA1W.ex hx7).grown hg2 (fun e => by have := hmv.2.2 _ e; omega)
      have hA22 := (hA2W.ex hx7).grown hg2 (fun e => by have := hmv.2.2 _ e; omega)
      have hv2 : ∀ b, v'.ownBlock = some b → w3.heap.size ≤ b := fun b hb => by
        rcases hf2 with h | h
        · exact hmv.2.2 b (by rw [← h]; exact hb)
        · have := h b hb; omega
      refine s_nil rfl ?_
      refine s_faN Tryz.underlying161 rfl ty_ints.n rfl ?_
      refine s_stA (n := 5) (u := v') ty_ints rfl rfl hR2.one hAs2 (by simp) ?_
      intro W3 hAs3 hg3
      have z5 := hg3.size
      have hxw2 : Ex w W2 := (hxW.trans hx7).storeo hg2 (fun b e => by have := hmv.2.2 b e; omega)
      have hxw3 : Ex w W3 := hxw2.store hg3 (by omega)
      have hkeep : ∀ (v : Value) (l : List Int), Ints W v l → (∀ b, v.ownBlock = some b → b < w3.heap.size ∧ b ≠ s) → Ints W3 v l := fun v l hI hb => by
        have h2 : Ints W2 v l := by
          cases e : mv.ownBlock with
          | none => exact (hI.ex hx7).ex (Ex.of_grown (e ▸ hg2))
          | some b => exact (hI.ex hx7).kept hg2 (.inr fun e2 => by rw [e] at e2; have := hmv.2.2 b e; have := (hb b e2).1; omega)
        exact h2.kept hg3 (.inr fun e => (hb s e).2 rfl)
      have hR3 := hR2.kept hg3 (.inr fun e => by have := hv2 s e; omega)
      repeat (first | (refine isO ?_; first | refine s_move ?_ | (refine isBin ?_; refine s_inc rfl (by omega) ?_)) | (refine isC ?_; refine c_region ?_) | (first | refine l_th ?_ | refine l_nil ?_))
      refine loop_end (k + 1) (by (repeat (first | exact agree_refl _ _ | refine agree_upd rfl ?_ | refine agree_ext rfl ?_ | refine agree_mask rfl ?_))) ⟨vint (by omega), trivial⟩ ⟨hk', ⟨us, hA12.grown hg3 (fun e => by cases e; omega), fun j hj => ?_⟩, hA22.grown hg3 (fun e => by cases e; omega), ⟨v', hAs3, by rw [hrs, if_pos rfl, List.map_append]; exact hR3, hv2⟩, hkeep _ _ hIpW (fun b hb => by have := hpl b hb; exact ⟨by omega, by omega⟩), hxw3, by omega⟩ (by omega)
      have h1 := hus.2 j hj
      have e2 : (j < k + 1 ∧ dG bids prices j = 0) ↔ (j < k ∧ dG bids prices j = 0) := ⟨fun ⟨a, b⟩ => ⟨by
        by_cases e : j = k
        · subst e; exact absurd b h0
        · omega, b⟩, fun ⟨a, b⟩ => ⟨by omega, b⟩⟩
      simp only [e2]
      exact ⟨hkeep _ _ h1.1 (fun b hb => by have := h1.2 b hb; exact ⟨by omega, by omega⟩), h1.2⟩
  · have hkn : k = n := by omega
    subst hkn
    have hgl := gL_len (RD bids prices) k res.length
    have hkl : (rowL k (mustB bids prices)).length ≤ 8 := by rw [rowL_len]; have := rowN_le k (mustB bids prices); omega
    repeat (first | (refine isO ?_; refine s_move ?_) | (refine isC ?_; first | refine c_sr ?_ | refine c_exit ?_))
    refine s_nil rfl ?_
    refine s_faN Tryz.underlying161 rfl ty_rows.n rfl ?_
    refine s_stA (n := 4) (u := sv b1 k k) ty_rows rfl rfl rfl hAsW (by simp) ?_
    intro W1 hAs1 hg1
    have hx1W : Ex w W1 := hxW.store hg1 (by omega)
    have hMW := hM.ex hx1W
    have hRows : Rows W1 (sv b1 k k) (gL (RD bids prices) k res.length) := by
      have h9 := (hA1W.grown hg1 (fun e => by cases e; omega)).rows (g := gL (RD bids prices) k res.length) (c := k) (by rw [gL_len]; simp) (by omega) (by omega) (fun i u l hu hl => by
        have hi := (List.getElem?_eq_some_iff.1 hl).1
        rw [gL_len] at hi
        have e1 : u = us i := by simp [hi] at hu; exact hu.symm
        have e2 : l = rowL res.length (RD bids prices i) := by simp [gL, hi] at hl; exact hl.symm
        have h1 := (hus.2 i hi).1.kept hg1 (.inr fun e => by have := (hus.2 i hi).2 s e; omega)
        rw [e1, e2, ← wants_row bids prices res.length i (lenB_or hc5 (by omega))]
        by_cases h0 : dG bids prices i = 0
        · rw [if_pos ⟨hi, h0⟩] at h1; rw [if_pos h0]; exact h1
        · rw [if_neg (fun hh => h0 hh.2)] at h1; rw [if_neg h0]; exact h1)
      rw [hgl] at h9
      exact h9
    repeat (first | (refine isO ?_; first | refine s_move ?_ | refine s_assign ?_) | (refine isC ?_; first | refine c_sr ?_ | refine c_ret ?_) | (refine l_th ?_))
    refine ret1 rfl rfl ⟨s, _, _, mv, rfl, ⟨hAs1, hMW, hIpW.kept hg1 (.inr fun e => by have := hpl s e; omega), hRows, (hRW.kept hg1 (.inr fun e => by have := hmv.2.2 s e; omega)).ints (by omega)⟩, hx1W⟩
end Go.Proofs.YtifbgpkjbciblaaGreatDoor.Sal
end
section
/- slices.Min; (*state).has, far. -/
set_option maxRecDepth 100000
namespace Go.Proofs.YtifbgpkjbciblaaGreatDoor.Sal
open Go.RowKit
/-- The least of some numbers. -/
def mnL (l : List Int) : Nat → Int
  | 0 => l.getD 0 0
  | i + 1 => if l.getD (i + 1) 0 < mnL l i then l.getD (i + 1) 0 else mnL l i
def farIn (bids : List (List Int)) (prices set : List Int) (i : Nat) : Nat → List Int
  | 0 => []
  | k + 1 => farIn bids prices set i k ++ (if set.contains (k : Int) then [] else [dG bids prices i - gD bids prices i k])
/-- Does one want something else as well? -/
def elseB (bids : List (List Int)) (prices set : List Int) (n i : Nat) : Bool := (rowL n (RD bids prices i)).any fun q => !set.contains q
def farOne (bids : List (List Int)) (prices set : List Int) (n i : Nat) : List Int := if elseB bids prices set n i = true then [] else dG bids prices i :: farIn bids prices set i n
def farL (bids : List (List Int)) (prices set : List Int) (n : Nat) (must : List Int) : Nat → List Int
  | 0 => []
  | j + 1 => farL bids prices set n must j ++ farOne bids prices set n (must.getD j 0).toNat
def farBy (bids : List (List Int)) (prices set : List Int) (n : Nat) (must : List Int) : Int := mnL (farL bids prices set n must must.length) ((farL bids prices set n must must.length).length - 1)
theorem farIn_len (bids : List (List Int)) (prices set : List Int) (i : Nat) : ∀ k, (farIn bids prices set i k).length ≤ k
  | 0 => Nat.le_refl _
  | k + 1 => by
    have := farIn_len bids prices set i k
    unfold farIn
    rw [List.length_append]
    split <;> simp <;> omega
theorem farOne_len {bids : List (List Int)} {prices set : List Int} {n i : Nat} (hn : n ≤ 8) : (farOne bids prices set n i).length ≤ 9 := by
  unfold farOne
  have := farIn_len bids prices set i n
  split <;> simp <;> omega
theorem farL_len {bids : List (List Int)} {prices set : List Int} {n : Nat} (hn : n ≤ 8) {must : List Int} : ∀ j, (farL bids prices set n must j).length ≤ 9 * j
  | 0 => by simp [farL]
  | j + 1 => by
    have h1 := farL_len (bids := bids) (prices := prices) (set := set) hn (must := must) j
    have h2 := farOne_len (bids := bids) (prices := prices) (set := set) (i := (must.getD j 0).toNat) hn
    unfold farL
    rw [List.length_append]; omega
theorem gD_bd {bids : List (List Int)} {prices : List Int} {items : Int} {n : Nat} (hb : ∀ i, i < bids.length → badBid (n : Int) (bids.getD i []) = false) (hm : mayD prices items = true) (i k : Nat) : -2000000 ≤ gD bids prices i k ∧ gD bids prices i k ≤ 1000000 := by
  have h1 := bd_pr hm k
  have h2 : 0 ≤ (bids.getD i []).getD k 0 ∧ (bids.getD i []).getD k 0 ≤ 1000000 := by
    rcases Nat.lt_or_ge i bids.length with h | h
    · exact bd_bid (hb i h) k
    · have : bids.getD i [] = [] := by rw [List.getD_eq_getElem?_getD, List.getElem?_eq_none h]; rfl
      rw [this]; simp
  unfold gD; omega
theorem dG_bd {bids : List (List Int)} {prices : List Int} {items : Int} {n : Nat} (hb : ∀ i, i < bids.length → badBid (n : Int) (bids.getD i []) = false) (hm : mayD prices items = true) (i : Nat) : 0 ≤ dG bids prices i ∧ dG bids prices i ≤ 1000000 := by
  refine ⟨dG_ge _ _ _, ?_⟩
  rw [dG_eq]
  rcases gmx_is (gD bids prices i) (lenB bids i) with h | ⟨k, _, h⟩
  · omega
  · have := (gD_bd hb hm i k).2; omega
/-- Who must have something wants something. -/
theorem must_wants {bids : List (List Int)} {prices : List Int} {n i : Nat} (h : lenB bids i = 0 ∨ lenB bids i = n) (hm : mustB bids prices i = true) : lenB bids i = n ∧ 0 < (rowN n (RD bids prices i)).length := by
  have h0 : dG bids prices i ≠ 0 := by simpa [mustB] using hm
  have hn : lenB bids i = n := by
    rcases h with h | h
    · exfalso; apply h0; rw [dG_eq, h]; rfl
    · exact h
  refine ⟨hn, ?_⟩
  rcases gmx_is (gD bids prices i) (lenB bids i) with h1 | ⟨k, hk, h1⟩
  · exfalso; apply h0; rw [dG_eq]; exact h1
  · refine List.length_pos_of_mem (a := k) (mem_rowN.2 ⟨by omega, ?_⟩)
    unfold RD
    rw [hm, decide_eq_true (show k < lenB bids i by omega), decide_eq_true (by rw [dG_eq]; exact h1)]; rfl
attribute [local irreducible] Go.Code.wpIn Go.wpListIn Ct Ints Rows Sl At Rw WJ
set_option linter.all false
theorem ok_Min : CallOK Tryz.prog 146 := callOK Tryz.func146 (by kernel_rfl) rfl
theorem ok_rleast : CallOK Tryz.prog 140 := callOK Tryz.func140 (by kernel_rfl) rfl
theorem ok_rhas : CallOK Tryz.prog 139 := callOK Tryz.func139 (by kernel_rfl) rfl
theorem ok_far : CallOK Tryz.prog 119 := callOK Tryz.func119 (by kernel_rfl) rfl
theorem ok_far1 : CallOK Tryz.prog 137 := callOK Tryz.func137 (by kernel_rfl) rfl
theorem ok_far2 : CallOK Tryz.prog 138 := callOK Tryz.func138 (by kernel_rfl) rfl
theorem ty_mk : TyN Tryz.prog 54 :=
  let ⟨i, h, _, hs, _⟩ := info_parts (show (Tryz.prog.info? 54).map (fun i => (i.zero, i.size, i.bytes)) = some (some (.agg #[.slice none 0 0, .slice none 0 0, .slice none 0 0]), 3, 72) by kernel_rfl)
  ⟨i, h, by omega⟩
theorem ty_ib : Ty1 Tryz.prog 72 := ⟨let ⟨i, h, _, hs, _⟩ := info_parts (show (Tryz.prog.info? 72).map (fun i => (i.zero, i.size, i.bytes)) = some (some .nilFunc, 1, 8) by kernel_rfl); ⟨i, h, hs⟩, _, Tryz.underlying72, rfl⟩
theorem in_ib : ∃ ti, Tryz.prog.info? 72 = some ti ∧ ti.zero = some .nilFunc := in_z (by kernel_rfl)
theorem Min_ct (v : Value) (l : List Int) (w : World) (hl : Ints w v l) (h0 : 1 ≤ l.length) :
    Ct Tryz.prog 146 #[v] w fun u w' => u = .int .i64 (mnL l (l.length - 1)) ∧ Ex w w' := by
  have hlen := hl.len
  refine enter (N := 25) (vs := [v]) Tryz.func146 rfl rfl rfl ?_
  repeat (first | (refine isO ?_; first | refine s_move ?_ | refine s_assign ?_ | (refine isBin ?_; refine s_lssF rfl rfl (by omega) ?_) | (refine isCall ?_; refine s_lenI sl_ints rfl (by assumption) ?_)) | (refine isC ?_; first | refine c_sr ?_ | refine c_th ?_ | refine c_seq ?_ | refine c_iff rfl ?_) | (refine l_th ?_))
  refine s_ixI (n := 0) sl_ints ty_int rfl rfl rfl hl (by omega) ?_
  intro pv
  repeat (first | (refine isO ?_; refine s_assign ?_) | (refine isC ?_; first | refine c_sr ?_ | refine c_seq ?_ | refine c_block ?_) | (refine l_th ?_))
  refine c_loop (γ := Nat) 16773144 (fun i => [(4, .int .i64 ((i + 1 : Nat) : Int)), (3, .int .i64 (mnL l i))]) (fun i W => i + 1 ≤ l.length ∧ Ex w W) (fun i => l.length - i) 0 ⟨rfl, rfl, trivial⟩ ⟨h0, Ex.refl _⟩ ?_
  rintro i ρ W ⟨hi, hx⟩
  have hlW := hl.ex hx
  repeat (first | (refine isO ?_; first | refine s_move ?_ | (refine isBin ?_; refine s_lss rfl rfl ?_) | (refine isCall ?_; refine s_lenI sl_ints rfl (by assumption) ?_)) | (refine isC ?_; first | refine c_sr ?_ | refine c_seq ?_) | (refine l_th ?_))
  refine c_ifd rfl (fun h => ?_) (fun h => ?_)
  · have hi' : i + 1 < l.length := by omega
    repeat (first | (refine isO ?_; first | refine s_move ?_ | (refine isIA ?_; refine s_ixI sl_ints ty_int rfl rfl rfl (by assumption) (by omega) ?_; intro _)) | (refine isC ?_; first | refine c_th ?_ | refine c_seq ?_ | refine c_region ?_ | refine c_block ?_))
    refine s_min rfl rfl ?_
    repeat (first | (refine isO ?_; first | refine s_move ?_ | refine s_assign ?_ | (refine isBin ?_; refine s_inc rfl (by omega) ?_)) | (refine isC ?_; refine c_region ?_) | (first | refine l_th ?_ | refine l_nil ?_))
    exact loop_end (i + 1) (by (repeat (first | exact agree_refl _ _ | refine agree_upd rfl ?_ | refine agree_ext rfl ?_ | refine agree_mask rfl ?_))) ⟨vint (by omega), rfl, trivial⟩ ⟨by omega, hx⟩ (by omega)
  · have hie : i = l.length - 1 := by omega
    subst hie
    repeat (first | (refine isO ?_; first | refine s_move ?_ | refine s_assign ?_) | (refine isC ?_; first | refine c_sr ?_ | refine c_ret ?_ | refine c_exit ?_) | (refine l_th ?_))
    exact ret1 rfl rfl ⟨rfl, hx⟩
theorem rleast_ct (v : Value) (l : List Int) (w : World) (hl : Ints w v l) (h0 : 1 ≤ l.length) :
    Ct Tryz.prog 140 #[v] w fun u w' => u = .int .i64 (mnL l (l.length - 1)) ∧ Ex w w' := by
  refine enter (N := 5) (vs := [v]) Tryz.func140 rfl rfl rfl ?_
  repeat (first | (refine isO ?_; first | refine s_move ?_ | refine s_assign ?_) | (refine isC ?_; refine c_sr ?_) | (refine l_th ?_))
  refine s_call ok_Min rfl (Min_ct v l w hl h0) ?_
  rintro u w' ⟨rfl, hx⟩
  repeat (first | (refine isO ?_; refine s_assign ?_) | (refine isC ?_; refine c_ret ?_) | (refine l_th ?_))
  exact ret1 rfl rfl ⟨rfl, hx⟩
theorem rhas_ct {s : Nat} {rv bv ov pcv wv mv : Value} {res : List Int} {bids : List (List Int)} {ord prices must : List Int} {g : List (List Int)} {w : World} (hS : St w s rv bv ov pcv wv mv res bids ord prices must g) {i k : Nat} (hi : i < bids.length) (hk : k < (bids.getD i []).length) (hkp : k < prices.length) (hbd : -2000000 ≤ gD bids prices i k ∧ gD bids prices i k ≤ 1000000) :
    Ct Tryz.prog 139 #[.pointer (some ⟨s, 0, none⟩), .int .i64 (i : Int), .int .i64 (k : Int)] w fun u w' => u = .int .i64 (gD bids prices i k) ∧ Ex w w' := by
  refine enter (N := 26) (vs := [.pointer (some ⟨s, 0, none⟩), .int .i64 (i : Int), .int .i64 (k : Int)]) Tryz.func139 rfl rfl rfl ?_
  repeat (first | (refine isO ?_; refine s_assign ?_) | (refine isC ?_; first | refine c_sr ?_ | refine c_seq ?_) | (refine l_th ?_))
  refine c_drawO (Ex.refl w) 0 8 [(0, true), (1, true), (2, true), (3, true), (4, true), (5, true), (6, true), (7, true), (8, true), (9, true), (10, true), (11, true), (12, true), (13, true), (14, true), (15, true), (16, true), (17, true), (18, true), (19, true)] mixed (by kernel_rfl) ?_
  have hxd := Ex.drew w
  refine d_move rfl ?_
  refine d_nilc rfl rfl ?_
  refine d_faN rfl Tryz.underlying161 rfl ty_mk rfl ?_
  refine d_faN rfl Tryz.underlying54 rfl ty_rows.n rfl ?_
  refine d_ldA rfl ty_rows rfl hS.at' rfl ?_
  refine d_move rfl ?_
  refine d_iaR (n := i) rfl sl_rows ty_ints rfl rfl hS.mkt.b hi ?_
  intro ad1 u1 hc1 hI1
  refine d_ld rfl ty_ints rfl hc1 ?_
  refine d_move rfl ?_
  refine d_iaI (n := k) rfl sl_ints ty_int rfl rfl hI1 hk ?_
  intro ad2 hc2
  refine d_ld rfl ty_int rfl hc2 ?_
  refine d_move rfl ?_
  refine d_nilc rfl rfl ?_
  refine d_faN rfl Tryz.underlying161 rfl ty_ints.n rfl ?_
  refine d_ldA rfl ty_ints rfl hS.at' rfl ?_
  refine d_move rfl ?_
  refine d_iaI (n := k) rfl sl_ints ty_int rfl rfl hS.pr hkp ?_
  intro ad3 hc3
  refine d_ld rfl ty_int rfl hc3 ?_
  refine d_sub rfl rfl rfl ⟨by unfold gD at hbd; omega, by unfold gD at hbd; omega⟩ ?_
  refine d_assign rfl ?_
  refine d_nil ?_
  repeat ((refine isC ?_; refine c_ret ?_))
  exact ret1 rfl rfl ⟨rfl, hxd⟩
theorem far1_ct (b3 : Nat) (setv : Value) (set : List Int) (x : Int) (w : World) (hA : At w b3 25 [setv]) (hI : Ints w setv set) :
    Ct Tryz.prog 137 #[.int .i64 x, .pointer (some ⟨b3, 0, none⟩)] w fun u w' => u = .bool (set.contains x) ∧ Ex w w' := by
  refine enter (N := 7) (vs := [.int .i64 x, .pointer (some ⟨b3, 0, none⟩)]) Tryz.func137 rfl rfl rfl ?_
  repeat (first | (refine isO ?_; first | refine s_move ?_ | refine s_assign ?_ | (refine isLD ?_; refine s_ldA ty_ints rfl (by assumption) rfl ?_)) | (refine isC ?_; refine c_sr ?_) | (refine l_th ?_))
  refine s_call ok_Contains rfl (Contains_ct setv set x w hI) ?_
  rintro u w' ⟨rfl, hx⟩
  repeat (first | (refine isO ?_; refine s_assign ?_) | (refine isC ?_; refine c_ret ?_) | (refine l_th ?_))
  exact ret1 rfl rfl ⟨rfl, hx⟩
theorem far2_ct (b3 b5 : Nat) (setv : Value) (set : List Int) (x : Int) (w : World) (hA : At w b3 25 [setv]) (hI : Ints w setv set) (hB : At w b5 72 [.func (.func 137) #[] [.pointer (some ⟨b3, 0, none⟩)].toArray]) :
    Ct Tryz.prog 138 #[.int .i64 x, .pointer (some ⟨b5, 0, none⟩)] w fun u w' => u = .bool (!set.contains x) ∧ Ex w w' := by
  refine enter (N := 8) (vs := [.int .i64 x, .pointer (some ⟨b5, 0, none⟩)]) Tryz.func138 rfl rfl rfl ?_
  repeat (first | (refine isO ?_; refine s_assign ?_) | (refine isC ?_; refine c_sr ?_) | (refine l_th ?_))
  refine s_ldA ty_ib rfl hB rfl ?_
  repeat ((refine isO ?_; refine s_move ?_))
  refine s_callv (by intro f e; cases e) rfl ok_far1 rfl (far1_ct b3 setv set x w hA hI) ?_
  rintro u w' ⟨rfl, hx⟩
  repeat (first | (refine isO ?_; first | refine s_assign ?_ | refine s_not rfl ?_) | (refine isC ?_; refine c_ret ?_) | (refine l_th ?_))
  exact ret1 rfl rfl ⟨rfl, hx⟩
end Go.Proofs.YtifbgpkjbciblaaGreatDoor.Sal
end
section
/- (*state).far. -/
set_option maxRecDepth 100000
namespace Go.Proofs.YtifbgpkjbciblaaGreatDoor.Sal
open Go.RowKit
attribute [local irreducible] Go.Code.wpIn Go.wpListIn Ct Ints Rows Sl At Rw WJ
set_option linter.all false
set_option maxHeartbeats 4000000 in
theorem far_ct {s : Nat} {rv bv ov pcv wv mv : Value} {res : List Int} {bids : List (List Int)} {ord prices set : List Int} {n : Nat} {w : World} (setv : Value)
    (hS : St w s rv bv ov pcv wv mv res bids ord prices (rowL bids.length (mustB bids prices)) (gL (RD bids prices) bids.length n)) (hset : Ints w setv set) (hn : n = prices.length) (hn8 : n ≤ 8) (hm8 : bids.length ≤ 8)
    (hb : ∀ i, i < bids.length → badBid (n : Int) (bids.getD i []) = false) (hm : mayD prices (n : Int) = true) (hne : 1 ≤ (farL bids prices set n (rowL bids.length (mustB bids prices)) (rowL bids.length (mustB bids prices)).length).length) :
    Ct Tryz.prog 119 #[.pointer (some ⟨s, 0, none⟩), setv] w fun u w' => u = .int .i64 (farBy bids prices set n (rowL bids.length (mustB bids prices))) ∧ Ex w w' := by
  obtain ⟨must, hmu⟩ : ∃ must, must = rowL bids.length (mustB bids prices) := ⟨_, rfl⟩
  have hml : must.length ≤ 8 := by rw [hmu, rowL_len]; have := rowN_le bids.length (mustB bids prices); omega
  have hlb : ∀ i, i < bids.length → lenB bids i = 0 ∨ lenB bids i = n := fun i hi => by
    rcases len_bid (hb i hi) with h1 | h1
    · exact .inl h1
    · exact .inr (by unfold lenB; omega)
  rw [← hmu] at hS hne ⊢
  obtain ⟨sa, sc, rfl⟩ := hset.form
  refine Exists.elim in_ib fun ti hti => ?_
  refine enter (N := 71) (vs := [.pointer (some ⟨s, 0, none⟩), .slice sa set.length sc]) Tryz.func119 rfl rfl rfl ?_
  repeat ((refine isC ?_; refine c_sr ?_))
  refine s_box (cs := [.slice sa set.length sc]) rfl rfl ?_
  intro b3 w1 hb3 hA3 hx1 hs1
  repeat (first | (refine isO ?_; refine s_assign ?_) | (refine isC ?_; refine c_sr ?_) | (refine l_th ?_))
  refine s_mkfn (vs := [.pointer (some ⟨b3, 0, none⟩)]) rfl ?_
  refine s_alloc (cs := [.nilFunc]) hti.1 hti.2 rfl ?_
  intro b5 w2 hb5 hA5 hx2 hs2
  refine s_stA (n := 0) (u := .func (.func 137) #[] [.pointer (some ⟨b3, 0, none⟩)].toArray) ty_ib rfl rfl rfl hA5 (by simp) ?_
  intro w3 hA53' hg3
  have hA53 : At w3 b5 72 [.func (.func 137) #[] [.pointer (some ⟨b3, 0, none⟩)].toArray] := hA53'
  have z1 := hx1.size
  have z2 := hx2.size
  have z3 := hg3.size
  have l3 := hA3.lt
  have hx3 : Ex w w3 := (hx1.trans hx2).store hg3 (by omega)
  have hA33 := (hA3.ex hx2).grown hg3 (fun e => by cases e; omega)
  have hset3 := hset.ex hx3
  have hS3 := hS.ex hx3
  have hmuI := hS3.mu
  repeat (first | (refine isO ?_; first | refine s_move ?_ | refine s_assign ?_) | (refine isC ?_; first | refine c_sr ?_ | refine c_seq ?_) | (refine l_th ?_))
  refine s_nil rfl ?_
  refine s_faN Tryz.underlying161 rfl ty_ints.n rfl ?_
  refine s_ldA ty_ints rfl hS3.at' rfl ?_
  repeat (first | (refine isO ?_; first | refine s_move ?_ | (refine isCall ?_; refine s_lenI sl_ints rfl (by assumption) ?_)) | (refine isC ?_; refine c_block ?_) | (refine l_th ?_))
  refine c_loop (γ := Nat × Value) 590295810358705522496 (fun q => [(17, .int .i64 (q.1 : Int)), (6, q.2)]) (fun q W => q.1 ≤ must.length ∧ LI w3 W 3 q.2 (farL bids prices set n must q.1) ∧ Ex w3 W) (fun q => must.length - q.1) (0, .slice none 0 0) ⟨rfl, rfl, trivial⟩ ⟨Nat.zero_le _, LI.nil _ _ _, Ex.refl _⟩ ?_
  rintro ⟨j, lv⟩ ρ W ⟨hj, hL, hxW⟩
  have hSW := hS3.ex hxW
  have hmuW := hSW.mu
  have hA3W := hA33.ex hxW
  have hA5W := hA53.ex hxW
  have hsetW := hset3.ex hxW
  have hx0W := hx3.trans hxW
  repeat (first | (refine isO ?_; (refine isBin ?_; refine s_lss rfl rfl ?_)) | (refine isC ?_; first | refine c_sr ?_ | refine c_seq ?_) | (refine l_th ?_))
  refine c_ifd rfl (fun h => ?_) (fun h => ?_)
  · have hj' : j < must.length := by omega
    have hjr : j < (rowN bids.length (mustB bids prices)).length := by rw [hmu, rowL_len] at hj'; exact hj'
    obtain ⟨i, hi⟩ : ∃ i, i = (rowN bids.length (mustB bids prices)).getD j 0 := ⟨_, rfl⟩
    have hgj : must.getD j 0 = (i : Int) := by rw [hmu, rowL_get _ _ hjr, hi]
    have him := rowN_get hjr
    rw [← hi] at him
    obtain ⟨him1, him2⟩ := him
    have hmw := must_wants (hlb i him1) him2
    obtain ⟨hli, hwp⟩ := hmw
    have hfs : farL bids prices set n must (j + 1) = farL bids prices set n must j ++ farOne bids prices set n i := by
      show farL bids prices set n must j ++ farOne bids prices set n (must.getD j 0).toNat = _
      rw [hgj]; rfl
    have hfl := farL_len (bids := bids) (prices := prices) (set := set) hn8 (must := must) j
    have hgl : i < (gL (RD bids prices) bids.length n).length := by rw [gL_len]; exact him1
    have hrow : (gL (RD bids prices) bids.length n).getD i [] = rowL n (RD bids prices i) := gL_row him1
    have hwW := hSW.wa
    repeat (first | (refine isO ?_; first | refine s_move ?_ | refine s_assign ?_ | (refine isIA ?_; refine s_ixI sl_ints ty_int rfl rfl rfl (by assumption) (by omega) ?_; intro _)) | (refine isC ?_; first | refine c_sr ?_ | refine c_th ?_ | refine c_seq ?_ | refine c_block ?_) | (refine l_th ?_))
    refine s_nil rfl ?_
    refine s_faN Tryz.underlying161 rfl ty_rows.n rfl ?_
    refine s_ldA ty_rows rfl hSW.at' rfl ?_
    repeat ((refine isO ?_; refine s_move ?_))
    refine s_ixR (n := i) sl_rows ty_ints rfl rfl (vint hgj) hwW hgl ?_
    intro pv1 u hu
    rw [hrow] at hu
    refine s_mkfn (vs := [.pointer (some ⟨b5, 0, none⟩)]) rfl ?_
    refine s_call ok_cfI rfl (cfI_ct u _ 138 [.pointer (some ⟨b5, 0, none⟩)] (fun q => !set.contains q) W hu ⟨ok_far2, fun x w5 h5 => far2_ct b3 b5 _ set x w5 (hA3W.ex h5) (hsetW.ex h5) (hA5W.ex h5)⟩) ?_
    rintro u2 W1 ⟨rfl, hx1W⟩
    refine Or.elim (tfV (elseB bids prices set n i)) (fun he => ?_) (fun he => ?_)
    · refine s_re (v' := .bool true) (vbool he) ?_
      repeat (first | (refine isO ?_; first | refine s_move ?_ | (refine isBin ?_; refine s_inc rfl (by omega) ?_)) | (refine isC ?_; first | refine c_region ?_ | refine c_ift rfl ?_ | refine c_exit ?_) | (refine l_th ?_))
      refine loop_end (j + 1, lv) (by (repeat (first | exact agree_refl _ _ | refine agree_upd rfl ?_ | refine agree_ext rfl ?_ | refine agree_mask rfl ?_))) ⟨vint (by omega), rfl, trivial⟩ ⟨hj', ?_, hxW.trans hx1W⟩ (by show must.length - (j + 1) < must.length - j; omega)
      show LI w3 W1 _ lv (farL bids prices set n must (j + 1))
      rw [hfs]
      unfold farOne
      rw [if_pos he, List.append_nil]
      exact hL.ex hx1W
    · refine s_re (v' := .bool false) (vbool he) ?_
      have hfo : farOne bids prices set n i = dG bids prices i :: farIn bids prices set i n := by unfold farOne; rw [he]; rfl
      have hSW1 := hSW.ex hx1W
      have hwW1 := hSW1.wa
      obtain ⟨k0, hk0⟩ : ∃ k0, k0 = (rowN n (RD bids prices i)).getD 0 0 := ⟨_, rfl⟩
      have hg0 : (rowL n (RD bids prices i)).getD 0 0 = (k0 : Int) := by rw [rowL_get _ _ hwp, hk0]
      have hk0' := rowN_get hwp
      rw [← hk0] at hk0'
      obtain ⟨hk01, hk02⟩ := hk0'
      have hgk : gD bids prices i k0 = dG bids prices i := by
        unfold RD at hk02
        simp only [Bool.and_eq_true, decide_eq_true_eq] at hk02
        exact hk02.2.2
      have hrl := rowL_len n (RD bids prices i)
      repeat (first | (refine isO ?_; refine s_move ?_) | (refine isC ?_; first | refine c_sr ?_ | refine c_th ?_ | refine c_iff rfl ?_) | (refine l_th ?_))
      refine s_nil rfl ?_
      refine s_faN Tryz.underlying161 rfl ty_rows.n rfl ?_
      refine s_ldA ty_rows rfl hSW1.at' rfl ?_
      repeat ((refine isO ?_; refine s_move ?_))
      refine s_ixR (n := i) sl_rows ty_ints rfl rfl (vint hgj) hwW1 hgl ?_
      intro pv2 u3 hu3
      rw [hrow] at hu3
      refine s_ixI (n := 0) sl_ints ty_int rfl rfl rfl hu3 (by omega) ?_
      intro pv3
      have hp1 : k0 < prices.length := by omega
      refine s_call (vs := [.pointer (some ⟨s, 0, none⟩), .int .i64 (must.getD j 0), .int .i64 ((rowL n (RD bids prices i)).getD 0 0)]) ok_rhas rfl (by rw [hgj, hg0]; exact rhas_ct (i := i) (k := k0) hSW1 him1 (by unfold lenB at hli; omega) hp1 (gD_bd hb hm i k0)) ?_
      rintro u4 W2 ⟨rfl, hx2W⟩
      refine s_re (v' := .int .i64 (dG bids prices i)) (vint hgk) ?_
      have hSW2 := hSW1.ex hx2W
      have hL2 := hL.ex (hx1W.trans hx2W)
      have hx32 := (hxW.trans hx1W).trans hx2W
      repeat (first | (refine isO ?_; first | refine s_move ?_ | refine s_assign ?_) | (refine isC ?_; refine c_sr ?_) | (refine l_th ?_))
      refine s_bs1 sl_ints in_int rfl rfl ?_
      intro b7 W3 hb7 hA7 hx7 hs7
      refine s_lapp (w0 := w3) sl_ints in_int (hL2.ex hx7) hA7.one rfl rfl (by simp; omega) (hx32.trans hx7) ?_
      intro v4 W4 hL4 hx34
      have hSW4 := hS3.ex hx34
      have hprW4 := hSW4.pr
      have hdb := dG_bd hb hm i
      repeat (first | (refine isO ?_; first | refine s_move ?_ | refine s_assign ?_) | (refine isC ?_; refine c_sr ?_) | (refine l_th ?_))
      refine s_nil rfl ?_
      refine s_faN Tryz.underlying161 rfl ty_ints.n rfl ?_
      refine s_ldA ty_ints rfl hSW4.at' rfl ?_
      repeat (first | (refine isO ?_; first | refine s_move ?_ | (refine isCall ?_; refine s_lenI sl_ints rfl (by assumption) ?_)) | (refine isC ?_; refine c_block ?_) | (refine l_th ?_))
      refine c_loop (γ := Nat × Value) 295145653379539141696 (fun q => [(51, .int .i64 (q.1 : Int)), (6, q.2)]) (fun q W' => q.1 ≤ n ∧ LI w3 W' 3 q.2 (farL bids prices set n must j ++ (dG bids prices i :: farIn bids prices set i q.1)) ∧ Ex w3 W') (fun q => n - q.1) (0, v4) ⟨rfl, rfl, trivial⟩ ⟨Nat.zero_le _, hL4, hx34⟩ ?_
      rintro ⟨k, kv⟩ ρ2 V ⟨hk, hLV, hxV⟩
      have hSV := hS3.ex hxV
      have hA3V := hA33.ex hxV
      have hA5V := hA53.ex hxV
      have hsetV := hset3.ex hxV
      have hx0V := hx3.trans hxV
      have hfik := farIn_len bids prices set i k
      repeat (first | (refine isO ?_; (refine isBin ?_; refine s_lss rfl rfl ?_)) | (refine isC ?_; first | refine c_sr ?_ | refine c_seq ?_) | (refine l_th ?_))
      refine c_ifd rfl (fun h2 => ?_) (fun h2 => ?_)
      · have hk' : k < n := by omega
        have hgb := gD_bd hb hm i k
        repeat (first | (refine isO ?_; first | refine s_move ?_ | refine s_assign ?_) | (refine isC ?_; first | refine c_sr ?_ | refine c_th ?_ | refine c_seq ?_ | refine c_block ?_) | (refine l_th ?_))
        refine s_ldA ty_ib rfl hA5V rfl ?_
        repeat ((refine isO ?_; refine s_move ?_))
        refine s_callv (by intro f e; cases e) rfl ok_far1 rfl (far1_ct b3 _ set (k : Int) V hA3V hsetV) ?_
        rintro u5 V1 ⟨rfl, hxV1⟩
        have hfs1 : farIn bids prices set i (k + 1) = farIn bids prices set i k ++ (if set.contains (k : Int) then [] else [dG bids prices i - gD bids prices i k]) := rfl
        refine Or.elim (tfV (set.contains (k : Int))) (fun hc => ?_) (fun hc => ?_)
        · refine s_re (v' := .bool true) (vbool hc) ?_
          rw [if_pos hc, List.append_nil] at hfs1
          repeat (first | (refine isO ?_; first | refine s_move ?_ | (refine isBin ?_; refine s_inc rfl (by omega) ?_) | refine s_not rfl ?_) | (refine isC ?_; first | refine c_region ?_ | refine c_iff rfl ?_ | refine c_skip ?_) | (refine l_th ?_))
          refine loop_end (k + 1, kv) (by (repeat (first | exact agree_refl _ _ | refine agree_upd rfl ?_ | refine agree_ext rfl ?_ | refine agree_mask rfl ?_))) ⟨vint (by omega), rfl, trivial⟩ ⟨hk', ?_, hxV.trans hxV1⟩ (by show n - (k + 1) < n - k; omega)
          show LI w3 V1 _ kv (farL bids prices set n must j ++ (dG bids prices i :: farIn bids prices set i (k + 1)))
          rw [hfs1]; exact hLV.ex hxV1
        · refine s_re (v' := .bool false) (vbool hc) ?_
          rw [if_neg (by rw [hc]; simp)] at hfs1
          have hSV1 := hSV.ex hxV1
          repeat (first | (refine isO ?_; first | refine s_move ?_ | refine s_not rfl ?_) | (refine isC ?_; first | refine c_region ?_ | refine c_ift rfl ?_) | (refine l_th ?_))
          refine s_call (vs := [.pointer (some ⟨s, 0, none⟩), .int .i64 (must.getD j 0), .int .i64 (k : Int)]) ok_rhas rfl (by rw [hgj]; exact rhas_ct (i := i) (k := k) hSV1 him1 (by unfold lenB at hli; omega) (by omega) hgb) ?_
          rintro u6 V2 ⟨rfl, hxV2⟩
          repeat ((refine isO ?_; (refine isBin ?_; refine s_sub rfl rfl ⟨by omega, by omega⟩ ?_)))
          refine s_bs1 sl_ints in_int rfl rfl ?_
          intro b8 V3 hb8 hA8 hx8 hs8
          refine s_lapp (w0 := w3) sl_ints in_int (hLV.ex ((hxV1.trans hxV2).trans hx8)) hA8.one rfl rfl (by simp; omega) (((hxV.trans hxV1).trans hxV2).trans hx8) ?_
          intro v5 V4 hL5 hx35
          repeat (first | (refine isO ?_; first | refine s_move ?_ | refine s_assign ?_ | (refine isBin ?_; refine s_inc rfl (by omega) ?_)) | (refine isC ?_; refine c_region ?_) | (first | refine l_th ?_ | refine l_nil ?_))
          refine loop_end (k + 1, v5) (by (repeat (first | exact agree_refl _ _ | refine agree_upd rfl ?_ | refine agree_ext rfl ?_ | refine agree_mask rfl ?_))) ⟨vint (by omega), rfl, trivial⟩ ⟨hk', ?_, ?_⟩ (by show n - (k + 1) < n - k; omega)
          · show LI w3 V4 _ v5 (farL bids prices set n must j ++ (dG bids prices i :: farIn bids prices set i (k + 1)))
            rw [hfs1]
            have e9 : farL bids prices set n must j ++ (dG bids prices i :: farIn bids prices set i k) ++ [dG bids prices i - gD bids prices i k] = farL bids prices set n must j ++ (dG bids prices i :: (farIn bids prices set i k ++ [dG bids prices i - gD bids prices i k])) := by simp
            rw [e9] at hL5; exact hL5
          · exact hx35
      · have hkn : k = n := by omega
        subst hkn
        repeat (first | (refine isO ?_; first | refine s_move ?_ | (refine isBin ?_; refine s_inc rfl (by omega) ?_)) | (refine isC ?_; first | refine c_region ?_ | refine c_exit ?_) | (refine l_th ?_))
        refine loop_end (j + 1, kv) (by (repeat (first | exact agree_refl _ _ | refine agree_upd rfl ?_ | refine agree_ext rfl ?_ | refine agree_mask rfl ?_))) ⟨vint (by omega), rfl, trivial⟩ ⟨hj', ?_, hxV⟩ (by show must.length - (j + 1) < must.length - j; omega)
        show LI w3 V _ kv (farL bids prices set k must (j + 1))
        rw [hfs, hfo]; exact hLV
  · have hjm : j = must.length := by omega
    subst hjm
    have hfl := farL_len (bids := bids) (prices := prices) (set := set) hn8 (must := must) must.length
    repeat (first | (refine isO ?_; refine s_move ?_) | (refine isC ?_; first | refine c_sr ?_ | refine c_exit ?_))
    refine s_call ok_rleast rfl (rleast_ct lv _ W (hL.ints (show (farL bids prices set n must must.length).length ≤ 1000000 by omega)) hne) ?_
    rintro u W1 ⟨rfl, hx1W⟩
    repeat (first | (refine isO ?_; refine s_assign ?_) | (refine isC ?_; refine c_ret ?_) | (refine l_th ?_))
    exact ret1 rfl rfl ⟨rfl, hx0W.trans hx1W⟩
end Go.Proofs.YtifbgpkjbciblaaGreatDoor.Sal
end
section
/- (*state).step. -/
set_option maxRecDepth 100000
namespace Go.Proofs.YtifbgpkjbciblaaGreatDoor.Sal
open Go.RowKit
theorem mnL_le (l : List Int) : ∀ i j, j ≤ i → mnL l i ≤ l.getD j 0
  | 0, j, h => by obtain rfl : j = 0 := by omega
                  exact Int.le_refl _
  | i + 1, j, h => by
    show (if l.getD (i + 1) 0 < mnL l i then l.getD (i + 1) 0 else mnL l i) ≤ _
    by_cases e : j = i + 1
    · subst e; split <;> omega
    · have := mnL_le l i j (by omega); split <;> omega
theorem mnL_is (l : List Int) : ∀ i, ∃ j, j ≤ i ∧ mnL l i = l.getD j 0
  | 0 => ⟨0, Nat.le_refl _, rfl⟩
  | i + 1 => by
    show ∃ j, j ≤ i + 1 ∧ (if l.getD (i + 1) 0 < mnL l i then l.getD (i + 1) 0 else mnL l i) = l.getD j 0
    split
    · exact ⟨i + 1, Nat.le_refl _, rfl⟩
    · obtain ⟨j, hj, h⟩ := mnL_is l i
      exact ⟨j, by omega, h⟩
theorem mem_farIn {bids : List (List Int)} {prices set : List Int} {i : Nat} {x : Int} : ∀ {n : Nat}, x ∈ farIn bids prices set i n ↔ ∃ k, k < n ∧ set.contains (k : Int) = false ∧ x = dG bids prices i - gD bids prices i k
  | 0 => by simp [farIn]
  | n + 1 => by
    unfold farIn
    rw [List.mem_append, mem_farIn]
    constructor
    · rintro (⟨k, h1, h2, h3⟩ | h)
      · exact ⟨k, by omega, h2, h3⟩
      · split at h
        · cases h
        · rename_i hc
          exact ⟨n, by omega, by simpa using hc, by simpa using h⟩
    · rintro ⟨k, h1, h2, h3⟩
      by_cases e : k = n
      · subst e; right; rw [if_neg (by rw [h2]; simp)]; simp [h3]
      · exact .inl ⟨k, by omega, h2, h3⟩
theorem else_want {bids : List (List Int)} {prices set : List Int} {n i : Nat} : elseB bids prices set n i = !wantB (RD bids prices) n set i := by
  rw [Bool.eq_iff_iff, Bool.not_eq_true']
  unfold elseB
  rw [List.any_eq_true]
  constructor
  · rintro ⟨q, hq, hc⟩
    rw [Bool.not_eq_true'] at hc
    obtain ⟨k, h1, h2, h3⟩ := (rowL_has n _ q).1 (by rw [List.contains_iff_mem]; exact hq)
    cases hw : wantB (RD bids prices) n set i with
    | false => rfl
    | true =>
      have := wantB_iff.1 hw k h1 h2
      rw [h3] at hc; rw [hc] at this; cases this
  · intro h
    have : ¬ ∀ k, k < n → RD bids prices i k = true → set.contains (k : Int) = true := fun hh => by rw [wantB_iff.2 hh] at h; cases h
    simp only [Classical.not_forall] at this
    obtain ⟨k, h1, h2, h3⟩ := this
    refine ⟨(k : Int), ?_, by simpa using h3⟩
    rw [← List.contains_iff_mem]
    exact (rowL_has n _ _).2 ⟨k, h1, h2, rfl⟩
theorem mem_farOne {bids : List (List Int)} {prices set : List Int} {n i : Nat} {x : Int} : x ∈ farOne bids prices set n i ↔ wantB (RD bids prices) n set i = true ∧ (x = dG bids prices i ∨ ∃ k, k < n ∧ set.contains (k : Int) = false ∧ x = dG bids prices i - gD bids prices i k) := by
  unfold farOne
  rw [else_want]
  cases hw : wantB (RD bids prices) n set i with
  | true => simp [mem_farIn]
  | false => simp
theorem mem_farL {bids : List (List Int)} {prices set : List Int} {n : Nat} {must : List Int} {x : Int} : ∀ {j : Nat}, x ∈ farL bids prices set n must j ↔ ∃ j', j' < j ∧ x ∈ farOne bids prices set n (must.getD j' 0).toNat
  | 0 => by simp [farL]
  | j + 1 => by
    unfold farL
    rw [List.mem_append, mem_farL]
    constructor
    · rintro (⟨j', h1, h2⟩ | h)
      · exact ⟨j', by omega, h2⟩
      · exact ⟨j, by omega, h⟩
    · rintro ⟨j', h1, h2⟩
      by_cases e : j' = j
      · subst e; exact .inr h2
      · exact .inl ⟨j', by omega, h2⟩
/-- Within the must-havers' numbers. -/
theorem mem_far {bids : List (List Int)} {prices set : List Int} {n m : Nat} {p : Nat → Bool} {x : Int} : x ∈ farL bids prices set n (rowL m p) (rowL m p).length ↔ ∃ i, i < m ∧ p i = true ∧ x ∈ farOne bids prices set n i := by
  rw [mem_farL]
  constructor
  · rintro ⟨j, h1, h2⟩
    have hj : j < (rowN m p).length := by rw [rowL_len] at h1; exact h1
    have h3 := rowN_get hj
    rw [rowL_get _ _ hj] at h2
    exact ⟨_, h3.1, h3.2, by simpa using h2⟩
  · rintro ⟨i, h1, h2, h3⟩
    have hi : i ∈ rowN m p := mem_rowN.2 ⟨h1, h2⟩
    obtain ⟨j, hj⟩ := List.mem_iff_getElem?.1 hi
    have hjl := (List.getElem?_eq_some_iff.1 hj).1
    refine ⟨j, by rw [rowL_len]; exact hjl, ?_⟩
    rw [rowL_get _ _ hjl]
    have : (rowN m p).getD j 0 = i := by rw [List.getD_eq_getElem?_getD, hj]; rfl
    rw [this]; simpa using h3
theorem by_le {bids : List (List Int)} {prices set : List Int} {n m : Nat} {p : Nat → Bool} {x : Int} (h : x ∈ farL bids prices set n (rowL m p) (rowL m p).length) : farBy bids prices set n (rowL m p) ≤ x := by
  obtain ⟨j, hj⟩ := List.mem_iff_getElem?.1 h
  have hjl := (List.getElem?_eq_some_iff.1 hj).1
  have e : (farL bids prices set n (rowL m p) (rowL m p).length).getD j 0 = x := by rw [List.getD_eq_getElem?_getD, hj]; rfl
  rw [← e]
  exact mnL_le _ _ j (by omega)
theorem by_mem {bids : List (List Int)} {prices set : List Int} {n m : Nat} {p : Nat → Bool} (h : 1 ≤ (farL bids prices set n (rowL m p) (rowL m p).length).length) : farBy bids prices set n (rowL m p) ∈ farL bids prices set n (rowL m p) (rowL m p).length := by
  obtain ⟨j, hj, e⟩ := mnL_is (farL bids prices set n (rowL m p) (rowL m p).length) ((farL bids prices set n (rowL m p) (rowL m p).length).length - 1)
  unfold farBy
  rw [e, List.getD_eq_getElem?_getD, List.getElem?_eq_getElem (by omega)]
  exact List.getElem_mem _
/-- Prices of a set, dearer by as much. -/
def raise (prices set : List Int) (x : Int) : List Int := (List.range prices.length).map fun k => prices.getD k 0 + if set.contains (k : Int) = true then x else 0
theorem raise_len (prices set : List Int) (x : Int) : (raise prices set x).length = prices.length := by simp [raise]
theorem raise_get {prices set : List Int} {x : Int} {k : Nat} (hk : k < prices.length) : (raise prices set x).getD k 0 = prices.getD k 0 + if set.contains (k : Int) = true then x else 0 := by simp [raise, hk]
theorem raise_at (prices set : List Int) (x : Int) (k : Nat) : (raise prices set x)[k]? = if k < prices.length then some (prices.getD k 0 + if set.contains (k : Int) = true then x else 0) else none := by
  unfold raise
  rw [List.getElem?_map]
  split
  · rename_i h; rw [List.getElem?_range h]; rfl
  · rename_i h; rw [List.getElem?_eq_none (by simp; omega)]; rfl
theorem raise_nil (prices : List Int) (x : Int) : raise prices [] x = prices := by
  apply List.ext_getElem
  · simp [raise]
  · intro i h1 h2
    simp [raise, List.getD_eq_getElem?_getD, h2]
theorem raise_succ {prices set : List Int} {x : Int} {n j q : Nat} (hr : risB (-1) set (n : Int) = true) (hj : j < set.length) (hq : set.getD j 0 = (q : Int)) (hqn : q < prices.length) :
    (raise prices (set.take j) x).set q ((raise prices (set.take j) x).getD q 0 + x) = raise prices (set.take (j + 1)) x := by
  have hnot : (set.take j).contains (q : Int) = false := by
    cases hc : (set.take j).contains (q : Int) with
    | false => rfl
    | true =>
      exfalso
      obtain ⟨j', h1, h2⟩ := mem_getD.1 (by rw [← List.contains_iff_mem]; exact hc : (q : Int) ∈ set.take j)
      rw [List.length_take] at h1
      have e : (set.take j).getD j' 0 = set.getD j' 0 := by simp only [List.getD_eq_getElem?_getD]; rw [List.getElem?_take_of_lt (by omega)]
      rw [e] at h2
      have := ris_inj hr (i := j') (j := j) (by omega) hj (by rw [h2, hq])
      omega
  have hin : ∀ k : Nat, (set.take (j + 1)).contains (k : Int) = ((set.take j).contains (k : Int) || decide (k = q)) := fun k => by
    rw [List.take_succ_eq_append_getElem hj]
    have e : set[j] = (q : Int) := by rw [← hq]; simp [List.getD_eq_getElem?_getD, hj]
    rw [e, Bool.eq_iff_iff, List.contains_iff_mem, List.mem_append, Bool.or_eq_true, List.contains_iff_mem, decide_eq_true_eq, List.mem_singleton]
    constructor
    · rintro (h | h)
      · exact .inl h
      · exact .inr (by omega)
    · rintro (h | h)
      · exact .inl h
      · exact .inr (by omega)
  rw [raise_get hqn, hnot]
  apply List.ext_getElem?
  intro k
  rw [List.getElem?_set, raise_len, raise_at, raise_at]
  by_cases e : q = k
  · subst e
    rw [if_pos rfl, if_pos hqn, if_pos hqn, hin q, decide_eq_true (rfl : q = q), Bool.or_true]
    simp
  · rw [if_neg e, hin k, decide_eq_false (fun h => e h.symm), Bool.or_false]
noncomputable def setR (bids : List (List Int)) (prices : List Int) (n : Nat) : Option (List Int) := fewR (RD bids prices) bids.length n (rowL bids.length (mustB bids prices))
/-- Prices behind some, if there are. -/
noncomputable def stepR (bids : List (List Int)) (prices : List Int) (n : Nat) : Option (List Int) := match setR bids prices n with
  | none => none
  | some set => some (raise prices set (farBy bids prices set n (rowL bids.length (mustB bids prices))))
theorem far_ne {bids : List (List Int)} {prices set : List Int} {n : Nat} (hn : n ≤ 8) (hm8 : bids.length ≤ 8) (h : setR bids prices n = some set) :
    risB (-1) set (n : Int) = true ∧ 1 ≤ (farL bids prices set n (rowL bids.length (mustB bids prices)) (rowL bids.length (mustB bids prices)).length).length := by
  have h1 := few_first hn (ris_of hm8 (mustB bids prices)) h
  refine ⟨h1.1, ?_⟩
  obtain ⟨q, hq⟩ := List.exists_mem_of_length_pos (Nat.lt_of_le_of_lt (Nat.zero_le _) h1.2)
  obtain ⟨hq1, hq2⟩ := List.mem_filter.1 hq
  obtain ⟨i, hi1, hi2, rfl⟩ := (rowL_has _ _ q).1 (by rw [List.contains_iff_mem]; exact hq1)
  exact List.length_pos_of_mem (mem_far.2 ⟨i, hi1, hi2, mem_farOne.2 ⟨by simpa using hq2, .inl rfl⟩⟩)
theorem by_bd {bids : List (List Int)} {prices set : List Int} {n m : Nat} {p : Nat → Bool} {items : Int} (hb : ∀ i, i < bids.length → badBid (n : Int) (bids.getD i []) = false) (hm : mayD prices items = true) (h : 1 ≤ (farL bids prices set n (rowL m p) (rowL m p).length).length) :
    -1000000 ≤ farBy bids prices set n (rowL m p) ∧ farBy bids prices set n (rowL m p) ≤ 3000000 := by
  obtain ⟨i, h1, h2, h3⟩ := mem_far.1 (by_mem h)
  have hd := dG_bd hb hm i
  rcases (mem_farOne.1 h3).2 with h4 | ⟨k, _, _, h4⟩
  · omega
  · have := gD_bd hb hm i k; omega
attribute [local irreducible] Go.Code.wpIn Go.wpListIn Ct Ints Rows Sl At Rw WJ
set_option linter.all false
theorem ok_rstep : CallOK Tryz.prog 82 := callOK Tryz.func82 (by kernel_rfl) rfl
set_option maxHeartbeats 4000000 in
theorem step_ct {s : Nat} {rv bv ov pcv wv mv : Value} {res : List Int} {bids : List (List Int)} {ord prices : List Int} {n : Nat} {w : World}
    (hS : St w s rv bv ov pcv wv mv res bids ord prices (rowL bids.length (mustB bids prices)) (gL (RD bids prices) bids.length n)) (hn : n = prices.length) (hn1 : 1 ≤ n) (hn8 : n ≤ 8) (hm8 : bids.length ≤ 8)
    (hb : ∀ i, i < bids.length → badBid (n : Int) (bids.getD i []) = false) (hm : mayD prices (n : Int) = true) :
    Ct Tryz.prog 82 #[.pointer (some ⟨s, 0, none⟩)] w fun u w' => ∃ b, u = .tuple #[sv b n n, .bool (stepR bids prices n).isSome] ∧ OwnI w' 3 b n ((stepR bids prices n).getD prices) ∧ w.heap.size ≤ b ∧ Ex w w' := by
  subst hn
  have hne : prices ≠ [] := fun e => by rw [e] at hn1; simp at hn1
  have hris := ris_of hm8 (mustB bids prices)
  have hpb := bd_pr hm
  refine enter (N := 56) (vs := [.pointer (some ⟨s, 0, none⟩)]) Tryz.func82 rfl rfl rfl ?_
  repeat (first | (refine isO ?_; first | refine s_move ?_ | refine s_assign ?_) | (refine isC ?_; refine c_sr ?_) | (refine l_th ?_))
  refine s_nil rfl ?_
  refine s_faN Tryz.underlying161 rfl ty_ints.n rfl ?_
  refine s_ldA ty_ints rfl hS.at' rfl ?_
  refine s_call ok_Clone rfl (Clone_own pcv prices w hS.pr (by omega) hne) ?_
  rintro u w1 ⟨b, c, rfl, hO1, hb1, hx1⟩
  refine s_call ok_Clip rfl (Clip_own b c prices w1 hO1) ?_
  rintro u w2 ⟨rfl, hO2, hx2⟩
  have hx02 := hx1.trans hx2
  have hS2 := hS.ex hx02
  have hp2 := hS2.pr
  repeat (first | (refine isO ?_; refine s_assign ?_) | (refine isC ?_; refine c_seq ?_) | (refine l_th ?_))
  refine c_drawO (Ex.refl w2) 0 8 [(0, true), (1, true), (2, true), (3, true), (4, true), (5, true), (6, true), (7, true), (8, true), (9, true), (10, true), (11, true), (12, true), (13, false), (14, true), (15, true), (16, true), (17, true), (18, true), (19, true), (20, true)] mixed (by kernel_rfl) ?_
  have hxd := Ex.drew w2
  refine d_move rfl ?_
  refine d_nilc rfl rfl ?_
  refine d_faN rfl Tryz.underlying161 rfl ty_rows.n rfl ?_
  refine d_ldA rfl ty_rows rfl hS2.at' rfl ?_
  refine d_move rfl ?_
  refine d_nilc rfl rfl ?_
  refine d_faN rfl Tryz.underlying161 rfl ty_ints.n rfl ?_
  refine d_ldA rfl ty_ints rfl hS2.at' rfl ?_
  refine d_lenIO rfl sl_ints rfl hp2 ?_
  refine d_move rfl ?_
  refine d_nilc rfl rfl ?_
  refine d_faN rfl Tryz.underlying161 rfl ty_ints.n rfl ?_
  refine d_ldA rfl ty_ints rfl hS2.at' rfl ?_
  refine d_ch rfl ?_
  cases hset : setR bids prices prices.length with
  | none =>
    have hst : stepR bids prices prices.length = none := by unfold stepR; rw [hset]
    refine s_call ok_Few rfl (Few_none (R := RD bids prices) (m := bids.length) (nn := prices.length) hm8 hn8 wv mv _ w2.drew (hS2.wa.ex hxd) (hS2.mu.ex hxd) hris hset) ?_
    rintro u w3 ⟨rfl, hx3⟩
    refine l_nil ⟨rfl, .inr (hxd.trans hx3), ?_⟩
    refine d_move rfl ?_
    refine d_extract rfl rfl rfl ?_
    refine d_extract rfl rfl rfl ?_
    refine d_extract rfl rfl rfl ?_
    refine d_assign rfl ?_
    refine d_assign rfl ?_
    refine d_assign rfl ?_
    refine d_nil ?_
    repeat (first | (refine isO ?_; first | refine s_move ?_ | refine s_assign ?_ | refine s_not rfl ?_) | (refine isC ?_; first | refine c_sr ?_ | refine c_seq ?_ | refine c_ift rfl ?_ | refine c_ret ?_) | (first | refine l_th ?_ | refine th_ret ?_))
    exact ret2 rfl rfl rfl ⟨b, by rw [hst]; rfl, by rw [hst]; exact hO2.ex (hxd.trans hx3), hb1, hx02.trans (hxd.trans hx3)⟩
  | some set =>
    obtain ⟨hrs, hfn⟩ := far_ne hn8 hm8 hset
    have hst : stepR bids prices prices.length = some (raise prices set (farBy bids prices set prices.length (rowL bids.length (mustB bids prices)))) := by unfold stepR; rw [hset]
    refine s_call ok_Few rfl (Few_some (R := RD bids prices) (m := bids.length) (nn := prices.length) hm8 hn8 wv mv _ set w2.drew (hS2.wa.ex hxd) (hS2.mu.ex hxd) hris hset) ?_
    rintro u w3 ⟨v, a, rfl, hv, hvb, hIs, hx3⟩
    subst hv
    refine l_nil ⟨rfl, .inr (hxd.trans hx3), ?_⟩
    refine d_move rfl ?_
    refine d_extract rfl rfl rfl ?_
    refine d_extract rfl rfl rfl ?_
    refine d_extract rfl rfl rfl ?_
    refine d_assign rfl ?_
    refine d_assign rfl ?_
    refine d_assign rfl ?_
    refine d_nil ?_
    have hx03 := hx02.trans (hxd.trans hx3)
    have hS3 := hS2.ex (hxd.trans hx3)
    have hO3 := hO2.ex (hxd.trans hx3)
    repeat (first | (refine isO ?_; first | refine s_move ?_ | refine s_not rfl ?_) | (refine isC ?_; first | refine c_sr ?_ | refine c_th ?_ | refine c_seq ?_ | refine c_iff rfl ?_) | (refine l_th ?_))
    refine s_call ok_far rfl (far_ct _ hS3 hIs rfl hn8 hm8 hb hm hfn) ?_
    rintro u w4 ⟨rfl, hx4⟩
    obtain ⟨x, hx⟩ : ∃ x, x = farBy bids prices set prices.length (rowL bids.length (mustB bids prices)) := ⟨_, rfl⟩
    have hbd := by_bd hb hm hfn
    rw [← hx] at hst hbd ⊢
    have hx04 := hx03.trans hx4
    have hIs4 := hIs.ex hx4
    have hsl := ris_len hrs
    have z1 := hx1.size
    have e0 : raise prices (set.take 0) x = prices := by rw [List.take_zero]; exact raise_nil _ _
    repeat (first | (refine isO ?_; first | refine s_move ?_ | refine s_assign ?_ | (refine isCall ?_; refine s_lenI sl_ints rfl (by assumption) ?_)) | (refine isC ?_; first | refine c_sr ?_ | refine c_seq ?_ | refine c_block ?_) | (refine l_th ?_))
    refine c_loop (γ := Nat) 36020000925942784 (fun j => [(43, .int .i64 (j : Int))]) (fun j W => j ≤ set.length ∧ OwnI W 3 b prices.length (raise prices (set.take j) x) ∧ Ints W (.slice a set.length set.length) set ∧ Ex w W) (fun j => set.length - j) 0 ⟨rfl, trivial⟩ ⟨Nat.zero_le _, by rw [e0]; exact hO3.ex hx4, hIs4, hx04⟩ ?_
    rintro j ρ W ⟨hj, hO, hI, hxW⟩
    repeat (first | (refine isO ?_; (refine isBin ?_; refine s_lss rfl rfl ?_)) | (refine isC ?_; first | refine c_sr ?_ | refine c_seq ?_) | (refine l_th ?_))
    refine c_ifd rfl (fun h => ?_) (fun h => ?_)
    · have hj' : j < set.length := by omega
      obtain ⟨q, hq, hqn⟩ := ris_at hrs hj'
      have hrl := raise_len prices (set.take j) x
      have hsu := raise_succ (x := x) hrs hj' hq hqn
      have hrg : -10000000 ≤ (raise prices (set.take j) x).getD q 0 ∧ (raise prices (set.take j) x).getD q 0 ≤ 10000000 := by
        rw [raise_get hqn]
        have := hpb q
        split <;> omega
      have hOi := hO.ints
      rw [hrl] at hOi
      repeat (first | (refine isO ?_; first | refine s_move ?_ | refine s_assign ?_ | (refine isIA ?_; refine s_ixI sl_ints ty_int rfl rfl rfl (by assumption) (by omega) ?_; intro _)) | (refine isC ?_; first | refine c_sr ?_ | refine c_th ?_ | refine c_seq ?_ | refine c_region ?_ | refine c_block ?_) | (refine l_th ?_))
      refine s_ixI (n := q) sl_ints ty_int rfl rfl (vint hq) hOi (by omega) ?_
      intro pv
      repeat ((refine isO ?_; first | refine s_move ?_ | (refine isBin ?_; refine s_add rfl rfl ⟨by omega, by omega⟩ ?_)))
      refine s_iaA (n := q) sl_ints ty_int rfl (vint hq) hqn ?_
      refine s_stO ty_int rfl rfl hO (by omega) ?_
      intro W1 hO1 hg1
      rw [hsu] at hO1
      have hbl := hO2.lt
      have zd := hxd.size
      repeat (first | (refine isO ?_; first | refine s_move ?_ | (refine isBin ?_; refine s_inc rfl (by omega) ?_)) | (refine isC ?_; refine c_region ?_) | (first | refine l_th ?_ | refine l_nil ?_))
      exact loop_end (j + 1) (by (repeat (first | exact agree_refl _ _ | refine agree_upd rfl ?_ | refine agree_ext rfl ?_ | refine agree_mask rfl ?_))) ⟨vint (by omega), trivial⟩ ⟨hj', hO1, hI.kept hg1 (.inr fun e => by have := hvb b e; omega), hxW.store hg1 (by omega)⟩ (by omega)
    · have hje : j = set.length := by omega
      subst hje
      rw [List.take_of_length_le (Nat.le_refl _)] at hO
      repeat (first | (refine isO ?_; first | refine s_move ?_ | refine s_assign ?_) | (refine isC ?_; first | refine c_sr ?_ | refine c_ret ?_ | refine c_exit ?_) | (refine l_th ?_))
      exact ret2 rfl rfl rfl ⟨b, by rw [hst]; rfl, by rw [hst]; exact hO, hb1, hxW⟩
end Go.Proofs.YtifbgpkjbciblaaGreatDoor.Sal
end
section
/- rises.may, Step. -/
set_option maxRecDepth 100000
namespace Go.Proofs.YtifbgpkjbciblaaGreatDoor.Sal
open Go.RowKit
def mayP (res prices : List Int) : Bool := decide (prices.length = res.length) && (List.range prices.length).all fun k => decide (res.getD k 0 ≤ prices.getD k 0) && decide (prices.getD k 0 ≤ 2000000)
theorem range_all_succ (p : Nat → Bool) (k : Nat) : (List.range (k + 1)).all p = ((List.range k).all p && p k) := by simp [List.range_succ]
theorem range_all_bad {p : Nat → Bool} {n k : Nat} (hk : k < n) (h : p k = false) : (List.range n).all p = false := by
  rw [List.all_eq_false]
  exact ⟨k, List.mem_range.2 hk, by rw [h]; simp⟩
theorem mayP_D {res prices : List Int} {bids : List (List Int)} {ord : List Int} (hck : chkM res bids ord = true) (h : mayP res prices = true) : prices.length = res.length ∧ mayD prices res.length = true := by
  unfold mayP at h
  rw [Bool.and_eq_true, decide_eq_true_eq] at h
  obtain ⟨h1, h2⟩ := h
  refine ⟨h1, ?_⟩
  have hv := (chk_parts hck).1
  unfold vecB at hv
  simp only [Bool.and_eq_true, decide_eq_true_eq] at hv
  obtain ⟨⟨hv1, _⟩, hv2⟩ := hv
  unfold inM at hv1
  simp only [Bool.and_eq_true, decide_eq_true_eq] at hv1
  unfold mayD
  rw [decide_eq_true (show (1 : Int) ≤ res.length by omega), decide_eq_true (show (res.length : Int) ≤ 8 by omega), decide_eq_true (show (prices.length : Int) = res.length by omega)]
  simp only [Bool.true_and, Bool.and_true, Bool.not_eq_true']
  rw [List.any_eq_false]
  intro x hx
  obtain ⟨k, hk, rfl⟩ := mem_getD.1 hx
  have h3 := (List.all_eq_true.1 h2) k (List.mem_range.2 hk)
  simp only [Bool.and_eq_true, decide_eq_true_eq] at h3
  have h4 : 0 ≤ res.getD k 0 := by
    have hr : res.getD k 0 ∈ res := mem_getD.2 ⟨k, by omega, rfl⟩
    have := (List.all_eq_true.1 hv2) _ hr
    unfold inM at this
    simp only [Bool.and_eq_true, decide_eq_true_eq] at this
    exact this.1
  unfold badP
  rw [decide_eq_false (by omega), decide_eq_false (by omega)]
  simp
attribute [local irreducible] Go.Code.wpIn Go.wpListIn Ct Ints Rows Sl At Rw WJ
set_option linter.all false
theorem ok_rmay : CallOK Tryz.prog 80 := callOK Tryz.func80 (by kernel_rfl) rfl
theorem ok_Step : CallOK Tryz.prog 24 := callOK Tryz.func24 (by kernel_rfl) rfl
theorem rmay_ct (rv bv ov pv : Value) (res : List Int) (bids : List (List Int)) (ord prices : List Int) (w : World) (hM : Mk w rv bv ov res bids ord) (hp : Ints w pv prices) :
    Ct Tryz.prog 80 #[.agg #[rv, bv, ov], pv] w fun u w' => u = .bool (chkM res bids ord && mayP res prices) ∧ Ex w w' := by
  have hlr := hM.r.len
  have hlp := hp.len
  refine enter (N := 37) (vs := [.agg #[rv, bv, ov], pv]) Tryz.func80 rfl rfl rfl ?_
  repeat ((refine isC ?_; refine c_sr ?_))
  refine s_box (cs := [rv, bv, ov]) rfl rfl ?_
  intro b0 w0 hb0 hZ hx0 hs0
  have hM0 := hM.ex hx0
  repeat (first | (refine isO ?_; refine s_assign ?_) | (refine isC ?_; first | refine c_sr ?_ | refine c_seq ?_) | (refine l_th ?_))
  refine s_ldV Tryz.underlying54 rfl (by kernel_rfl) rfl hZ ?_
  refine s_call ok_mcheck rfl (mcheck_ct rv bv ov res bids ord w0 hM0) ?_
  rintro u w1 ⟨rfl, hx1⟩
  have hx01 := hx0.trans hx1
  have hZ1 := hZ.ex hx1
  have hr1 := hM0.r.ex hx1
  have hp1 := hp.ex hx01
  refine Or.elim (tfV (chkM res bids ord)) (fun hc => ?_) (fun hc => ?_)
  · refine s_re (v' := .bool true) (vbool hc) ?_
    by_cases hl : (prices.length : Int) = (res.length : Int)
    · repeat (first | (refine isO ?_; first | refine s_move ?_ | (refine isG ?_; refine g_yes rfl rfl ?_) | (refine isBin ?_; refine s_neqF rfl rfl (by omega) ?_) | (refine isCall ?_; refine s_lenI sl_ints rfl (by assumption) ?_) | (refine isPick ?_; refine s_pickf rfl rfl ?_) | (refine isLD ?_; refine s_ldA ty_ints rfl (by assumption) rfl ?_) | refine s_not rfl ?_) | (refine isO ?_; refine s_fa Tryz.underlying54 rfl ty_ints rfl ?_) | (refine isC ?_; first | refine c_sr ?_ | refine c_th ?_ | refine c_seq ?_ | refine c_iff rfl ?_ | refine c_block ?_) | (refine l_th ?_))
      refine c_loop (γ := Nat) 137437905008 (fun k => [(20, .int .i64 (k : Int))]) (fun k W => k ≤ prices.length ∧ ((List.range k).all fun k => decide (res.getD k 0 ≤ prices.getD k 0) && decide (prices.getD k 0 ≤ 2000000)) = true ∧ Ex w1 W) (fun k => prices.length - k) 0 ⟨rfl, trivial⟩ ⟨Nat.zero_le _, rfl, Ex.refl _⟩ ?_
      rintro k ρ W ⟨hk, hall, hxW⟩
      have hpW := hp1.ex hxW
      have hrW := hr1.ex hxW
      have hZW := hZ1.ex hxW
      have hx0W := hx01.trans hxW
      repeat (first | (refine isO ?_; (refine isBin ?_; refine s_lss rfl rfl ?_)) | (refine isC ?_; first | refine c_sr ?_ | refine c_seq ?_) | (refine l_th ?_))
      refine c_ifd rfl (fun h => ?_) (fun h => ?_)
      · have hk' : k < prices.length := by omega
        have hkr : k < res.length := by omega
        have hst := range_all_succ (fun k => decide (res.getD k 0 ≤ prices.getD k 0) && decide (prices.getD k 0 ≤ 2000000)) k
        by_cases h1 : prices.getD k 0 < res.getD k 0
        · have hbad := range_all_bad (p := fun k => decide (res.getD k 0 ≤ prices.getD k 0) && decide (prices.getD k 0 ≤ 2000000)) hk' (by rw [decide_eq_false (show ¬ res.getD k 0 ≤ prices.getD k 0 by omega)]; rfl)
          repeat (first | (refine isO ?_; first | refine s_move ?_ | refine s_assign ?_ | (refine isG ?_; refine g_no rfl rfl rfl ?_) | (refine isBin ?_; refine s_lssT rfl rfl (by omega) ?_) | (refine isIA ?_; refine s_ixI sl_ints ty_int rfl rfl rfl (by assumption) (by omega) ?_; intro _) | (refine isPick ?_; refine s_pickt rfl rfl ?_) | (refine isLD ?_; refine s_ldA ty_ints rfl (by assumption) rfl ?_)) | (refine isO ?_; refine s_fa Tryz.underlying54 rfl ty_ints rfl ?_) | (refine isC ?_; first | refine c_sr ?_ | refine c_th ?_ | refine c_seq ?_ | refine c_ift rfl ?_ | refine c_block ?_ | refine c_ret ?_) | (first | refine l_th ?_ | refine th_ret ?_ | refine ib_ret ?_))
          exact ret1 rfl rfl ⟨vbool (by rw [hc]; unfold mayP; rw [hbad]; simp), hx0W⟩
        · by_cases h2 : 2000000 < prices.getD k 0
          · have hbad := range_all_bad (p := fun k => decide (res.getD k 0 ≤ prices.getD k 0) && decide (prices.getD k 0 ≤ 2000000)) hk' (by rw [decide_eq_false (show ¬ prices.getD k 0 ≤ 2000000 by omega), Bool.and_false])
            repeat (first | (refine isO ?_; first | refine s_move ?_ | refine s_assign ?_ | (refine isG ?_; refine g_yes rfl rfl ?_) | (refine isBin ?_; first | refine s_lssF rfl rfl (by omega) ?_ | refine s_gtrT rfl rfl (by omega) ?_) | (refine isIA ?_; refine s_ixI sl_ints ty_int rfl rfl rfl (by assumption) (by omega) ?_; intro _) | (refine isPick ?_; refine s_pickf rfl rfl ?_) | (refine isLD ?_; refine s_ldA ty_ints rfl (by assumption) rfl ?_)) | (refine isO ?_; refine s_fa Tryz.underlying54 rfl ty_ints rfl ?_) | (refine isC ?_; first | refine c_sr ?_ | refine c_th ?_ | refine c_seq ?_ | refine c_ift rfl ?_ | refine c_block ?_ | refine c_ret ?_) | (first | refine l_th ?_ | refine th_ret ?_ | refine ib_ret ?_))
            exact ret1 rfl rfl ⟨vbool (by rw [hc]; unfold mayP; rw [hbad]; simp), hx0W⟩
          · have hg : (decide (res.getD k 0 ≤ prices.getD k 0) && decide (prices.getD k 0 ≤ 2000000)) = true := by rw [decide_eq_true (show res.getD k 0 ≤ prices.getD k 0 by omega), decide_eq_true (show prices.getD k 0 ≤ 2000000 by omega)]; rfl
            rw [hall, hg] at hst
            repeat (first | (refine isO ?_; first | refine s_move ?_ | refine s_assign ?_ | (refine isG ?_; refine g_yes rfl rfl ?_) | (refine isBin ?_; first | refine s_inc rfl (by omega) ?_ | refine s_lssF rfl rfl (by omega) ?_ | refine s_gtrF rfl rfl (by omega) ?_) | (refine isIA ?_; refine s_ixI sl_ints ty_int rfl rfl rfl (by assumption) (by omega) ?_; intro _) | (refine isPick ?_; refine s_pickf rfl rfl ?_) | (refine isLD ?_; refine s_ldA ty_ints rfl (by assumption) rfl ?_)) | (refine isO ?_; refine s_fa Tryz.underlying54 rfl ty_ints rfl ?_) | (refine isC ?_; first | refine c_sr ?_ | refine c_th ?_ | refine c_seq ?_ | refine c_region ?_ | refine c_iff rfl ?_ | refine c_block ?_ | refine c_skip ?_) | (refine l_th ?_))
            exact loop_end (k + 1) (by (repeat (first | exact agree_refl _ _ | refine agree_upd rfl ?_ | refine agree_ext rfl ?_ | refine agree_mask rfl ?_))) ⟨vint (by omega), trivial⟩ ⟨hk', hst, hxW⟩ (by omega)
      · have hke : k = prices.length := by omega
        subst hke
        repeat (first | (refine isO ?_; refine s_assign ?_) | (refine isC ?_; first | refine c_sr ?_ | refine c_ret ?_ | refine c_exit ?_) | (refine l_th ?_))
        exact ret1 rfl rfl ⟨vbool (by rw [hc]; unfold mayP; rw [hall, decide_eq_true (by omega)]; rfl), hx0W⟩
    · repeat (first | (refine isO ?_; first | refine s_move ?_ | refine s_assign ?_ | (refine isG ?_; refine g_yes rfl rfl ?_) | (refine isBin ?_; refine s_neqT rfl rfl (by omega) ?_) | (refine isCall ?_; refine s_lenI sl_ints rfl (by assumption) ?_) | (refine isPick ?_; refine s_pickf rfl rfl ?_) | (refine isLD ?_; refine s_ldA ty_ints rfl (by assumption) rfl ?_) | refine s_not rfl ?_) | (refine isO ?_; refine s_fa Tryz.underlying54 rfl ty_ints rfl ?_) | (refine isC ?_; first | refine c_sr ?_ | refine c_ift rfl ?_ | refine c_ret ?_) | (first | refine l_th ?_ | refine th_ret ?_))
      exact ret1 rfl rfl ⟨vbool (by rw [hc]; unfold mayP; rw [decide_eq_false (by omega)]; rfl), hx01⟩
  · refine s_re (v' := .bool false) (vbool hc) ?_
    repeat (first | (refine isO ?_; first | refine s_move ?_ | refine s_assign ?_ | (refine isG ?_; refine g_no rfl rfl rfl ?_) | (refine isPick ?_; refine s_pickt rfl rfl ?_) | refine s_not rfl ?_) | (refine isC ?_; first | refine c_sr ?_ | refine c_ift rfl ?_ | refine c_ret ?_) | (first | refine l_th ?_ | refine th_ret ?_))
    exact ret1 rfl rfl ⟨vbool (by rw [hc]; rfl), hx01⟩
theorem Step_ok (rv bv ov pv : Value) (res : List Int) (bids : List (List Int)) (ord prices : List Int) (w : World) (hM : Mk w rv bv ov res bids ord) (hp : Ints w pv prices) (hck : chkM res bids ord = true) (hm : mayP res prices = true) :
    Ct Tryz.prog 24 #[.agg #[rv, bv, ov], pv] w fun u w' => ∃ b, u = .tuple #[sv b res.length res.length, .bool (stepR bids prices res.length).isSome, .int .i64 0] ∧ OwnI w' 3 b res.length ((stepR bids prices res.length).getD prices) ∧ w.heap.size ≤ b ∧ Ex w w' := by
  obtain ⟨hlen, hmd⟩ := mayP_D hck hm
  obtain ⟨hc1, hc2, hc3, hc4, hc5⟩ := chk_parts hck
  obtain ⟨hl1, hl2, hl3⟩ := len_pr hmd
  refine enter (N := 22) (vs := [.agg #[rv, bv, ov], pv]) Tryz.func24 rfl rfl rfl ?_
  repeat ((refine isC ?_; refine c_sr ?_))
  refine s_box (cs := [rv, bv, ov]) rfl rfl ?_
  intro b0 w0 hb0 hZ hx0 hs0
  repeat (first | (refine isO ?_; refine s_assign ?_) | (refine isC ?_; first | refine c_sr ?_ | refine c_seq ?_) | (refine l_th ?_))
  refine s_ldV Tryz.underlying54 rfl (by kernel_rfl) rfl hZ ?_
  repeat ((refine isO ?_; refine s_move ?_))
  refine s_call ok_rmay rfl (rmay_ct rv bv ov pv res bids ord prices w0 (hM.ex hx0) (hp.ex hx0)) ?_
  rintro u w1 ⟨rfl, hx1⟩
  refine s_re (v' := .bool true) (vbool (by rw [hck, hm]; rfl)) ?_
  have hx01 := hx0.trans hx1
  repeat (first | (refine isO ?_; refine s_not rfl ?_) | (refine isC ?_; first | refine c_sr ?_ | refine c_th ?_ | refine c_iff rfl ?_) | (refine l_th ?_))
  refine s_ldV Tryz.underlying54 rfl (by kernel_rfl) rfl (hZ.ex hx1) ?_
  repeat ((refine isO ?_; refine s_move ?_))
  refine s_call ok_at rfl (at_ct rv bv ov pv res bids ord prices w1 (hM.ex hx01) (hp.ex hx01) hck hmd) ?_
  rintro u w2 ⟨s, pcv, wv, mv, rfl, hS, hx2⟩
  refine s_call ok_rstep rfl (step_ct (n := res.length) hS (by omega) (by omega) (by omega) hc3 hc5 hmd) ?_
  rintro u w3 ⟨b, rfl, hO, hb, hx3⟩
  have z2 := hx01.size
  have z3 := hx2.size
  repeat (first | (refine isO ?_; first | refine s_move ?_ | refine s_assign ?_ | refine s_extract rfl rfl ?_) | (refine isC ?_; first | refine c_sr ?_ | refine c_ret ?_) | (refine l_th ?_))
  exact ret3 rfl rfl rfl rfl ⟨b, rfl, hO, by omega, (hx01.trans hx2).trans hx3⟩
theorem Step_bad (rv bv ov pv : Value) (res : List Int) (bids : List (List Int)) (ord prices : List Int) (w : World) (hM : Mk w rv bv ov res bids ord) (hp : Ints w pv prices) (hck : (chkM res bids ord && mayP res prices) = false) :
    Ct Tryz.prog 24 #[.agg #[rv, bv, ov], pv] w fun u w' => u = .tuple #[.slice none 0 0, .bool false, .int .i64 1] ∧ Ex w w' := by
  refine enter (N := 22) (vs := [.agg #[rv, bv, ov], pv]) Tryz.func24 rfl rfl rfl ?_
  repeat ((refine isC ?_; refine c_sr ?_))
  refine s_box (cs := [rv, bv, ov]) rfl rfl ?_
  intro b0 w0 hb0 hZ hx0 hs0
  repeat (first | (refine isO ?_; refine s_assign ?_) | (refine isC ?_; first | refine c_sr ?_ | refine c_seq ?_) | (refine l_th ?_))
  refine s_ldV Tryz.underlying54 rfl (by kernel_rfl) rfl hZ ?_
  repeat ((refine isO ?_; refine s_move ?_))
  refine s_call ok_rmay rfl (rmay_ct rv bv ov pv res bids ord prices w0 (hM.ex hx0) (hp.ex hx0)) ?_
  rintro u w1 ⟨rfl, hx1⟩
  refine s_re (v' := .bool false) (vbool hck) ?_
  repeat (first | (refine isO ?_; first | refine s_assign ?_ | refine s_not rfl ?_) | (refine isC ?_; first | refine c_sr ?_ | refine c_ift rfl ?_ | refine c_ret ?_) | (first | refine l_th ?_ | refine th_ret ?_))
  exact ret3 rfl rfl rfl rfl ⟨rfl, hx0.trans hx1⟩
end Go.Proofs.YtifbgpkjbciblaaGreatDoor.Sal
end
section
/- rises.steps, Least: the walk, given the run. -/
set_option maxRecDepth 100000
namespace Go.Proofs.YtifbgpkjbciblaaGreatDoor.Sal
open Go.RowKit
/-- The prices that are come to, one behind the other. -/
structure RunS (res : List Int) (bids : List (List Int)) (L : List (List Int)) : Prop where
  pos : 0 < L.length
  fst : L.getD 0 [] = res
  nxt : ∀ i, i + 1 < L.length → stepR bids (L.getD i []) res.length = some (L.getD (i + 1) [])
  lst : stepR bids (L.getD (L.length - 1) []) res.length = none
  ok : ∀ i, i < L.length → mayP res (L.getD i []) = true
attribute [local irreducible] Go.Code.wpIn Go.wpListIn Ct Ints Rows Sl At Rw WJ
set_option linter.all false
theorem ok_rsteps : CallOK Tryz.prog 87 := callOK Tryz.func87 (by kernel_rfl) rfl
theorem ok_rsteps1 : CallOK Tryz.prog 126 := callOK Tryz.func126 (by kernel_rfl) rfl
theorem ok_rLeast : CallOK Tryz.prog 26 := callOK Tryz.func26 (by kernel_rfl) rfl
theorem grx {w W W' : World} {bo : Nat} (hx : Ex w W) (hb : w.heap.size ≤ bo) (hg : W.grownBy W' (some bo)) : Ex w W' := hx.store hg hb
set_option maxHeartbeats 4000000 in
theorem steps_it {rv bv ov : Value} {res : List Int} {bids : List (List Int)} {ord : List Int} {L : List (List Int)} {w w0 : World} {c bo : Nat} (hM : Mk w rv bv ov res bids ord) (hck : chkM res bids ord = true) (hR : RunS res bids L)
    (hx : Ex w w0) (hbo : w.heap.size ≤ bo) (hA : At w0 c 54 [rv, bv, ov]) (hcb : c ≠ bo) (hlt : bo < w0.heap.size) : IterM Tryz.prog 126 [.pointer (some ⟨c, 0, none⟩)] L bo w0 := by
  intro l I W0 hxW0 hI h0 hY
  obtain ⟨hc1, hc2, hc3, hc4, hc5⟩ := chk_parts hck
  have hL0 := mayP_D hck (hR.ok 0 hR.pos)
  have hrl := len_pr hL0.2
  obtain ⟨hr1, hr2, _⟩ := hrl
  have hxw := hx.trans hxW0
  have hA0 := hA.ex hxW0
  have z0 := hxW0.size
  have hM0 := hM.ex hxw
  refine enter (N := 21) (vs := [.func (.yield l) #[] #[], .pointer (some ⟨c, 0, none⟩)]) Tryz.func126 rfl rfl rfl ?_
  repeat ((refine isC ?_; refine c_sr ?_))
  refine s_fa Tryz.underlying54 rfl ty_ints rfl ?_
  refine s_ldA ty_ints rfl hA0 rfl ?_
  refine s_call ok_Clone rfl (Clone_ct rv res W0 hM0.r (by omega)) ?_
  rintro pv w1 ⟨hL1, hx1⟩
  have hI1 : Ints w1 pv (L.getD 0 []) := by rw [hR.fst]; exact hL1.ints (by omega)
  have hpo : ∀ b, pv.ownBlock = some b → bo < b := fun b hb => by have := hL1.2 b hb; omega
  repeat (first | (refine isO ?_; refine s_assign ?_) | (refine isC ?_; refine c_block ?_) | (refine l_th ?_))
  refine c_loop (γ := Nat × Value × Bool) 2096920 (fun q => [(3, q.2.1), (4, .bool q.2.2)]) (fun q W => q.1 ≤ L.length ∧ q.2.2 = decide (q.1 < L.length) ∧ (q.1 < L.length → Ints W q.2.1 (L.getD q.1 []) ∧ ∀ b, q.2.1.ownBlock = some b → bo < b) ∧ W0.grownBy W (some bo) ∧ I q.1 W) (fun q => L.length - q.1) (0, pv, true) ⟨rfl, rfl, trivial⟩
    ⟨Nat.zero_le _, (decide_eq_true hR.pos).symm, fun _ => ⟨hI1, hpo⟩, gr_ex hx1, hI _ _ _ h0 hx1⟩ ?_
  rintro ⟨i, v, b⟩ ρ W ⟨hi, hb, hv, hgW, hIW⟩
  have hi : i ≤ L.length := hi
  have hIW : I i W := hIW
  have hb : b = decide (i < L.length) := hb
  cases b with
  | false =>
    have hie : i = L.length := by have := of_decide_eq_false hb.symm; omega
    subst hie
    repeat (first | (refine isO ?_; first | refine s_move ?_ | (refine isG ?_; refine g_no rfl rfl rfl ?_) | (refine isPick ?_; refine s_pickf rfl rfl ?_)) | (refine isC ?_; first | refine c_sr ?_ | refine c_seq ?_ | refine c_iff rfl ?_ | refine c_exit ?_) | (first | refine l_th ?_ | refine ib_exit ?_ | refine th_exit ?_))
    exact end0 rfl ⟨hgW, hIW⟩
  | true =>
    have hil : i < L.length := of_decide_eq_true hb.symm
    obtain ⟨hIv, hvo⟩ : Ints W v (L.getD i []) ∧ ∀ b, v.ownBlock = some b → bo < b := hv hil
    have hgW : W0.grownBy W (some bo) := hgW
    have hYi := hY i (L.getD i []) W v (by rw [List.getD_eq_getElem?_getD, List.getElem?_eq_getElem hil]; rfl) hgW hIv hvo hIW
    repeat (first | (refine isO ?_; first | refine s_move ?_ | (refine isG ?_; refine g_yes rfl rfl ?_)) | (refine isC ?_; first | refine c_sr ?_ | refine c_seq ?_))
    refine s_yield (vs := [v]) rfl rfl hYi ?_
    rintro e W1 ⟨rfl, hg1, hI1'⟩
    refine ⟨_, rfl, ?_⟩
    have hgW1 := gr_trans hgW hg1
    have hxW1 : Ex w W1 := grx hxw hbo hgW1
    have hIv1 := hIv.kept hg1 (.inr fun e => by have := hvo bo e; omega)
    have hA1 := hA0.grown hgW1 (fun e => hcb (Option.some.inj e).symm)
    have hMW := hM.ex hxW1
    have hmp := mayP_D hck (hR.ok i hil)
    obtain ⟨hml, hmd⟩ := hmp
    repeat (first | (refine isO ?_; (refine isPick ?_; refine s_pickt rfl rfl ?_)) | (refine isC ?_; first | refine c_th ?_ | refine c_region ?_ | refine c_ift rfl ?_ | refine c_block ?_) | (refine l_th ?_))
    refine s_ldV Tryz.underlying54 rfl (by kernel_rfl) rfl hA1 ?_
    repeat ((refine isO ?_; refine s_move ?_))
    refine s_call ok_at rfl (at_ct rv bv ov v res bids ord (L.getD i []) W1 hMW hIv1 hck hmd) ?_
    rintro u W2 ⟨s, pcv, wv, mv, rfl, hS, hx2⟩
    refine s_call ok_rstep rfl (step_ct (n := res.length) hS (by omega) (by omega) (by omega) hc3 hc5 hmd) ?_
    rintro u W3 ⟨b', rfl, hO, hb', hx3⟩
    have hx13 := hx2.trans hx3
    have z2 := hx2.size
    have z4 := hgW.size
    have z5 := hg1.size
    have hO' := hO.ints
    by_cases hlast : i + 1 < L.length
    · have hst := hR.nxt i hlast
      rw [hst] at hO' ⊢
      have hln := (mayP_D hck (hR.ok (i + 1) hlast)).1
      have e7 : (Option.getD (some (L.getD (i + 1) [])) (L.getD i [])).length = res.length := hln
      rw [e7] at hO'
      repeat (first | (refine isO ?_; first | refine s_move ?_ | refine s_assign ?_ | refine s_extract rfl rfl ?_) | (first | refine th_norm ?_ | refine ib_norm ?_ | refine l_nil ?_))
      refine loop_end (i + 1, sv b' res.length res.length, true) (by (repeat (first | exact agree_refl _ _ | refine agree_upd rfl ?_ | refine agree_ext rfl ?_ | refine agree_mask rfl ?_))) ⟨rfl, rfl, trivial⟩ ⟨hil, (decide_eq_true hlast).symm, fun _ => ⟨hO', fun b hb => ?_⟩, gr_trans hgW1 (gr_trans (gr_ex hx13) (gr_refl _ _)), hI _ _ _ hI1' hx13⟩ (by show L.length - (i + 1) < L.length - i; omega)
      have := Option.some.inj hb
      simp at this
      omega
    · have hst := hR.lst
      have hie : i = L.length - 1 := by omega
      rw [← hie] at hst
      rw [hst]
      repeat (first | (refine isO ?_; first | refine s_move ?_ | refine s_assign ?_ | refine s_extract rfl rfl ?_) | (first | refine th_norm ?_ | refine ib_norm ?_ | refine l_nil ?_))
      refine loop_end (i + 1, sv b' res.length res.length, false) (by (repeat (first | exact agree_refl _ _ | refine agree_upd rfl ?_ | refine agree_ext rfl ?_ | refine agree_mask rfl ?_))) ⟨rfl, rfl, trivial⟩ ⟨hil, (decide_eq_false hlast).symm, fun hh => absurd hh hlast, gr_trans hgW1 (gr_trans (gr_ex hx13) (gr_refl _ _)), hI _ _ _ hI1' hx13⟩ (by show L.length - (i + 1) < L.length - i; omega)
theorem ret_c2m {P : Program} {fn : Func} {w : World} {R : Value → World → Prop} {N : Nat} {σ : Nat → Value} {D a d : Nat} {ta : TypeId} {pa : Addr} {va vd : Value} (hres : fn.results = #[.cell a ta, .tmp d]) (ha : ev N σ (.tmp a) = .pointer (some pa)) (hd : ev N σ (.tmp d) = vd) (ea : Ty1 P ta)
    (hK : w.heap[D]? = some (.deferred (some []))) (hc : (w.putObj D (.deferred none)).cell? pa = some va) (hR : R (.tuple #[va, vd]) (w.putObj D (.deferred none))) : Post P fn R .ret (mk N σ [mark D]) w := by
  have key : LeavesInM (FW none) 0 P fn (mk N σ [mark D]).tmps (RE R) [mark D] .returning w := by
    refine ⟨by simp, .inl ⟨D, _, rfl, run_takeDeferred hK, leave_nil (v := .tuple #[va, vd]) ?_ hR⟩⟩
    have := results_cell2 (P := P) (tmps := (mk N σ [mark D]).tmps) hres (getD_mk' ha) ea hc
    rwa [getD_mk' hd] at this
  exact key
theorem ret_c2 {P : Program} {fn : Func} {w : World} {R : Value → World → Prop} {N : Nat} {σ : Nat → Value} {a d : Nat} {ta : TypeId} {pa : Addr} {va vd : Value} (hres : fn.results = #[.cell a ta, .tmp d]) (ha : ev N σ (.tmp a) = .pointer (some pa)) (hd : ev N σ (.tmp d) = vd) (ea : Ty1 P ta)
    (hc : w.cell? pa = some va) (hR : R (.tuple #[va, vd]) w) : Post P fn R .ret (mk N σ []) w := by
  have key : LeavesInM (FW none) 0 P fn (mk N σ []).tmps (RE R) [] .returning w := by
    refine leave_nil (v := .tuple #[va, vd]) ?_ hR
    have := results_cell2 (P := P) (tmps := (mk N σ []).tmps) hres (getD_mk' ha) ea hc
    rwa [getD_mk' hd] at this
  exact key
theorem rsteps_ct (rv bv ov : Value) (w : World) : Ct Tryz.prog 87 #[.agg #[rv, bv, ov]] w fun u w' => ∃ c, u = .func (.func 126) #[] [.pointer (some ⟨c, 0, none⟩)].toArray ∧ w.heap.size ≤ c ∧ At w' c 54 [rv, bv, ov] ∧ Ex w w' := by
  refine enter (N := 4) (vs := [.agg #[rv, bv, ov]]) Tryz.func87 rfl rfl rfl ?_
  repeat ((refine isC ?_; refine c_sr ?_))
  refine s_box (cs := [rv, bv, ov]) rfl rfl ?_
  intro c w1 hc hA hx hs
  repeat (first | (refine isO ?_; refine s_assign ?_) | (refine isC ?_; refine c_sr ?_) | (refine l_th ?_))
  refine s_mkfn (vs := [.pointer (some ⟨c, 0, none⟩)]) rfl ?_
  repeat (first | (refine isO ?_; refine s_assign ?_) | (refine isC ?_; refine c_ret ?_) | (refine l_th ?_))
  exact ret1 rfl rfl ⟨c, rfl, by omega, hA, hx⟩
/-- Where the last of what was come to is kept. -/
def LeI (bo : Nat) (L : List (List Int)) (i : Nat) (W : World) : Prop := ∃ v, At W bo 25 [v] ∧ (0 < i → Ints W v (L.getD (i - 1) []) ∧ ∀ b, v.ownBlock = some b → bo < b)
theorem Least_bad (rv bv ov : Value) (res : List Int) (bids : List (List Int)) (ord : List Int) (w : World) (hM : Mk w rv bv ov res bids ord) (hck : chkM res bids ord = false) :
    Ct Tryz.prog 26 #[.agg #[rv, bv, ov]] w fun u w' => u = .tuple #[.slice none 0 0, .int .i64 1] ∧ Ex w w' := by
  refine Exists.elim in_ints' fun ti hti => ?_
  refine enter (N := 15) (vs := [.agg #[rv, bv, ov]]) Tryz.func26 rfl rfl rfl ?_
  repeat ((refine isC ?_; refine c_sr ?_))
  refine s_box (cs := [rv, bv, ov]) rfl rfl ?_
  intro c w1 hc hZ hx1 hs1
  refine s_alloc (cs := [.slice none 0 0]) hti.1 hti.2.1 rfl ?_
  intro bo w2 hbo hB hx2 hs2
  have hx02 := hx1.trans hx2
  have hZ2 := hZ.ex hx2
  repeat (first | (refine isO ?_; refine s_assign ?_) | (refine isC ?_; first | refine c_sr ?_ | refine c_seq ?_) | (refine l_th ?_))
  refine s_ldV Tryz.underlying54 rfl (by kernel_rfl) rfl hZ2 ?_
  refine s_call ok_mcheck rfl (mcheck_ct rv bv ov res bids ord w2 (hM.ex hx02)) ?_
  rintro u w3 ⟨rfl, hx3⟩
  refine s_re (v' := .bool false) (vbool hck) ?_
  have z1 := hx1.size
  repeat (first | (refine isO ?_; refine s_not rfl ?_) | (refine isC ?_; first | refine c_sr ?_ | refine c_ift rfl ?_) | (refine l_th ?_))
  refine s_stA (n := 0) (u := .slice none 0 0) ty_ints rfl rfl rfl (hB.ex hx3) (by simp) ?_
  intro w4 hB4 hg4
  repeat (first | (refine isO ?_; refine s_assign ?_) | (refine isC ?_; refine c_ret ?_) | (first | refine l_th ?_ | refine th_ret ?_))
  exact ret_c2 (pa := ⟨bo, 0, none⟩) rfl rfl rfl ty_ints (by rw [hB4.cell]; rfl) ⟨rfl, (hx02.trans hx3).store hg4 (by omega)⟩
set_option maxHeartbeats 4000000 in
theorem Least_ok (rv bv ov : Value) (res : List Int) (bids : List (List Int)) (ord : List Int) (L : List (List Int)) (w : World) (hM : Mk w rv bv ov res bids ord) (hck : chkM res bids ord = true) (hR : RunS res bids L) :
    Ct Tryz.prog 26 #[.agg #[rv, bv, ov]] w fun u w' => ∃ b, u = .tuple #[sv b res.length res.length, .int .i64 0] ∧ OwnI w' 3 b res.length (L.getD (L.length - 1) []) ∧ w.heap.size ≤ b ∧ Ex w w' := by
  have hpos := hR.pos
  obtain ⟨hel, hed⟩ := mayP_D hck (hR.ok (L.length - 1) (by omega))
  obtain ⟨hr1, hr2, _⟩ := len_pr hed
  refine Exists.elim in_ints' fun ti hti => ?_
  refine enter (N := 15) (vs := [.agg #[rv, bv, ov]]) Tryz.func26 rfl rfl rfl ?_
  repeat ((refine isC ?_; refine c_sr ?_))
  refine s_box (cs := [rv, bv, ov]) rfl rfl ?_
  intro c w1 hc hZ hx1 hs1
  refine s_alloc (cs := [.slice none 0 0]) hti.1 hti.2.1 rfl ?_
  intro bo w2 hbo hB hx2 hs2
  have hx02 := hx1.trans hx2
  have hZ2 := hZ.ex hx2
  repeat (first | (refine isO ?_; refine s_assign ?_) | (refine isC ?_; first | refine c_sr ?_ | refine c_seq ?_) | (refine l_th ?_))
  refine s_ldV Tryz.underlying54 rfl (by kernel_rfl) rfl hZ2 ?_
  refine s_call ok_mcheck rfl (mcheck_ct rv bv ov res bids ord w2 (hM.ex hx02)) ?_
  rintro u w3 ⟨rfl, hx3⟩
  refine s_re (v' := .bool true) (vbool hck) ?_
  have hx03 := hx02.trans hx3
  have z1 := hx1.size
  have z2 := hx2.size
  have z3 := hx3.size
  repeat (first | (refine isO ?_; refine s_not rfl ?_) | (refine isC ?_; first | refine c_sr ?_ | refine c_th ?_ | refine c_seq ?_ | refine c_iff rfl ?_) | (refine l_th ?_))
  refine s_ldV Tryz.underlying54 rfl (by kernel_rfl) rfl (hZ2.ex hx3) ?_
  refine s_call ok_rsteps rfl (rsteps_ct rv bv ov w3) ?_
  rintro u w4 ⟨c2, rfl, hc2, hA4, hx4⟩
  have hB4 := hB.ex (hx3.trans hx4)
  have lB := hB.lt
  have z4 := hx4.size
  have hx04 := hx03.trans hx4
  repeat (first | (refine isC ?_; refine c_block ?_) | (refine l_th ?_))
  refine c_rangeM (bo := bo) rfl ok_rsteps1 (steps_it hM hck hR hx04 (by omega) hA4 (by omega) (by omega)) (Ex.refl w4) (by omega) rfl (LeI bo L) ?_ ?_ ⟨_, hB4, fun h => absurd h (by omega)⟩ (fun v σ => upd (updl [(10, v)] σ) 4 v) ?_ ?_ ?_
  · rintro i W W' ⟨v, hA, hv⟩ hg
    have hx := Ex.of_grown hg
    exact ⟨v, hA.ex hx, fun h => ⟨(hv h).1.ex hx, (hv h).2⟩⟩
  · rintro i W k o o' ⟨v, hA, hv⟩ ho hc
    have hk := KC.put (o' := o') ho hc
    exact ⟨v, hk.at hA, fun h => ⟨hk.ints (hv h).1, (hv h).2⟩⟩
  · intro l v W K hK
    repeat (first | (refine isO ?_; refine s_assign ?_) | (refine isC ?_; refine c_region ?_) | (refine l_th ?_))
    exact hK
  · rintro l i x v W hLi hgW hIv hvo ⟨v0, hA, _⟩
    obtain ⟨va, vc, hvf⟩ := hIv.form
    subst hvf
    repeat (first | (refine isO ?_; refine s_move ?_) | (refine isC ?_; first | refine c_region ?_ | refine c_block ?_))
    refine s_stA (n := 0) (u := .slice va x.length vc) ty_ints rfl rfl rfl hA (by simp) ?_
    intro W1 hA1 hg1
    repeat ((first | refine ib_norm ?_ | refine l_nil ?_))
    refine ⟨hg1, _, hA1, fun _ => ⟨?_, hvo⟩⟩
    have e : L.getD (i + 1 - 1) [] = x := by rw [Nat.add_sub_cancel, List.getD_eq_getElem?_getD, hLi]; rfl
    rw [e]
    exact hIv.kept hg1 (.inr fun e => by have := hvo bo e; omega)
  · rintro D W hD hgW ⟨v, hA, hv⟩ hK
    obtain ⟨hIv, hvo⟩ := hv hpos
    have hne : L.getD (L.length - 1) [] ≠ [] := fun e => by rw [e] at hel; simp at hel; omega
    have hxW : Ex w W := grx hx04 (by omega) hgW
    have zW := hgW.size
    repeat (first | (refine isO ?_; (refine isLD ?_; refine s_ldA ty_ints rfl (by assumption) rfl ?_)) | (refine isC ?_; refine c_sr ?_))
    refine s_call ok_Clone rfl (Clone_own v _ W hIv (by omega) hne) ?_
    rintro u W1 ⟨b, cc, rfl, hO1, hb1, hx1W⟩
    refine s_call ok_Clip rfl (Clip_own b cc _ W1 hO1) ?_
    rintro u W2 ⟨rfl, hO2, hx2W⟩
    have hx12 := hx1W.trans hx2W
    refine s_stA (n := 0) (u := sv b (L.getD (L.length - 1) []).length (L.getD (L.length - 1) []).length) ty_ints rfl rfl rfl (hA.ex hx12) (by simp) ?_
    intro W3 hA3 hg3
    have hK3 := mark_gr (mark_ex hK hx12) (hA.ex hx12) hg3
    have hkm := mark_kc hK3
    have hxW3 : Ex w W3 := (hxW.trans hx12).store hg3 (by omega)
    have hO3 := hO2.grown hg3 (fun e => by cases e; omega)
    rw [hel] at hO3 hA3
    have hO4 : OwnI (W3.putObj D (.deferred none)) 3 b res.length (L.getD (L.length - 1) []) := by
      obtain ⟨sp, h1, h2, h3⟩ := hO3
      exact ⟨sp, hkm.at h1, h2, h3⟩
    repeat (first | (refine isO ?_; refine s_assign ?_) | (refine isC ?_; refine c_ret ?_) | (refine l_th ?_))
    exact ret_c2m (pa := ⟨bo, 0, none⟩) rfl rfl rfl ty_ints hK3 (by rw [(hkm.at hA3).cell]; rfl) ⟨b, rfl, hO4, by omega, mark_out hxW3 (by omega)⟩
end Go.Proofs.YtifbgpkjbciblaaGreatDoor.Sal
end
section
/- Plain: prices that rise: none is too high. -/
set_option maxRecDepth 100000
namespace Go.Proofs.YtifbgpkjbciblaaGreatDoor.Sal
set_option linter.all false
/-- Does one that must have something want nothing but these? -/
def needB (bids : List (List Int)) (p : List Int) (n : Nat) (l : List Int) (i : Nat) : Bool := mustB bids p i && wantB (RD bids p) n l i
def compP (bids : List (List Int)) (p : List Int) (n : Nat) : Prop := ∀ l, risB (-1) l (n : Int) = true → cnt (fun i => needB bids p n l i) bids.length ≤ l.length
def LensB (bids : List (List Int)) (n : Nat) : Prop := ∀ i, i < bids.length → lenB bids i = 0 ∨ lenB bids i = n
theorem gD_le {bids : List (List Int)} {p : List Int} {i k : Nat} (h : k < lenB bids i) : gD bids p i k ≤ dG bids p i := by rw [dG_eq]; exact gmx_all _ _ _ h
theorem must_iff {bids : List (List Int)} {p : List Int} {i : Nat} : mustB bids p i = true ↔ 0 < dG bids p i := by
  have := dG_ge bids p i
  unfold mustB
  simp; omega
theorem need_out {bids : List (List Int)} {p : List Int} {n i k : Nat} {l : List Int} (h : needB bids p n l i = true) (hl : lenB bids i = n) (hk : k < n) (hc : l.contains (k : Int) = false) : gD bids p i k < dG bids p i := by
  unfold needB at h
  rw [Bool.and_eq_true, wantB_iff] at h
  have hle := gD_le (p := p) (show k < lenB bids i by omega)
  rcases Int.lt_or_eq_of_le hle with h1 | h1
  · exact h1
  · exfalso
    have := h.2 k hk (by unfold RD; rw [h.1, decide_eq_true (show k < lenB bids i by omega), decide_eq_true h1]; rfl)
    rw [this] at hc; cases hc
theorem must_cnt {bids : List (List Int)} {p : List Int} {n : Nat} (hm8 : bids.length ≤ 8) (l : List Int) : withN (RD bids p) n (rowL bids.length (mustB bids p)) l = cnt (fun i => needB bids p n l i) bids.length := by
  rw [withN_cnt (ris_of hm8 _)]
  refine cnt_congr _ fun i hi => ?_
  unfold needB
  congr 1
  rw [Bool.eq_iff_iff, rowL_has]
  constructor
  · rintro ⟨k, h1, h2, h3⟩
    obtain rfl : i = k := by omega
    exact h2
  · intro h; exact ⟨i, hi, h, rfl⟩
theorem comp_iff {bids : List (List Int)} {p : List Int} {n : Nat} (hn : n ≤ 8) (hm8 : bids.length ≤ 8) : setR bids p n = none ↔ compP bids p n := by
  unfold setR
  rw [fewR_eq hn (ris_of hm8 _)]
  constructor
  · intro h l hl
    have := few_all h hl
    unfold fewB at this
    rw [must_cnt hm8] at this
    have := of_decide_eq_false this
    omega
  · intro h
    cases hf : fewTo (RD bids p) n (rowL bids.length (mustB bids p)) (n + 1) with
    | none => rfl
    | some l =>
      exfalso
      obtain ⟨h1, h2, _⟩ := fewTo_first hf
      unfold fewB at h2
      rw [must_cnt hm8] at h2
      have := of_decide_eq_true h2
      have := h l h1
      omega
theorem len_filter_split (l : List Int) (b : Int → Bool) : (l.filter b).length + (l.filter fun q => !b q).length = l.length := by
  induction l with
  | nil => rfl
  | cons a l ih => cases h : b a <;> simp [h] <;> omega
/-- Of any part of the set that is too few more of those within want any than it has. -/
theorem set_part {bids : List (List Int)} {p : List Int} {n : Nat} (hn : n ≤ 8) (hm8 : bids.length ≤ 8) {l : List Int} (h : setR bids p n = some l) (b : Int → Bool) (hb : ∃ q ∈ l, b q = true) :
    (l.filter b).length < cnt (fun i => needB bids p n l i && !needB bids p n (l.filter fun q => !b q) i) bids.length := by
  unfold setR at h
  rw [fewR_eq hn (ris_of hm8 _)] at h
  obtain ⟨h1, h2, h3, _⟩ := fewTo_first h
  have hsp := len_filter_split l b
  have hpos : 0 < (l.filter b).length := by
    obtain ⟨q, hq, hbq⟩ := hb
    exact List.length_pos_of_mem (List.mem_filter.2 ⟨hq, hbq⟩)
  have h4 := h3 (l.filter fun q => !b q) (ris_sub List.filter_sublist (-1) h1) (by omega)
  unfold fewB at h2 h4
  rw [must_cnt hm8] at h2 h4
  have h2' := of_decide_eq_true h2
  have h4' := of_decide_eq_false h4
  have hs := cnt_split (fun i => needB bids p n l i) (fun i => needB bids p n (l.filter fun q => !b q) i) bids.length
  have hle := cnt_le (s := fun i => needB bids p n l i && needB bids p n (l.filter fun q => !b q) i) (t := fun i => needB bids p n (l.filter fun q => !b q) i) bids.length (fun i _ hh => by simp only [Bool.and_eq_true] at hh; exact hh.2)
  omega
/-- Such a one wants something of the part. -/
theorem part_want {bids : List (List Int)} {p : List Int} {n i : Nat} {l : List Int} {b : Int → Bool} (h : (needB bids p n l i && !needB bids p n (l.filter fun q => !b q) i) = true) :
    needB bids p n l i = true ∧ ∃ k, k < n ∧ b (k : Int) = true ∧ l.contains (k : Int) = true ∧ gD bids p i k = dG bids p i := by
  rw [Bool.and_eq_true, Bool.not_eq_true'] at h
  obtain ⟨h1, h2⟩ := h
  refine ⟨h1, ?_⟩
  have h1' := h1
  unfold needB at h1' h2
  rw [Bool.and_eq_true] at h1'
  rw [h1'.1, Bool.true_and] at h2
  have : ¬ ∀ k, k < n → RD bids p i k = true → (l.filter fun q => !b q).contains (k : Int) = true := fun hh => by rw [wantB_iff.2 hh] at h2; cases h2
  simp only [Classical.not_forall] at this
  obtain ⟨k, hk, hR, hc⟩ := this
  have hlc := wantB_iff.1 h1'.2 k hk hR
  refine ⟨k, hk, ?_, hlc, ?_⟩
  · cases hb : b (k : Int) with
    | true => rfl
    | false =>
      exfalso; apply hc
      rw [List.contains_iff_mem, List.mem_filter]
      exact ⟨by rw [← List.contains_iff_mem]; exact hlc, by rw [hb]; rfl⟩
  · unfold RD at hR
    simp only [Bool.and_eq_true, decide_eq_true_eq] at hR
    exact hR.2.2
theorem far_mem_dG {bids : List (List Int)} {p : List Int} {n i : Nat} {l : List Int} (hi : i < bids.length) (h : needB bids p n l i = true) : dG bids p i ∈ farL bids p l n (rowL bids.length (mustB bids p)) (rowL bids.length (mustB bids p)).length := by
  unfold needB at h
  rw [Bool.and_eq_true] at h
  exact mem_far.2 ⟨i, hi, h.1, mem_farOne.2 ⟨h.2, .inl rfl⟩⟩
theorem need_len {bids : List (List Int)} {p : List Int} {n i : Nat} {l : List Int} (hL : LensB bids n) (hi : i < bids.length) (h : needB bids p n l i = true) : lenB bids i = n := by
  unfold needB at h
  rw [Bool.and_eq_true] at h
  exact (must_wants (hL i hi) h.1).1
theorem by_pos {bids : List (List Int)} {p : List Int} {n : Nat} {l : List Int} (hL : LensB bids n) (h : 1 ≤ (farL bids p l n (rowL bids.length (mustB bids p)) (rowL bids.length (mustB bids p)).length).length) : 1 ≤ farBy bids p l n (rowL bids.length (mustB bids p)) := by
  obtain ⟨i, hi, hmu, hx⟩ := mem_far.1 (by_mem h)
  obtain ⟨hw, hx⟩ := mem_farOne.1 hx
  have hd := must_iff.1 hmu
  rcases hx with hx | ⟨k, hk, hc, hx⟩
  · omega
  · have := need_out (k := k) (l := l) (by unfold needB; rw [hmu, hw]; rfl) (must_wants (hL i hi) hmu).1 hk hc
    omega
/-- What the set's items cost behind the step was bid for each of them. -/
theorem step_top {bids : List (List Int)} {p : List Int} {n : Nat} (hn : n ≤ 8) (hm8 : bids.length ≤ 8) (hL : LensB bids n) (hp : p.length = n) {l : List Int} (h : setR bids p n = some l) {k : Nat} (hk : k < n) (hc : l.contains (k : Int) = true) :
    ∃ i, i < bids.length ∧ lenB bids i = n ∧ (raise p l (farBy bids p l n (rowL bids.length (mustB bids p)))).getD k 0 ≤ (bids.getD i []).getD k 0 := by
  have h1 := set_part hn hm8 h (fun x => decide (x = (k : Int))) ⟨(k : Int), by rw [← List.contains_iff_mem]; exact hc, by simp⟩
  obtain ⟨i, hi, hh⟩ := cnt_pos (Nat.lt_of_le_of_lt (Nat.zero_le _) h1)
  obtain ⟨h2, k1, hk1, hb1, hc1, hg1⟩ := part_want hh
  have hkk : k1 = k := by have := of_decide_eq_true hb1; omega
  subst hkk
  refine ⟨i, hi, need_len hL hi h2, ?_⟩
  rw [raise_get (by omega), hc1]
  have := by_le (far_mem_dG hi h2)
  unfold gD at hg1
  simp only [if_true]
  omega
end Go.Proofs.YtifbgpkjbciblaaGreatDoor.Sal
end
