/- The Book of salesroomlaw01: what lies where; keep. -/
import Derived.Test.YtkhnohnkcdcajaaDoorCore18
import Derived.Test.YtkhnohnkcdcajaaDoorTW
set_option maxRecDepth 100000
namespace Go.Proofs.YtkhnohnkcdcajaaDoor.Sal
open Go.RowKit
set_option linter.all false
/-! ### What turns, but for some blocks -/
structure KtS (S : Nat → Prop) (w w' : World) : Prop where
  os : w'.os = w.os
  tape : w'.tape = w.tape
  output : w'.output = w.output
  size : w.heap.size ≤ w'.heap.size
  block : ∀ k, k < w.heap.size → ¬ S k → w'.heap[k]? = w.heap[k]?
theorem KtS.refl (S : Nat → Prop) (w : World) : KtS S w w := ⟨rfl, rfl, rfl, Nat.le_refl _, fun _ _ _ => rfl⟩
theorem KtS.trans {S : Nat → Prop} {a b c : World} (h : KtS S a b) (k : KtS S b c) : KtS S a c := ⟨k.os.trans h.os, k.tape.trans h.tape, k.output.trans h.output, Nat.le_trans h.size k.size, fun q hq hn => (k.block q (Nat.lt_of_lt_of_le hq h.size) hn).trans (h.block q hq hn)⟩
theorem KtS.mono {S S' : Nat → Prop} {a b : World} (h : KtS S a b) (hs : ∀ k, S k → S' k) : KtS S' a b := ⟨h.os, h.tape, h.output, h.size, fun q hq hn => h.block q hq (fun e => hn (hs q e))⟩
theorem KtS.of_ex {S : Nat → Prop} {a b : World} (h : Ex a b) : KtS S a b := ⟨h.os, h.tape, h.output, h.size, fun q hq _ => h.block q hq⟩
theorem KtS.of_grown {S : Nat → Prop} {a b : World} {o : Option Nat} (h : a.grownBy b o) (hs : ∀ k, o = some k → S k) : KtS S a b := ⟨h.os, h.tape, h.output, h.size, fun q hq hn => h.block q hq (fun e => hn (hs q e.symm))⟩
/-- The set may grow by blocks that were not there. -/
theorem KtS.later {S S' : Nat → Prop} {a b c : World} (h : KtS S a b) (k : KtS S' b c) (hs : ∀ q, S' q → S q ∨ a.heap.size ≤ q) : KtS S a c :=
  ⟨k.os.trans h.os, k.tape.trans h.tape, k.output.trans h.output, Nat.le_trans h.size k.size, fun q hq hn => (k.block q (Nat.lt_of_lt_of_le hq h.size) (fun e => by rcases hs q e with e | e; exact hn e; omega)).trans (h.block q hq hn)⟩
theorem KtS.ex {S : Nat → Prop} {w0 a b : World} (h : Ex w0 a) (k : KtS S a b) (hs : ∀ q, S q → w0.heap.size ≤ q) : Ex w0 b :=
  ⟨k.os.trans h.os, k.tape.trans h.tape, k.output.trans h.output, Nat.le_trans h.size k.size, fun q hq => (k.block q (Nat.lt_of_lt_of_le hq h.size) (fun e => by have := hs q e; omega)).trans (h.block q hq)⟩
theorem Wd.kt {S : Nat → Prop} {w w' : World} {E : TypeId} {s n : Nat} {v : Value} {xs : List Value} (h : Wd w E s v n xs) (k : KtS S w w') (hs : ∀ b, v.ownBlock = some b → ¬ S b) : Wd w' E s v n xs := h.kept fun b hb hl => k.block b hl (hs b hb)
theorem At.kt {S : Nat → Prop} {w w' : World} {E : TypeId} {b : Nat} {cs : List Value} (h : At w b E cs) (k : KtS S w w') (hs : ¬ S b) : At w' b E cs := (k.block b h.lt hs).trans h
/-! ### What is held -/
def nilV : Value := .slice none 0 0
/-- The cells of what is held. -/
def flat3 (L G : Nat → Value) : List Nat → List Value
  | [] => []
  | q :: ns => L q :: G q :: .int .i64 (q : Int) :: flat3 L G ns
theorem flat3_len (L G : Nat → Value) : ∀ ns, (flat3 L G ns).length = ns.length * 3
  | [] => rfl
  | q :: ns => by simp [flat3, flat3_len L G ns]; omega
theorem flat3_app (L G : Nat → Value) : ∀ (ns ms : List Nat), flat3 L G (ns ++ ms) = flat3 L G ns ++ flat3 L G ms
  | [], ms => rfl
  | q :: ns, ms => by simp [flat3, flat3_app L G ns ms]
theorem flat3_get (L G : Nat → Value) : ∀ (ns : List Nat) (i : Nat) (q : Nat), ns[i]? = some q → ∀ j v, [L q, G q, Value.int .i64 (q : Int)][j]? = some v → (flat3 L G ns)[i * 3 + j]? = some v
  | p :: ns, 0, q, h, j, v, hj => by
    simp at h; subst h
    match j with
    | 0 => simpa [flat3] using hj
    | 1 => simpa [flat3] using hj
    | 2 => simpa [flat3] using hj
    | j + 3 => simp at hj
  | p :: ns, i + 1, q, h, j, v, hj => by
    have ih := flat3_get L G ns i q (by simpa using h) j v hj
    have e : (i + 1) * 3 + j = (i * 3 + j) + 3 := by omega
    rw [e]
    simpa [flat3] using ih
theorem flat3_congr {L G L' G' : Nat → Value} : ∀ (ns : List Nat), (∀ q ∈ ns, L q = L' q ∧ G q = G' q) → flat3 L G ns = flat3 L' G' ns
  | [], _ => rfl
  | q :: ns, h => by
    have h1 := h q (by simp)
    simp [flat3, h1.1, h1.2, flat3_congr ns (fun p hp => h p (by simp [hp]))]
def fset1 (G : Nat → Value) (q : Nat) (v : Value) (p : Nat) : Value := if p = q then v else G p
theorem flat3_set (L G : Nat → Value) (v : Value) : ∀ (ns : List Nat) (i q : Nat), ns.Nodup → ns[i]? = some q → (flat3 L G ns).set (i * 3 + 1) v = flat3 L (fset1 G q v) ns
  | p :: ns, 0, q, hn, h => by
    simp at h; subst h
    rw [List.nodup_cons] at hn
    have := flat3_congr (L := L) (G := fset1 G p v) (L' := L) (G' := G) ns (fun x hx => ⟨rfl, by unfold fset1; rw [if_neg (fun e : x = p => hn.1 (by rw [← e]; exact hx))]⟩)
    simp [flat3, this, fset1]
  | p :: ns, i + 1, q, hn, h => by
    rw [List.nodup_cons] at hn
    have hq : q ∈ ns := List.mem_iff_getElem?.2 ⟨i, by simpa using h⟩
    have ih := flat3_set L G v ns i q hn.2 (by simpa using h)
    have e : (i + 1) * 3 + 1 = (i * 3 + 1) + 3 := by omega
    have e2 : fset1 G q v p = G p := by unfold fset1; rw [if_neg (fun e : p = q => hn.1 (by rw [e]; exact hq))]
    rw [e]
    simp [flat3, ih, e2]
def bkc (M : Nat) (vi vl : Value) : List Value := [.int .i64 (M : Int), nilV, vi, nilV, vl, nilV, nilV, nilV, nilV, nilV]
attribute [local irreducible] Go.Code.wpIn Go.wpListIn Ct Ints Rows Sl At Rw WJ
attribute [local irreducible] Wd
theorem ok_keepInt : CallOK Tryd.prog 34 := callOK Tryd.func34 (by kernel_rfl) rfl
theorem ok_keepIntList : CallOK Tryd.prog 33 := callOK Tryd.func33 (by kernel_rfl) rfl
theorem in_w {P : Program} {E : TypeId} {s B : Nat} {z : Value} (h : (P.info? E).map (fun i => (i.zero, i.size, i.bytes)) = some (some z, s, B)) (hz : z.cells.size = s) : InfoW P E s z B := by
  cases hi : P.info? E with
  | none => rw [hi] at h; cases h
  | some ti =>
    rw [hi] at h
    simp only [Option.map_some, Option.some.injEq, Prod.mk.injEq] at h
    exact ⟨⟨ti, hi, h.1, h.2.1, by omega⟩, hz⟩
theorem in_heldInt : InfoW Tryd.prog 68 3 (.agg #[.slice none 0 0, .slice none 0 0, .int .i64 0]) 56 := in_w (by kernel_rfl) rfl
theorem in_heldIntList : InfoW Tryd.prog 66 3 (.agg #[.slice none 0 0, .slice none 0 0, .int .i64 0]) 56 := in_w (by kernel_rfl) rfl
theorem sl_hi : SlT Tryd.prog 40 68 := Tryd.underlying40
theorem sl_hl : SlT Tryd.prog 42 66 := Tryd.underlying42
theorem ty_hi : Ty1 Tryd.prog 40 := ⟨let ⟨i, h, _, hs, _⟩ := info_parts (show (Tryd.prog.info? 40).map (fun i => (i.zero, i.size, i.bytes)) = some (some (.slice none 0 0), 1, 24) by kernel_rfl); ⟨i, h, hs⟩, _, Tryd.underlying40, rfl⟩
theorem ty_hl : Ty1 Tryd.prog 42 := ⟨let ⟨i, h, _, hs, _⟩ := info_parts (show (Tryd.prog.info? 42).map (fun i => (i.zero, i.size, i.bytes)) = some (some (.slice none 0 0), 1, 24) by kernel_rfl); ⟨i, h, hs⟩, _, Tryd.underlying42, rfl⟩
theorem Ty1.n {P : Program} {E : TypeId} (h : Ty1 P E) : TyN P E := let ⟨⟨i, hi, hs⟩, _⟩ := h; ⟨i, hi, by omega⟩
theorem built_hi (a : Option Addr) (n c : Nat) (q : Int) : Tryd.prog.built 68 [(0, .slice a n c), (2, .int .i64 q)] = some [.slice a n c, .slice none 0 0, .int .i64 q].toArray := by kernel_rfl
theorem built_hl (a : Option Addr) (n c : Nat) (q : Int) : Tryd.prog.built 66 [(0, .slice a n c), (2, .int .i64 q)] = some [.slice a n c, .slice none 0 0, .int .i64 q].toArray := by kernel_rfl
theorem keepInt_ct (bk M n : Nat) (xs : List Value) (vi vl : Value) (a : Option Addr) (k c : Nat) (w : World) (hA : At w bk 49 (bkc M vi vl)) (hW : Wd w 68 3 vi n xs) (hne : ∀ b, vi.ownBlock = some b → b ≠ bk) (hM : M ≤ 100000) (hn : n ≤ 100000) :
    Ct Tryd.prog 34 #[.pointer (some ⟨bk, 0, none⟩), .slice a k c] w fun u w' => u = .tuple #[] ∧ ∃ vi', At w' bk 49 (bkc (M + 1) vi' vl) ∧ Wd w' 68 3 vi' (n + 1) (xs ++ [.slice a k c, nilV, .int .i64 ((M + 1 : Nat) : Int)]) ∧ (vi'.ownBlock = vi.ownBlock ∨ ∀ b, vi'.ownBlock = some b → w.heap.size ≤ b) ∧ KtS (fun b => b = bk ∨ vi.ownBlock = some b) w w' := by
  refine enter (N := 26) (vs := [.pointer (some ⟨bk, 0, none⟩), .slice a k c]) Tryd.func34 rfl rfl rfl ?_
  repeat (first | (refine isO ?_; first | refine s_move ?_ | refine s_assign ?_ | (refine isG ?_; first | refine g_yes rfl rfl ?_ | refine g_no rfl rfl rfl ?_ | refine g_un rfl rfl ?_) | (refine isBin ?_; first | refine s_inc rfl (by omega) ?_ | refine s_lssT rfl rfl (by omega) ?_ | refine s_lssF rfl rfl (by omega) ?_ | refine s_lss rfl rfl ?_ | refine s_eqlT rfl rfl (by omega) ?_ | refine s_eqlF rfl rfl (by omega) ?_ | refine s_eql rfl rfl ?_ | refine s_neqT rfl rfl (by omega) ?_ | refine s_neqF rfl rfl (by omega) ?_ | refine s_neq rfl rfl ?_ | refine s_leqT rfl rfl (by omega) ?_ | refine s_leqF rfl rfl (by omega) ?_ | refine s_leq rfl rfl ?_ | refine s_gtrT rfl rfl (by omega) ?_ | refine s_gtrF rfl rfl (by omega) ?_ | refine s_gtr rfl rfl ?_ | refine s_geqT rfl rfl (by omega) ?_ | refine s_geqF rfl rfl (by omega) ?_ | refine s_geq rfl rfl ?_ | refine s_add rfl rfl ⟨by omega, by omega⟩ ?_ | refine s_sub rfl rfl ⟨by omega, by omega⟩ ?_) | (refine isCall ?_; first | refine s_lenI sl_ints rfl (by assumption) ?_ | refine s_lenR sl_rows rfl (by assumption) ?_ | refine s_len sl_ints rfl ?_ | refine s_len sl_rows rfl ?_) | (refine isIA ?_; refine s_ixI sl_ints ty_int rfl rfl rfl (by assumption) (by omega) ?_; intro _) | (refine isPick ?_; first | refine s_pickt rfl rfl ?_ | refine s_pickf rfl rfl ?_) | (refine isLD ?_; first | refine s_ldA ty_int rfl (by assumption) rfl ?_ | refine s_ldA ty_ints rfl (by assumption) rfl ?_) | refine s_extract rfl rfl ?_ | refine s_not rfl ?_) | (refine isC ?_; first | refine c_sr ?_ | refine c_th ?_ | refine c_seq ?_ | refine c_region ?_ | refine c_ift rfl ?_ | refine c_iff rfl ?_ | refine c_block ?_ | refine c_ret ?_ | refine c_exit ?_ | refine c_skip ?_) | (first | refine l_th ?_ | refine th_norm ?_ | refine ib_norm ?_ | refine l_nil ?_ | refine th_ret ?_ | refine ib_ret ?_ | refine ib_exit ?_ | refine th_exit ?_ | refine ib_pass rfl ?_))
  refine s_nil rfl ?_
  refine s_faN Tryd.underlying49 rfl ty_int.n rfl ?_
  refine s_ldA ty_int rfl hA rfl ?_
  repeat (first | (refine isO ?_; first | refine s_move ?_ | refine s_assign ?_ | (refine isG ?_; first | refine g_yes rfl rfl ?_ | refine g_no rfl rfl rfl ?_ | refine g_un rfl rfl ?_) | (refine isBin ?_; first | refine s_inc rfl (by omega) ?_ | refine s_lssT rfl rfl (by omega) ?_ | refine s_lssF rfl rfl (by omega) ?_ | refine s_lss rfl rfl ?_ | refine s_eqlT rfl rfl (by omega) ?_ | refine s_eqlF rfl rfl (by omega) ?_ | refine s_eql rfl rfl ?_ | refine s_neqT rfl rfl (by omega) ?_ | refine s_neqF rfl rfl (by omega) ?_ | refine s_neq rfl rfl ?_ | refine s_leqT rfl rfl (by omega) ?_ | refine s_leqF rfl rfl (by omega) ?_ | refine s_leq rfl rfl ?_ | refine s_gtrT rfl rfl (by omega) ?_ | refine s_gtrF rfl rfl (by omega) ?_ | refine s_gtr rfl rfl ?_ | refine s_geqT rfl rfl (by omega) ?_ | refine s_geqF rfl rfl (by omega) ?_ | refine s_geq rfl rfl ?_ | refine s_add rfl rfl ⟨by omega, by omega⟩ ?_ | refine s_sub rfl rfl ⟨by omega, by omega⟩ ?_) | (refine isCall ?_; first | refine s_lenI sl_ints rfl (by assumption) ?_ | refine s_lenR sl_rows rfl (by assumption) ?_ | refine s_len sl_ints rfl ?_ | refine s_len sl_rows rfl ?_) | (refine isIA ?_; refine s_ixI sl_ints ty_int rfl rfl rfl (by assumption) (by omega) ?_; intro _) | (refine isPick ?_; first | refine s_pickt rfl rfl ?_ | refine s_pickf rfl rfl ?_) | (refine isLD ?_; first | refine s_ldA ty_int rfl (by assumption) rfl ?_ | refine s_ldA ty_ints rfl (by assumption) rfl ?_) | refine s_extract rfl rfl ?_ | refine s_not rfl ?_) | (refine isC ?_; first | refine c_sr ?_ | refine c_th ?_ | refine c_seq ?_ | refine c_region ?_ | refine c_ift rfl ?_ | refine c_iff rfl ?_ | refine c_block ?_ | refine c_ret ?_ | refine c_exit ?_ | refine c_skip ?_) | (first | refine l_th ?_ | refine th_norm ?_ | refine ib_norm ?_ | refine l_nil ?_ | refine th_ret ?_ | refine ib_ret ?_ | refine ib_exit ?_ | refine th_exit ?_ | refine ib_pass rfl ?_))
  refine s_nil rfl ?_
  refine s_faN Tryd.underlying49 rfl ty_int.n rfl ?_
  refine s_stA (n := 0) (u := .int .i64 ((M + 1 : Nat) : Int)) ty_int rfl (vint (by omega)) rfl hA (by simp [bkc]) ?_
  intro w1 hA1 hg1
  have hA1' : At w1 bk 49 (bkc (M + 1) vi vl) := hA1
  have hW1 := hW.grown hg1 (fun b hb e => hne b hb (Option.some.inj e).symm)
  repeat (first | (refine isO ?_; first | refine s_move ?_ | refine s_assign ?_ | (refine isG ?_; first | refine g_yes rfl rfl ?_ | refine g_no rfl rfl rfl ?_ | refine g_un rfl rfl ?_) | (refine isBin ?_; first | refine s_inc rfl (by omega) ?_ | refine s_lssT rfl rfl (by omega) ?_ | refine s_lssF rfl rfl (by omega) ?_ | refine s_lss rfl rfl ?_ | refine s_eqlT rfl rfl (by omega) ?_ | refine s_eqlF rfl rfl (by omega) ?_ | refine s_eql rfl rfl ?_ | refine s_neqT rfl rfl (by omega) ?_ | refine s_neqF rfl rfl (by omega) ?_ | refine s_neq rfl rfl ?_ | refine s_leqT rfl rfl (by omega) ?_ | refine s_leqF rfl rfl (by omega) ?_ | refine s_leq rfl rfl ?_ | refine s_gtrT rfl rfl (by omega) ?_ | refine s_gtrF rfl rfl (by omega) ?_ | refine s_gtr rfl rfl ?_ | refine s_geqT rfl rfl (by omega) ?_ | refine s_geqF rfl rfl (by omega) ?_ | refine s_geq rfl rfl ?_ | refine s_add rfl rfl ⟨by omega, by omega⟩ ?_ | refine s_sub rfl rfl ⟨by omega, by omega⟩ ?_) | (refine isCall ?_; first | refine s_lenI sl_ints rfl (by assumption) ?_ | refine s_lenR sl_rows rfl (by assumption) ?_ | refine s_len sl_ints rfl ?_ | refine s_len sl_rows rfl ?_) | (refine isIA ?_; refine s_ixI sl_ints ty_int rfl rfl rfl (by assumption) (by omega) ?_; intro _) | (refine isPick ?_; first | refine s_pickt rfl rfl ?_ | refine s_pickf rfl rfl ?_) | (refine isLD ?_; first | refine s_ldA ty_int rfl (by assumption) rfl ?_ | refine s_ldA ty_ints rfl (by assumption) rfl ?_) | refine s_extract rfl rfl ?_ | refine s_not rfl ?_) | (refine isC ?_; first | refine c_sr ?_ | refine c_th ?_ | refine c_seq ?_ | refine c_region ?_ | refine c_ift rfl ?_ | refine c_iff rfl ?_ | refine c_block ?_ | refine c_ret ?_ | refine c_exit ?_ | refine c_skip ?_) | (first | refine l_th ?_ | refine th_norm ?_ | refine ib_norm ?_ | refine l_nil ?_ | refine th_ret ?_ | refine ib_ret ?_ | refine ib_exit ?_ | refine th_exit ?_ | refine ib_pass rfl ?_))
  refine c_drawJ (fun W' => At W' bk 49 (bkc (M + 1) vi vl)) (hA1'.ex (Ex.drew w1)) 15 8 [(0, true), (1, true), (2, true), (3, true), (4, true), (5, true), (6, true), (7, true), (8, true), (9, true), (10, false), (11, false), (12, false), (13, true), (14, true), (15, false)] mixed (by kernel_rfl) ?_
  refine d_move rfl ?_
  refine d_move rfl ?_
  refine d_nilc rfl rfl ?_
  refine d_faN rfl Tryd.underlying49 rfl ty_hi.n rfl ?_
  refine d_ldJ rfl ty_hi rfl (fun _ h => h) rfl ?_
  refine d_move rfl ?_
  refine d_move rfl ?_
  refine d_nilc rfl rfl ?_
  refine d_faN rfl Tryd.underlying49 rfl ty_int.n rfl ?_
  refine d_ldJ rfl ty_int rfl (fun _ h => h) rfl ?_
  refine d_ch rfl ?_
  refine s_bldW (cells := [.slice a k c, .slice none 0 0, .int .i64 ((M + 1 : Nat) : Int)]) (built_hi a k c _) ?_
  refine l_nil ⟨rfl, .inr (hA1'.ex (Ex.drew w1)), ?_⟩
  refine d_ch rfl ?_
  refine s_bsV3 sl_hi in_heldInt rfl ?_
  intro b2 w2 hb2 hA2 hx2 hs2
  have hx12 := (Ex.drew w1).trans hx2
  refine l_nil ⟨rfl, .inr (hA1'.ex hx12), ?_⟩
  refine d_ch rfl ?_
  refine s_appW (n := n) (m := 1) (news := [.slice a k c, .slice none 0 0, .int .i64 ((M + 1 : Nat) : Int)]) sl_hi in_heldInt (by omega) (hW1.ex hx12) ⟨b2, 1, rfl, [], by simpa using hA2⟩ rfl (by omega) (by intro u hu; simp at hu; rcases hu with rfl | rfl | rfl <;> rfl) (by omega) (by omega) rfl rfl ?_
  intro vi' w3 hW3 hg3 hf3'
  have hf3 : vi'.ownBlock = vi.ownBlock ∨ ∀ b, vi'.ownBlock = some b → w2.heap.size ≤ b := hf3'.imp (fun ⟨a, c, h1, h2⟩ => by rw [h1, h2]; cases a <;> rfl) (fun h => h.1)
  have hne3 : ∀ b, vi.ownBlock = some b → b ≠ bk := hne
  have hA3 := (hA1'.ex hx12).grown hg3 (fun e => hne bk e rfl)
  refine l_nil ⟨rfl, .inr hA3, ?_⟩
  refine d_nilc rfl rfl ?_
  refine d_faN rfl Tryd.underlying49 rfl ty_hi.n rfl ?_
  refine d_ch rfl ?_
  refine s_stA (n := 2) (u := vi') ty_hi rfl rfl hW3.one hA3 (by simp [bkc]) ?_
  intro w4 hA4 hg4
  refine l_nil ⟨rfl, .inl rfl, ?_⟩
  refine d_nil ?_
  have z1 := hg1.size
  have z12 := hx12.size
  have z3 := hg3.size
  have hown : vi'.ownBlock = vi.ownBlock ∨ ∀ b, vi'.ownBlock = some b → w.heap.size ≤ b := hf3.imp id (fun h b hb => by have := h b hb; omega)
  have hbk := hA.lt
  refine end0 rfl ⟨rfl, vi', hA4, hW3.grown hg4 (fun b hb e => ?_), hown, ?_⟩
  · have e' := Option.some.inj e
    rcases hown with he | hf
    · exact hne b (he ▸ hb) e'.symm
    · have := hf b hb; omega
  · have k1 : KtS (fun b => b = bk ∨ vi.ownBlock = some b) w w1 := KtS.of_grown hg1 (fun q e => .inl (Option.some.inj e).symm)
    have k2 : KtS (fun b => b = bk ∨ vi.ownBlock = some b) w1 w2 := KtS.of_ex hx12
    have k3 : KtS (fun b => b = bk ∨ vi.ownBlock = some b) w2 w3 := KtS.of_grown hg3 (fun q e => .inr e)
    have k4 : KtS (fun b => b = bk ∨ vi.ownBlock = some b) w3 w4 := KtS.of_grown hg4 (fun q e => .inl (Option.some.inj e).symm)
    exact ((k1.trans k2).trans k3).trans k4
end Go.Proofs.YtkhnohnkcdcajaaDoor.Sal
