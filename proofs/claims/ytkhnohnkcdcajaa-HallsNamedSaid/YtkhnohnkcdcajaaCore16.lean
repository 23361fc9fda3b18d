/- Core16: append of long lists of numbers; how long rows that came in may be. -/
import Derived.Test.YtkhnohnkcdcajaaH5
import Derived.Test.YtkhnohnkcdcajaaGF
namespace Go.Proofs.Ytkhnohnkcdcajaa.Sal
set_option linter.all false
open Go.RowKit
section runs
variable {P : Program} {w : World}
/-- append(s, x...): s a row of the call's own, x whatever reads as a list. -/
theorem run_appB {T E : TypeId} {ti : TypeInfo} {z v xv : Value} {vs news : List Value} {ty : TypeId} (hT : SlT P T E) (hi : P.info? E = some ti) (hz : ti.zero = some z) (hs : ti.size = 1) (hzc : z.cells = #[z]) 
    (hv : Rw w E v vs) (hx : Sl w xv news) (h1 : ∀ u ∈ news, u.oneCell' = true) (hm : vs.length + news.length ≤ 140737488355328) (hbytes' : (vs.length + news.length) * ti.bytes ≤ 140737488355328) :
    ∃ v' w', (Builtin.append_ #[T, T] ty #[v, xv]).run P w = .ok v' w' ∧ Rw w' E v' (vs ++ news) ∧ w.grownBy w' v.ownBlock ∧ (v'.ownBlock = v.ownBlock ∨ ∀ b, v'.ownBlock = some b → w.heap.size ≤ b) := by
  have hT' : P.underlying T = some (.slice E) := hT
  have hsrc := hx.src (P := P) (tx := T) hT' h1
  have hsrc' : Src P ti.size T xv news.length news w := by rw [hs]; exact hsrc
  by_cases hn0 : news = []
  · subst hn0
    obtain ⟨a, c, hvf⟩ := hv.slen
    have hle : vs.length ≤ c := by
      rcases hv.form with ⟨h, rfl⟩ | ⟨b, cap, sp, h, _, hc⟩
      · rw [hvf] at h; cases h; simp
      · rw [hvf] at h; cases h; exact hc
    refine ⟨v, w, ?_, by simpa using hv, ⟨rfl, rfl, rfl, Nat.le_refl _, fun _ _ _ => rfl⟩, .inl rfl⟩
    rw [hvf]
    exact run_append_nothing w T T ty E ti hT' hi a vs.length c hle xv hsrc'
  · have hnp : 0 < news.length := List.length_pos_iff.2 hn0
    have grow : ∀ (base : Option Addr) (cap : Nat), v = .slice base vs.length cap → (Builtin.firstCells ti.size vs.length (.slice base vs.length cap)).run P w.drew = .ok vs.toArray w.drew → cap < vs.length + news.length →
        ∃ v' w', (Builtin.append_ #[T, T] ty #[v, xv]).run P w = .ok v' w' ∧ Rw w' E v' (vs ++ news) ∧ w.grownBy w' v.ownBlock ∧ (v'.ownBlock = v.ownBlock ∨ ∀ b, v'.ownBlock = some b → w.heap.size ≤ b) := by
      intro base cap hvf hold hcap
      have hr := run_append_grow_src (P := P) w T T ty E ti z hT' hi hz base vs.length cap vs hold xv news.length news hsrc' hcap (by omega) (growslice_fits hcap hbytes')
      have hge := grownCap_ge w (vs.length + news.length) cap E
      have hcm := grownCap_le_maxLen w (vs.length + news.length) cap E (by simp only [maxLen]; omega)
      rw [← hvf] at hr
      have hgr : ∀ o, w.grownBy (w.drew.alloc o) v.ownBlock := fun o => ⟨rfl, rfl, rfl, by simp, fun k hk _ => heap_alloc_old w.drew o hk⟩
      have hown : ∀ (cs : Array Value), cs.size = grownCap w (vs.length + news.length) cap E → cs.toList.take (vs ++ news).length = vs ++ news →
          Rw (w.drew.alloc (.cells cs E)) E (.slice (some ⟨w.heap.size, 0, none⟩) (vs.length + news.length) (grownCap w (vs.length + news.length) cap E)) (vs ++ news) := fun cs hcs ht => by
        unfold Rw
        rw [List.length_append]
        exact ⟨by simp, .inr ⟨w.heap.size, _, cs, rfl, Nat.zero_le _, heap_alloc_new w.drew _, hge, hcm, by rw [hcs, Nat.mul_one], by rw [Nat.mul_one, ← List.length_append]; exact ht⟩⟩
      refine ⟨_, _, hr, hown _ ?_ ?_, hgr _, .inr fun b hb => ?_⟩
      · simp [size_zeroCells, hzc]; omega
      · simp
        rw [← List.length_append, ← List.append_assoc, List.take_left]
      · rw [ownBlock_slice] at hb; cases hb; exact Nat.le_refl _
    rcases hv.form with ⟨hvf, hvs⟩ | ⟨b, cap, sp, hvf, hA, hc⟩
    · subst hvs
      exact grow none 0 hvf (by simp [Builtin.firstCells]) (by simp; omega)
    · by_cases hroom : vs.length + news.length ≤ cap
      · have hown := hv
        unfold Rw at hown
        rw [hvf] at hown
        obtain ⟨_, a, n, c, rfl, hn, hnc, hcell⟩ := hx
        cases a with
        | none =>
          exfalso
          cases news with
          | nil => exact hn0 rfl
          | cons u l => obtain ⟨ad, h, _⟩ := hcell 0 u rfl; cases h
        | some ad =>
          subst hn
          have hnews : ∀ (j : Nat) (u : Value), news[j]? = some u → w.cell? (ad.add j) = some u := fun j u hj => by
            obtain ⟨ad', h, hc'⟩ := hcell j u hj; cases h; exact hc'
          obtain ⟨w', hrun, hown', hg⟩ := run_append_fits (P := P) w 0 T ty E ti 1 hT' hi hs b vs.length cap vs hown ad news.length c news (by simp) hnews h1 hroom
          subst hvf
          exact ⟨_, _, hrun, by unfold Rw; rw [List.length_append]; exact hown', hg, .inl rfl⟩
      · refine grow (some ⟨b, 0, none⟩) cap hvf ?_ (by omega)
        refine run_firstCells_some w.drew ti.size vs.length ⟨b, 0, none⟩ vs.length cap vs (by rw [hs]; simp) (fun j u hj => ?_)
        have : w.cell? ⟨b, j, none⟩ = some u := by
          rw [hA.cell, List.getElem?_append_left (List.getElem?_eq_some_iff.1 hj).1]; exact hj
        rw [add_at, Nat.zero_add]
        exact this
end runs
section ops
variable {r : Option Nat} {P : Program} {ops : Array Oper} {Q : Exit → Act → World → Prop} {N : Nat} {σ : Nat → Value} {ds : List Deferred} {w : World} {rest : List Oper}
variable {d d1 d2 : Nat} {ty ty2 : TypeId} {pos pos2 : String} {after after2 : Array Edge} {T E T' : TypeId} {x i y : Operand}
theorem s_liB {w0 : World} {v : Value} {l : List Int} {q : Int} (hT : SlT P T E) (hi : InfoOf P E (.int .i64 0)) (h8 : ∀ ti, P.info? E = some ti → ti.bytes ≤ 8) (hd : Nat.blt d1 N = true) (hL : LI w0 w E v l) (hv : ev N σ x = v) (hq : ev N σ y = .int .i64 q) (hx1 : ∀ s, ev N (upd σ d1 s) x = v) (hlen : (l.length + 1) * 8 ≤ 140737488355328) (hw : Ex w0 w)
    (h : ∀ v' w' sl, LI w0 w' E v' (l ++ [q]) → Ex w0 w' → WL r P ops Q rest (mk N (upd (upd σ d1 sl) d2 v') ds) w') :
    WL r P ops Q (⟨some d1, .buildSlice T 1 #[(0, y)], ty, pos, after, none⟩ :: ⟨some d2, .call { callee := .builtin .append, args := #[x, .tmp d1], argTypes := #[T, T] }, ty2, pos2, after2, none⟩ :: rest) (mk N σ ds) w := by
  refine s_bs1 hT hi hq rfl ?_
  intro b1 w1 hb1 hA hx2 hs1
  have hS : Ints w1 (.slice (some ⟨b1, 0, none⟩) 1 1) [q] := hA.sl (n := 1) (c := 1) (Nat.le_refl _) (by omega) (Nat.le_refl _)
  obtain ⟨ti, h1i, h2i, h3i, h4i⟩ := hi.ex
  have hb := h8 ti h1i
  have hL1 := hL.ex hx2
  obtain ⟨v', w', hr, hR, hg, hf⟩ := run_appB (ty := ty2) hT h1i h2i h3i hi.one hL1.1 hS (map_one [q]) (by simp; omega) (by
    have h5 : ((l.map (Value.int .i64)).length + ([q].map (Value.int .i64)).length) * ti.bytes ≤ (l.length + 1) * 8 := by
      simp only [List.length_map, List.length_singleton]
      exact Nat.mul_le_mul_left _ hb
    omega)
  have hw1 := hw.trans hx2
  refine l_val (v := v') (w' := w') (by intro c e; cases e) ?_ (h v' w' _ ⟨by rw [List.map_append]; exact hR, fun b hb => ?_⟩ (hw1.storeo hg hL.2))
  · have e1 := hx1 (.slice (some ⟨b1, 0, none⟩) 1 1)
    have e2 : ev N (upd σ d1 (.slice (some ⟨b1, 0, none⟩) 1 1)) (.tmp d1) = .slice (some ⟨b1, 0, none⟩) 1 1 := tmp_upd hd
    simp [execOp, resolve, invoke, builtin, e1, e2, hr, Result.andThen]
  · rcases hf with he | hf
    · exact hL.2 b (he ▸ hb)
    · exact Nat.le_trans hw1.size (hf b hb)
end ops
theorem int8 (ti : TypeInfo) (h : Try.prog.info? 3 = some ti) : ti.bytes ≤ 8 := by
  obtain ⟨i, h1, _, _, hb⟩ := info_parts inf_int
  rw [h1] at h; cases h; omega
open Go.Deep Go.ChangeShapes Go.WideShapes Go.ChangeAt Go.Joins
section
variable {H : Type} {enc : TypeId × Value → H} {w : World} {base : Nat} {spare : Nat → Bool} {held : Bool} {r : Reach} {b0 : Nat} {v : Value} {d : DataW H} {p : List MemPlace} {P : Program} {fuel : Nat} {x : DataW H × List MemPlace}
theorem sl_len {t e : TypeId} {vs : List Value} (ht : P.underlying t = some (.slice e)) (ce : P.cellsOf e = 1) (h : DataW.trod enc P w base spare held fuel t [v] = some x) (hw : ∀ n ∈ x.1.weights P t, n ≤ reachBytes) (hs : Sl w v vs) : vs.length * P.bytesOf e ≤ reachBytes := by
  obtain ⟨_, a', n', c', hvs, hn', _⟩ := hs
  rcases open_slice1 ht ce h with ⟨hv, hx⟩ | ⟨a, len, cap, m, n, V, D, Pl, hv, _, hl, hm, hmm, hx, hel⟩
  · simp at hv; rw [hv] at hvs; cases hvs
    rw [hn']; simp
  · simp at hv; rw [hv] at hvs; cases hvs
    have hlm : n' ≤ m := by rw [hmm]; split <;> omega
    subst hx
    have h1 := hw ((((List.range n').map D).length + ((List.range (m - n')).map fun j => D (n' + j)).length) * P.bytesOf e) (by simp [DataW.weights, ht])
    simp only [List.length_map, List.length_range] at h1
    have h2 : n' * P.bytesOf e ≤ (n' + (m - n')) * P.bytesOf e := Nat.mul_le_mul_right _ (by omega)
    rw [hn']; omega
theorem open_graphL (hv : Value.okWide Try.prog w r b0 24 v) (h : DataW.Trod enc Try.prog w base spare held 24 v d p) (hw : ∀ n ∈ d.weights Try.prog 24, n ≤ reachBytes) :
    ∃ (u : Value) (g : List (List Int)) (n : Int), v = .agg #[u, .int .i64 n] ∧ Rows w u g ∧ In64 n ∧ g.length * 8 ≤ 140737488355328 := by
  obtain ⟨v0, v1, y0, y1, m, rfl, rfl, rfl, h0, h1⟩ := open_agg2 Try.underlying24 (by kernel_rfl) (by kernel_rfl) hv h
  have hw0 : ∀ n ∈ y0.1.weights Try.prog 22, n ≤ reachBytes := fun n hn => hw n (by
    simp only [DataW.weights, Try.underlying24, List.map, DataW.weightsEach, List.mem_append]
    exact .inl hn)
  obtain ⟨g, hg, hgi⟩ := read_rows Try.underlying22 Try.underlying33 Try.underlying3 (by kernel_rfl) (by kernel_rfl) (of_decide_eq_true (by kernel_rfl)) (of_decide_eq_true (by kernel_rfl)) h0 hw0
  obtain ⟨k, hk, _, hwf⟩ := DataW.trod_int Try.underlying3 h1
  simp only [List.cons.injEq, and_true] at hk
  subst hk
  obtain ⟨vs, hs, hvl, _⟩ := id hg
  have h3 := sl_len Try.underlying22 (by kernel_rfl) h0 hw0 hs
  have h4 : 8 ≤ Try.prog.bytesOf 33 := of_decide_eq_true (by kernel_rfl)
  have h5 : vs.length * 8 ≤ vs.length * Try.prog.bytesOf 33 := Nat.mul_le_mul_left _ h4
  have h6 := reachBytes_lt
  exact ⟨v0, g, k, rfl, hg, in64_of_wf hwf, by omega⟩
end
end Go.Proofs.Ytkhnohnkcdcajaa.Sal
