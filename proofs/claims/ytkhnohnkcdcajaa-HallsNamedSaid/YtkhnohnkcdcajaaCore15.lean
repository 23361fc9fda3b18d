/- Core15: iterators that hand out lists which they lay as they go; loops over them whose bodies may return; many marks; results in cells. -/
import Derived.Test.YtkhnohnkcdcajaaCore14
import Derived.RangeFuncLeaves
namespace Go.Proofs.Ytkhnohnkcdcajaa.Sal
set_option linter.all false
open Go.RowKit
/-- From block B on all that lay lies as it lay. -/
def Kb (B : Nat) (W W' : World) : Prop := W.heap.size ≤ W'.heap.size ∧ ∀ k, B ≤ k → k < W.heap.size → W'.heap[k]? = W.heap[k]?
theorem Kb.refl (B : Nat) (W : World) : Kb B W W := ⟨Nat.le_refl _, fun _ _ _ => rfl⟩
theorem Kb.ex {B : Nat} {W W' : World} (h : Ex W W') : Kb B W W' := ⟨h.size, fun k _ hk => h.block k hk⟩
theorem Kb.trans {B : Nat} {X Y Z : World} (h : Kb B X Y) (k : Kb B Y Z) : Kb B X Z := ⟨Nat.le_trans h.1 k.1, fun i hB hi => (k.2 i hB (Nat.lt_of_lt_of_le hi h.1)).trans (h.2 i hB hi)⟩
theorem Kb.mono {B B' : Nat} {W W' : World} (h : Kb B W W') (hb : B ≤ B') : Kb B' W W' := ⟨h.1, fun k hB hk => h.2 k (Nat.le_trans hb hB) hk⟩
theorem Kb.store {B b : Nat} {W W' : World} (hg : W.grownBy W' (some b)) (hb : b < B) : Kb B W W' := ⟨hg.size, fun k hB hk => hg.block k hk (fun e => by have := Option.some.inj e; omega)⟩
theorem Kb.below {B : Nat} {X Y Z : World} (h : Kb B X Y) (k : Below X.heap.size Y Z) : Kb B X Z := ⟨Nat.le_trans h.1 k.size, fun i hB hi => (k.block i hi).trans (h.2 i hB hi)⟩
/-- What an iterator over lists promises: it hands out these, one behind the other, each reading as it should; where all rounds went on, nothing that lay has turned. -/
def IterX (P : Program) (gf : Nat) (lb : List Value) (L : List (List Int)) (w0 : World) : Prop :=
  ∀ (l : Nat) (G : Nat → Prop) (Jx : Nat → World → Prop) (W0 : World), Ex w0 W0 → (∀ i W W', Jx i W → Below W0.heap.size W W' → KC W W' → Jx i W') →
    (∀ i x W v, L[i]? = some x → Ex W0 W → Ints W v x → YieldAt Fence.wide 0 P l [v].toArray W fun e W' => (e = .returned (.bool true) ∧ Ex W W' ∧ G i) ∨ (e = .returned (.bool false) ∧ Jx i W' ∧ Kb W0.heap.size W W')) →
    Ct P gf (.func (.yield l) #[] #[] :: lb).toArray W0 fun _ W' => (Ex W0 W' ∧ ∀ i, i < L.length → G i) ∨ ∃ i, i < L.length ∧ (∀ j, j < i → G j) ∧ Jx i W' ∧ Kb W0.heap.size W0 W'
/-- How the body of a round may be left. -/
def BPost (B : Nat) (G : Nat → Prop) (Jr : Nat → World → Prop) (i : Nat) (W : World) : Exit → Act → World → Prop
  | .normal, _, W' => Ex W W' ∧ G i
  | .ret, _, W' => Jr i W' ∧ Kb B W W'
  | _, _, _ => False
theorem below_put {W : World} {l B : Nat} {o : Obj} (h : B ≤ l) : Below B W (W.putObj l o) :=
  have hg := grownBy_putObj' W l o
  ⟨hg.os, hg.tape, hg.output, hg.size, fun k hk => World.putObj_heap_other (by omega)⟩
theorem put_get {W : World} {l k : Nat} {o : Obj} (h : k ≠ l) : (W.putObj l o).heap[k]? = W.heap[k]? := World.putObj_heap_other h
theorem put_size {W : World} {l : Nat} {o : Obj} : (W.putObj l o).heap.size = W.heap.size := by
  simp [World.putObj]
theorem c_rangeX {P : Program} {g : Operand} {ps : Array Tmp} {assign body : Code} {Q : Exit → Act → World → Prop} {N : Nat} {σ : Nat → Value} {ds : List Deferred} {w : World} {gf : Nat} {lb : List Value} {L : List (List Int)} {w0 : World}
    (hg : ev N σ g = .func (.func gf) #[] lb.toArray) (eg : CallOK P gf) (hit : IterX P gf lb L w0) (hw : Ex w0 w) (hps : ps.size = 1)
    (G : Nat → Prop) (Jr : Nat → World → Prop) (hJr : ∀ i W W', Jr i W → Below w.heap.size W W' → KC W W' → Jr i W') (σ1 : Value → (Nat → Value) → Nat → Value)
    (hassign : ∀ (l : Nat) (v : Value) (W : World) (K : Act → World → Prop), K (mk N (σ1 v σ) []) W → CW (some l) P assign (Exit.then K (fun _ _ _ => False)) (mk N (updl (ps.toList.zip [v]) σ) []) W)
    (hbody : ∀ (l i : Nat) (x : List Int) (v : Value) (W : World), L[i]? = some x → Ex w W → Ints W v x → CW (some l) P body (BPost w.heap.size G Jr i W) (mk N (σ1 v σ) []) W)
    (hdone : ∀ (D : Nat) (W : World), D = w.heap.size → Ex w W → (∀ i, i < L.length → G i) → W.heap[D]? = some (.deferred (some [])) → Q .normal (mk N σ (mark D :: ds)) W)
    (hstop : ∀ (D i : Nat) (W : World), D = w.heap.size → i < L.length → (∀ j, j < i → G j) → Jr i W → Kb w.heap.size w W → W.heap[D]? = some (.deferred (some [])) → Q .ret (mk N σ (mark D :: ds)) W) :
    CW none P (.rangeFunc g ps assign body) Q (mk N σ ds) w := by
  refine wpIn_rangeFunc ?_
  intro fn hfn
  obtain ⟨rec, hrec⟩ : ∃ rec : LoopState → Option Code → Loop, rec = fun st pe => { state := st, pending := pe, fn, tmps := (mk N σ ds).tmps, params := ps, assign, body, defers := w.heap.size } := ⟨_, rfl⟩
  obtain ⟨W1, hW1⟩ : ∃ W1, (w.alloc (.deferred (some []))).alloc (.loop (rec .ready none)) = W1 := ⟨_, rfl⟩
  have hs1 : W1.heap.size = w.heap.size + 2 := by rw [← hW1]; simp
  have hx1 : Ex w W1 := by rw [← hW1]; exact (Ex.alloc w _).trans (Ex.alloc _ _)
  have hL1 : W1.heap[w.heap.size + 1]? = some (.loop (rec .ready none)) := by
    rw [← hW1]
    have := World.alloc_heap_new (w.alloc (.deferred (some []))) (.loop (rec .ready none))
    rwa [World.size_alloc] at this
  have hK1 : W1.heap[w.heap.size]? = some (.deferred (some [])) := by
    rw [← hW1]
    exact ((Ex.alloc (w.alloc (.deferred (some []))) _).block w.heap.size (by simp)).trans (World.alloc_heap_new w _)
  refine ⟨w.heap.size + 1, [mark w.heap.size], W1, { target := .fn (.func gf) lb.toArray, args := #[.func (.yield (w.heap.size + 1)) #[] #[]] }, W1, gf,
    #[.func (.yield (w.heap.size + 1)) #[] #[]] ++ lb.toArray, W1, ?_, ?_, ?_, ?_, fun h => by simp [Fence.wide] at h, ?_⟩
  · rw [← hW1, hrec]; exact run_enterLoop_outer _ _ _ _ _
  · simp only [resolve, eval_mk, hg]
    simp [go_sem]
  · intro f' hf'; trivial
  · simp [invoke, go_sem]; exact eg _ _
  · have e0 : (#[Value.func (.yield (w.heap.size + 1)) #[] #[]] ++ lb.toArray : Array Value) = (Value.func (.yield (w.heap.size + 1)) #[] #[] :: lb).toArray := by simp
    rw [e0]
    have key := hit (w.heap.size + 1) G (fun i W => Jr i W ∧ W.heap[w.heap.size + 1]? = some (.loop (rec .done (some .ret))) ∧ W.heap[w.heap.size]? = some (.deferred (some []))) W1 (hw.trans hx1)
      (fun i W W' ⟨h1, h2, h3⟩ hb hkc => ⟨hJr i W W' h1 (Below.mono hb (by omega)) hkc, (hb.block _ (by omega)).trans h2, (hb.block _ (by omega)).trans h3⟩)
      (fun i x W v hx hxW hI => by
        have hl : W.heap[w.heap.size + 1]? = some (.loop (rec .ready none)) := (hxW.block _ (by omega)).trans hL1
        have hk : W.heap[w.heap.size]? = some (.deferred (some [])) := (hxW.block _ (by omega)).trans hK1
        have hlt : w.heap.size + 1 < W.heap.size := (Array.getElem?_eq_some_iff.1 hl).1
        have hy := run_yield (P := P) (args := [v].toArray) hl (by rw [hrec]; simp [hps])
        rw [hrec] at hy
        refine ⟨fn, _, assign, body, hy, ?_⟩
        have hr : RoundIn (FW none) 0 P (w.heap.size + 1) fn ((ps.zip [v].toArray).foldl (fun t (p, v) => t.setIfInBounds p v) (mk N σ ds).tmps) assign body W
            (fun e W' => (e = .returned (.bool true) ∧ Ex W W' ∧ G i) ∨ (e = .returned (.bool false) ∧ (Jr i W' ∧ W'.heap[w.heap.size + 1]? = some (.loop (rec .done (some .ret))) ∧ W'.heap[w.heap.size]? = some (.deferred (some []))) ∧ Kb W1.heap.size W W')) := by
          refine roundIn_of_wpIn (F := FW none) (n := 0) hfn ?_
          rw [zip_mk]
          refine hassign (w.heap.size + 1) v W _ ?_
          refine ⟨_, run_beginRound hl (by rw [hrec]), ?_⟩
          obtain ⟨Wb, hWb⟩ : ∃ Wb, Wb = W.putObj (w.heap.size + 1) (.loop { rec .ready none with state := .busy }) := ⟨_, rfl⟩
          rw [← hWb]
          have hlb : Wb.heap[w.heap.size + 1]? = some (.loop { rec .ready none with state := .busy }) := by rw [hWb]; exact World.putObj_heap_same hlt
          have hkb : Wb.heap[w.heap.size]? = some (.deferred (some [])) := by rw [hWb]; exact (put_get (by omega)).trans hk
          have hsb : Wb.heap.size = W.heap.size := by rw [hWb]; exact put_size
          have hxb : Ex w Wb := by
            rw [hWb]
            exact (hx1.trans hxW).storeo (grownBy_putObj' W _ _) (fun b e => by cases e; omega)
          have hIb : Ints Wb v x := by rw [hWb]; exact (KC.put hl rfl).ints hI
          refine wpIn_mono (hbody (w.heap.size + 1) i x v Wb hx hxb hIb) ?_
          rintro e a3 W3 hp
          cases e with
          | normal =>
            obtain ⟨hx3, hG⟩ := hp
            have hl3 : W3.heap[w.heap.size + 1]? = some (.loop { rec .ready none with state := .busy }) := (hx3.block _ (by omega)).trans hlb
            refine ⟨_, _, run_endRound (P := P) none hl3, .inl ⟨rfl, ?_, hG⟩⟩
            have hs3 := hx3.size
            refine ⟨hx3.os.trans (by rw [hWb]; rfl), hx3.tape.trans (by rw [hWb]; rfl), hx3.output.trans (by rw [hWb]; rfl), by rw [put_size]; omega, fun k hk' => ?_⟩
            by_cases e : k = w.heap.size + 1
            · subst e
              rw [World.putObj_heap_same (by omega), hl, hrec]
              simp
            · rw [put_get e, hx3.block k (by omega), hWb, put_get e]
          | ret =>
            obtain ⟨hJ, hK3⟩ := hp
            have hl3 : W3.heap[w.heap.size + 1]? = some (.loop { rec .ready none with state := .busy }) := (hK3.2 _ (by omega) (by omega)).trans hlb
            have hk3 : W3.heap[w.heap.size]? = some (.deferred (some [])) := (hK3.2 _ (by omega) (by omega)).trans hkb
            have hs3 := hK3.1
            refine ⟨_, _, run_endRound (P := P) (some .ret) hl3, .inr ⟨rfl, ⟨hJr i W3 _ hJ (below_put (by omega)) (KC.put hl3 rfl), ?_, (put_get (by omega)).trans hk3⟩, ?_⟩⟩
            · rw [World.putObj_heap_same (by omega), hrec]; simp
            · refine ⟨by rw [put_size]; omega, fun k hB hk' => ?_⟩
              rw [put_get (by omega), hK3.2 k (by omega) (by omega), hWb, put_get (by omega)]
          | exit id => exact hp.elim
          | goto t => exact hp.elim
          | panic ch => exact hp.elim
          | outgrown => exact hp.elim
        exact hr)
    refine CallsIn.mono key.callsIn ?_
    rintro e W2 ⟨v, rfl, h⟩
    rcases h with ⟨hx2, hall⟩ | ⟨i, hi, hG, ⟨hJ, hl, hk⟩, hK2⟩
    · have hl2 : W2.heap[w.heap.size + 1]? = some (.loop (rec .ready none)) := (hx2.block _ (by omega)).trans hL1
      have hk2 : W2.heap[w.heap.size]? = some (.deferred (some [])) := (hx2.block _ (by omega)).trans hK1
      refine ⟨none, _, by have := run_endLoop (P := P) hl2 (by rw [hrec]; simp); rw [hrec] at this; exact this, ?_⟩
      exact hdone _ _ rfl ((hx1.trans hx2).storeo (grownBy_putObj' W2 _ _) (fun b e => by cases e; omega)) hall ((put_get (by omega)).trans hk2)
    · refine ⟨some .ret, _, by have := run_endLoop (P := P) hl (by rw [hrec]; simp); rw [hrec] at this; exact this, ?_⟩
      refine wpIn_ret ?_
      have hs2 := hK2.1
      have hlW2 : w.heap.size + 1 < W2.heap.size := (Array.getElem?_eq_some_iff.1 hl).1
      refine hstop _ i _ rfl hi hG (hJr i W2 _ hJ (below_put (by omega)) (KC.put hl rfl)) ?_ ((put_get (by omega)).trans hk)
      refine ⟨by rw [put_size]; omega, fun k hB hk' => ?_⟩
      omega
/-! ### Many marks -/
/-- The marks have been taken: nothing else has turned. -/
def PD (Ds : List Nat) (w w' : World) : Prop := w'.os = w.os ∧ w'.tape = w.tape ∧ w'.output = w.output ∧ w'.heap.size = w.heap.size ∧ (∀ k, k ∉ Ds → w'.heap[k]? = w.heap[k]?) ∧ KC w w'
theorem PD.refl (w : World) : PD [] w w := ⟨rfl, rfl, rfl, rfl, fun _ _ => rfl, fun _ _ h => h⟩
theorem PD.below {Ds : List Nat} {w w' : World} {B : Nat} (h : PD Ds w w') (hB : ∀ D ∈ Ds, B ≤ D) : Below B w w' :=
  ⟨h.1, h.2.1, h.2.2.1, by rw [h.2.2.2.1]; exact Nat.le_refl _, fun k hk => h.2.2.2.2.1 k (fun hm => by have := hB k hm; omega)⟩
theorem PD.ex {Ds : List Nat} {w0 w w' : World} (hx : Ex w0 w) (h : PD Ds w w') (hB : ∀ D ∈ Ds, w0.heap.size ≤ D) : Ex w0 w' :=
  Below.trans hx (h.below hB)
def Marks (Ds : List Nat) (w : World) : Prop := ∀ D ∈ Ds, w.heap[D]? = some (.deferred (some []))
theorem Marks.ex {Ds : List Nat} {w w' : World} (h : Marks Ds w) (hx : Ex w w') : Marks Ds w' := fun D hD => mark_ex (h D hD) hx
theorem leave_marks {P : Program} {fn : Func} {tmps : Array Value} {R : Value → World → Prop} {v : Value} : ∀ (Ds : List Nat) (w : World), Ds.Nodup → Marks Ds w →
    (∀ w', PD Ds w w' → (results fn tmps).run P w' = .ok v w' ∧ R v w') → LeavesInM (FW none) 0 P fn tmps (RE R) (Ds.map mark) .returning w
  | [], w, _, _, h => leave_nil (h w (PD.refl w)).1 (h w (PD.refl w)).2
  | D :: Ds, w, hn, hm, h => by
    have hD := hm D (by simp)
    have hn' := List.nodup_cons.1 hn
    have hlt := (Array.getElem?_eq_some_iff.1 hD).1
    refine ⟨by simp, .inl ⟨D, _, rfl, run_takeDeferred hD, ?_⟩⟩
    refine leave_marks Ds _ hn'.2 (fun E hE => ?_) (fun w' hp => h w' ?_)
    · exact (put_get (fun (e : E = D) => hn'.1 (by rw [← e]; exact hE))).trans (hm E (by simp [hE]))
    · obtain ⟨a, b, c, d, e, f⟩ := hp
      refine ⟨a, b, c, by rw [d, put_size], fun k hk => ?_, fun ad u hc => f ad u (mark_kc hD ad u hc)⟩
      have h1 : k ≠ D := fun e => hk (by simp [e])
      have h2 : k ∉ Ds := fun e => hk (by simp [e])
      rw [e k h2, put_get h1]
section rets
variable {P : Program} {fn : Func} {w : World} {R : Value → World → Prop} {N : Nat} {σ : Nat → Value}
theorem ret0d {Ds : List Nat} (hres : fn.results = #[]) (hn : Ds.Nodup) (hm : Marks Ds w) (hR : ∀ w', PD Ds w w' → R (.tuple #[]) w') : Post P fn R .ret (mk N σ (Ds.map mark)) w :=
  leave_marks Ds w hn hm fun w' hp => ⟨results_none hres _ P w', hR w' hp⟩
theorem end0d {Ds : List Nat} (hres : fn.results = #[]) (hn : Ds.Nodup) (hm : Marks Ds w) (hR : ∀ w', PD Ds w w' → R (.tuple #[]) w') : Post P fn R .normal (mk N σ (Ds.map mark)) w :=
  leave_marks Ds w hn hm fun w' hp => ⟨results_none hres _ P w', hR w' hp⟩
theorem results_cells3 {a b c : Tmp} {ta tb tc : TypeId} {pa pb pc : Addr} {va vb vc : Value} {tmps : Array Value} (h : fn.results = #[.cell a ta, .cell b tb, .cell c tc]) (ha : tmps.getD a undef = .pointer (some pa)) (hb : tmps.getD b undef = .pointer (some pb)) (hc : tmps.getD c undef = .pointer (some pc))
    (ea : Ty1 P ta) (eb : Ty1 P tb) (ec : Ty1 P tc) (ca : w.cell? pa = some va) (cb : w.cell? pb = some vb) (cc : w.cell? pc = some vc) : (results fn tmps).run P w = .ok (.tuple #[va, vb, vc]) w := by
  simp only [Array.getD_eq_getD_getElem?] at ha hb hc
  simp [results, h, ha, hb, hc, asAddr, run_loadVar1 ea ca, run_loadVar1 eb cb, run_loadVar1 ec cc]
/-- Returns of three results that lie in cells. -/
theorem ret3d {Ds : List Nat} {a b c : Nat} {ta tb tc : TypeId} {pa pb pc : Addr} {va vb vc : Value} (hres : fn.results = #[.cell a ta, .cell b tb, .cell c tc]) (ha : ev N σ (.tmp a) = .pointer (some pa)) (hb : ev N σ (.tmp b) = .pointer (some pb)) (hc : ev N σ (.tmp c) = .pointer (some pc))
    (ea : Ty1 P ta) (eb : Ty1 P tb) (ec : Ty1 P tc) (ca : w.cell? pa = some va) (cb : w.cell? pb = some vb) (cc : w.cell? pc = some vc) (hn : Ds.Nodup) (hm : Marks Ds w) (hR : ∀ w', PD Ds w w' → R (.tuple #[va, vb, vc]) w') : Post P fn R .ret (mk N σ (Ds.map mark)) w :=
  leave_marks Ds w hn hm fun w' hp => ⟨results_cells3 hres (getD_mk' ha) (getD_mk' hb) (getD_mk' hc) ea eb ec (hp.2.2.2.2.2 _ _ ca) (hp.2.2.2.2.2 _ _ cb) (hp.2.2.2.2.2 _ _ cc), hR w' hp⟩
end rets
/-! ### A loop that lays marks -/
section loop
variable {r : Option Nat} {P : Program} {Q : Exit → Act → World → Prop} {w : World}
def LoopEndD (N : Nat) (M : Nat) (σ : Nat → Value) (vals : Nat → List (Nat × Value)) (Inv : Nat → List Nat → World → Prop) (μ : Nat → Nat) (x : Nat) (a' : Act) (w' : World) : Prop :=
  ∃ x' Ds' σ', a' = mk N σ' (Ds'.map mark) ∧ Agree M σ' σ ∧ Has σ' (vals x') ∧ Inv x' Ds' w' ∧ μ x' < μ x
theorem loop_endD {N : Nat} {M : Nat} {σ σ' : Nat → Value} {vals : Nat → List (Nat × Value)} {Inv : Nat → List Nat → World → Prop} {μ : Nat → Nat} {x : Nat} {w' : World} (x' : Nat) (Ds' : List Nat)
    (ha : Agree M σ' σ) (hv : Has σ' (vals x')) (hi : Inv x' Ds' w') (hm : μ x' < μ x) : LoopEndD N M σ vals Inv μ x (mk N σ' (Ds'.map mark)) w' := ⟨x', Ds', σ', rfl, ha, hv, hi, hm⟩
theorem c_loopD (M : Nat) (vals : Nat → List (Nat × Value)) (Inv : Nat → List Nat → World → Prop) (μ : Nat → Nat) {N : Nat} {σ : Nat → Value} {c : Code} (x₀ : Nat)
    (h₀ : Has σ (vals x₀)) (hI : Inv x₀ [] w)
    (round : ∀ (x : Nat) (Ds : List Nat) (ρ : Nat → Value) (w : World), Inv x Ds w → CW r P c (Exit.then (LoopEndD N M σ vals Inv μ x) Q) (mk N (ext (vals x) (mask M ρ σ)) (Ds.map mark)) w) : CW r P (.loop c) Q (mk N σ []) w := by
  intro b k cs hro hb hr
  have key : ∀ j (x : Nat) (Ds : List Nat) (σ' : Nat → Value) (w : World), μ x = j → Agree M σ' σ → Has σ' (vals x) → Inv x Ds w →
      ∃ e a' w', Q e a' w' ∧ ArrivesIn (Machine.fenced P (FW r)) P (lone (b.atR (mk N σ' (Ds.map mark)) (.code c :: .inLoop c :: k)) cs w) b k cs e a' w' := by
    intro j
    induction j using Nat.strongRecOn with
    | _ j ih =>
      intro x Ds σ' w hn hag hhas hI
      have hrd := round x Ds σ' w hI
      rw [mask_self hag, ext_has hhas] at hrd
      obtain ⟨e, a₁, w₁, hq, harr⟩ := hrd b (.inLoop c :: k) cs hro hb hr
      cases e with
      | normal =>
        obtain ⟨x', Ds', σ'', ha, hag', hhas', hI', hlt⟩ := hq
        subst ha
        obtain ⟨e₂, a₂, w₂, hq₂, harr₂⟩ := ih (μ x') (hn ▸ hlt) x' Ds' σ'' w₁ rfl hag' hhas' hI'
        exact ⟨e₂, a₂, w₂, hq₂, .of_steps (StepsIn.trans harr (.one (fenced_calm hb hr rfl) stepR_inLoop)) harr₂⟩
      | exit id => exact ⟨_, a₁, w₁, hq, .pass (x := .inLoop c) rfl (fun _ _ => .inl (by simp)) harr⟩
      | goto l => exact ⟨_, a₁, w₁, hq, .pass (x := .inLoop c) rfl (fun _ _ => .inl (by simp)) harr⟩
      | ret => exact ⟨_, a₁, w₁, hq, .pass (x := .inLoop c) rfl (fun _ _ => .inl (by simp)) harr⟩
      | panic ch => exact ⟨_, a₁, w₁, hq, .pass (x := .inLoop c) rfl (fun _ _ => .inl (by simp)) harr⟩
      | outgrown => exact ⟨_, a₁, w₁, hq, .pass (x := .inLoop c) rfl (fun _ _ => .inl (by simp)) harr⟩
  obtain ⟨e, a', w', hq, harr⟩ := key _ x₀ [] σ w rfl (agree_refl M σ) h₀ hI
  exact ⟨e, a', w', hq, .of_steps (.one (fenced_calm hb hr rfl) stepR_loop) harr⟩
end loop
end Go.Proofs.Ytkhnohnkcdcajaa.Sal
