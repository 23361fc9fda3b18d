/- Core11: a range over a function, outermost, whose body does not leave it. -/
import Derived.Test.YtkhnohnkcdcajaaDoorCore12
import Derived.RangeFuncNested
import Derived.RangeFuncMany
set_option maxRecDepth 100000
namespace Go.Proofs.YtkhnohnkcdcajaaDoor.Sal
set_option linter.all false
open Go.RowKit
theorem wp_n {r : Option Nat} {P : Program} {c : Code} {Q : Exit → Act → World → Prop} {a : Act} {w : World} (n m : Nat) (h : c.wpIn (FW r) n P Q a w) : c.wpIn (FW r) m P Q a w :=
  fun b k cs h1 h2 _ => h b k cs h1 h2 (room_wide _)
def updl : List (Nat × Value) → (Nat → Value) → Nat → Value
  | [], σ => σ
  | (d, v) :: l, σ => updl l (upd σ d v)
theorem fold_mk (N : Nat) : ∀ (l : List (Nat × Value)) (σ : Nat → Value) (ds : List Deferred), ({ tmps := l.foldl (fun t p => t.setIfInBounds p.1 p.2) (mk N σ ds).tmps, defers := [] } : Act) = mk N (updl l σ) []
  | [], σ, ds => rfl
  | (d, v) :: l, σ, ds => by
    have e : (mk N σ ds).tmps.setIfInBounds d v = (mk N (upd σ d v) ds).tmps := by
      have := put_mk N σ ds d v
      unfold Act.put at this
      exact congrArg Act.tmps this
    show ({ tmps := l.foldl (fun t p => t.setIfInBounds p.1 p.2) ((mk N σ ds).tmps.setIfInBounds d v), defers := [] } : Act) = mk N (updl l (upd σ d v)) []
    rw [e]
    exact fold_mk N l (upd σ d v) ds
theorem zip_mk (N : Nat) (ps : Array Tmp) (vs : Array Value) (σ : Nat → Value) (ds : List Deferred) : ({ tmps := (ps.zip vs).foldl (fun t (p, v) => t.setIfInBounds p v) (mk N σ ds).tmps, defers := [] } : Act) = mk N (updl (ps.toList.zip vs.toList) σ) [] := by
  rw [← fold_mk N (ps.toList.zip vs.toList) σ ds]
  congr 1
  rw [← Array.foldl_toList, Array.toList_zip]
abbrev mark (D : Nat) : Deferred := { target := .collected D, args := #[] }
theorem c_range {α : Type} {P : Program} {g : Operand} {ps : Array Tmp} {assign body : Code} {Q : Exit → Act → World → Prop} {N : Nat} {σ : Nat → Value} {ds : List Deferred} {w : World} {gf : Nat} {lb : List Value}
    (hg : ev N σ g = .func (.func gf) #[] lb.toArray) (eg : CallOK P gf)
    {encs : α → Array Value} {Kp : World → World → Prop} {S Sp : List α → Prop} {NN : Nat} {w0 : World} (hseq : SeqStopsK Fence.wide 0 P gf lb.toArray encs Kp S Sp NN w0)
    (hKt : ∀ {A B C : World}, Kp A B → Kp B C → Kp A C) (hKb : ∀ (W : World) (l : Nat) (o o' : Obj), w.heap.size ≤ l → W.heap[l]? = some o → o.isCells = false → o.isWalk = false → Kp W (W.putObj l o')) (hKr : ∀ W, Kp W W) (hb0 : Ex w0 w) (hps : ∀ x, (encs x).size = ps.size)
    (I : List α → World → Prop) (hI : OwnFrom w.heap.size I) (h0 : I [] w) (σ1 : α → (Nat → Value) → Nat → Value)
    (hassign : ∀ (l : Nat) (x : α) (W : World) (K : Act → World → Prop), K (mk N (σ1 x σ) []) W → CW (some l) P assign (Exit.then K (fun _ _ _ => False)) (mk N (updl (ps.toList.zip (encs x).toList) σ) []) W)
    (hbody : ∀ (l : Nat) (pre : List α) (x : α) (W : World), I pre W → pre.length < NN → CW (some l) P body (ownPostG w.heap.size Kp I (fun _ _ _ => False) (pre ++ [x]) W) (mk N (σ1 x σ) []) W)
    (hdone : ∀ (D : Nat) (xs : List α) (W : World), w.heap.size ≤ D → S xs → I xs W → W.heap[D]? = some (.deferred (some [])) → Q .normal (mk N σ (mark D :: ds)) W) :
    CW none P (.rangeFunc g ps assign body) Q (mk N σ ds) w := by
  refine wp_n 1 0 (wpIn_rangeFunc_ownG (F := FW none) (n := 1) (a := mk N σ ds) rfl (Nat.le_refl 1) (gf := gf) (lb := lb.toArray) (by rw [eval_mk]; exact hg) trivial eg hseq (fun h k => hKt h k) hKb hb0 hps I (fun _ _ _ => False) hI (fun _ _ _ _ _ hs _ _ => hs) h0 (fun x => mk N (σ1 x σ) []) ?_ ?_ ?_ ?_)
  · intro l x W K hK
    rw [zip_mk]
    exact hassign l x W K hK
  · intro l pre x W hi hl
    exact hbody l pre x W hi hl
  · intro D xs W hD hS hi hK
    exact hdone D xs W hD hS hi hK
  · intro D c pre W _ _ h _
    exact h.elim
theorem own_norm {α : Type} {B : Nat} {Kp : World → World → Prop} {I : List α → World → Prop} {Ix : Code → List α → World → Prop} {xs : List α} {W W' : World} {a : Act} (h1 : KeepsFrom B W W') (h2 : Kp W W') (h3 : I xs W') : ownPostG B Kp I Ix xs W .normal a W' := ⟨h1, h2, h3⟩
theorem cell_gr {W W' : World} {a : Addr} {v : Value} {b : Nat} (h : W.cell? a = some v) (hg : W.grownBy W' (some b)) (hne : a.block ≠ b) : W'.cell? a = some v :=
  (World.cell?_of_block (hg.block a.block (block_lt_of_cell h) (fun e => hne (by cases e; rfl)))).trans h
/-- A call of yield, within the iterator. -/
theorem s_yield {r : Option Nat} {P : Program} {ops : Array Oper} {Q : Exit → Act → World → Prop} {N : Nat} {σ : Nat → Value} {ds : List Deferred} {w : World} {rest : List Oper} {ty : TypeId} {pos : String} {after : Array Edge}
    {d : Nat} {x : Operand} {l : Nat} {xs : List Operand} {ats : Array TypeId} {vs : List Value} {R : Ending → World → Prop} (hv : ev N σ x = .func (.yield l) #[] #[]) (hargs : xs.map (ev N σ) = vs) (hY : YieldAt Fence.wide 0 P l vs.toArray w R)
    (h : ∀ e w', R e w' → ∃ v, e = .returned v ∧ WL r P ops Q rest (mk N (upd σ d v) ds) w') : WL r P ops Q (⟨some d, .call { callee := .value x, args := xs.toArray, argTypes := ats }, ty, pos, after, none⟩ :: rest) (mk N σ ds) w := by
  obtain ⟨fn, tmps, assign, body, hy, hR⟩ := hY
  refine wpListIn_plain rfl fun K hK => ?_
  refine ⟨fun f _ => trivial, ?_⟩
  have hrun : (execOp (ev N σ) ⟨some d, .call { callee := .value x, args := xs.toArray, argTypes := ats }, ty, pos, after, none⟩).run P w = .ok (.round l fn tmps assign body) w := by
    subst hargs
    simp [execOp, resolve, hv, Deferred.ofValue, invoke, go_sem]
    exact hy
  rw [Oper.semAt_plain (FW r) _ _ (by intro c e; cases e), eval_mk', hrun]
  simp only [Oper.uponIn_round]
  refine ⟨fun hd => by simp [Fence.wide] at hd, ?_⟩
  have hR' : RoundIn (FW r) (0 - 1) P l fn tmps assign body w R := hR
  refine RoundIn.mono hR' ?_
  intro e w' he
  obtain ⟨v, rfl, hW⟩ := h e w' he
  show K ((mk N σ ds).put (some d) v) w'
  rw [put_mk]
  exact hK _ _ hW
theorem Ct.callsIn {P : Program} {f : FuncId} {args : Array Value} {w : World} {R : Value → World → Prop} (h : Ct P f args w R) : CallsIn Fence.wide 0 P f args w (RE R) := h
/-- A function without results runs off its end. -/
theorem end0 {P : Program} {fn : Func} {w : World} {R : Value → World → Prop} {N : Nat} {σ : Nat → Value} (hres : fn.results = #[]) (hR : R (.tuple #[]) w) : Post P fn R .normal (mk N σ []) w := leave_nil (results_none hres _ P w) hR
/-! ### Returns behind such a loop -/
section rets
variable {P : Program} {fn : Func} {w : World} {R : Value → World → Prop} {N : Nat} {σ : Nat → Value}
theorem leave_mark {tmps : Array Value} {v : Value} {D : Nat} (hK : w.heap[D]? = some (.deferred (some []))) (hr : ∀ w', (results fn tmps).run P w' = .ok v w') (hR : R v (w.putObj D (.deferred none))) : LeavesInM (FW none) 0 P fn tmps (RE R) [mark D] .returning w :=
  ⟨by simp, .inl ⟨D, _, rfl, run_takeDeferred hK, leave_nil (hr _) hR⟩⟩
theorem ret2m {t u D : Nat} {v x : Value} (hres : fn.results = #[.tmp t, .tmp u]) (hv : ev N σ (.tmp t) = v) (hx : ev N σ (.tmp u) = x) (hK : w.heap[D]? = some (.deferred (some []))) (hR : R (.tuple #[v, x]) (w.putObj D (.deferred none))) : Post P fn R .ret (mk N σ [mark D]) w :=
  leave_mark hK (fun w' => by rw [results_tmp2 hres, getD_mk' hv, getD_mk' hx]) hR
end rets
/-- The turn of a block that is no cells leaves all lists as they were. -/
def KC (w w' : World) : Prop := ∀ (a : Addr) (v : Value), w.cell? a = some v → w'.cell? a = some v
theorem KC.sl {w w' : World} {v : Value} {vs : List Value} (hk : KC w w') (h : Sl w v vs) : Sl w' v vs := by
  obtain ⟨hm, a, n, c, hv, hn, hnc, hc⟩ := h
  exact ⟨hm, a, n, c, hv, hn, hnc, fun i u hi => let ⟨ad, ha, hcell⟩ := hc i u hi; ⟨ad, ha, hk _ _ hcell⟩⟩
theorem Rows.parts {w : World} {v : Value} {g : List (List Int)} (h : Rows w v g) : ∃ vs, Sl w v vs ∧ vs.length = g.length ∧ ∀ (i : Nat) (u : Value) (l : List Int), vs[i]? = some u → g[i]? = some l → Ints w u l := h
theorem Ints.parts {w : World} {v : Value} {l : List Int} (h : Ints w v l) : (l.map (Value.int .i64)).length ≤ 140737488355328 ∧ ∃ a n c, v = .slice a n c ∧ (l.map (Value.int .i64)).length = n ∧ n ≤ c ∧ ∀ (i : Nat) (u : Value), (l.map (Value.int .i64))[i]? = some u → ∃ ad, a = some ad ∧ w.cell? (ad.add i) = some u := h
theorem Ints.of_parts {w : World} {a : Option Addr} {l : List Int} (hm : (l.map (Value.int .i64)).length ≤ 140737488355328) (hn : (l.map (Value.int .i64)).length = l.length) (hc : ∀ (i : Nat) (u : Value), (l.map (Value.int .i64))[i]? = some u → ∃ ad, a = some ad ∧ w.cell? (ad.add i) = some u) : Ints w (.slice a l.length l.length) l := ⟨hm, a, l.length, l.length, rfl, hn, Nat.le_refl _, hc⟩
theorem KC.ints {w w' : World} {v : Value} {l : List Int} (hk : KC w w') (h : Ints w v l) : Ints w' v l := KC.sl hk h
theorem KC.rows {w w' : World} {v : Value} {g : List (List Int)} (hk : KC w w') (h : Rows w v g) : Rows w' v g := by
  obtain ⟨vs, hs, hl, hr⟩ := h
  exact ⟨vs, hk.sl hs, hl, fun i u l hi hg => hk.ints (hr i u l hi hg)⟩
theorem KC.turn {w w' : World} {row : Option Nat} (hg : w.grownBy w' row) (hrow : ∀ r, row = some r → ∃ o : Obj, w.heap[r]? = some o ∧ o.isCells = false) : KC w w' := fun a v h => cell_kept h hg hrow
theorem KC.put {W : World} {l : Nat} {o o' : Obj} (h : W.heap[l]? = some o) (hc : o.isCells = false) : KC W (W.putObj l o') := KC.turn (grownBy_putObj' W l o') (fun r e => by cases e; exact ⟨o, h, hc⟩)
theorem KC.ex {w w' : World} (h : Ex w w') : KC w w' := fun a v hc => h.cell hc
end Go.Proofs.YtkhnohnkcdcajaaDoor.Sal
