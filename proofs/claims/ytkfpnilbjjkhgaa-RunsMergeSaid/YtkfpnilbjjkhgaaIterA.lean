/-
  A RANGE OVER A FUNCTION whose assignment makes memory (a loop variable in a box). Over any program; at the wide fence.
-/
import Derived.Test.YtkfpnilbjjkhgaaIter
namespace Go.Proofs.Ytkfpnilbjjkhgaa
open Go.RowKit

theorem wp_rangeIterA {P : Program} {g : Operand} {ps : Array Tmp} {assign body : Code} {Q : Exit → Act → World → Prop} {a : Act} {w : World} {n : Nat}
    {gf : FuncId} {lb : Array Value} (hg : a.eval g = .func (.func gf) #[] lb) (eg : ∀ args w, (callFunc gf args).run P w = .ok (.enter gf args) w)
    {cnt : Nat} {Ok : Nat → Array Value → World → Prop} {Kp : World → World → Prop} {Pre : World → Prop} (hit : IterOf P gf lb cnt Ok Kp Pre)
    (hps : ∀ k args W, Ok k args W → args.size = ps.size)
    (hKt : ∀ {A B C : World}, Kp A B → Kp B C → Kp A C) (hKb : ∀ (W : World) (l : Nat) (o o' : Obj), w.heap.size ≤ l → W.heap[l]? = some o → o.isCells = false → Kp W (W.putObj l o'))
    (hOk : ∀ k args (W : World) (l : Nat) (o o' : Obj), Ok k args W → w.heap.size ≤ l → W.heap[l]? = some o → o.isCells = false → Ok k args (W.putObj l o'))
    (I : Nat → World → Prop) (Ix : Code → Nat → World → Prop) (hI : Stable I) (hIx : ∀ c, Stable (Ix c)) (hIa : Abides w.heap.size I) (hIxa : ∀ c, Abides w.heap.size (Ix c))
    (hpre : ∀ W, Below w.heap.size w W → Pre W)
    (h0 : I 0 w) (Ax : Nat → Array Value → Act → World → Prop)
    (hKw : ∀ (W W' : World), Below W.heap.size W W' → Kp W W') (hOkw : ∀ k args (W W' : World), Ok k args W → Below W.heap.size W W' → Ok k args W')
    (hAx : ∀ k args a' (W : World) (l : Nat) (o o' : Obj), Ax k args a' W → w.heap.size ≤ l → W.heap[l]? = some o → o.isCells = false → Ax k args a' (W.putObj l o'))
    (hassign : ∀ (l : Nat) k args (W : World) (K : Act → World → Prop), k < cnt → I k W → Ok k args W → (∀ a' W', Below W.heap.size W W' → Ax k args a' W' → K a' W') →
      assign.wpIn (Fence.wide.inRound l) (n - 1 - 1) P (Exit.then K (fun _ _ _ => False)) { tmps := (ps.zip args).foldl (fun t (p, v) => t.setIfInBounds p v) a.tmps, defers := [] } W)
    (hbody : ∀ (l k : Nat) args a' (W : World), k < cnt → I k W → Ok k args W → Ax k args a' W → body.wpIn (Fence.wide.inRound l) (n - 1 - 1) P (roundEnds Kp I Ix k W) a' W)
    (hdone : ∀ (D : Nat) (W : World), w.heap.size ≤ D → I cnt W → W.heap[D]? = some (.deferred (some [])) → Q .normal { a with defers := { target := .collected D, args := #[] } :: a.defers } W)
    (hstop : ∀ (D : Nat) (c : Code) (k : Nat) (W : World), w.heap.size ≤ D → k < cnt → Ix c k W → W.heap[D]? = some (.deferred (some [])) → c.wpIn Fence.wide n P Q { a with defers := { target := .collected D, args := #[] } :: a.defers } W) :
    (Code.rangeFunc g ps assign body).wp P Q a w := by
  rw [← wpIn_wide (n := n)]
  refine wpIn_rangeFunc fun fn _ => ?_
  -- the two blocks that the loop lays
  have hD := World.alloc_heap_new w (.deferred (some []))
  obtain ⟨r, hr⟩ : ∃ r : LoopState → Option Code → Loop, r = fun st pe => { state := st, pending := pe, fn, tmps := a.tmps, params := ps, assign, body, defers := w.heap.size } := ⟨_, rfl⟩
  obtain ⟨W0, hW0⟩ : ∃ W0, W0 = (w.alloc (.deferred (some []))).alloc (.loop (r .ready none)) := ⟨_, rfl⟩
  have hL0 : W0.heap[w.heap.size + 1]? = some (.loop (r .ready none)) := by
    have := World.alloc_heap_new (w.alloc (.deferred (some []))) (.loop (r .ready none))
    rw [World.size_alloc] at this
    rw [hW0]; exact this
  have hD0 : W0.heap[w.heap.size]? = some (.deferred (some [])) := by rw [hW0]; exact (Below.heap_alloc _ _ _ (by simp)).trans hD
  have hb0 : Below w.heap.size w W0 := by rw [hW0]; exact ((Below.refl _ w).alloc (Nat.le_refl _) _).alloc (by simp) _
  have hlt0 : w.heap.size + 1 < W0.heap.size := (Array.getElem?_eq_some_iff.1 hL0).1
  -- what the iterator is to keep between two rounds: the caller's own word, and the loop's two blocks
  obtain ⟨J, hJ⟩ : ∃ J : Nat → World → Prop, J = fun k W => I k W ∧ W.heap[w.heap.size + 1]? = some (.loop (r .ready none)) ∧ W.heap[w.heap.size]? = some (.deferred (some [])) := ⟨_, rfl⟩
  obtain ⟨Jx, hJx⟩ : ∃ J : Nat → World → Prop, J = fun k W => ∃ c, Ix c k W ∧ W.heap[w.heap.size + 1]? = some (.loop (r .done (some c))) ∧ W.heap[w.heap.size]? = some (.deferred (some [])) := ⟨_, rfl⟩
  have kept : ∀ {W W' : World} {k : Nat} {o : Obj}, Below W.heap.size W W' → W.heap[k]? = some o → W'.heap[k]? = some o := fun hb h => (hb.block _ (Array.getElem?_eq_some_iff.1 h).1).trans h
  have sJ : Stable J := by
    rw [hJ]
    intro k W W' h hb
    exact ⟨hI _ _ _ h.1 hb, kept hb h.2.1, kept hb h.2.2⟩
  have sJx : Stable Jx := by
    rw [hJx]
    rintro k W W' ⟨c, h1, h2, h3⟩ hb
    exact ⟨c, hIx c _ _ _ h1 hb, kept hb h2, kept hb h3⟩
  have one : ∀ k args W1, k < cnt → J k W1 → Ok k args W1 → YieldAt Fence.wide (n - 1 - 1) P (w.heap.size + 1) args W1 fun e W' =>
      (e = .returned (.bool true) ∧ J (k + 1) W' ∧ Kp W1 W') ∨ (e = .returned (.bool false) ∧ Jx k W') := by
    rw [hJ, hJx]
    rintro k args V1 hk ⟨hi0, hl0, hd0⟩ hok0
    have hy := run_yield (P := P) (args := args) hl0 (by rw [hr]; exact hps k args V1 hok0)
    rw [hr] at hy
    refine ⟨fn, _, assign, body, hy, roundIn_of_wpIn trivial (hassign _ k args V1 _ hk hi0 hok0 fun a1 W1 hbA hax => ?_)⟩
    have hi := hI k V1 W1 hi0 hbA
    have hl := kept hbA hl0
    have hd := kept hbA hd0
    have hok := hOkw k args V1 W1 hok0 hbA
    have hlt : w.heap.size + 1 < W1.heap.size := (Array.getElem?_eq_some_iff.1 hl).1
    refine ⟨_, run_beginRound hl (by rw [hr]), ?_⟩
    obtain ⟨W2, hW2⟩ : ∃ W2, W2 = W1.putObj (w.heap.size + 1) (.loop { r .ready none with state := .busy }) := ⟨_, rfl⟩
    rw [← hW2]
    have hl2 : W2.heap[w.heap.size + 1]? = some (.loop (r .busy none)) := by rw [hW2, World.putObj_heap_same hlt, hr]
    have hd2 : W2.heap[w.heap.size]? = some (.deferred (some [])) := by rw [hW2]; exact (World.putObj_heap_other (by omega)).trans hd
    have hi2 : I k W2 := by rw [hW2]; exact hIa k W1 _ _ _ hi (by omega) hl rfl
    have hok2 : Ok k args W2 := by rw [hW2]; exact hOk k args W1 _ _ _ hok (by omega) hl rfl
    have hax2 : Ax k args a1 W2 := by rw [hW2]; exact hAx k args a1 W1 _ _ _ hax (by omega) hl rfl
    have hkp2 : Kp V1 W2 := hKt (hKw _ _ hbA) (by rw [hW2]; exact hKb W1 _ _ _ (by omega) hl rfl)
    refine wpIn_mono (hbody _ k args a1 W2 hk hi2 hok2 hax2) ?_
    -- a round's end
    have ends : ∀ (jump : Option Code) (W3 : World), KeepsOthers W2 W3 → ∃ W4, (Instr.endRound (w.heap.size + 1) jump).run P W3 = .ok (.bool jump.isNone) W4 ∧
        W4 = W3.putObj (w.heap.size + 1) (.loop (r (if jump.isNone then .ready else .done) jump)) ∧ W3.heap[w.heap.size + 1]? = some (.loop (r .busy none)) ∧
        W4.heap[w.heap.size + 1]? = some (.loop (r (if jump.isNone then .ready else .done) jump)) ∧ W4.heap[w.heap.size]? = some (.deferred (some [])) := by
      intro jump W3 hko
      have hl3 := hko.same _ _ hl2 rfl
      have hd3 := hko.same _ _ hd2 rfl
      have he := run_endRound (P := P) jump hl3
      refine ⟨_, he, ?_, hl3, ?_, ?_⟩
      · rw [hr]
      · rw [World.putObj_heap_same (Array.getElem?_eq_some_iff.1 hl3).1, hr]
      · exact (World.putObj_heap_other (by omega)).trans hd3
    have out : ∀ (c : Code) (W3 : World), KeepsOthers W2 W3 → Ix c k W3 → ∃ v w', (Instr.endRound (w.heap.size + 1) (some c)).run P W3 = .ok v w' ∧
        ((Ending.returned v = .returned (.bool true) ∧ (I (k + 1) w' ∧ w'.heap[w.heap.size + 1]? = some (.loop (r .ready none)) ∧ w'.heap[w.heap.size]? = some (.deferred (some []))) ∧ Kp V1 w') ∨
         (Ending.returned v = .returned (.bool false) ∧ ∃ c, Ix c k w' ∧ w'.heap[w.heap.size + 1]? = some (.loop (r .done (some c))) ∧ w'.heap[w.heap.size]? = some (.deferred (some [])))) := by
      intro c W3 hko hx
      obtain ⟨W4, he, hW4, hl3, hl4, hd4⟩ := ends (some c) W3 hko
      exact ⟨_, W4, he, .inr ⟨rfl, c, by rw [hW4]; exact hIxa c k W3 _ _ _ hx (by omega) hl3 rfl, hl4, hd4⟩⟩
    rintro e a3 W3 hp
    cases e with
    | normal =>
      obtain ⟨hko, hkp, hi3⟩ := hp
      obtain ⟨W4, he, hW4, hl3, hl4, hd4⟩ := ends none W3 hko
      refine ⟨_, W4, he, .inl ⟨rfl, ⟨by rw [hW4]; exact hIa _ W3 _ _ _ hi3 (by omega) hl3 rfl, hl4, hd4⟩, ?_⟩⟩
      rw [hW4]
      exact hKt (hKt hkp2 hkp) (hKb W3 _ _ _ (by omega) hl3 rfl)
    | ret => exact out _ W3 hp.1 hp.2
    | exit id => exact out _ W3 hp.1 hp.2
    | goto t => exact out _ W3 hp.1 hp.2
    | panic ch => exact hp.elim
    | outgrown => exact hp.elim
  refine ⟨w.heap.size + 1, [{ target := .collected w.heap.size, args := #[] }], W0, { target := .fn (.func gf) lb, args := #[.func (.yield (w.heap.size + 1)) #[] #[]] }, W0, gf,
    #[.func (.yield (w.heap.size + 1)) #[] #[]] ++ lb, W0, ?_, ?_, fun _ _ => trivial, ?_, fun h => by simp [Fence.wide] at h, ?_⟩
  · rw [hW0, hr]; exact run_enterLoop_outer _ _ _ _ _
  · simp only [resolve, hg]
    simp [go_sem]
  · simp [invoke, go_sem, eg]
  · refine (hit (n - 1) (w.heap.size + 1) J Jx W0 sJ sJx (hpre W0 hb0) one (by rw [hJ]; exact ⟨hI 0 w W0 h0 hb0, hL0, hD0⟩)).mono ?_
    rw [hJ, hJx]
    rintro e W2 ⟨⟨v, rfl⟩, (⟨hi, hl, hd⟩ | ⟨k, hk, c, hi, hl, hd⟩)⟩
    · refine ⟨none, _, by have := run_endLoop (P := P) hl (by rw [hr]; simp); rw [hr] at this; exact this, ?_⟩
      exact hdone _ _ (Nat.le_refl _) (hIa _ W2 _ _ _ hi (by omega) hl rfl) ((World.putObj_heap_other (by omega)).trans hd)
    · refine ⟨some c, _, by have := run_endLoop (P := P) hl (by rw [hr]; simp); rw [hr] at this; exact this, ?_⟩
      exact hstop _ c k _ (Nat.le_refl _) hk (hIxa c k W2 _ _ _ hi (by omega) hl rfl) ((World.putObj_heap_other (by omega)).trans hd)
/-- The frame of a round, as a function of what is handed, of the box, and of the frame ahead of the loop. -/
theorem wp_rangeIterB {P : Program} {g : Operand} {ps : Array Tmp} {assign body : Code} {Q : Exit → Act → World → Prop} {a : Act} {w : World} {n : Nat}
    {gf : FuncId} {lb : Array Value} (hg : a.eval g = .func (.func gf) #[] lb) (eg : ∀ args w, (callFunc gf args).run P w = .ok (.enter gf args) w)
    {cnt : Nat} {Ok : Nat → Array Value → World → Prop} {Kp : World → World → Prop} {Pre : World → Prop} (hit : IterOf P gf lb cnt Ok Kp Pre)
    (hps : ∀ k args W, Ok k args W → args.size = ps.size)
    (hKt : ∀ {A B C : World}, Kp A B → Kp B C → Kp A C) (hKb : ∀ (W : World) (l : Nat) (o o' : Obj), w.heap.size ≤ l → W.heap[l]? = some o → o.isCells = false → Kp W (W.putObj l o'))
    (hOk : ∀ k args (W : World) (l : Nat) (o o' : Obj), Ok k args W → w.heap.size ≤ l → W.heap[l]? = some o → o.isCells = false → Ok k args (W.putObj l o'))
    (I : Nat → World → Prop) (Ix : Code → Nat → World → Prop) (hI : Stable I) (hIx : ∀ c, Stable (Ix c)) (hIa : Abides w.heap.size I) (hIxa : ∀ c, Abides w.heap.size (Ix c))
    (hpre : ∀ W, Below w.heap.size w W → Pre W)
    (h0 : I 0 w) (Bx : Nat → Array Value → Nat → World → Prop) (F : Array Value → Nat → Array Value → Array Value)
    (hKw : ∀ (W W' : World), Below W.heap.size W W' → Kp W W') (hOkw : ∀ k args (W W' : World), Ok k args W → Below W.heap.size W W' → Ok k args W')
    (hBx : ∀ k args bx (W : World) (l : Nat) (o o' : Obj), Bx k args bx W → w.heap.size ≤ l → W.heap[l]? = some o → o.isCells = false → Bx k args bx (W.putObj l o'))
    (hassign : ∀ (l : Nat) k args (W : World) (K : Act → World → Prop), k < cnt → I k W → Ok k args W → (∀ bx W', Below W.heap.size W W' → Bx k args bx W' → K { tmps := F args bx a.tmps, defers := [] } W') →
      assign.wpIn (Fence.wide.inRound l) (n - 1 - 1) P (Exit.then K (fun _ _ _ => False)) { tmps := (ps.zip args).foldl (fun t (p, v) => t.setIfInBounds p v) a.tmps, defers := [] } W)
    (hbody : ∀ (l k : Nat) args bx (W : World), k < cnt → I k W → Ok k args W → Bx k args bx W → body.wpIn (Fence.wide.inRound l) (n - 1 - 1) P (roundEnds Kp I Ix k W) { tmps := F args bx a.tmps, defers := [] } W)
    (hdone : ∀ (D : Nat) (W : World), w.heap.size ≤ D → I cnt W → W.heap[D]? = some (.deferred (some [])) → Q .normal { a with defers := { target := .collected D, args := #[] } :: a.defers } W)
    (hstop : ∀ (D : Nat) (c : Code) (k : Nat) (W : World), w.heap.size ≤ D → k < cnt → Ix c k W → W.heap[D]? = some (.deferred (some [])) → c.wpIn Fence.wide n P Q { a with defers := { target := .collected D, args := #[] } :: a.defers } W) :
    (Code.rangeFunc g ps assign body).wp P Q a w :=
  wp_rangeIterA hg eg hit hps hKt hKb hOk I Ix hI hIx hIa hIxa hpre h0 (fun k args a' W => ∃ bx, Bx k args bx W ∧ a' = { tmps := F args bx a.tmps, defers := [] }) hKw hOkw
    (fun k args a' W l o o' ⟨bx, h1, h2⟩ h3 h4 h5 => ⟨bx, hBx k args bx W l o o' h1 h3 h4 h5, h2⟩)
    (fun l k args W K hk hi ho hK => hassign l k args W K hk hi ho fun bx W' hb h => hK _ W' hb ⟨bx, h, rfl⟩)
    (fun l k args a' W hk hi ho ⟨bx, h1, h2⟩ => h2 ▸ hbody l k args bx W hk hi ho h1) hdone hstop
end Go.Proofs.Ytkfpnilbjjkhgaa
