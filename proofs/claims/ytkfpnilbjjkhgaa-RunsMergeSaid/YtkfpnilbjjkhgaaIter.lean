/-
  A RANGE OVER A FUNCTION, where a round is told what it is handed IN THE WORLD OF THAT ROUND (a row that the iterator has just made, say). Over any program; at the wide fence.
-/
import Derived.Test.YtkfpnilbjjkhgaaBase
import Derived.RangeFuncNested
import Derived.RangeFuncBound
import Derived.RangeFuncCalls
import Derived.RangeFuncLeaves
import Derived.Shelf.Abstract
import Derived.Shelf.RegionOpen
import Derived.OwnWalkIn
import Derived.TacticsInMore
import Derived.LoopNIn
import Derived.LoopIn
namespace Go.Proofs.Ytkfpnilbjjkhgaa
open Go.RowKit

/-- What holds stays while nothing that is there is written. -/
def Stable (J : Nat → World → Prop) : Prop := ∀ k W W', J k W → Below W.heap.size W W' → J k W'
/-- What holds stays while a block that holds no cells turns, from block D on. -/
def Abides (D : Nat) (J : Nat → World → Prop) : Prop := ∀ k W l o o', J k W → D ≤ l → W.heap[l]? = some o → o.isCells = false → J k (W.putObj l o')

/-- THE ITERATOR's CONTRACT: 'cnt' rounds at most; round k is handed 'args', of which 'Ok k args W' tells; a round that goes on keeps 'Kp'; Pre: what the iterator asks of the world in which it begins. -/
def IterOf (P : Program) (gf : FuncId) (lb : Array Value) (cnt : Nat) (Ok : Nat → Array Value → World → Prop) (Kp : World → World → Prop) (Pre : World → Prop) : Prop :=
  ∀ (n l : Nat) (J Jx : Nat → World → Prop) (W : World), Stable J → Stable Jx → Pre W →
    (∀ k args W1, k < cnt → J k W1 → Ok k args W1 → YieldAt Fence.wide (n - 1) P l args W1 fun e W' =>
      (e = .returned (.bool true) ∧ J (k + 1) W' ∧ Kp W1 W') ∨ (e = .returned (.bool false) ∧ Jx k W')) →
    J 0 W →
    CallsIn Fence.wide n P gf (#[.func (.yield l) #[] #[]] ++ lb) W fun e W' => (∃ v, e = .returned v) ∧ (J cnt W' ∨ ∃ k, k < cnt ∧ Jx k W')

/-- How a round may be left. -/
def roundEnds (Kp : World → World → Prop) (I : Nat → World → Prop) (Ix : Code → Nat → World → Prop) (k : Nat) (W : World) : Exit → Act → World → Prop
  | .normal, _, W' => KeepsOthers W W' ∧ Kp W W' ∧ I (k + 1) W'
  | .ret, _, W' => KeepsOthers W W' ∧ Ix .ret k W'
  | .exit id, _, W' => KeepsOthers W W' ∧ Ix (.exit id) k W'
  | .goto t, _, W' => KeepsOthers W W' ∧ Ix (.goto t) k W'
  | _, _, _ => False

theorem below_putObj {B : Nat} {w : World} (W : World) (l : Nat) (o : Obj) (h : Below B w W) (hl : B ≤ l) (hB : B ≤ W.heap.size) : Below B w (W.putObj l o) :=
  h.grown (grownBy_putObj' W l o) hB (fun k e => by cases e; exact hl)
theorem abides_below {B D : Nat} {w : World} (hB : B ≤ w.heap.size) (hD : B ≤ D) : Abides D (fun _ W => Below B w W) := fun _ W l _ _ h hl _ _ =>
  below_putObj W l _ h (Nat.le_trans hD hl) (Nat.le_trans hB h.size)

theorem wp_rangeIter {P : Program} {g : Operand} {ps : Array Tmp} {assign body : Code} {Q : Exit → Act → World → Prop} {a : Act} {w : World} {n : Nat}
    {gf : FuncId} {lb : Array Value} (hg : a.eval g = .func (.func gf) #[] lb) (eg : ∀ args w, (callFunc gf args).run P w = .ok (.enter gf args) w)
    {cnt : Nat} {Ok : Nat → Array Value → World → Prop} {Kp : World → World → Prop} {Pre : World → Prop} (hit : IterOf P gf lb cnt Ok Kp Pre)
    (hps : ∀ k args W, Ok k args W → args.size = ps.size)
    (hKt : ∀ {A B C : World}, Kp A B → Kp B C → Kp A C) (hKb : ∀ (W : World) (l : Nat) (o o' : Obj), w.heap.size ≤ l → W.heap[l]? = some o → o.isCells = false → Kp W (W.putObj l o'))
    (hOk : ∀ k args (W : World) (l : Nat) (o o' : Obj), Ok k args W → w.heap.size ≤ l → W.heap[l]? = some o → o.isCells = false → Ok k args (W.putObj l o'))
    (I : Nat → World → Prop) (Ix : Code → Nat → World → Prop) (hI : Stable I) (hIx : ∀ c, Stable (Ix c)) (hIa : Abides w.heap.size I) (hIxa : ∀ c, Abides w.heap.size (Ix c))
    (hpre : ∀ W, Below w.heap.size w W → Pre W)
    (h0 : I 0 w) (a₁ : Array Value → Act)
    (hassign : ∀ (l : Nat) k args (W : World) (K : Act → World → Prop), Ok k args W → K (a₁ args) W →
      assign.wpIn (Fence.wide.inRound l) (n - 1 - 1) P (Exit.then K (fun _ _ _ => False)) { tmps := (ps.zip args).foldl (fun t (p, v) => t.setIfInBounds p v) a.tmps, defers := [] } W)
    (hbody : ∀ (l k : Nat) args (W : World), k < cnt → I k W → Ok k args W → body.wpIn (Fence.wide.inRound l) (n - 1 - 1) P (roundEnds Kp I Ix k W) (a₁ args) W)
    (hdone : ∀ (D : Nat) (W : World), w.heap.size ≤ D → I cnt W → W.heap[D]? = some (.deferred (some [])) → Q .normal { a with defers := { target := .collected D, args := #[] } :: a.defers } W)
    (hstop : ∀ (D : Nat) (c : Code) (k : Nat) (W : World), w.heap.size ≤ D → k < cnt → Ix c k W → W.heap[D]? = some (.deferred (some [])) → c.wpIn Fence.wide n P Q { a with defers := { target := .collected D, args := #[] } :: a.defers } W) :
    (Code.rangeFunc g ps assign body).wp P Q a w := by
  rw [← wpIn_wide (n := n)]
  refine wpIn_rangeFunc fun fn _ => ?_
  -- the two blocks that the loop lays
  have hD := World.alloc_heap_new w (.deferred (some []))
  obtain ⟨r, hr⟩ : ∃ r : LoopState → Option Code → Loop, r = fun st pe => { state := st, pending := pe, fn, tmps := a.tmps, params := ps, assign, body, defers := w.heap.size } := ⟨_, rfl⟩
  obtain ⟨W0, hW0⟩ : ∃ W0, W0 = (w.alloc (.deferred (some []))).alloc (.loop (r .ready none)) := ⟨_, rfl⟩
  have hL0 : W0.heap[w.heap.size + 1]? = some (.loop (r .ready none)) := by
    have := World.alloc_heap_new (w.alloc (.deferred (some []))) (.loop (r .ready none))
    rw [World.size_alloc] at this
    rw [hW0]; exact this
  have hD0 : W0.heap[w.heap.size]? = some (.deferred (some [])) := by rw [hW0]; exact (Below.heap_alloc _ _ _ (by simp)).trans hD
  have hb0 : Below w.heap.size w W0 := by rw [hW0]; exact ((Below.refl _ w).alloc (Nat.le_refl _) _).alloc (by simp) _
  have hlt0 : w.heap.size + 1 < W0.heap.size := (Array.getElem?_eq_some_iff.1 hL0).1
  -- what the iterator is to keep between two rounds: the caller's own word, and the loop's two blocks
  obtain ⟨J, hJ⟩ : ∃ J : Nat → World → Prop, J = fun k W => I k W ∧ W.heap[w.heap.size + 1]? = some (.loop (r .ready none)) ∧ W.heap[w.heap.size]? = some (.deferred (some [])) := ⟨_, rfl⟩
  obtain ⟨Jx, hJx⟩ : ∃ J : Nat → World → Prop, J = fun k W => ∃ c, Ix c k W ∧ W.heap[w.heap.size + 1]? = some (.loop (r .done (some c))) ∧ W.heap[w.heap.size]? = some (.deferred (some [])) := ⟨_, rfl⟩
  have kept : ∀ {W W' : World} {k : Nat} {o : Obj}, Below W.heap.size W W' → W.heap[k]? = some o → W'.heap[k]? = some o := fun hb h => (hb.block _ (Array.getElem?_eq_some_iff.1 h).1).trans h
  have sJ : Stable J := by
    rw [hJ]
    intro k W W' h hb
    exact ⟨hI _ _ _ h.1 hb, kept hb h.2.1, kept hb h.2.2⟩
  have sJx : Stable Jx := by
    rw [hJx]
    rintro k W W' ⟨c, h1, h2, h3⟩ hb
    exact ⟨c, hIx c _ _ _ h1 hb, kept hb h2, kept hb h3⟩
  have one : ∀ k args W1, k < cnt → J k W1 → Ok k args W1 → YieldAt Fence.wide (n - 1 - 1) P (w.heap.size + 1) args W1 fun e W' =>
      (e = .returned (.bool true) ∧ J (k + 1) W' ∧ Kp W1 W') ∨ (e = .returned (.bool false) ∧ Jx k W') := by
    rw [hJ, hJx]
    rintro k args W1 hk ⟨hi, hl, hd⟩ hok
    have hlt : w.heap.size + 1 < W1.heap.size := (Array.getElem?_eq_some_iff.1 hl).1
    have hy := run_yield (P := P) (args := args) hl (by rw [hr]; exact hps k args W1 hok)
    rw [hr] at hy
    refine ⟨fn, _, assign, body, hy, roundIn_of_wpIn trivial (hassign _ k args W1 _ hok ⟨_, run_beginRound hl (by rw [hr]), ?_⟩)⟩
    obtain ⟨W2, hW2⟩ : ∃ W2, W2 = W1.putObj (w.heap.size + 1) (.loop { r .ready none with state := .busy }) := ⟨_, rfl⟩
    rw [← hW2]
    have hl2 : W2.heap[w.heap.size + 1]? = some (.loop (r .busy none)) := by rw [hW2, World.putObj_heap_same hlt, hr]
    have hd2 : W2.heap[w.heap.size]? = some (.deferred (some [])) := by rw [hW2]; exact (World.putObj_heap_other (by omega)).trans hd
    have hi2 : I k W2 := by rw [hW2]; exact hIa k W1 _ _ _ hi (by omega) hl rfl
    have hok2 : Ok k args W2 := by rw [hW2]; exact hOk k args W1 _ _ _ hok (by omega) hl rfl
    have hkp2 : Kp W1 W2 := by rw [hW2]; exact hKb W1 _ _ _ (by omega) hl rfl
    refine wpIn_mono (hbody _ k args W2 hk hi2 hok2) ?_
    -- a round's end
    have ends : ∀ (jump : Option Code) (W3 : World), KeepsOthers W2 W3 → ∃ W4, (Instr.endRound (w.heap.size + 1) jump).run P W3 = .ok (.bool jump.isNone) W4 ∧
        W4 = W3.putObj (w.heap.size + 1) (.loop (r (if jump.isNone then .ready else .done) jump)) ∧ W3.heap[w.heap.size + 1]? = some (.loop (r .busy none)) ∧
        W4.heap[w.heap.size + 1]? = some (.loop (r (if jump.isNone then .ready else .done) jump)) ∧ W4.heap[w.heap.size]? = some (.deferred (some [])) := by
      intro jump W3 hko
      have hl3 := hko.same _ _ hl2 rfl
      have hd3 := hko.same _ _ hd2 rfl
      have he := run_endRound (P := P) jump hl3
      refine ⟨_, he, ?_, hl3, ?_, ?_⟩
      · rw [hr]
      · rw [World.putObj_heap_same (Array.getElem?_eq_some_iff.1 hl3).1, hr]
      · exact (World.putObj_heap_other (by omega)).trans hd3
    have out : ∀ (c : Code) (W3 : World), KeepsOthers W2 W3 → Ix c k W3 → ∃ v w', (Instr.endRound (w.heap.size + 1) (some c)).run P W3 = .ok v w' ∧
        ((Ending.returned v = .returned (.bool true) ∧ (I (k + 1) w' ∧ w'.heap[w.heap.size + 1]? = some (.loop (r .ready none)) ∧ w'.heap[w.heap.size]? = some (.deferred (some []))) ∧ Kp W1 w') ∨
         (Ending.returned v = .returned (.bool false) ∧ ∃ c, Ix c k w' ∧ w'.heap[w.heap.size + 1]? = some (.loop (r .done (some c))) ∧ w'.heap[w.heap.size]? = some (.deferred (some [])))) := by
      intro c W3 hko hx
      obtain ⟨W4, he, hW4, hl3, hl4, hd4⟩ := ends (some c) W3 hko
      exact ⟨_, W4, he, .inr ⟨rfl, c, by rw [hW4]; exact hIxa c k W3 _ _ _ hx (by omega) hl3 rfl, hl4, hd4⟩⟩
    rintro e a3 W3 hp
    cases e with
    | normal =>
      obtain ⟨hko, hkp, hi3⟩ := hp
      obtain ⟨W4, he, hW4, hl3, hl4, hd4⟩ := ends none W3 hko
      refine ⟨_, W4, he, .inl ⟨rfl, ⟨by rw [hW4]; exact hIa _ W3 _ _ _ hi3 (by omega) hl3 rfl, hl4, hd4⟩, ?_⟩⟩
      rw [hW4]
      exact hKt (hKt hkp2 hkp) (hKb W3 _ _ _ (by omega) hl3 rfl)
    | ret => exact out _ W3 hp.1 hp.2
    | exit id => exact out _ W3 hp.1 hp.2
    | goto t => exact out _ W3 hp.1 hp.2
    | panic ch => exact hp.elim
    | outgrown => exact hp.elim
  refine ⟨w.heap.size + 1, [{ target := .collected w.heap.size, args := #[] }], W0, { target := .fn (.func gf) lb, args := #[.func (.yield (w.heap.size + 1)) #[] #[]] }, W0, gf,
    #[.func (.yield (w.heap.size + 1)) #[] #[]] ++ lb, W0, ?_, ?_, fun _ _ => trivial, ?_, fun h => by simp [Fence.wide] at h, ?_⟩
  · rw [hW0, hr]; exact run_enterLoop_outer _ _ _ _ _
  · simp only [resolve, hg]
    simp [go_sem]
  · simp [invoke, go_sem, eg]
  · refine (hit (n - 1) (w.heap.size + 1) J Jx W0 sJ sJx (hpre W0 hb0) one (by rw [hJ]; exact ⟨hI 0 w W0 h0 hb0, hL0, hD0⟩)).mono ?_
    rw [hJ, hJx]
    rintro e W2 ⟨⟨v, rfl⟩, (⟨hi, hl, hd⟩ | ⟨k, hk, c, hi, hl, hd⟩)⟩
    · refine ⟨none, _, by have := run_endLoop (P := P) hl (by rw [hr]; simp); rw [hr] at this; exact this, ?_⟩
      exact hdone _ _ (Nat.le_refl _) (hIa _ W2 _ _ _ hi (by omega) hl rfl) ((World.putObj_heap_other (by omega)).trans hd)
    · refine ⟨some c, _, by have := run_endLoop (P := P) hl (by rw [hr]; simp); rw [hr] at this; exact this, ?_⟩
      exact hstop _ c k _ (Nat.le_refl _) hk (hIxa c k W2 _ _ _ hi (by omega) hl rfl) ((World.putObj_heap_other (by omega)).trans hd)

/-! ### What stays while a block without cells turns -/
section
variable {W : World} {A : Option Addr} {n l : Nat} {vs : List Value} {bs : List UInt8} {v : Value} {o : Obj}
theorem RV.putObj (h : RV W A n vs) (o' : Obj) (hl : W.heap[l]? = some o) (ho : o.isCells = false) : RV (W.putObj l o') A n vs :=
  ⟨h.1, fun hn => by
    obtain ⟨b, f, e, hc⟩ := h.2 hn
    exact ⟨b, f, e, fun j u hu => cell_kept (hc j u hu) (grownBy_putObj' W l o') (fun r e => by cases e; exact ⟨o, hl, ho⟩)⟩⟩
theorem SB.putObj (h : SB W v bs) (o' : Obj) (hl : W.heap[l]? = some o) (ho : o.isCells = false) : SB (W.putObj l o') v bs := by
  obtain ⟨A, n, c, rfl, h1, h2, h3⟩ := h
  exact ⟨A, n, c, rfl, h1, h2, RV.putObj h3 o' hl ho⟩
theorem heap_putObj {g : Nat} {cs : Array Value} {t : TypeId} {fr : Nat × Nat} (h : W.heap[g]? = some (.cells cs t fr)) (o' : Obj) (hl : W.heap[l]? = some o) (ho : o.isCells = false) : (W.putObj l o').heap[g]? = some (.cells cs t fr) := by
  have hne : g ≠ l := by
    rintro rfl
    rw [h] at hl
    cases hl
    cases ho
  exact (World.putObj_heap_other hne).trans h
theorem heap_below {W' : World} {g : Nat} {o : Obj} (h : W.heap[g]? = some o) (hb : Below W.heap.size W W') : W'.heap[g]? = some o := (hb.block g (Array.getElem?_eq_some_iff.1 h).1).trans h
theorem keepsOthers_below {W' : World} (hb : Below W.heap.size W W') : KeepsOthers W W' := ⟨hb.size, fun _ _ h _ => heap_below h hb⟩
end
end Go.Proofs.Ytkfpnilbjjkhgaa
