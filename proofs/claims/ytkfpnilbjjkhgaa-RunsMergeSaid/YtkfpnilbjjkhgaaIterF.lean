/-
  A RANGE OVER A FUNCTION, the frame of a round as a function of the frame ahead of the loop.
-/
import Derived.Test.YtkfpnilbjjkhgaaIterTwo
namespace Go.Proofs.Ytkfpnilbjjkhgaa
open Go.RowKit

theorem wp_rangeIterF {P : Program} {g : Operand} {ps : Array Tmp} {assign body : Code} {Q : Exit → Act → World → Prop} {a : Act} {w : World} {n : Nat}
    {gf : FuncId} {lb : Array Value} (hg : a.eval g = .func (.func gf) #[] lb) (eg : ∀ args w, (callFunc gf args).run P w = .ok (.enter gf args) w)
    {cnt : Nat} {Ok : Nat → Array Value → World → Prop} {Kp : World → World → Prop} {Pre : World → Prop} (hit : IterOf P gf lb cnt Ok Kp Pre)
    (hps : ∀ k args W, Ok k args W → args.size = ps.size)
    (hKt : ∀ {A B C : World}, Kp A B → Kp B C → Kp A C) (hKb : ∀ (W : World) (l : Nat) (o o' : Obj), w.heap.size ≤ l → W.heap[l]? = some o → o.isCells = false → Kp W (W.putObj l o'))
    (hOk : ∀ k args (W : World) (l : Nat) (o o' : Obj), Ok k args W → w.heap.size ≤ l → W.heap[l]? = some o → o.isCells = false → Ok k args (W.putObj l o'))
    (I : Nat → World → Prop) (Ix : Code → Nat → World → Prop) (hI : Stable I) (hIx : ∀ c, Stable (Ix c)) (hIa : Abides w.heap.size I) (hIxa : ∀ c, Abides w.heap.size (Ix c))
    (hpre : ∀ W, Below w.heap.size w W → Pre W)
    (h0 : I 0 w) (F : Array Value → Array Value → Array Value)
    (hassign : ∀ (l : Nat) k args (W : World) (K : Act → World → Prop), Ok k args W → K { tmps := F args a.tmps, defers := [] } W →
      assign.wpIn (Fence.wide.inRound l) (n - 1 - 1) P (Exit.then K (fun _ _ _ => False)) { tmps := (ps.zip args).foldl (fun t (p, v) => t.setIfInBounds p v) a.tmps, defers := [] } W)
    (hbody : ∀ (l k : Nat) args (W : World), k < cnt → I k W → Ok k args W → body.wpIn (Fence.wide.inRound l) (n - 1 - 1) P (roundEnds Kp I Ix k W) { tmps := F args a.tmps, defers := [] } W)
    (hdone : ∀ (D : Nat) (W : World), w.heap.size ≤ D → I cnt W → W.heap[D]? = some (.deferred (some [])) → Q .normal { a with defers := { target := .collected D, args := #[] } :: a.defers } W)
    (hstop : ∀ (D : Nat) (c : Code) (k : Nat) (W : World), w.heap.size ≤ D → k < cnt → Ix c k W → W.heap[D]? = some (.deferred (some [])) → c.wpIn Fence.wide n P Q { a with defers := { target := .collected D, args := #[] } :: a.defers } W) :
    (Code.rangeFunc g ps assign body).wp P Q a w :=
  wp_rangeIter hg eg hit hps hKt hKb hOk I Ix hI hIx hIa hIxa hpre h0 (fun args => { tmps := F args a.tmps, defers := [] }) hassign hbody hdone hstop
theorem wp_rangeIter2F {P : Program} {g : Operand} {ps : Array Tmp} {assign body : Code} {Q : Exit → Act → World → Prop} {a : Act} {w : World} {n : Nat}
    {gf : FuncId} {lb : Array Value} (hg : a.eval g = .func (.func gf) #[] lb) (eg : ∀ args w, (callFunc gf args).run P w = .ok (.enter gf args) w)
    {cnt : Nat} {Ok : Nat → Array Value → World → World → Prop} {Kp : World → World → Prop} {Pre : World → Prop} (hit : IterOf2 P gf lb cnt Ok Kp Pre)
    (hps : ∀ k args W0 W, Ok k args W0 W → args.size = ps.size)
    (hKt : ∀ {A B C : World}, Kp A B → Kp B C → Kp A C) (hKb : ∀ (W : World) (l : Nat) (o o' : Obj), w.heap.size ≤ l → W.heap[l]? = some o → o.isCells = false → Kp W (W.putObj l o'))
    (hOk : ∀ k args (W0 W : World) (l : Nat) (o o' : Obj), Ok k args W0 W → w.heap.size ≤ l → W.heap[l]? = some o → o.isCells = false → Ok k args W0 (W.putObj l o'))
    (I : Nat → World → Prop) (Ix : Code → Nat → World → Prop) (hI : Stable I) (hIx : ∀ c, Stable (Ix c)) (hIa : Abides w.heap.size I) (hIxa : ∀ c, Abides w.heap.size (Ix c))
    (hpre : ∀ W, Below w.heap.size w W → Pre W)
    (h0 : I 0 w) (F : Array Value → Array Value → Array Value)
    (hassign : ∀ (l : Nat) k args (W0 W : World) (K : Act → World → Prop), Ok k args W0 W → K { tmps := F args a.tmps, defers := [] } W →
      assign.wpIn (Fence.wide.inRound l) (n - 1 - 1) P (Exit.then K (fun _ _ _ => False)) { tmps := (ps.zip args).foldl (fun t (p, v) => t.setIfInBounds p v) a.tmps, defers := [] } W)
    (hbody : ∀ (l k : Nat) args (W0 W : World), k < cnt → I k W0 → (∀ J' : Nat → World → Prop, Stable J' → Abides w.heap.size J' → ∀ j, J' j W0 → J' j W) → Ok k args W0 W → body.wpIn (Fence.wide.inRound l) (n - 1 - 1) P (roundEnds Kp I Ix k W) { tmps := F args a.tmps, defers := [] } W)
    (hdone : ∀ (D : Nat) (W : World), w.heap.size ≤ D → I cnt W → W.heap[D]? = some (.deferred (some [])) → Q .normal { a with defers := { target := .collected D, args := #[] } :: a.defers } W)
    (hstop : ∀ (D : Nat) (c : Code) (k : Nat) (W : World), w.heap.size ≤ D → k < cnt → Ix c k W → W.heap[D]? = some (.deferred (some [])) → c.wpIn Fence.wide n P Q { a with defers := { target := .collected D, args := #[] } :: a.defers } W) :
    (Code.rangeFunc g ps assign body).wp P Q a w :=
  wp_rangeIter2 hg eg hit hps hKt hKb hOk I Ix hI hIx hIa hIxa hpre h0 (fun args => { tmps := F args a.tmps, defers := [] }) hassign hbody hdone hstop
end Go.Proofs.Ytkfpnilbjjkhgaa
