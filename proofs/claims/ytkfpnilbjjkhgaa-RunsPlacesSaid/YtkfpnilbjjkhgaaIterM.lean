/-
  A RANGE OVER A FUNCTION that runs out or is left by a break: one way on. Over any program; at the wide fence.
-/
import Derived.Test.YtkfpnilbjjkhgaaIterF
namespace Go.Proofs.Ytkfpnilbjjkhgaa
open Go.RowKit

theorem wp_rangeIterM {P : Program} {g : Operand} {ps : Array Tmp} {assign body : Code} {id : Nat} {K : Act → World → Prop} {Q' : Exit → Act → World → Prop} {a : Act} {w : World} {n : Nat}
    {gf : FuncId} {lb : Array Value} (hg : a.eval g = .func (.func gf) #[] lb) (eg : ∀ args w, (callFunc gf args).run P w = .ok (.enter gf args) w)
    {cnt : Nat} {Ok : Nat → Array Value → World → Prop} {Kp : World → World → Prop} {Pre : World → Prop} (hit : IterOf P gf lb cnt Ok Kp Pre)
    (hps : ∀ k args W, Ok k args W → args.size = ps.size)
    (hKt : ∀ {A B C : World}, Kp A B → Kp B C → Kp A C) (hKb : ∀ (W : World) (l : Nat) (o o' : Obj), w.heap.size ≤ l → W.heap[l]? = some o → o.isCells = false → Kp W (W.putObj l o'))
    (hOk : ∀ k args (W : World) (l : Nat) (o o' : Obj), Ok k args W → w.heap.size ≤ l → W.heap[l]? = some o → o.isCells = false → Ok k args (W.putObj l o'))
    (I : Nat → World → Prop) (Rx : Nat → World → Prop) (hI : Stable I) (hIx : Stable Rx) (hIa : Abides w.heap.size I) (hIxa : Abides w.heap.size Rx)
    (hpre : ∀ W, Below w.heap.size w W → Pre W)
    (h0 : I 0 w) (F : Array Value → Array Value → Array Value) (R : World → Prop)
    (hassign : ∀ (l : Nat) k args (W : World) (K : Act → World → Prop), Ok k args W → K { tmps := F args a.tmps, defers := [] } W →
      assign.wpIn (Fence.wide.inRound l) (n - 1 - 1) P (Exit.then K (fun _ _ _ => False)) { tmps := (ps.zip args).foldl (fun t (p, v) => t.setIfInBounds p v) a.tmps, defers := [] } W)
    (hbody : ∀ (l k : Nat) args (W : World), k < cnt → I k W → Ok k args W → body.wpIn (Fence.wide.inRound l) (n - 1 - 1) P (roundEnds Kp I (fun c k W => c = .exit id ∧ Rx k W) k W) { tmps := F args a.tmps, defers := [] } W)
    (hIR : ∀ W, I cnt W → R W) (hRx : ∀ k W, k < cnt → Rx k W → R W)
    (hrest : ∀ (D : Nat) (W : World), w.heap.size ≤ D → R W → W.heap[D]? = some (.deferred (some [])) → K { a with defers := { target := .collected D, args := #[] } :: a.defers } W) :
    (Code.rangeFunc g ps assign body).wp P (Exit.inBlock id (Exit.then K Q')) a w :=
  wp_rangeIterF (n := n) hg eg hit hps hKt hKb hOk I (fun c k W => c = .exit id ∧ Rx k W) hI (fun c k W W' h hb => ⟨h.1, hIx k W W' h.2 hb⟩) hIa (fun c k W l o o' h h1 h2 h3 => ⟨h.1, hIxa k W l o o' h.2 h1 h2 h3⟩) hpre h0 F hassign hbody
    (fun D W hD h hK => by
      simp only [Exit.inBlock, Exit.then]
      exact hrest D W hD (hIR W h) hK)
    (fun D c k W hD hk h hK => by
      obtain ⟨rfl, h⟩ := h
      refine wpIn_exit ?_
      simp only [Exit.inBlock, Exit.then, if_true]
      exact hrest D W hD (hRx k W hk h) hK)
end Go.Proofs.Ytkfpnilbjjkhgaa
