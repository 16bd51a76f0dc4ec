/-
  GENERIC: steps of a region that only reads, by hand: an operation of one value in every world of the class; a row's cells read; a guard that says no; a call.
-/
import Derived.Test.YtkfpnilbjjkhgaaRnB
import Derived.RangeFuncCalls
import Derived.OwnWalkIn
import Derived.OrdersIn
namespace Go.Proofs.Ytkfpnilbjjkhgaa
open Go.RowKit

theorem wpQ_val {P : Program} {C : World → Prop} {ops : Array Oper} {rest : List Oper} {op : Oper} {a : Act} {Q : Act → Prop} (hw : Region.wanted op (yielded ops a.tmps) = true) (v : Value)
    (hv : ∀ u, C u → (execOp a.eval op).run P u = .ok (.value v) u) (h : wpQuiet P ops C Q rest (a.put op.dst v)) : wpQuiet P ops C Q (op :: rest) a := by
  unfold wpQuiet
  rw [if_pos hw]
  refine ⟨v, ?_, h⟩
  intro w hC
  unfold Oper.quietAt
  rw [hv w hC]
  exact ⟨rfl, rfl⟩
theorem wpQ_no {P : Program} {C : World → Prop} {ops : Array Oper} {rest : List Oper} {op : Oper} {a : Act} {Q : Act → Prop} (hw : Region.wanted op (yielded ops a.tmps) = false)
    (h : wpQuiet P ops C Q rest (a.put op.dst undef)) : wpQuiet P ops C Q (op :: rest) a := by
  unfold wpQuiet
  rw [if_neg (by rw [hw]; simp)]
  exact h
theorem wpQ_load {P : Program} {C : World → Prop} {ops : Array Oper} {rest : List Oper} {op : Oper} {a : Act} {Q : Act → Prop} (hw : Region.wanted op (yielded ops a.tmps) = true) (ty : TypeId) (x : Operand) (ho : op.op = .load ty x)
    (b o : Nat) (hx : a.eval x = .pointer (some ⟨b, o, none⟩)) (cs : List Value) (d : TypeDesc) (hc : ∀ u, C u → u.rangeAt b o cs)
    (hu : P.underlying ty = some d) (hd : d.isRow = true) (hi : (P.info? ty).map (·.size) = some cs.length)
    (h : wpQuiet P ops C Q rest (a.put op.dst (.agg cs.toArray))) : wpQuiet P ops C Q (op :: rest) a := by
  refine wpQ_val hw _ (fun u hu' => ?_) h
  unfold execOp
  simp only [ho, hx, Instr.loadAt, Instr.sureAddr, Sem.run_bind, Sem.run_pure, Result.andThen_ok, run_loadVar_mid u b o ty cs d (hc u hu') hu hd hi]
theorem wpQ_call {P : Program} {C : World → Prop} {ops : Array Oper} {rest : List Oper} {op : Oper} {a : Act} {Q : Act → Prop} (hw : Region.wanted op (yielded ops a.tmps) = true) (f : FuncId) (args : Array Value)
    (he : ∀ u, (execOp a.eval op).run P u = .ok (.enter f args) u) (v : Value) (hc : ∀ u, C u → Calls P f args u fun e w' => e = .returned v ∧ C w')
    (h : wpQuiet P ops C Q rest (a.put op.dst v)) : wpQuiet P ops C Q (op :: rest) a := by
  unfold wpQuiet
  rw [if_pos hw]
  refine ⟨v, ?_, h⟩
  intro w hC
  unfold Oper.quietAt
  rw [he w]
  exact ⟨rfl, hc w hC⟩

theorem wpQuiet_monoQ {P : Program} {ops : Array Oper} {C : World → Prop} {Q Q' : Act → Prop} (hQ : ∀ a, Q a → Q' a) : ∀ (l : List Oper) (a : Act), wpQuiet P ops C Q l a → wpQuiet P ops C Q' l a
  | [], a, h => hQ a h
  | o :: l, a, h => by
    unfold wpQuiet at h ⊢
    split
    · rename_i hw
      rw [if_pos hw] at h
      exact Oper.quiet_mono (fun a h => wpQuiet_monoQ hQ l a h) h
    · rename_i hw
      rw [if_neg hw] at h
      exact wpQuiet_monoQ hQ l _ h
/-! ### The class 'nothing that was there has turned' -/
theorem wp_region_quietB {P : Program} {id : Nat} {Q : Exit → Act → World → Prop} {a : Act} {w : World} {l : List Oper} (hm : P.follows .mixedOrders = true) (hB : Region.lexB .any l.toArray = true)
    (h : Nonempty (InC (fun u => Below w.heap.size w u)) → wpQuiet P l.toArray (fun w' => ∃ y : InC (fun u => Below w.heap.size w u), w' = y.w) (fun a' => ∀ w', Below w.heap.size w w' → Q .normal a' w') l a) : (Code.region id l.toArray true).wp P Q a w :=
  wp_region_quiet (C := fun w' => ∃ y : InC (fun u => Below w.heap.size w u), w' = y.w) hm hB ⟨⟨_, below_drewN (Below.refl _ _) 1⟩, rfl⟩
    (wpQuiet_monoQ (fun a' ha w' hw => by obtain ⟨y, rfl⟩ := hw; exact ha _ y.ok) l a (by simpa using h ⟨⟨_, Below.refl _ _⟩⟩))
theorem wpQ_loadB {P : Program} {w : World} {ops : Array Oper} {rest : List Oper} {op : Oper} {a : Act} {Q : Act → Prop} (hw : Region.wanted op (yielded ops a.tmps) = true) (ty : TypeId) (x : Operand) (ho : op.op = .load ty x)
    (b o : Nat) (hx : a.eval x = .pointer (some ⟨b, o, none⟩)) (cs : List Value) (d : TypeDesc) (hc : w.rangeAt b o cs)
    (hu : P.underlying ty = some d) (hd : d.isRow = true) (hi : (P.info? ty).map (·.size) = some cs.length)
    (h : wpQuiet P ops (fun w' => ∃ y : InC (fun u => Below w.heap.size w u), w' = y.w) Q rest (a.put op.dst (.agg cs.toArray))) : wpQuiet P ops (fun w' => ∃ y : InC (fun u => Below w.heap.size w u), w' = y.w) Q (op :: rest) a :=
  wpQ_load hw ty x ho b o hx cs d (by rintro u ⟨y, rfl⟩; exact rangeAt_below' hc y.ok) hu hd hi h
theorem wpQ_callB {P : Program} {w : World} {ops : Array Oper} {rest : List Oper} {op : Oper} {a : Act} {Q : Act → Prop} (hw : Region.wanted op (yielded ops a.tmps) = true) (f : FuncId) (args : Array Value)
    (he : ∀ u, (execOp a.eval op).run P u = .ok (.enter f args) u) (v : Value) (hc : ∀ u, Below w.heap.size w u → Calls P f args u fun e w' => e = .returned v ∧ Below u.heap.size u w')
    (h : wpQuiet P ops (fun w' => ∃ y : InC (fun u => Below w.heap.size w u), w' = y.w) Q rest (a.put op.dst v)) : wpQuiet P ops (fun w' => ∃ y : InC (fun u => Below w.heap.size w u), w' = y.w) Q (op :: rest) a :=
  wpQ_call hw f args he v (by rintro u ⟨y, rfl⟩; exact (hc _ y.ok).mono fun e w' ⟨h1, h2⟩ => ⟨h1, ⟨w', Below.trans y.ok (h2.mono y.ok.size)⟩, rfl⟩) h

/-! ### .. inside a round of a range over a function (at the wide fence) -/
def noDefer (ops : Array Oper) : Bool := ops.all fun o => match o.op with | .defer _ => false | _ => true
section
variable {P : Program} {ops : Array Oper} {md : Region.Mode} {C : World → Prop} {l n : Nat}
theorem noDefer_at (h : noDefer ops = true) {i : Nat} {o : Oper} (ho : ops[i]? = some o) : ∀ c, o.op ≠ .defer c := by
  intro c hc
  unfold noDefer at h
  rw [Array.all_eq_true] at h
  obtain ⟨hi, e⟩ := Array.getElem?_eq_some_iff.1 ho
  have := h i hi
  rw [e, hc] at this
  cases this
theorem wpOpIn_of_qOp_round (hd : noDefer ops = true) {i : Nat} {Q : Exit → Act → World → Prop} {K : Act → Prop} {K' : Act → World → Prop} {a : Act} {w : World} (hw : C w) (hK : ∀ a w, C w → K a → K' a w) (h : qOp P ops C i K a) : wpOpIn (Fence.wide.inRound l) n P ops Q i K' a w := by
  unfold qOp at h
  unfold wpOpIn
  cases ho : ops[i]? with
  | none => rw [ho] at h; exact hK _ _ hw h
  | some o =>
    rw [ho] at h
    simp only at h ⊢
    split
    · rename_i hwt
      rw [if_pos hwt] at h
      obtain ⟨v, h1, h2⟩ := h
      have h3 := h1 w hw
      unfold Oper.wpIn
      refine ⟨fun _ _ => trivial, ?_⟩
      rw [Oper.semAt_plain _ _ _ (noDefer_at hd ho)]
      unfold Oper.quietAt at h3
      generalize (execOp a.eval o).run P w = r at h3 ⊢
      cases r with
      | halt x w' => simp [Oper.quietUpon] at h3
      | ok x w' =>
        cases x with
        | value u =>
          obtain ⟨rfl, rfl⟩ := h3
          exact hK _ _ hw h2
        | skip =>
          obtain ⟨rfl, rfl⟩ := h3
          exact hK _ _ hw h2
        | enter f args =>
          obtain ⟨rfl, h4⟩ := h3
          refine ⟨fun h => by simp [Fence.wide] at h, CallsIn.inRound l (callsIn_wide.2 (h4.mono ?_))⟩
          rintro e w'' ⟨rfl, h5⟩
          exact hK _ _ h5 h2
        | _ => simp [Oper.quietUpon] at h3
    · rename_i hwt
      rw [if_neg hwt] at h
      exact ⟨fun _ _ => trivial, hK _ _ hw h⟩
theorem wpAnyIn_of_quiet_round (hd : noDefer ops = true) {Q : Act → Prop} {Q' : Exit → Act → World → Prop} (hQ : ∀ a w, C w → Q a → Q' .normal a w) : ∀ (fuel : Nat) (listed : Array Bool) (a : Act) (w : World), C w →
    wpAnyQ P md ops C Q fuel listed a → wpAnyIn (Fence.wide.inRound l) n P md ops Q' fuel listed a w
  | 0, _, _, _, hw, h => ⟨h.1, hQ _ _ hw h.2⟩
  | fuel + 1, _, _, _, hw, h => ⟨fun h0 => hQ _ _ hw (h.1 h0), fun i hi => wpOpIn_of_qOp_round hd hw (fun a' w' hw' => wpAnyIn_of_quiet_round hd hQ fuel _ a' w' hw') (h.2 i hi)⟩
theorem wpIn_region_quiet_round {id : Nat} {Q : Exit → Act → World → Prop} {a : Act} {w : World} (hm : P.follows .mixedOrders = true) (hB : Region.lexB .any ops = true) (hd : noDefer ops = true) (hC : C { w with drawn := w.drawn + 1 })
    (h : wpQuiet P ops C (fun a' => ∀ w', C w' → Q .normal a' w') ops.toList a) : (Code.region id ops true).wpIn (Fence.wide.inRound l) n P Q a w := by
  simp only [Region.lexB, Bool.and_eq_true] at hB
  refine wpIn_region_any hm (wpAnyIn_of_quiet_round (Q := fun a' => ∀ w', C w' → Q .normal a' w') hd (fun _ w' hw' h => h w' hw') _ _ _ _ hC ?_)
  have := wpAnyQ_lex (C := C) (md := .any) hB.1 ops.toList 0 (Array.replicate ops.size false) a (by simp) (by simpa using hB.2) h
  simpa using this
theorem wpIn_region_quietB_round {id : Nat} {Q : Exit → Act → World → Prop} {a : Act} {w : World} {L : List Oper} (hm : P.follows .mixedOrders = true) (hB : Region.lexB .any L.toArray = true) (hd : noDefer L.toArray = true)
    (h : Nonempty (InC (fun u => Below w.heap.size w u)) → wpQuiet P L.toArray (fun w' => ∃ y : InC (fun u => Below w.heap.size w u), w' = y.w) (fun a' => ∀ w', Below w.heap.size w w' → Q .normal a' w') L a) : (Code.region id L.toArray true).wpIn (Fence.wide.inRound l) n P Q a w :=
  wpIn_region_quiet_round (C := fun w' => ∃ y : InC (fun u => Below w.heap.size w u), w' = y.w) hm hB hd ⟨⟨_, below_drewN (Below.refl _ _) 1⟩, rfl⟩
    (wpQuiet_monoQ (fun a' ha w' hw => by obtain ⟨y, rfl⟩ := hw; exact ha _ y.ok) L a (by simpa using h ⟨⟨_, Below.refl _ _⟩⟩))
end
end Go.Proofs.Ytkfpnilbjjkhgaa
