/-
  REGIONS THAT DRAW THEIR ORDER: head operations under a guard.
-/
import Derived.Test.YtkcmacglomdfcaaMov
namespace Go.Proofs.Ytkcmacglomdfcaa

section
variable {P : Program} {ops : Array Oper} {S : World → Prop} {Mv : World → World → Prop}
theorem wpMH_pureW {T : Act → World → Prop} {o : Oper} {rest : List Oper} {a : Act} {w : World} (hr : ∀ w, Mv w w) (hg : Region.wanted o (yielded ops a.tmps) = true) (v : Value) (hv : ∀ w, S w → (execOp a.eval o).run P w = .ok (.value v) w) (h : wpMH P ops S Mv T rest (a.put o.dst v) w) : wpMH P ops S Mv T (o :: rest) a w :=
  ⟨v, .inl ⟨hg, fun w hS => by rw [hv w hS]; exact ⟨rfl, hS, hr w⟩⟩, h⟩
theorem wpMH_skip {T : Act → World → Prop} {o : Oper} {rest : List Oper} {a : Act} {w : World} (hg : Region.wanted o (yielded ops a.tmps) = false) (h : wpMH P ops S Mv T rest (a.put o.dst undef) w) : wpMH P ops S Mv T (o :: rest) a w :=
  ⟨undef, .inr ⟨hg, rfl⟩, h⟩
theorem wpMH_moveW {T : Act → World → Prop} {o : Oper} {rest : List Oper} {a : Act} {w : World} (hr : ∀ w, Mv w w) (hg : Region.wanted o (yielded ops a.tmps) = true) (x : Operand) (ho : o.op = .move x) (v : Value) (hv : a.eval x = v) (h : wpMH P ops S Mv T rest (a.put o.dst v) w) : wpMH P ops S Mv T (o :: rest) a w :=
  wpMH_pureW hr hg v (fun w _ => by simp [execOp, ho, hv]) h
theorem wpMH_loadW {T : Act → World → Prop} {o : Oper} {rest : List Oper} {a : Act} {w : World} (hr : ∀ w, Mv w w) (hg : Region.wanted o (yielded ops a.tmps) = true) (ty : TypeId) (x : Operand) (ho : o.op = .load ty x)
    (b f : Nat) (hx : a.eval x = .pointer (some ⟨b, f, none⟩)) (cs : List Value) (d : TypeDesc) (hS : ∀ w, S w → w.rangeAt b f cs) (hu : P.underlying ty = some d) (hd : d.isRow = true) (hi : (P.info? ty).map (·.size) = some cs.length)
    (h : wpMH P ops S Mv T rest (a.put o.dst (.agg cs.toArray)) w) : wpMH P ops S Mv T (o :: rest) a w :=
  wpMH_pureW hr hg _ (fun w hw => by
    unfold execOp
    simp only [ho, hx, Instr.loadAt, Instr.sureAddr, Sem.run_bind, Sem.run_pure, Result.andThen_ok, run_loadVar_mid w b f ty cs d (hS w hw) hu hd hi]) h
theorem wpMH_callW {T : Act → World → Prop} {o : Oper} {rest : List Oper} {a : Act} {w : World} (hg : Region.wanted o (yielded ops a.tmps) = true) (f : FuncId) (as : Array Operand) (ts : Array TypeId) (ho : o.op = .call { callee := .value (.func f), args := as, argTypes := ts })
    (eg : ∀ args w, (callFunc f args).run P w = .ok (.enter f args) w) (vs : List Value) (hvs : as.toList.map a.eval = vs) (v : Value) (hc : ∀ w, S w → Calls P f vs.toArray w fun e w' => e = .returned v ∧ S w' ∧ Mv w w')
    (h : wpMH P ops S Mv T rest (a.put o.dst v) w) : wpMH P ops S Mv T (o :: rest) a w := by
  refine ⟨v, .inl ⟨hg, fun w hS => ?_⟩, h⟩
  have hvs' : as.map a.eval = vs.toArray := Array.toList_inj.1 (by rw [Array.toList_map]; exact hvs)
  have : (execOp a.eval o).run P w = .ok (.enter f vs.toArray) w := by
    unfold execOp
    simp [ho, resolve, invoke, go_sem, eg, ← hvs', Act.eval]
  rw [this]
  exact hc w hS
end
end Go.Proofs.Ytkcmacglomdfcaa
