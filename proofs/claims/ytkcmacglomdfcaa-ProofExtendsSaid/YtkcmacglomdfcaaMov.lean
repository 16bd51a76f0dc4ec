/-
  REGIONS THAT DRAW THEIR ORDER, over any program: head operations that yield one value in every world of a class and move the world by a relation; behind them a tail in one forced order, each step of which bears such moves ahead of it (so an operation of the head may come up late).
-/
import Derived.StillTail
import Derived.OrdersHeld
import Derived.Deep.MidRow
import Derived.WalkKit
namespace Go.Proofs.Ytkcmacglomdfcaa

section
variable {P : Program} {ops : Array Oper} {md : Region.Mode} {S : World → Prop} {Mv : World → World → Prop} {Q : Exit → Act → World → Prop}

def movUpon (P : Program) (S : World → Prop) (Mv : World → World → Prop) (w : World) (v : Value) : Result Next → Prop
  | .ok (.value u) w' => u = v ∧ S w' ∧ Mv w w'
  | .ok .skip w' => v = undef ∧ S w' ∧ Mv w w'
  | .ok (.enter f args) w' => Calls P f args w' (fun e w'' => e = .returned v ∧ S w'' ∧ Mv w w'')
  | _ => False
def YieldsM (P : Program) (ops : Array Oper) (S : World → Prop) (Mv : World → World → Prop) (o : Oper) (v : Value) (a : Act) : Prop :=
  (Region.wanted o (yielded ops a.tmps) = true ∧ ∀ w, S w → movUpon P S Mv w v ((execOp a.eval o).run P w)) ∨ (Region.wanted o (yielded ops a.tmps) = false ∧ v = undef)
theorem YieldsM.of_same {o : Oper} {v : Value} {a a' : Act} (hy : YieldsM P ops S Mv o v a) (he : execOp a'.eval o = execOp a.eval o) (hw : Region.wanted o (yielded ops a'.tmps) = Region.wanted o (yielded ops a.tmps)) : YieldsM P ops S Mv o v a' := by
  unfold YieldsM at *
  rw [he, hw]
  exact hy
theorem YieldsM.wpOp {i : Nat} {o : Oper} {v : Value} {a : Act} (hi : ops[i]? = some o) (hy : YieldsM P ops S Mv o v a) {K : Act → World → Prop} {w : World} (hS : S w) (hr : Mv w w) (h : ∀ w', S w' → Mv w w' → K (a.put o.dst v) w') : wpOp P ops Q i K a w := by
  unfold Go.wpOp
  simp only [hi]
  rcases hy with ⟨hw, hv⟩ | ⟨hw, rfl⟩
  · simp only [hw, if_true]
    refine .inl ?_
    have h3 := hv w hS
    unfold Oper.wp
    generalize (execOp a.eval o).run P w = r at *
    cases r with
    | ok n w' =>
      cases n <;> simp only [movUpon] at h3 <;> simp only [Oper.upon]
      case value u =>
        obtain ⟨e1, e2, e3⟩ := h3
        rw [e1]
        exact h _ e2 e3
      case skip =>
        obtain ⟨e1, e2, e3⟩ := h3
        rw [← e1]
        exact h _ e2 e3
      case enter f args => exact h3.mono fun e w'' ⟨he, h1, h2⟩ => by subst he; exact h _ h1 h2
    | halt x w' => simp only [movUpon] at h3
  · simp only [hw, Bool.false_eq_true, if_false]
    exact h _ hS hr
theorem wpOp_putM {j : Nat} {oi oj : Oper} {v : Value} (hj : ops[j]? = some oj) (hap : oi.apart ops oj = true) (hsi : ∀ cs b, oi.op ≠ .select cs b) (hsj : ∀ cs b, oj.op ≠ .select cs b)
    (hQ : ∀ c a w, Q (.panic c) (a.put oi.dst v) w → Q (.panic c) a w) {K : Act → World → Prop} {a : Act} {w : World} (hy : YieldsM P ops S Mv oi v a) (h : wpOp P ops Q j K (a.put oi.dst v) w) :
    wpOp P ops Q j (fun a' w' => YieldsM P ops S Mv oi v a' ∧ K (a'.put oi.dst v) w') a w := by
  obtain ⟨h1, h2, h3⟩ := Oper.apart_spec hap
  have keep : ∀ (a : Act), YieldsM P ops S Mv oi v a → ∀ u, YieldsM P ops S Mv oi v (a.put oj.dst u) := fun a hy u => hy.of_same (execOp_put oi hsi a oj.dst u h3) (wanted_put oi a oj.dst u h3)
  unfold wpOp at *
  simp only [hj] at *
  rw [wanted_put oj a oi.dst v h1] at h
  split
  · rename_i hw
    simp only [hw, if_true] at h
    rcases h with h | ⟨hasks, hlets⟩
    case inr => exact .inr ⟨by unfold Oper.asks at *; rw [execOp_put oj hsj a oi.dst v h1] at hasks; exact hasks, hlets⟩
    refine .inl ?_
    unfold Oper.wp at *
    rw [execOp_put oj hsj a oi.dst v h1] at h
    generalize (execOp a.eval oj).run P w = r at *
    cases r with
    | ok n w' =>
      cases n <;> simp only [Oper.upon] at h ⊢
      case value u => exact ⟨keep a hy u, by rw [← Act.put_comm a v u h2]; exact h⟩
      case skip => exact ⟨keep a hy _, by rw [← Act.put_comm a v undef h2]; exact h⟩
      case defer d =>
        refine ⟨keep { a with defers := d :: a.defers } (hy.of_same rfl rfl) _, ?_⟩
        rw [← Act.put_comm _ v undef h2, ← Act.put_defers]
        exact h
      case enter f args =>
        refine Calls.mono h fun e w'' he => ?_
        cases e with
        | returned u => exact ⟨keep a hy u, by rw [← Act.put_comm a v u h2]; exact he⟩
        | panicked c => exact hQ _ _ _ he
        | outgrown => exact he
      case row row args => exact Rows.mono h fun u w'' he => ⟨keep a hy u, by rw [← Act.put_comm a v u h2]; exact he⟩
    | halt x w' =>
      cases x <;> simp only [Oper.upon] at h ⊢
      case panic u => exact hQ _ _ _ h
  · rename_i hw
    simp only [hw] at h
    exact ⟨keep a hy _, by rw [← Act.put_comm a v undef h2]; exact h⟩

/-- Whatever order is picked from here on, whatever moves come ahead. -/
def wpAnyM (P : Program) (md : Region.Mode) (ops : Array Oper) (Q : Exit → Act → World → Prop) (S : World → Prop) (Mv : World → World → Prop) : Nat → Array Bool → Act → World → Prop
  | 0, listed, a, w => Region.ready md ops listed = [] ∧ ∀ w', S w' → Mv w w' → Q .normal a w'
  | fuel + 1, listed, a, w => ∀ w', S w' → Mv w w' → (Region.ready md ops listed = [] → Q .normal a w') ∧
    ∀ i ∈ Region.ready md ops listed, wpOp P ops Q i (fun a' w'' => S w'' ∧ wpAnyM P md ops Q S Mv fuel (listed.setIfInBounds i true) a' w'') a w'
theorem wpAny_of_M (hr : ∀ w, Mv w w) : ∀ (fuel : Nat) (listed : Array Bool) (a : Act) (w : World), S w → wpAnyM P md ops Q S Mv fuel listed a w → wpAny P md ops Q fuel listed a w
  | 0, _, _, w, hS, h => ⟨h.1, h.2 w hS (hr w)⟩
  | fuel + 1, _, _, w, hS, h => ⟨(h w hS (hr w)).1, fun i hi => wpOp_mono (fun a' w' h' => wpAny_of_M hr fuel _ a' w' h'.1 h'.2) ((h w hS (hr w)).2 i hi)⟩
theorem wpAnyM_move (ht : ∀ {A B C : World}, Mv A B → Mv B C → Mv A C) : ∀ {fuel : Nat} {listed : Array Bool} {a : Act} {w w' : World}, wpAnyM P md ops Q S Mv fuel listed a w → Mv w w' → wpAnyM P md ops Q S Mv fuel listed a w'
  | 0, _, _, _, _, h, hm => ⟨h.1, fun w'' hS h2 => h.2 w'' hS (ht hm h2)⟩
  | _ + 1, _, _, _, _, h, hm => fun w'' hS h2 => h w'' hS (ht hm h2)
theorem wpAnyM_first (hr : ∀ w, Mv w w) (ht : ∀ {A B C : World}, Mv A B → Mv B C → Mv A C) {i : Nat} {oi : Oper} {v : Value} (hi : ops[i]? = some oi) (hsel : ∀ (j : Nat) (o : Oper) cs b, ops[j]? = some o → o.op ≠ .select cs b)
    (hQ : ∀ c a w, Q (.panic c) (a.put oi.dst v) w → Q (.panic c) a w) :
    ∀ (fuel : Nat) (listed : Array Bool) (a : Act) (w : World),
      (∀ j oj, ops[j]? = some oj → j ≠ i → listed.getD j true = false → (∀ e ∈ oj.after, Region.binds md e = true → e.on ≠ i) → oi.apart ops oj = true) →
      i ∈ Region.ready md ops listed → YieldsM P ops S Mv oi v a →
      wpAnyM P md ops Q S Mv fuel (listed.setIfInBounds i true) (a.put oi.dst v) w → wpAnyM P md ops Q S Mv (fuel + 1) listed a w := by
  intro fuel
  induction fuel with
  | zero =>
    intro listed a w _ hrd hy H w' hS' hM'
    refine ⟨fun h => (by rw [h] at hrd; cases hrd), fun j hj => ?_⟩
    by_cases hji : j = i
    · subst hji
      exact hy.wpOp hi hS' (hr _) fun w2 h2 h3 => ⟨h2, by have h5 : Mv w w2 := ht hM' h3; refine wpAnyM_move @ht (w := w) ?_ h5; exact H⟩
    · have := ready_mono hj hji
      rw [H.1] at this
      cases this
  | succ fuel ih =>
    intro listed a w hfree hrd hy H w' hS' hM'
    refine ⟨fun h => (by rw [h] at hrd; cases hrd), fun j hj => ?_⟩
    by_cases hji : j = i
    · subst hji
      exact hy.wpOp hi hS' (hr _) fun w2 h2 h3 => ⟨h2, by have h5 : Mv w w2 := ht hM' h3; refine wpAnyM_move @ht (w := w) ?_ h5; exact H⟩
    · have h1 := (H w' hS' hM').2 j (ready_mono hj hji)
      obtain ⟨hjun, oj, hoj, hall⟩ := mem_ready.1 hj
      have hnot : ∀ e ∈ oj.after, Region.binds md e = true → e.on ≠ i := fun e he hb heq => by
        have h1 := hall e he hb
        have h0 := (mem_ready.1 hrd).1
        rw [heq] at h1
        rcases Nat.lt_or_ge i listed.size with h' | h'
        · simp [h'] at h0 h1; rw [h0] at h1; cases h1
        · simp [Array.getElem?_eq_none h'] at h1
      have h2 := wpOp_putM hoj (hfree j oj hoj hji hjun hnot) (fun cs b => hsel i oi cs b hi) (fun cs b => hsel j oj cs b hoj) hQ hy h1
      have hfree' : ∀ k ok, ops[k]? = some ok → k ≠ i → (listed.setIfInBounds j true).getD k true = false →
          (∀ e ∈ ok.after, Region.binds md e = true → e.on ≠ i) → oi.apart ops ok = true := fun k ok hk hki hun hno => by
        refine hfree k ok hk hki ?_ hno
        by_cases hjk : j = k
        · subst hjk; exact hjun
        · rw [getD_set_ne true hjk] at hun; exact hun
      refine wpOp_mono (fun a' w2 h3 => ⟨h3.2.1, ih (listed.setIfInBounds j true) a' w2 hfree' (ready_mono hrd (Ne.symm hji)) h3.1 ?_⟩) h2
      rw [Array.setIfInBounds_comm _ _ hji]
      exact h3.2.2

/-- The tail, one operation behind the other; ahead of each: whatever moves. -/
def wpMT (P : Program) (ops : Array Oper) (S : World → Prop) (Mv : World → World → Prop) (Q : Exit → Act → World → Prop) : List Oper → Act → World → Prop
  | [], a, w => ∀ w', S w' → Mv w w' → Q .normal a w'
  | o :: rest, a, w => ∀ w', S w' → Mv w w' → wpList P ops (fun e a' w'' => match e with | .normal => S w'' ∧ wpMT P ops S Mv Q rest a' w'' | e => Q e a' w'') [o] a w'
/-- The head. -/
def wpMH (P : Program) (ops : Array Oper) (S : World → Prop) (Mv : World → World → Prop) (T : Act → World → Prop) : List Oper → Act → World → Prop
  | [], a, w => T a w
  | o :: rest, a, w => ∃ v, YieldsM P ops S Mv o v a ∧ wpMH P ops S Mv T rest (a.put o.dst v) w
theorem wpMT_nil {a : Act} {w : World} (h : ∀ w', S w' → Mv w w' → Q .normal a w') : wpMT P ops S Mv Q [] a w := h
theorem wpMT_cons {o : Oper} {rest : List Oper} {a : Act} {w : World} (h : ∀ w', S w' → Mv w w' → wpList P ops (fun e a' w'' => match e with | .normal => S w'' ∧ wpMT P ops S Mv Q rest a' w'' | e => Q e a' w'') [o] a w') : wpMT P ops S Mv Q (o :: rest) a w := h
theorem wpAnyM_of_T : ∀ (l : List Oper) (k : Nat) (listed : Array Bool) (a : Act) (w : World), (∀ j, l[j]? = ops[k + j]?) → Region.seqB md ops l.length k listed = true → wpMT P ops S Mv Q l a w → wpAnyM P md ops Q S Mv l.length listed a w
  | [], _, _, _, _, _, hB, h => ⟨by simpa [Region.seqB] using hB, h⟩
  | o :: l, k, listed, a, w, hl, hB, h => fun w' hS' hM' => by
    have h0 : ops[k]? = some o := by simpa using (hl 0).symm
    simp only [List.length_cons, Region.seqB, Bool.and_eq_true, decide_eq_true_eq] at hB
    refine ⟨fun h1 => (by rw [hB.1] at h1; cases h1), fun i hi => ?_⟩
    rw [hB.1] at hi
    have hik : i = k := by simpa using hi
    subst hik
    have h1 := h w' hS' hM'
    have hw : wpOp P ops Q i (fun a' w'' => S w'' ∧ wpMT P ops S Mv Q l a' w'') a w' := by
      unfold wpOp
      simp only [h0]
      unfold wpList at h1
      split
      · rename_i hwt
        simp only [hwt, if_true] at h1
        rcases h1 with h1 | h1
        · refine .inl ?_
          unfold Oper.wp at h1 ⊢
          generalize (execOp a.eval o).run P w' = r at h1 ⊢
          cases r with
          | ok n w2 => cases n <;> exact h1
          | halt x w2 => cases x <;> exact h1
        · exact .inr h1
      · rename_i hwt
        simp only [hwt] at h1
        exact h1
    exact wpOp_mono (fun a' w2 h' => ⟨h'.1, wpAnyM_of_T l (i + 1) _ a' w2 (fun j => by have := hl (j + 1); simpa [Nat.add_assoc, Nat.add_comm 1 j] using this) hB.2 h'.2⟩) hw
theorem wpAnyM_of_H (hr : ∀ w, Mv w w) (ht : ∀ {A B C : World}, Mv A B → Mv B C → Mv A C) (hsel : Region.noSelect ops = true) (hQ : ∀ c (a : Act) d v w, Q (.panic c) (a.put d v) w → Q (.panic c) a w) (tl : List Oper) :
    ∀ (l : List Oper) (k : Nat) (listed : Array Bool) (a : Act) (w : World), (∀ j, (l ++ tl)[j]? = ops[k + j]?) → Region.lexHead md ops tl.length l.length k listed = true → wpMH P ops S Mv (wpMT P ops S Mv Q tl) l a w → wpAnyM P md ops Q S Mv (l.length + tl.length) listed a w
  | [], k, listed, a, w, hl, hB, h => by
    rw [List.length_nil, Nat.zero_add]
    exact wpAnyM_of_T tl k listed a w (by simpa using hl) (by simpa [Region.lexHead] using hB) h
  | o :: l, k, listed, a, w, hl, hB, h => by
    have h0 : ops[k]? = some o := by simpa using (hl 0).symm
    simp only [List.length_cons, Region.lexHead, Bool.and_eq_true] at hB
    obtain ⟨⟨hrd, hf⟩, hB'⟩ := hB
    obtain ⟨v, hy, hK⟩ := h
    rw [List.length_cons, show l.length + 1 + tl.length = l.length + tl.length + 1 by omega]
    exact wpAnyM_first hr ht h0 (Region.noSelect_spec hsel) (fun c a w h => hQ c a _ _ w h) _ listed a w (Region.free_spec h0 hf) (by simpa using hrd) hy
      (wpAnyM_of_H hr ht hsel hQ tl l (k + 1) _ _ w (fun j => by have := hl (j + 1); simpa [Nat.add_assoc, Nat.add_comm 1 j] using this) hB' hK)
def movB (l : List Oper) (n : Nat) : Bool := Region.noSelect l.toArray && decide (n ≤ l.length) && Region.lexHead .any l.toArray (l.length - n) n 0 (Array.replicate l.length false)
/-- **THE LAW.** -/
theorem wp_region_moves {id : Nat} {a : Act} {w : World} {l : List Oper} (n : Nat) (S : World → Prop) (Mv : World → World → Prop) (hr : ∀ w, Mv w w) (ht : ∀ {A B C : World}, Mv A B → Mv B C → Mv A C) (hm : P.follows .mixedOrders = true) (hB : movB l n = true) (hS : S w.drew)
    (hQ : ∀ c (a : Act) d v w, Q (.panic c) (a.put d v) w → Q (.panic c) a w)
    (h : wpMH P l.toArray S Mv (wpMT P l.toArray S Mv Q (l.drop n)) (l.take n) a w.drew) : (Code.region id l.toArray true).wp P Q a w := by
  simp only [movB, Bool.and_eq_true, decide_eq_true_eq] at hB
  obtain ⟨⟨hsel, hn⟩, hlex⟩ := hB
  refine wp_region_any hm ?_
  have htl : (l.take n).length = n := by simp; omega
  have hdl : (l.drop n).length = l.length - n := List.length_drop
  have := wpAnyM_of_H (md := .any) hr ht hsel hQ (l.drop n) (l.take n) 0 (Array.replicate l.length false) a w.drew (by simp) (by rw [htl, hdl]; exact hlex) h
  rw [htl, hdl, show n + (l.length - n) = l.length by omega] at this
  have h2 := wpAny_of_M hr _ _ _ _ hS this
  simpa using h2

/-! ### Steps of the head -/
theorem wpMH_nil {T : Act → World → Prop} {a : Act} {w : World} (h : T a w) : wpMH P ops S Mv T [] a w := h
theorem wpMH_pure {T : Act → World → Prop} {o : Oper} {rest : List Oper} {a : Act} {w : World} (hr : ∀ w, Mv w w) (hg : o.guard = none) (v : Value) (hv : ∀ w, S w → (execOp a.eval o).run P w = .ok (.value v) w) (h : wpMH P ops S Mv T rest (a.put o.dst v) w) : wpMH P ops S Mv T (o :: rest) a w :=
  ⟨v, .inl ⟨by simp [Region.wanted, hg], fun w hS => by rw [hv w hS]; exact ⟨rfl, hS, hr w⟩⟩, h⟩
theorem wpMH_move {T : Act → World → Prop} {o : Oper} {rest : List Oper} {a : Act} {w : World} (hr : ∀ w, Mv w w) (hg : o.guard = none) (x : Operand) (ho : o.op = .move x) (v : Value) (hv : a.eval x = v) (h : wpMH P ops S Mv T rest (a.put o.dst v) w) : wpMH P ops S Mv T (o :: rest) a w :=
  wpMH_pure hr hg v (fun w _ => by simp [execOp, ho, hv]) h
theorem wpMH_load {T : Act → World → Prop} {o : Oper} {rest : List Oper} {a : Act} {w : World} (hr : ∀ w, Mv w w) (hg : o.guard = none) (ty : TypeId) (x : Operand) (ho : o.op = .load ty x)
    (b f : Nat) (hx : a.eval x = .pointer (some ⟨b, f, none⟩)) (cs : List Value) (d : TypeDesc) (hS : ∀ w, S w → w.rangeAt b f cs) (hu : P.underlying ty = some d) (hd : d.isRow = true) (hi : (P.info? ty).map (·.size) = some cs.length)
    (h : wpMH P ops S Mv T rest (a.put o.dst (.agg cs.toArray)) w) : wpMH P ops S Mv T (o :: rest) a w :=
  wpMH_pure hr hg _ (fun w hw => by
    unfold execOp
    simp only [ho, hx, Instr.loadAt, Instr.sureAddr, Sem.run_bind, Sem.run_pure, Result.andThen_ok, run_loadVar_mid w b f ty cs d (hS w hw) hu hd hi]) h
theorem wpMH_call {T : Act → World → Prop} {o : Oper} {rest : List Oper} {a : Act} {w : World} (hg : o.guard = none) (f : FuncId) (as : Array Operand) (ts : Array TypeId) (ho : o.op = .call { callee := .value (.func f), args := as, argTypes := ts })
    (eg : ∀ args w, (callFunc f args).run P w = .ok (.enter f args) w) (vs : List Value) (hvs : as.toList.map a.eval = vs) (v : Value) (hc : ∀ w, S w → Calls P f vs.toArray w fun e w' => e = .returned v ∧ S w' ∧ Mv w w')
    (h : wpMH P ops S Mv T rest (a.put o.dst v) w) : wpMH P ops S Mv T (o :: rest) a w := by
  refine ⟨v, .inl ⟨by simp [Region.wanted, hg], fun w hS => ?_⟩, h⟩
  have hvs' : as.map a.eval = vs.toArray := Array.toList_inj.1 (by rw [Array.toList_map]; exact hvs)
  have : (execOp a.eval o).run P w = .ok (.enter f vs.toArray) w := by
    unfold execOp
    simp [ho, resolve, invoke, go_sem, eg, ← hvs', Act.eval]
  rw [this]
  exact hc w hS
end
end Go.Proofs.Ytkcmacglomdfcaa
