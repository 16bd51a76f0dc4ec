/-
  REGIONS THAT DRAW THEIR ORDER, over any program: head operations that yield one value in every world of a class and move the world by a relation; behind them a tail in one forced order, each step of which bears such moves ahead of it (so an operation of the head may come up late).
-/
import Derived.StillTail
import Derived.OrdersHeld
import Derived.Deep.MidRow
import Derived.WalkKit
namespace Go.Proofs.Ytkfpnilbjjkhgaa

section
variable {P : Program} {ops : Array Oper} {md : Region.Mode} {S : World → Prop} {Mv : World → World → Prop} {Q : Exit → Act → World → Prop}

def movUpon (P : Program) (S : World → Prop) (Mv : World → World → Prop) (w : World) (v : Value) : Result Next → Prop
  | .ok (.value u) w' => u = v ∧ S w' ∧ Mv w w'
  | .ok .skip w' => v = undef ∧ S w' ∧ Mv w w'
  | .ok (.enter f args) w' => Calls P f args w' (fun e w'' => e = .returned v ∧ S w'' ∧ Mv w w'')
  | _ => False
def YieldsM (P : Program) (ops : Array Oper) (S : World → Prop) (Mv : World → World → Prop) (o : Oper) (v : Value) (a : Act) : Prop :=
  (Region.wanted o (yielded ops a.tmps) = true ∧ ∀ w, S w → movUpon P S Mv w v ((execOp a.eval o).run P w)) ∨ (Region.wanted o (yielded ops a.tmps) = false ∧ v = undef)
theorem YieldsM.of_same {o : Oper} {v : Value} {a a' : Act} (hy : YieldsM P ops S Mv o v a) (he : execOp a'.eval o = execOp a.eval o) (hw : Region.wanted o (yielded ops a'.tmps) = Region.wanted o (yielded ops a.tmps)) : YieldsM P ops S Mv o v a' := by
  unfold YieldsM at *
  rw [he, hw]
  exact hy
theorem YieldsM.wpOp {i : Nat} {o : Oper} {v : Value} {a : Act} (hi : ops[i]? = some o) (hy : YieldsM P ops S Mv o v a) {K : Act → World → Prop} {w : World} (hS : S w) (hr : Mv w w) (h : ∀ w', S w' → Mv w w' → K (a.put o.dst v) w') : wpOp P ops Q i K a w := by
  unfold Go.wpOp
  simp only [hi]
  rcases hy with ⟨hw, hv⟩ | ⟨hw, rfl⟩
  · simp only [hw, if_true]
    refine .inl ?_
    have h3 := hv w hS
    unfold Oper.wp
    generalize (execOp a.eval o).run P w = r at *
    cases r with
    | ok n w' =>
      cases n <;> simp only [movUpon] at h3 <;> simp only [Oper.upon]
      case value u =>
        obtain ⟨e1, e2, e3⟩ := h3
        rw [e1]
        exact h _ e2 e3
      case skip =>
        obtain ⟨e1, e2, e3⟩ := h3
        rw [← e1]
        exact h _ e2 e3
      case enter f args => exact h3.mono fun e w'' ⟨he, h1, h2⟩ => by subst he; exact h _ h1 h2
    | halt x w' => simp only [movUpon] at h3
  · simp only [hw, Bool.false_eq_true, if_false]
    exact h _ hS hr
theorem wpOp_putM {j : Nat} {oi oj : Oper} {v : Value} (hj : ops[j]? = some oj) (hap : oi.apart ops oj = true) (hsi : ∀ cs b, oi.op ≠ .select cs b) (hsj : ∀ cs b, oj.op ≠ .select cs b)
    (hQ : ∀ c a w, Q (.panic c) (a.put oi.dst v) w → Q (.panic c) a w) {K : Act → World → Prop} {a : Act} {w : World} (hy : YieldsM P ops S Mv oi v a) (h : wpOp P ops Q j K (a.put oi.dst v) w) :
    wpOp P ops Q j (fun a' w' => YieldsM P ops S Mv oi v a' ∧ K (a'.put oi.dst v) w') a w := by
  obtain ⟨h1, h2, h3⟩ := Oper.apart_spec hap
  have keep : ∀ (a : Act), YieldsM P ops S Mv oi v a → ∀ u, YieldsM P ops S Mv oi v (a.put oj.dst u) := fun a hy u => hy.of_same (execOp_put oi hsi a oj.dst u h3) (wanted_put oi a oj.dst u h3)
  unfold wpOp at *
  simp only [hj] at *
  rw [wanted_put oj a oi.dst v h1] at h
  split
  · rename_i hw
    simp only [hw, if_true] at h
    rcases h with h | ⟨hasks, hlets⟩
    case inr => exact .inr ⟨by unfold Oper.asks at *; rw [execOp_put oj hsj a oi.dst v h1] at hasks; exact hasks, hlets⟩
    refine .inl ?_
    unfold Oper.wp at *
    rw [execOp_put oj hsj a oi.dst v h1] at h
    generalize (execOp a.eval oj).run P w = r at *
    cases r with
    | ok n w' =>
      cases n <;> simp only [Oper.upon] at h ⊢
      case value u => exact ⟨keep a hy u, by rw [← Act.put_comm a v u h2]; exact h⟩
      case skip => exact ⟨keep a hy _, by rw [← Act.put_comm a v undef h2]; exact h⟩
      case defer d =>
        refine ⟨keep { a with defers := d :: a.defers } (hy.of_same rfl rfl) _, ?_⟩
        rw [← Act.put_comm _ v undef h2, ← Act.put_defers]
        exact h
      case enter f args =>
        refine Calls.mono h fun e w'' he => ?_
        cases e with
        | returned u => exact ⟨keep a hy u, by rw [← Act.put_comm a v u h2]; exact he⟩
        | panicked c => exact hQ _ _ _ he
        | outgrown => exact he
      case row row args => exact Rows.mono h fun u w'' he => ⟨keep a hy u, by rw [← Act.put_comm a v u h2]; exact he⟩
    | halt x w' =>
      cases x <;> simp only [Oper.upon] at h ⊢
      case panic u => exact hQ _ _ _ h
  · rename_i hw
    simp only [hw] at h
    exact ⟨keep a hy _, by rw [← Act.put_comm a v undef h2]; exact h⟩

/-- Whatever order is picked from here on, whatever moves come ahead. -/
def wpAnyM (P : Program) (md : Region.Mode) (ops : Array Oper) (Q : Exit → Act → World → Prop) (S : World → Prop) (Mv : World → World → Prop) : Nat → Array Bool → Act → World → Prop
  | 0, listed, a, w => Region.ready md ops listed = [] ∧ ∀ w', S w' → Mv w w' → Q .normal a w'
  | fuel + 1, listed, a, w => ∀ w', S w' → Mv w w' → (Region.ready md ops listed = [] → Q .normal a w') ∧
    ∀ i ∈ Region.ready md ops listed, wpOp P ops Q i (fun a' w'' => S w'' ∧ wpAnyM P md ops Q S Mv fuel (listed.setIfInBounds i true) a' w'') a w'
theorem wpAny_of_M (hr : ∀ w, Mv w w) : ∀ (fuel : Nat) (listed : Array Bool) (a : Act) (w : World), S w → wpAnyM P md ops Q S Mv fuel listed a w → wpAny P md ops Q fuel listed a w
  | 0, _, _, w, hS, h => ⟨h.1, h.2 w hS (hr w)⟩
  | fuel + 1, _, _, w, hS, h => ⟨(h w hS (hr w)).1, fun i hi => wpOp_mono (fun a' w' h' => wpAny_of_M hr fuel _ a' w' h'.1 h'.2) ((h w hS (hr w)).2 i hi)⟩
theorem wpAnyM_move (ht : ∀ {A B C : World}, Mv A B → Mv B C → Mv A C) : ∀ {fuel : Nat} {listed : Array Bool} {a : Act} {w w' : World}, wpAnyM P md ops Q S Mv fuel listed a w → Mv w w' → wpAnyM P md ops Q S Mv fuel listed a w'
  | 0, _, _, _, _, h, hm => ⟨h.1, fun w'' hS h2 => h.2 w'' hS (ht hm h2)⟩
  | _ + 1, _, _, _, _, h, hm => fun w'' hS h2 => h w'' hS (ht hm h2)
theorem wpAnyM_first (hr : ∀ w, Mv w w) (ht : ∀ {A B C : World}, Mv A B → Mv B C → Mv A C) {i : Nat} {oi : Oper} {v : Value} (hi : ops[i]? = some oi) (hsel : ∀ (j : Nat) (o : Oper) cs b, ops[j]? = some o → o.op ≠ .select cs b)
    (hQ : ∀ c a w, Q (.panic c) (a.put oi.dst v) w → Q (.panic c) a w) :
    ∀ (fuel : Nat) (listed : Array Bool) (a : Act) (w : World),
      (∀ j oj, ops[j]? = some oj → j ≠ i → listed.getD j true = false → (∀ e ∈ oj.after, Region.binds md e = true → e.on ≠ i) → oi.apart ops oj = true) →
      i ∈ Region.ready md ops listed → YieldsM P ops S Mv oi v a →
      wpAnyM P md ops Q S Mv fuel (listed.setIfInBounds i true) (a.put oi.dst v) w → wpAnyM P md ops Q S Mv (fuel + 1) listed a w := by
  intro fuel
  induction fuel with
  | zero =>
    intro listed a w _ hrd hy H w' hS' hM'
    refine ⟨fun h => (by rw [h] at hrd; cases hrd), fun j hj => ?_⟩
    by_cases hji : j = i
    · subst hji
      exact hy.wpOp hi hS' (hr _) fun w2 h2 h3 => ⟨h2, by have h5 : Mv w w2 := ht hM' h3; refine wpAnyM_move @ht (w := w) ?_ h5; exact H⟩
    · have := ready_mono hj hji
      rw [H.1] at this
      cases this
  | succ fuel ih =>
    intro listed a w hfree hrd hy H w' hS' hM'
    refine ⟨fun h => (by rw [h] at hrd; cases hrd), fun j hj => ?_⟩
    by_cases hji : j = i
    · subst hji
      exact hy.wpOp hi hS' (hr _) fun w2 h2 h3 => ⟨h2, by have h5 : Mv w w2 := ht hM' h3; refine wpAnyM_move @ht (w := w) ?_ h5; exact H⟩
    · have h1 := (H w' hS' hM').2 j (ready_mono hj hji)
      obtain ⟨hjun, oj, hoj, hall⟩ := mem_ready.1 hj
      have hnot : ∀ e ∈ oj.after, Region.binds md e = true → e.on ≠ i := fun e he hb heq => by
        have h1 := hall e he hb
        have h0 := (mem_ready.1 hrd).1
        rw [heq] at h1
        rcases Nat.lt_or_ge i listed.size with h' | h'
        · simp [h'] at h0 h1; rw [h0] at h1; cases h1
        · simp [Array.getElem?_eq_none h'] at h1
      have h2 := wpOp_putM hoj (hfree j oj hoj hji hjun hnot) (fun cs b => hsel i oi cs b hi) (fun cs b => hsel j oj cs b hoj) hQ hy h1
      have hfree' : ∀ k ok, ops[k]? = some ok → k ≠ i → (listed.setIfInBounds j true).getD k true = false →
          (∀ e ∈ ok.after, Region.binds md e = true → e.on ≠ i) → oi.apart ops ok = true := fun k ok hk hki hun hno => by
        refine hfree k ok hk hki ?_ hno
        by_cases hjk : j = k
        · subst hjk; exact hjun
        · rw [getD_set_ne true hjk] at hun; exact hun
      refine wpOp_mono (fun a' w2 h3 => ⟨h3.2.1, ih (listed.setIfInBounds j true) a' w2 hfree' (ready_mono hrd (Ne.symm hji)) h3.1 ?_⟩) h2
      rw [Array.setIfInBounds_comm _ _ hji]
      exact h3.2.2

/-- The tail, one operation behind the other; ahead of each: whatever moves. -/
def wpMT (P : Program) (ops : Array Oper) (S : World → Prop) (Mv : World → World → Prop) (Q : Exit → Act → World → Prop) : List Oper → Act → World → Prop
  | [], a, w => ∀ w', S w' → Mv w w' → Q .normal a w'
  | o :: rest, a, w => ∀ w', S w' → Mv w w' → wpList P ops (fun e a' w'' => match e with | .normal => S w'' ∧ wpMT P ops S Mv Q rest a' w'' | e => Q e a' w'') [o] a w'
/-- The head. -/
def wpMH (P : Program) (ops : Array Oper) (S : World → Prop) (Mv : World → World → Prop) (T : Act → World → Prop) : List Oper → Act → World → Prop
  | [], a, w => T a w
  | o :: rest, a, w => ∃ v, YieldsM P ops S Mv o v a ∧ wpMH P ops S Mv T rest (a.put o.dst v) w
theorem wpMT_nil {a : Act} {w : World} (h : ∀ w', S w' → Mv w w' → Q .normal a w') : wpMT P ops S Mv Q [] a w := h
theorem wpMT_cons {o : Oper} {rest : List Oper} {a : Act} {w : World} (h : ∀ w', S w' → Mv w w' → wpList P ops (fun e a' w'' => match e with | .normal => S w'' ∧ wpMT P ops S Mv Q rest a' w'' | e => Q e a' w'') [o] a w') : wpMT P ops S Mv Q (o :: rest) a w := h
theorem wpAnyM_of_T : ∀ (l : List Oper) (k : Nat) (listed : Array Bool) (a : Act) (w : World), (∀ j, l[j]? = ops[k + j]?) → Region.seqB md ops l.length k listed = true → wpMT P ops S Mv Q l a w → wpAnyM P md ops Q S Mv l.length listed a w
  | [], _, _, _, _, _, hB, h => ⟨by simpa [Region.seqB] using hB, h⟩
  | o :: l, k, listed, a, w, hl, hB, h => fun w' hS' hM' => by
    have h0 : ops[k]? = some o := by simpa using (hl 0).symm
    simp only [List.length_cons, Region.seqB, Bool.and_eq_true, decide_eq_true_eq] at hB
    refine ⟨fun h1 => (by rw [hB.1] at h1; cases h1), fun i hi => ?_⟩
    rw [hB.1] at hi
    have hik : i = k := by simpa using hi
    subst hik
    have h1 := h w' hS' hM'
    have hw : wpOp P ops Q i (fun a' w'' => S w'' ∧ wpMT P ops S Mv Q l a' w'') a w' := by
      unfold wpOp
      simp only [h0]
      unfold wpList at h1
      split
      · rename_i hwt
        simp only [hwt, if_true] at h1
        rcases h1 with h1 | h1
        · refine .inl ?_
          unfold Oper.wp at h1 ⊢
          generalize (execOp a.eval o).run P w' = r at h1 ⊢
          cases r with
          | ok n w2 => cases n <;> exact h1
          | halt x w2 => cases x <;> exact h1
        · exact .inr h1
      · rename_i hwt
        simp only [hwt] at h1
        exact h1
    exact wpOp_mono (fun a' w2 h' => ⟨h'.1, wpAnyM_of_T l (i + 1) _ a' w2 (fun j => by have := hl (j + 1); simpa [Nat.add_assoc, Nat.add_comm 1 j] using this) hB.2 h'.2⟩) hw
theorem wpAnyM_of_H (hr : ∀ w, Mv w w) (ht : ∀ {A B C : World}, Mv A B → Mv B C → Mv A C) (hsel : Region.noSelect ops = true) (hQ : ∀ c (a : Act) d v w, Q (.panic c) (a.put d v) w → Q (.panic c) a w) (tl : List Oper) :
    ∀ (l : List Oper) (k : Nat) (listed : Array Bool) (a : Act) (w : World), (∀ j, (l ++ tl)[j]? = ops[k + j]?) → Region.lexHead md ops tl.length l.length k listed = true → wpMH P ops S Mv (wpMT P ops S Mv Q tl) l a w → wpAnyM P md ops Q S Mv (l.length + tl.length) listed a w
  | [], k, listed, a, w, hl, hB, h => by
    rw [List.length_nil, Nat.zero_add]
    exact wpAnyM_of_T tl k listed a w (by simpa using hl) (by simpa [Region.lexHead] using hB) h
  | o :: l, k, listed, a, w, hl, hB, h => by
    have h0 : ops[k]? = some o := by simpa using (hl 0).symm
    simp only [List.length_cons, Region.lexHead, Bool.and_eq_true] at hB
    obtain ⟨⟨hrd, hf⟩, hB'⟩ := hB
    obtain ⟨v, hy, hK⟩ := h
    rw [List.length_cons, show l.length + 1 + tl.length = l.length + tl.length + 1 by omega]
    exact wpAnyM_first hr ht h0 (Region.noSelect_spec hsel) (fun c a w h => hQ c a _ _ w h) _ listed a w (Region.free_spec h0 hf) (by simpa using hrd) hy
      (wpAnyM_of_H hr ht hsel hQ tl l (k + 1) _ _ w (fun j => by have := hl (j + 1); simpa [Nat.add_assoc, Nat.add_comm 1 j] using this) hB' hK)
def movB (l : List Oper) (n : Nat) : Bool := Region.noSelect l.toArray && decide (n ≤ l.length) && Region.lexHead .any l.toArray (l.length - n) n 0 (Array.replicate l.length false)
/-- **THE LAW.** -/
theorem wp_region_moves {id : Nat} {a : Act} {w : World} {l : List Oper} (n : Nat) (S : World → Prop) (Mv : World → World → Prop) (hr : ∀ w, Mv w w) (ht : ∀ {A B C : World}, Mv A B → Mv B C → Mv A C) (hm : P.follows .mixedOrders = true) (hB : movB l n = true) (hS : S w.drew)
    (hQ : ∀ c (a : Act) d v w, Q (.panic c) (a.put d v) w → Q (.panic c) a w)
    (h : wpMH P l.toArray S Mv (wpMT P l.toArray S Mv Q (l.drop n)) (l.take n) a w.drew) : (Code.region id l.toArray true).wp P Q a w := by
  simp only [movB, Bool.and_eq_true, decide_eq_true_eq] at hB
  obtain ⟨⟨hsel, hn⟩, hlex⟩ := hB
  refine wp_region_any hm ?_
  have htl : (l.take n).length = n := by simp; omega
  have hdl : (l.drop n).length = l.length - n := List.length_drop
  have := wpAnyM_of_H (md := .any) hr ht hsel hQ (l.drop n) (l.take n) 0 (Array.replicate l.length false) a w.drew (by simp) (by rw [htl, hdl]; exact hlex) h
  rw [htl, hdl, show n + (l.length - n) = l.length by omega] at this
  have h2 := wpAny_of_M hr _ _ _ _ hS this
  simpa using h2

/-! ### Steps of the head -/
theorem wpMH_nil {T : Act → World → Prop} {a : Act} {w : World} (h : T a w) : wpMH P ops S Mv T [] a w := h
theorem wpMH_pure {T : Act → World → Prop} {o : Oper} {rest : List Oper} {a : Act} {w : World} (hr : ∀ w, Mv w w) (hg : o.guard = none) (v : Value) (hv : ∀ w, S w → (execOp a.eval o).run P w = .ok (.value v) w) (h : wpMH P ops S Mv T rest (a.put o.dst v) w) : wpMH P ops S Mv T (o :: rest) a w :=
  ⟨v, .inl ⟨by simp [Region.wanted, hg], fun w hS => by rw [hv w hS]; exact ⟨rfl, hS, hr w⟩⟩, h⟩
theorem wpMH_move {T : Act → World → Prop} {o : Oper} {rest : List Oper} {a : Act} {w : World} (hr : ∀ w, Mv w w) (hg : o.guard = none) (x : Operand) (ho : o.op = .move x) (v : Value) (hv : a.eval x = v) (h : wpMH P ops S Mv T rest (a.put o.dst v) w) : wpMH P ops S Mv T (o :: rest) a w :=
  wpMH_pure hr hg v (fun w _ => by simp [execOp, ho, hv]) h
theorem wpMH_load {T : Act → World → Prop} {o : Oper} {rest : List Oper} {a : Act} {w : World} (hr : ∀ w, Mv w w) (hg : o.guard = none) (ty : TypeId) (x : Operand) (ho : o.op = .load ty x)
    (b f : Nat) (hx : a.eval x = .pointer (some ⟨b, f, none⟩)) (cs : List Value) (d : TypeDesc) (hS : ∀ w, S w → w.rangeAt b f cs) (hu : P.underlying ty = some d) (hd : d.isRow = true) (hi : (P.info? ty).map (·.size) = some cs.length)
    (h : wpMH P ops S Mv T rest (a.put o.dst (.agg cs.toArray)) w) : wpMH P ops S Mv T (o :: rest) a w :=
  wpMH_pure hr hg _ (fun w hw => by
    unfold execOp
    simp only [ho, hx, Instr.loadAt, Instr.sureAddr, Sem.run_bind, Sem.run_pure, Result.andThen_ok, run_loadVar_mid w b f ty cs d (hS w hw) hu hd hi]) h
theorem wpMH_call {T : Act → World → Prop} {o : Oper} {rest : List Oper} {a : Act} {w : World} (hg : o.guard = none) (f : FuncId) (as : Array Operand) (ts : Array TypeId) (ho : o.op = .call { callee := .value (.func f), args := as, argTypes := ts })
    (eg : ∀ args w, (callFunc f args).run P w = .ok (.enter f args) w) (vs : List Value) (hvs : as.toList.map a.eval = vs) (v : Value) (hc : ∀ w, S w → Calls P f vs.toArray w fun e w' => e = .returned v ∧ S w' ∧ Mv w w')
    (h : wpMH P ops S Mv T rest (a.put o.dst v) w) : wpMH P ops S Mv T (o :: rest) a w := by
  refine ⟨v, .inl ⟨by simp [Region.wanted, hg], fun w hS => ?_⟩, h⟩
  have hvs' : as.map a.eval = vs.toArray := Array.toList_inj.1 (by rw [Array.toList_map]; exact hvs)
  have : (execOp a.eval o).run P w = .ok (.enter f vs.toArray) w := by
    unfold execOp
    simp [ho, resolve, invoke, go_sem, eg, ← hvs', Act.eval]
  rw [this]
  exact hc w hS
end
end Go.Proofs.Ytkfpnilbjjkhgaa

/-
  REGIONS THAT DRAW THEIR ORDER: head operations under a guard.
-/
namespace Go.Proofs.Ytkfpnilbjjkhgaa

section
variable {P : Program} {ops : Array Oper} {S : World → Prop} {Mv : World → World → Prop}
theorem wpMH_pureW {T : Act → World → Prop} {o : Oper} {rest : List Oper} {a : Act} {w : World} (hr : ∀ w, Mv w w) (hg : Region.wanted o (yielded ops a.tmps) = true) (v : Value) (hv : ∀ w, S w → (execOp a.eval o).run P w = .ok (.value v) w) (h : wpMH P ops S Mv T rest (a.put o.dst v) w) : wpMH P ops S Mv T (o :: rest) a w :=
  ⟨v, .inl ⟨hg, fun w hS => by rw [hv w hS]; exact ⟨rfl, hS, hr w⟩⟩, h⟩
theorem wpMH_skip {T : Act → World → Prop} {o : Oper} {rest : List Oper} {a : Act} {w : World} (hg : Region.wanted o (yielded ops a.tmps) = false) (h : wpMH P ops S Mv T rest (a.put o.dst undef) w) : wpMH P ops S Mv T (o :: rest) a w :=
  ⟨undef, .inr ⟨hg, rfl⟩, h⟩
theorem wpMH_moveW {T : Act → World → Prop} {o : Oper} {rest : List Oper} {a : Act} {w : World} (hr : ∀ w, Mv w w) (hg : Region.wanted o (yielded ops a.tmps) = true) (x : Operand) (ho : o.op = .move x) (v : Value) (hv : a.eval x = v) (h : wpMH P ops S Mv T rest (a.put o.dst v) w) : wpMH P ops S Mv T (o :: rest) a w :=
  wpMH_pureW hr hg v (fun w _ => by simp [execOp, ho, hv]) h
theorem wpMH_loadW {T : Act → World → Prop} {o : Oper} {rest : List Oper} {a : Act} {w : World} (hr : ∀ w, Mv w w) (hg : Region.wanted o (yielded ops a.tmps) = true) (ty : TypeId) (x : Operand) (ho : o.op = .load ty x)
    (b f : Nat) (hx : a.eval x = .pointer (some ⟨b, f, none⟩)) (cs : List Value) (d : TypeDesc) (hS : ∀ w, S w → w.rangeAt b f cs) (hu : P.underlying ty = some d) (hd : d.isRow = true) (hi : (P.info? ty).map (·.size) = some cs.length)
    (h : wpMH P ops S Mv T rest (a.put o.dst (.agg cs.toArray)) w) : wpMH P ops S Mv T (o :: rest) a w :=
  wpMH_pureW hr hg _ (fun w hw => by
    unfold execOp
    simp only [ho, hx, Instr.loadAt, Instr.sureAddr, Sem.run_bind, Sem.run_pure, Result.andThen_ok, run_loadVar_mid w b f ty cs d (hS w hw) hu hd hi]) h
theorem wpMH_callW {T : Act → World → Prop} {o : Oper} {rest : List Oper} {a : Act} {w : World} (hg : Region.wanted o (yielded ops a.tmps) = true) (f : FuncId) (as : Array Operand) (ts : Array TypeId) (ho : o.op = .call { callee := .value (.func f), args := as, argTypes := ts })
    (eg : ∀ args w, (callFunc f args).run P w = .ok (.enter f args) w) (vs : List Value) (hvs : as.toList.map a.eval = vs) (v : Value) (hc : ∀ w, S w → Calls P f vs.toArray w fun e w' => e = .returned v ∧ S w' ∧ Mv w w')
    (h : wpMH P ops S Mv T rest (a.put o.dst v) w) : wpMH P ops S Mv T (o :: rest) a w := by
  refine ⟨v, .inl ⟨hg, fun w hS => ?_⟩, h⟩
  have hvs' : as.map a.eval = vs.toArray := Array.toList_inj.1 (by rw [Array.toList_map]; exact hvs)
  have : (execOp a.eval o).run P w = .ok (.enter f vs.toArray) w := by
    unfold execOp
    simp [ho, resolve, invoke, go_sem, eg, ← hvs', Act.eval]
  rw [this]
  exact hc w hS
end
end Go.Proofs.Ytkfpnilbjjkhgaa

/-
  REGIONS THAT DRAW THEIR ORDER, over any program: as in Mov, but every operation of the tail waits for every one of the head: so the tail may spoil what the head read.
-/
namespace Go.Proofs.Ytkfpnilbjjkhgaa

section
variable {P : Program} {ops : Array Oper} {md : Region.Mode} {S : World → Prop} {Mv : World → World → Prop} {Q : Exit → Act → World → Prop}

def needsB (md : Region.Mode) (ops : Array Oper) : Nat → Nat → Nat → Bool
  | 0, _, _ => false
  | f + 1, j, i => match ops[j]? with
    | some o => o.after.any (fun e => Region.binds md e && (e.on == i || needsB md ops f e.on i))
    | none => false
def Shut (md : Region.Mode) (ops : Array Oper) (listed : Array Bool) : Prop := ∀ k o, listed.getD k false = true → ops[k]? = some o → ∀ e ∈ o.after, Region.binds md e = true → listed.getD e.on false = true
theorem Shut.needs {listed : Array Bool} (h : Shut md ops listed) : ∀ (f j i : Nat), listed.getD j false = true → needsB md ops f j i = true → listed.getD i false = true
  | 0, _, _, _, hn => by simp [needsB] at hn
  | f + 1, j, i, hj, hn => by
    simp only [needsB] at hn
    cases ho : ops[j]? with
    | none => rw [ho] at hn; cases hn
    | some o =>
      rw [ho] at hn
      obtain ⟨e, he, hb⟩ := Array.any_eq_true'.1 hn
      simp only [Bool.and_eq_true, Bool.or_eq_true, beq_iff_eq] at hb
      have h1 := h j o hj ho e he hb.1
      rcases hb.2 with h2 | h2
      · rw [← h2]; exact h1
      · exact h.needs f e.on i h1 h2
theorem Shut.ready {listed : Array Bool} (h : Shut md ops listed) {f j i : Nat} (hj : j ∈ Region.ready md ops listed) (hn : needsB md ops f j i = true) : listed.getD i false = true := by
  obtain ⟨_, o, ho, hall⟩ := mem_ready.1 hj
  cases f with
  | zero => simp [needsB] at hn
  | succ f =>
    simp only [needsB] at hn
    rw [ho] at hn
    obtain ⟨e, he, hb⟩ := Array.any_eq_true'.1 hn
    simp only [Bool.and_eq_true, Bool.or_eq_true, beq_iff_eq] at hb
    have h1 := hall e he hb.1
    rcases hb.2 with h2 | h2
    · rw [← h2]; exact h1
    · exact h.needs f e.on i h1 h2
theorem Shut.set {listed : Array Bool} (h : Shut md ops listed) {j : Nat} (hj : j ∈ Region.ready md ops listed) : Shut md ops (listed.setIfInBounds j true) := by
  intro k o hk ho e he hb
  by_cases hjk : j = k
  · subst hjk
    obtain ⟨_, o', ho', hall⟩ := mem_ready.1 hj
    rw [ho] at ho'
    cases ho'
    exact getD_set_true (hall e he hb)
  · rw [getD_set_ne false hjk] at hk
    exact getD_set_true (h k o hk ho e he hb)
def doneB (n : Nat) (listed : Array Bool) : Bool := (List.range n).all (fun i => listed.getD i true)
theorem doneB_not {n i : Nat} {listed : Array Bool} (hi : i < n) (h : listed.getD i true = false) : doneB n listed = false := by
  cases hd : doneB n listed with
  | false => rfl
  | true =>
    have := List.all_eq_true.1 hd i (List.mem_range.2 hi)
    rw [h] at this
    cases this
theorem doneB_at {n i : Nat} {listed : Array Bool} (hi : i < n) (h : doneB n listed = true) : listed.getD i true = true := List.all_eq_true.1 h i (List.mem_range.2 hi)
/-- Whatever order is picked from here on; the head bears moves, and the tail what stands when the head has come up. -/
def wpAnyN (P : Program) (md : Region.Mode) (ops : Array Oper) (Q : Exit → Act → World → Prop) (S : World → Prop) (Mv : World → World → Prop) (n : Nat) : Nat → Array Bool → Act → World → Prop
  | 0, listed, a, w => Region.ready md ops listed = [] ∧ ∀ w', S w' → Mv w w' → Q .normal a w'
  | fuel + 1, listed, a, w => ∀ w', S w' → Mv w w' → if doneB n listed = true then wpAny P md ops Q (fuel + 1) listed a w' else (Region.ready md ops listed = [] → Q .normal a w') ∧
    ∀ i ∈ Region.ready md ops listed, wpOp P ops Q i (fun a' w'' => S w'' ∧ wpAnyN P md ops Q S Mv n fuel (listed.setIfInBounds i true) a' w'') a w'
theorem wpAny_of_N {n : Nat} (hr : ∀ w, Mv w w) : ∀ (fuel : Nat) (listed : Array Bool) (a : Act) (w : World), S w → wpAnyN P md ops Q S Mv n fuel listed a w → wpAny P md ops Q fuel listed a w
  | 0, _, _, w, hS, h => ⟨h.1, h.2 w hS (hr w)⟩
  | fuel + 1, listed, _, w, hS, h => by
    have h1 := h w hS (hr w)
    by_cases hd : doneB n listed = true
    · rw [if_pos hd] at h1; exact h1
    · rw [if_neg hd] at h1
      exact ⟨h1.1, fun i hi => wpOp_mono (fun a' w' h' => wpAny_of_N hr fuel _ a' w' h'.1 h'.2) (h1.2 i hi)⟩
theorem wpAnyN_move {n : Nat} (ht : ∀ {A B C : World}, Mv A B → Mv B C → Mv A C) : ∀ {fuel : Nat} {listed : Array Bool} {a : Act} {w w' : World}, wpAnyN P md ops Q S Mv n fuel listed a w → Mv w w' → wpAnyN P md ops Q S Mv n fuel listed a w'
  | 0, _, _, _, _, h, hm => ⟨h.1, fun w'' hS h2 => h.2 w'' hS (ht hm h2)⟩
  | _ + 1, _, _, _, _, h, hm => fun w'' hS h2 => h w'' hS (ht hm h2)
theorem wpAnyN_first {n f : Nat} (hr : ∀ w, Mv w w) (ht : ∀ {A B C : World}, Mv A B → Mv B C → Mv A C) {i : Nat} {oi : Oper} {v : Value} (hi : ops[i]? = some oi) (hin : i < n) (hW : ∀ j o, ops[j]? = some o → n ≤ j → needsB md ops f j i = true) (hsel : ∀ (j : Nat) (o : Oper) cs b, ops[j]? = some o → o.op ≠ .select cs b)
    (hQ : ∀ c a w, Q (.panic c) (a.put oi.dst v) w → Q (.panic c) a w) :
    ∀ (fuel : Nat) (listed : Array Bool) (a : Act) (w : World), Shut md ops listed →
      (∀ j oj, ops[j]? = some oj → j ≠ i → listed.getD j true = false → (∀ e ∈ oj.after, Region.binds md e = true → e.on ≠ i) → oi.apart ops oj = true) →
      i ∈ Region.ready md ops listed → YieldsM P ops S Mv oi v a →
      wpAnyN P md ops Q S Mv n fuel (listed.setIfInBounds i true) (a.put oi.dst v) w → wpAnyN P md ops Q S Mv n (fuel + 1) listed a w := by
  intro fuel
  induction fuel with
  | zero =>
    intro listed a w hC _ hrd hy H w' hS' hM'
    rw [if_neg (by rw [doneB_not hin (mem_ready.1 hrd).1]; simp)]
    refine ⟨fun h => (by rw [h] at hrd; cases hrd), fun j hj => ?_⟩
    by_cases hji : j = i
    · subst hji
      exact hy.wpOp hi hS' (hr _) fun w2 h2 h3 => ⟨h2, by have h5 : Mv w w2 := ht hM' h3; refine wpAnyN_move @ht (w := w) ?_ h5; exact H⟩
    · have := ready_mono hj hji
      rw [H.1] at this
      cases this
  | succ fuel ih =>
    intro listed a w hC hfree hrd hy H w' hS' hM'
    have hiu := (mem_ready.1 hrd).1
    rw [if_neg (by rw [doneB_not hin hiu]; simp)]
    refine ⟨fun h => (by rw [h] at hrd; cases hrd), fun j hj => ?_⟩
    by_cases hji : j = i
    · subst hji
      exact hy.wpOp hi hS' (hr _) fun w2 h2 h3 => ⟨h2, by have h5 : Mv w w2 := ht hM' h3; refine wpAnyN_move @ht (w := w) ?_ h5; exact H⟩
    · obtain ⟨hjun, oj, hoj, hall⟩ := mem_ready.1 hj
      have hnl : ¬ listed.getD i false = true := fun h1 => by
        rcases Nat.lt_or_ge i listed.size with h' | h'
        · simp [h'] at hiu h1; rw [hiu] at h1; cases h1
        · simp [Array.getElem?_eq_none h'] at h1
      have hjn : j < n := by
        rcases Nat.lt_or_ge j n with h | h
        · exact h
        · exact absurd (hC.ready hj (hW j oj hoj h)) hnl
      have h0 := H w' hS' hM'
      rw [if_neg (by rw [doneB_not hjn (by rw [getD_set_ne true (Ne.symm hji)]; exact hjun)]; simp)] at h0
      have h1 := h0.2 j (ready_mono hj hji)
      have hnot : ∀ e ∈ oj.after, Region.binds md e = true → e.on ≠ i := fun e he hb heq => hnl (by rw [← heq]; exact hall e he hb)
      have h2 := wpOp_putM hoj (hfree j oj hoj hji hjun hnot) (fun cs b => hsel i oi cs b hi) (fun cs b => hsel j oj cs b hoj) hQ hy h1
      have hfree' : ∀ k ok, ops[k]? = some ok → k ≠ i → (listed.setIfInBounds j true).getD k true = false →
          (∀ e ∈ ok.after, Region.binds md e = true → e.on ≠ i) → oi.apart ops ok = true := fun k ok hk hki hun hno => by
        refine hfree k ok hk hki ?_ hno
        by_cases hjk : j = k
        · subst hjk; exact hjun
        · rw [getD_set_ne true hjk] at hun; exact hun
      refine wpOp_mono (fun a' w2 h3 => ⟨h3.2.1, ih (listed.setIfInBounds j true) a' w2 (hC.set hj) hfree' (ready_mono hrd (Ne.symm hji)) h3.1 ?_⟩) h2
      rw [Array.setIfInBounds_comm _ _ hji]
      exact h3.2.2
theorem wpAnyN_of_H {n f : Nat} (hr : ∀ w, Mv w w) (ht : ∀ {A B C : World}, Mv A B → Mv B C → Mv A C) (hsel : Region.noSelect ops = true) (hQ : ∀ c (a : Act) d v w, Q (.panic c) (a.put d v) w → Q (.panic c) a w) (tl : List Oper)
    (hW : ∀ i < n, ∀ j o, ops[j]? = some o → n ≤ j → needsB md ops f j i = true) :
    ∀ (l : List Oper) (k : Nat) (listed : Array Bool) (a : Act) (w : World), (∀ j, (l ++ tl)[j]? = ops[k + j]?) → k + l.length = n → n ≤ listed.size → (∀ j < k, listed.getD j true = true) → Shut md ops listed → Region.lexHead md ops tl.length l.length k listed = true →
      wpMH P ops S Mv (fun a w => ∀ w', S w' → Mv w w' → wpList P ops Q tl a w') l a w → wpAnyN P md ops Q S Mv n (l.length + tl.length) listed a w
  | [], k, listed, a, w, hl, hk, hz, hd, hC, hB, h => by
    rw [List.length_nil, Nat.zero_add]
    have hdone : doneB n listed = true := List.all_eq_true.2 fun i hi => hd i (by have := List.mem_range.1 hi; simp at hk; omega)
    have hB' : Region.seqB md ops tl.length k listed = true := by simpa [Region.lexHead] using hB
    have key : ∀ w', S w' → Mv w w' → wpAny P md ops Q tl.length listed a w' := fun w' hS hM => wpAny_of_seq tl k listed a w' (by simpa using hl) hB' (h w' hS hM)
    cases htl : tl.length with
    | zero =>
      rw [htl] at hB'
      exact ⟨by simpa [Region.seqB] using hB', fun w' hS hM => by have := key w' hS hM; rw [htl] at this; exact this.2⟩
    | succ g =>
      intro w' hS hM
      rw [if_pos hdone]
      have := key w' hS hM
      rw [htl] at this
      exact this
  | o :: l, k, listed, a, w, hl, hk, hz, hd, hC, hB, h => by
    have h0 : ops[k]? = some o := by simpa using (hl 0).symm
    simp only [List.length_cons, Region.lexHead, Bool.and_eq_true] at hB
    obtain ⟨⟨hrd, hf⟩, hB'⟩ := hB
    obtain ⟨v, hy, hK⟩ := h
    simp only [List.length_cons] at hk
    have hrd' : k ∈ Region.ready md ops listed := by simpa using hrd
    rw [List.length_cons, show l.length + 1 + tl.length = l.length + tl.length + 1 by omega]
    exact wpAnyN_first hr ht h0 (show k < n by omega) (hW k (by omega)) (Region.noSelect_spec hsel) (fun c a w h => hQ c a _ _ w h) _ listed a w hC (Region.free_spec h0 hf) hrd' hy
      (wpAnyN_of_H hr ht hsel hQ tl hW l (k + 1) _ _ w (fun j => by have := hl (j + 1); simpa [Nat.add_assoc, Nat.add_comm 1 j] using this) (by omega) (by simpa using hz)
        (fun j hj => by
          by_cases hjk : k = j
          · subst hjk
            simp [show k < listed.size by omega]
          · rw [getD_set_ne true hjk]; exact hd j (by omega)) (hC.set hrd') hB' hK)
def movTB (l : List Oper) (n : Nat) : Bool := Region.noSelect l.toArray && decide (n ≤ l.length) && ((List.range l.length).all fun j => decide (j < n) || (List.range n).all fun i => needsB .any l.toArray l.length j i) && Region.lexHead .any l.toArray (l.length - n) n 0 (Array.replicate l.length false)
/-- **THE LAW.** -/
theorem wp_region_movesT {id : Nat} {a : Act} {w : World} {l : List Oper} (n : Nat) (S : World → Prop) (Mv : World → World → Prop) (hr : ∀ w, Mv w w) (ht : ∀ {A B C : World}, Mv A B → Mv B C → Mv A C) (hm : P.follows .mixedOrders = true) (hB : movTB l n = true) (hS : S w.drew)
    (hQ : ∀ c (a : Act) d v w, Q (.panic c) (a.put d v) w → Q (.panic c) a w)
    (h : wpMH P l.toArray S Mv (fun a w => ∀ w', S w' → Mv w w' → wpList P l.toArray Q (l.drop n) a w') (l.take n) a w.drew) : (Code.region id l.toArray true).wp P Q a w := by
  simp only [movTB, Bool.and_eq_true, decide_eq_true_eq] at hB
  obtain ⟨⟨⟨hsel, hn⟩, hnd⟩, hlex⟩ := hB
  refine wp_region_any hm ?_
  have htl : (l.take n).length = n := by simp; omega
  have hdl : (l.drop n).length = l.length - n := List.length_drop
  have hW : ∀ i < n, ∀ j o, l.toArray[j]? = some o → n ≤ j → needsB .any l.toArray l.length j i = true := fun i hi j o ho hj => by
    have hjl : j < l.length := by have := (Array.getElem?_eq_some_iff.1 ho).1; simpa using this
    have h1 := List.all_eq_true.1 hnd j (List.mem_range.2 hjl)
    simp only [Bool.or_eq_true, decide_eq_true_eq] at h1
    rcases h1 with h1 | h1
    · omega
    · exact List.all_eq_true.1 h1 i (List.mem_range.2 hi)
  have := wpAnyN_of_H (md := .any) hr ht hsel hQ (l.drop n) hW (l.take n) 0 (Array.replicate l.length false) a w.drew (by simp) (by omega) (by simpa using hn) (fun j hj => by omega)
    (fun k o hk => by
      exfalso
      rcases Nat.lt_or_ge k l.length with h' | h'
      · simp [h'] at hk
      · simp [h'] at hk) (by rw [htl, hdl]; exact hlex) h
  rw [htl, hdl, show n + (l.length - n) = l.length by omega] at this
  have h2 := wpAny_of_N hr _ _ _ _ hS this
  simpa using h2
/-! ### Heads alone: what is left comes up in any order -/
def headsB (md : Region.Mode) (ops : Array Oper) : Nat → Nat → Array Bool → Bool
  | 0, _, _ => true
  | f + 1, k, listed => (Region.ready md ops listed).contains k && Region.free md ops listed k && headsB md ops f (k + 1) (listed.setIfInBounds k true)
def lstN : Nat → Nat → Array Bool → Array Bool
  | 0, _, listed => listed
  | f + 1, k, listed => lstN f (k + 1) (listed.setIfInBounds k true)
theorem wpAnyM_of_heads (hr : ∀ w, Mv w w) (ht : ∀ {A B C : World}, Mv A B → Mv B C → Mv A C) (hsel : Region.noSelect ops = true) (hQ : ∀ c (a : Act) d v w, Q (.panic c) (a.put d v) w → Q (.panic c) a w) (g : Nat) :
    ∀ (l : List Oper) (k : Nat) (listed : Array Bool) (a : Act) (w : World), (∀ j o, l[j]? = some o → ops[k + j]? = some o) → headsB md ops l.length k listed = true →
      wpMH P ops S Mv (fun a w => wpAnyM P md ops Q S Mv g (lstN l.length k listed) a w) l a w → wpAnyM P md ops Q S Mv (l.length + g) listed a w
  | [], k, listed, a, w, hl, hB, h => by rw [List.length_nil, Nat.zero_add]; exact h
  | o :: l, k, listed, a, w, hl, hB, h => by
    have h0 : ops[k]? = some o := hl 0 o rfl
    simp only [List.length_cons, headsB, Bool.and_eq_true] at hB
    obtain ⟨⟨hrd, hf⟩, hB'⟩ := hB
    obtain ⟨v, hy, hK⟩ := h
    rw [List.length_cons, show l.length + 1 + g = l.length + g + 1 by omega]
    exact wpAnyM_first hr ht h0 (Region.noSelect_spec hsel) (fun c a w h => hQ c a _ _ w h) _ listed a w (Region.free_spec h0 hf) (by simpa using hrd) hy
      (wpAnyM_of_heads hr ht hsel hQ g l (k + 1) _ _ w (fun j o h => by have := hl (j + 1) o h; simpa [Nat.add_assoc, Nat.add_comm 1 j] using this) hB' hK)
def movAB (l : List Oper) (n : Nat) : Bool := Region.noSelect l.toArray && decide (n ≤ l.length) && headsB .any l.toArray n 0 (Array.replicate l.length false)
theorem wp_region_movesA {id : Nat} {a : Act} {w : World} {l : List Oper} (n : Nat) (S : World → Prop) (Mv : World → World → Prop) (hr : ∀ w, Mv w w) (ht : ∀ {A B C : World}, Mv A B → Mv B C → Mv A C) (hm : P.follows .mixedOrders = true) (hB : movAB l n = true) (hS : S w.drew)
    (hQ : ∀ c (a : Act) d v w, Q (.panic c) (a.put d v) w → Q (.panic c) a w)
    (h : wpMH P l.toArray S Mv (fun a w => wpAnyM P .any l.toArray Q S Mv (l.length - n) (lstN n 0 (Array.replicate l.length false)) a w) (l.take n) a w.drew) : (Code.region id l.toArray true).wp P Q a w := by
  simp only [movAB, Bool.and_eq_true, decide_eq_true_eq] at hB
  obtain ⟨⟨hsel, hn⟩, hlex⟩ := hB
  refine wp_region_any hm ?_
  have htl : (l.take n).length = n := by simp; omega
  have := wpAnyM_of_heads (md := .any) hr ht hsel hQ (l.length - n) (l.take n) 0 (Array.replicate l.length false) a w.drew (fun j o h => by
    rw [Nat.zero_add]
    have hj := (List.getElem?_eq_some_iff.1 h).1
    rw [List.getElem?_take_of_lt (by omega)] at h
    simpa using h) (by rw [htl]; exact hlex) (by rw [htl]; exact h)
  rw [htl, show n + (l.length - n) = l.length by omega] at this
  have h2 := wpAny_of_M hr _ _ _ _ hS this
  simpa using h2
theorem wpOp_list {i : Nat} {o : Oper} (h0 : ops[i]? = some o) {K : Act → World → Prop} {a : Act} {w : World} (h1 : wpList P ops (fun e a' w'' => match e with | .normal => K a' w'' | e => Q e a' w'') [o] a w) : wpOp P ops Q i K a w := by
  unfold wpOp
  simp only [h0]
  unfold wpList at h1
  split
  · rename_i hwt
    simp only [hwt, if_true] at h1
    rcases h1 with h1 | h1
    · refine .inl ?_
      unfold Oper.wp at h1 ⊢
      generalize (execOp a.eval o).run P w = r at h1 ⊢
      cases r with
      | ok n w2 => cases n <;> exact h1
      | halt x w2 => cases x <;> exact h1
    · exact .inr h1
  · rename_i hwt
    simp only [hwt] at h1
    exact h1
theorem wpAnyM_one {fuel : Nat} {listed : Array Bool} {a : Act} {w : World} (i : Nat) {o : Oper} (hrd : Region.ready md ops listed = [i]) (h0 : ops[i]? = some o)
    (h : ∀ w', S w' → Mv w w' → wpList P ops (fun e a' w'' => match e with | .normal => S w'' ∧ wpAnyM P md ops Q S Mv fuel (listed.setIfInBounds i true) a' w'' | e => Q e a' w'') [o] a w') : wpAnyM P md ops Q S Mv (fuel + 1) listed a w :=
  by
  intro w' hS hM
  refine ⟨fun e => (by rw [hrd] at e; cases e), fun j hj => ?_⟩
  rw [hrd] at hj
  obtain rfl : j = i := by simpa using hj
  exact wpOp_list h0 (h w' hS hM)
theorem wpAnyM_two {fuel : Nat} {listed : Array Bool} {a : Act} {w : World} (i k : Nat) {o o' : Oper} (hrd : Region.ready md ops listed = [i, k]) (h0 : ops[i]? = some o) (h0' : ops[k]? = some o')
    (h : ∀ w', S w' → Mv w w' → wpList P ops (fun e a' w'' => match e with | .normal => S w'' ∧ wpAnyM P md ops Q S Mv fuel (listed.setIfInBounds i true) a' w'' | e => Q e a' w'') [o] a w')
    (h' : ∀ w', S w' → Mv w w' → wpList P ops (fun e a' w'' => match e with | .normal => S w'' ∧ wpAnyM P md ops Q S Mv fuel (listed.setIfInBounds k true) a' w'' | e => Q e a' w'') [o'] a w') : wpAnyM P md ops Q S Mv (fuel + 1) listed a w :=
  by
  intro w' hS hM
  refine ⟨fun e => (by rw [hrd] at e; cases e), fun j hj => ?_⟩
  rw [hrd] at hj
  rcases (by simpa using hj : j = i ∨ j = k) with rfl | rfl
  · exact wpOp_list h0 (h w' hS hM)
  · exact wpOp_list h0' (h' w' hS hM)
theorem wpAnyM_nil {listed : Array Bool} {a : Act} {w : World} (hrd : Region.ready md ops listed = []) (h : ∀ w', S w' → Mv w w' → Q .normal a w') : wpAnyM P md ops Q S Mv 0 listed a w := ⟨hrd, h⟩
/-- A piece of code by way of what it leaves. -/
theorem code_via {c : Code} {a : Act} {w : World} (R : Act → Act → World → Prop) (h1 : c.wp P (fun e a' w' => e = .normal ∧ R a a' w') a w) (h2 : ∀ a' w', R a a' w' → Q .normal a' w') : c.wp P Q a w :=
  Code.wp_mono (fun e a' w' ⟨he, h⟩ => by subst he; exact h2 a' w' h) h1
end
end Go.Proofs.Ytkfpnilbjjkhgaa

/-
  REGIONS THAT DRAW THEIR ORDER: heads by their numbers; what is left comes up in any order.
-/
namespace Go.Proofs.Ytkfpnilbjjkhgaa

section
variable {P : Program} {ops : Array Oper} {md : Region.Mode} {S : World → Prop} {Mv : World → World → Prop} {Q : Exit → Act → World → Prop}
def headsIB (md : Region.Mode) (ops : Array Oper) : List Nat → Array Bool → Bool
  | [], _ => true
  | k :: is, listed => (Region.ready md ops listed).contains k && Region.free md ops listed k && headsIB md ops is (listed.setIfInBounds k true)
def lstI : List Nat → Array Bool → Array Bool
  | [], listed => listed
  | k :: is, listed => lstI is (listed.setIfInBounds k true)
theorem wpAnyM_of_headsI (hr : ∀ w, Mv w w) (ht : ∀ {A B C : World}, Mv A B → Mv B C → Mv A C) (hsel : Region.noSelect ops = true) (hQ : ∀ c (a : Act) d v w, Q (.panic c) (a.put d v) w → Q (.panic c) a w) (g : Nat) :
    ∀ (is : List Nat) (l : List Oper) (listed : Array Bool) (a : Act) (w : World), is.map (ops[·]?) = l.map some → headsIB md ops is listed = true →
      wpMH P ops S Mv (fun a w => wpAnyM P md ops Q S Mv g (lstI is listed) a w) l a w → wpAnyM P md ops Q S Mv (l.length + g) listed a w
  | [], l, listed, a, w, hl, hB, h => by
    have hl0 : l = [] := by cases l with
      | nil => rfl
      | cons o l => simp at hl
    subst hl0
    rw [List.length_nil, Nat.zero_add]
    exact h
  | k :: is, [], listed, a, w, hl, hB, h => by simp at hl
  | k :: is, o :: l, listed, a, w, hl, hB, h => by
    simp only [List.map_cons, List.cons.injEq] at hl
    simp only [headsIB, Bool.and_eq_true] at hB
    obtain ⟨⟨hrd, hf⟩, hB'⟩ := hB
    obtain ⟨v, hy, hK⟩ := h
    rw [List.length_cons, show l.length + 1 + g = l.length + g + 1 by omega]
    exact wpAnyM_first hr ht hl.1 (Region.noSelect_spec hsel) (fun c a w h => hQ c a _ _ w h) _ listed a w (Region.free_spec hl.1 hf) (by simpa using hrd) hy
      (wpAnyM_of_headsI hr ht hsel hQ g is l _ _ w hl.2 hB' hK)
def movIB (l : List Oper) (is : List Nat) : Bool := Region.noSelect l.toArray && decide (is.length ≤ l.length) && headsIB .any l.toArray is (Array.replicate l.length false)
theorem wp_region_movesI {id : Nat} {a : Act} {w : World} {l : List Oper} (is : List Nat) (hs : List Oper) (hm0 : is.map (l.toArray[·]?) = hs.map some) (S : World → Prop) (Mv : World → World → Prop) (hr : ∀ w, Mv w w) (ht : ∀ {A B C : World}, Mv A B → Mv B C → Mv A C) (hm : P.follows .mixedOrders = true) (hB : movIB l is = true) (hS : S w.drew)
    (hQ : ∀ c (a : Act) d v w, Q (.panic c) (a.put d v) w → Q (.panic c) a w)
    (h : wpMH P l.toArray S Mv (fun a w => wpAnyM P .any l.toArray Q S Mv (l.length - is.length) (lstI is (Array.replicate l.length false)) a w) hs a w.drew) : (Code.region id l.toArray true).wp P Q a w := by
  simp only [movIB, Bool.and_eq_true, decide_eq_true_eq] at hB
  obtain ⟨⟨hsel, hn⟩, hlex⟩ := hB
  refine wp_region_any hm ?_
  have hlen : hs.length = is.length := by have := congrArg List.length hm0; simpa using this.symm
  have := wpAnyM_of_headsI (md := .any) hr ht hsel hQ (l.length - is.length) is hs (Array.replicate l.length false) a w.drew hm0 hlex h
  rw [hlen, show is.length + (l.length - is.length) = l.length by omega] at this
  have h2 := wpAny_of_M hr _ _ _ _ hS this
  simpa using h2
theorem pick_map (l : List Oper) : ∀ (is : List Nat), is.all (fun i => decide (i < l.length)) = true → is.map (l.toArray[·]?) = (is.filterMap (fun i => l[i]?)).map some
  | [], _ => rfl
  | i :: is, h => by
    simp only [List.all_cons, Bool.and_eq_true, decide_eq_true_eq] at h
    rw [List.map_cons, pick_map l is h.2, List.filterMap_cons, List.getElem?_eq_getElem h.1]
    simp [h.1]
theorem wp_region_movesJ {id : Nat} {a : Act} {w : World} {l : List Oper} (is : List Nat) (S : World → Prop) (Mv : World → World → Prop) (hr : ∀ w, Mv w w) (ht : ∀ {A B C : World}, Mv A B → Mv B C → Mv A C) (hm : P.follows .mixedOrders = true) (hB : movIB l is = true) (hlt : is.all (fun i => decide (i < l.length)) = true) (hS : S w.drew)
    (hQ : ∀ c (a : Act) d v w, Q (.panic c) (a.put d v) w → Q (.panic c) a w)
    (h : wpMH P l.toArray S Mv (fun a w => wpAnyM P .any l.toArray Q S Mv (l.length - is.length) (lstI is (Array.replicate l.length false)) a w) (is.filterMap (fun i => l[i]?)) a w.drew) : (Code.region id l.toArray true).wp P Q a w :=
  wp_region_movesI is _ (pick_map l is hlt) S Mv hr ht hm hB hS hQ h
end
end Go.Proofs.Ytkfpnilbjjkhgaa
