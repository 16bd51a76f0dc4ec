/-
  .. where the region's first operation, a load, is free to come up until the tail's second one.
-/
import Derived.Test.YtkcmacglomdfcaaTail
import Derived.OrdersHeld
import Derived.WalkKit
import Derived.OwnWalk
namespace Go.Proofs.Ytkcmacglomdfcaa

section
variable {P : Program} {ops ops' : Array Oper} {md : Region.Mode} {C : World → Prop}

def sink0B (md : Region.Mode) (ops : Array Oper) (n : Nat) : Bool :=
  (List.range n).all fun i => decide (i = 0) || (List.range (n + 1)).any fun j => decide (i < j) && Region.waitsFor md ops j i

theorem tail_waits0 {n : Nat} {listed : Array Bool} (hs : sink0B md ops n = true) (hc : Region.chainB md ops n = true) (hn : n < ops.size) (inv : HeadInv md ops n listed) :
    ∀ (d i : Nat), n - i = d → i < n → i ≠ 0 → listed.getD i true = false → ∀ t, n ≤ t → t ∉ Region.ready md ops listed := by
  intro d
  induction d using Nat.strongRecOn with
  | _ d ih =>
    intro i hd hi hi0 hun t ht hr
    obtain ⟨_, ot, hot, hall⟩ := mem_ready.1 hr
    have htlt : t < ops.size := (Array.getElem?_eq_some_iff.1 hot).1
    rcases Nat.lt_or_ge n t with htn | htn
    · have h1 := List.all_eq_true.1 hc t (List.mem_range.2 htlt)
      simp only [Bool.or_eq_true, decide_eq_true_eq] at h1
      obtain ⟨o', ho', e, he, hb, hon⟩ := Region.waitsFor_spec (h1.resolve_left (by omega))
      cases ho'.symm.trans hot
      have h2 := hall e he hb
      rw [hon, getD_both (inv.tail (t - 1) (by omega) (by omega))] at h2
      cases h2
    · obtain rfl : t = n := by omega
      have h1 := List.all_eq_true.1 hs i (List.mem_range.2 hi)
      simp only [Bool.or_eq_true, decide_eq_true_eq] at h1
      obtain ⟨j, hj, hj2⟩ := List.any_eq_true.1 (h1.resolve_left hi0)
      simp only [Bool.and_eq_true, decide_eq_true_eq] at hj2
      obtain ⟨oj, hoj, e, he, hb, hon⟩ := Region.waitsFor_spec hj2.2
      have hjle := List.mem_range.1 hj
      rcases Nat.lt_or_ge j t with hjt | hjt
      · cases hl : listed.getD j false with
        | true =>
          have h2 := inv.closed j oj hoj hl e he hb
          rw [hon, getD_both hun] at h2
          cases h2
        | false => exact ih (t - j) (by omega) j rfl hjt (by omega) (getD_in (by rw [inv.size]; omega) hl) t (Nat.le_refl _) hr
      · obtain rfl : j = t := by omega
        cases hoj.symm.trans hot
        have h2 := hall e he hb
        rw [hon, getD_both hun] at h2
        cases h2

theorem wpAny_of_quietHeadZ {n g : Nat} {Q₁ : Act → Prop} {Q : Exit → Act → World → Prop} (hs : sink0B md ops n = true) (hc : Region.chainB md ops n = true) (hn : n < ops.size)
    (hops : ∀ i, i < n → ops'[i]? = ops[i]?) (hsz : ops'.size = n) (hguard : ∀ (i : Nat) (o : Oper), ops'[i]? = some o → o.guard = none) (hedge : ∀ (i : Nat) (o : Oper), ops'[i]? = some o → ∀ e ∈ o.after, e.on < i)
    (hT : ∀ listed, HeadInv md ops n listed → (∀ i, i < n → listed.getD i true = true) → ∀ a w, C w → Q₁ a → wpAny P md ops Q g listed a w)
    (hT2 : ∀ f listed, HeadInv md ops n listed → (∀ i, i < n → i ≠ 0 → listed.getD i true = true) → listed.getD 0 true = false → ∀ a w, C w → wpAnyQ P md ops' C Q₁ (f + 1) listed a → wpAny P md ops Q (f + 1 + g) listed a w) :
    ∀ (f : Nat) (listed : Array Bool) (a : Act) (w : World), C w → HeadInv md ops n listed → wpAnyQ P md ops' C Q₁ f listed a → wpAny P md ops Q (f + g) listed a w := by
  have some_lt : ∀ (i : Nat) (o : Oper), ops'[i]? = some o → i < n := fun i o h => by rw [← hsz]; exact (Array.getElem?_eq_some_iff.1 h).1
  -- an operation of the head that has not come up: one may come up
  have rdy : ∀ listed, HeadInv md ops n listed → (∃ i, i < n ∧ listed.getD i true = false) → ∃ k, k ∈ Region.ready md ops' listed ∧ k ∈ Region.ready md ops listed := by
    intro listed inv hex
    obtain ⟨k, hk, hun, hmin⟩ := least (p := fun i => listed.getD i true = false) n hex
    have ho : ops'[k]? = some ops'[k] := Array.getElem?_eq_getElem (by rw [hsz]; exact hk)
    have hr : ∀ e ∈ (ops'[k]'(by rw [hsz]; exact hk)).after, Region.binds md e = true → listed.getD e.on false = true := fun e he _ => by
      have hlt := hedge k _ ho e he
      have h1 := hmin e.on hlt
      simp only [Bool.not_eq_false] at h1
      have hsz' : e.on < listed.size := by rw [inv.size]; omega
      simp [hsz'] at h1 ⊢
      exact h1
    exact ⟨k, mem_ready.2 ⟨hun, _, ho, hr⟩, mem_ready.2 ⟨hun, _, (hops k hk).symm.trans ho, hr⟩⟩
  intro f
  induction f with
  | zero =>
    intro listed a w hw inv h
    refine wpAny_adds (hT listed inv (fun i hi => ?_) a w hw h.2) 0
    cases hl : listed.getD i true with
    | true => rfl
    | false =>
      obtain ⟨k, hr, _⟩ := rdy listed inv ⟨i, hi, hl⟩
      rw [h.1] at hr
      cases hr
  | succ f ih =>
    intro listed a w hw inv h
    by_cases hall : ∀ i, i < n → listed.getD i true = true
    · have hr : Region.ready md ops' listed = [] := by
        rw [List.eq_nil_iff_forall_not_mem]
        intro j hj
        obtain ⟨h1, o, ho, _⟩ := mem_ready.1 hj
        rw [hall j (some_lt j o ho)] at h1
        cases h1
      exact wpAny_adds (hT listed inv hall a w hw (h.1 hr)) _
    · have hex : ∃ i, i < n ∧ listed.getD i true = false := by
        apply Classical.byContradiction
        intro hno
        refine hall fun i hi => ?_
        cases hl : listed.getD i true with
        | true => rfl
        | false => exact absurd ⟨i, hi, hl⟩ hno
      by_cases hall0 : ∀ i, i < n → i ≠ 0 → listed.getD i true = true
      · obtain ⟨i, hi, hl⟩ := hex
        have hi0 : i = 0 := by
          apply Classical.byContradiction
          intro hne
          rw [hall0 i hi hne] at hl
          cases hl
        subst hi0
        exact hT2 f listed inv hall0 hl a w hw h
      · obtain ⟨k, _, hrk⟩ := rdy listed inv hex
        have hex0 : ∃ i, i < n ∧ i ≠ 0 ∧ listed.getD i true = false := by
          apply Classical.byContradiction
          intro hno
          refine hall0 fun i hi hne => ?_
          cases hl : listed.getD i true with
          | true => rfl
          | false => exact absurd ⟨i, hi, hne, hl⟩ hno
        obtain ⟨z, hz, hz0, hzu⟩ := hex0
        rw [show f + 1 + g = (f + g) + 1 by omega]
        refine ⟨fun h0 => (by rw [h0] at hrk; cases hrk), fun i hi => ?_⟩
        have hin : i < n := by
          rcases Nat.lt_or_ge i n with h' | h'
          · exact h'
          · exact absurd hi (tail_waits0 hs hc hn inv _ z rfl hz hz0 hzu i h')
        obtain ⟨hiun, oi, hoi, hia⟩ := mem_ready.1 hi
        have hoi' : ops'[i]? = some oi := (hops i hin).trans hoi
        have q := h.2 i (mem_ready.2 ⟨hiun, oi, hoi', hia⟩)
        have q' : qOp P ops C i (wpAnyQ P md ops' C Q₁ f (listed.setIfInBounds i true)) a := by
          unfold qOp at q ⊢
          simp only [hoi', hoi, Region.wanted, hguard i oi hoi'] at q ⊢
          exact q
        exact wpOp_of_qOp hw (fun a' w' hw' hk' => ih _ a' w' hw' (inv.set hi hin) hk') q'

def lst0 (n g : Nat) : List Bool := false :: (List.replicate (n - 1) true ++ List.replicate g false)
def headZB (l : List Oper) (n : Nat) : Bool :=
  Region.noSelect l.toArray && Region.noSelect (l.take n).toArray && decide (n + 1 < l.length) && decide (0 < n) && sink0B .any l.toArray n && Region.chainB .any l.toArray n &&
  Region.lexFrom .any (l.take n).toArray n 0 (Array.replicate l.length false) &&
  ((l.take n).all fun o => o.guard.isNone) && ((List.range n).all fun i => (((l.take n).toArray[i]?).map fun o => o.after.all fun e => decide (e.on < i)).getD true) &&
  Region.seqB .any l.toArray (l.length - n) n (List.replicate n true ++ List.replicate (l.length - n) false).toArray &&
  decide (Region.ready .any l.toArray (lst0 n (l.length - n)).toArray = [0, n]) && decide (Region.ready .any l.toArray ((lst0 n (l.length - n)).toArray.setIfInBounds n true) = [0]) &&
  Region.seqB .any l.toArray (l.length - n - 1) (n + 1) (((lst0 n (l.length - n)).toArray.setIfInBounds n true).setIfInBounds 0 true) &&
  ((l[0]?).bind fun x => (l[n]?).map fun y => x.apart l.toArray y).getD false

theorem wpAny_of_quiet0 {id : Nat} {Q : Exit → Act → World → Prop} {a : Act} {w : World} {l : List Oper} (n : Nat) (hm : P.follows .mixedOrders = true) (hB : headZB l n = true) (hC : C { w with drawn := w.drawn + 1 })
    (hQ : ∀ c (a : Act) d v w, Q (.panic c) (a.put d v) w → Q (.panic c) a w)
    (hz : ∀ o, l[0]? = some o → ∀ (ρ : Operand → Value) (w w' : World) x, (execOp ρ o).run P w = .ok x w' → ∃ u, x = .value u)
    (hN : ∀ (K : Act → World → Prop) (a : Act) (w : World), C w → wpOp P l.toArray Q n K a w → wpOp P l.toArray Q n (fun a' w' => C w' ∧ K a' w') a w)
    (h : wpQuiet P (l.take n).toArray C (fun a' => ∀ w', C w' → wpList P l.toArray Q (l.drop n) a' w') (l.take n) a) : (Code.region id l.toArray true).wp P Q a w := by
  simp only [headZB, Bool.and_eq_true, decide_eq_true_eq] at hB
  obtain ⟨⟨⟨⟨⟨⟨⟨⟨⟨⟨⟨⟨⟨hsell, hsel⟩, hn1⟩, hn0⟩, hs⟩, hc⟩, hlex⟩, hg⟩, he⟩, hseq⟩, hr0⟩, hr1⟩, hseq2⟩, hap⟩ := hB
  have hn : n < l.length := by omega
  have htl : (l.take n).length = n := by simp; omega
  have hH := wpAnyQ_lex (C := C) (md := .any) hsel (l.take n) 0 (Array.replicate l.length false) a (by simp) (by rw [htl]; exact hlex) h
  rw [htl] at hH
  refine wp_region_any hm ?_
  have inv0 : HeadInv .any l.toArray n (Array.replicate l.length false) :=
    ⟨by simp, fun j oj _ hl => (by rw [getD_replicate_false] at hl; cases hl), fun t _ ht => getD_in (by simpa using ht) (getD_replicate_false _ _)⟩
  have hguard : ∀ (i : Nat) (o : Oper), (l.take n).toArray[i]? = some o → o.guard = none := fun i o ho => by
    have := List.all_eq_true.1 hg o (by
      rw [List.getElem?_toArray] at ho
      exact List.mem_of_getElem? ho)
    simpa using this
  have hops : ∀ i, i < n → (l.take n).toArray[i]? = l.toArray[i]? := fun i hi => by simp [hi]
  have arr : ∀ (listed : Array Bool) (b : Bool), HeadInv .any l.toArray n listed → (∀ i, i < n → i ≠ 0 → listed.getD i true = true) → listed.getD 0 true = b → listed = (b :: (List.replicate (n - 1) true ++ List.replicate (l.length - n) false)).toArray := by
    intro listed b inv hall hb
    have hsz : listed.size = l.length := by rw [inv.size]; simp
    apply Array.ext
    · simp [hsz]; omega
    · intro i h1 h2
      rcases Nat.eq_zero_or_pos i with rfl | hi0
      · simp [h1] at hb
        simp [hb]
      · obtain ⟨j, rfl⟩ : ∃ j, i = j + 1 := ⟨i - 1, by omega⟩
        by_cases hi : j + 1 < n
        · have := hall (j + 1) hi (by omega)
          simp [h1] at this
          simp [show j < n - 1 by omega, this]
        · have := inv.tail (j + 1) (by omega) (by simpa [hsz] using h1)
          simp [h1] at this
          simp [List.getElem_append, show ¬ j < n - 1 by omega, this]
  have full : (true :: (List.replicate (n - 1) true ++ List.replicate (l.length - n) false)) = List.replicate n true ++ List.replicate (l.length - n) false := by
    rw [← List.cons_append, ← List.replicate_succ, show n - 1 + 1 = n by omega]
  have hT : ∀ listed, HeadInv .any l.toArray n listed → (∀ i, i < n → listed.getD i true = true) → ∀ a' w', C w' → (∀ w', C w' → wpList P l.toArray Q (l.drop n) a' w') → wpAny P .any l.toArray Q (l.length - n) listed a' w' := by
    intro listed inv hall a' w' hw' hq
    have hl := arr listed true inv (fun i hi _ => hall i hi) (hall 0 hn0)
    rw [full] at hl
    subst hl
    have h1 := wpAny_of_seq (P := P) (md := .any) (Q' := Q) (ops := l.toArray) (l.drop n) n _ a' w' (fun j => by simp [List.getElem?_drop]) (by rw [List.length_drop]; exact hseq) (hq w' hw')
    rwa [List.length_drop] at h1
  have := wpAny_of_quietHeadZ (ops := l.toArray) (ops' := (l.take n).toArray) (g := l.length - n) (Q := Q) (P := P) (md := .any) (C := C) hs hc (by simpa using hn) hops (by simpa using htl) hguard
    (fun i o ho e hee => by
      have hi : i < n := by have := (Array.getElem?_eq_some_iff.1 ho).1; simp at this; omega
      have h1 := List.all_eq_true.1 he i (List.mem_range.2 hi)
      rw [ho] at h1
      simp only [Option.map_some, Option.getD_some] at h1
      rw [Array.all_eq_true'] at h1
      simpa using h1 e hee)
    hT
    (fun f listed inv hall hl0 a' w' hw' hh => by
      have hl := arr listed false inv hall hl0
      subst hl
      change Region.ready .any l.toArray (false :: (List.replicate (n - 1) true ++ List.replicate (l.length - n) false)).toArray = [0, n] at hr0
      change Region.ready .any l.toArray ((false :: (List.replicate (n - 1) true ++ List.replicate (l.length - n) false)).toArray.setIfInBounds n true) = [0] at hr1
      change Region.seqB .any l.toArray (l.length - n - 1) (n + 1) (((false :: (List.replicate (n - 1) true ++ List.replicate (l.length - n) false)).toArray.setIfInBounds n true).setIfInBounds 0 true) = true at hseq2
      generalize (false :: (List.replicate (n - 1) true ++ List.replicate (l.length - n) false)).toArray = L0 at *
      have h0 : 0 ∈ Region.ready .any l.toArray L0 := by rw [hr0]; simp
      obtain ⟨hun0, o0, ho0, hia0⟩ := mem_ready.1 h0
      have ho0' : (l.take n).toArray[0]? = some o0 := (hops 0 hn0).trans ho0
      have q := hh.2 0 (mem_ready.2 ⟨hun0, o0, ho0', hia0⟩)
      obtain ⟨v, hy, hK⟩ := yieldsIn_of_qOp ho0' q
      have hg0 := hguard 0 o0 ho0'
      have allset : ∀ i, i < n → (L0.setIfInBounds 0 true).getD i true = true := fun i hi => by
        by_cases hi0 : 0 = i
        · subst hi0
          rcases Nat.lt_or_ge 0 L0.size with h' | h'
          · simp [h']
          · simp
        · rw [getD_set_ne true hi0]
          exact hall i hi (Ne.symm hi0)
      have inv1 := inv.set h0 hn0
      have last : ∀ f a'', wpAnyQ P .any (l.take n).toArray C (fun a' => ∀ w', C w' → wpList P l.toArray Q (l.drop n) a' w') f (L0.setIfInBounds 0 true) a'' → ∀ w', C w' → wpList P l.toArray Q (l.drop n) a'' w' := by
        intro f a'' hk
        have hnil : Region.ready .any (l.take n).toArray (L0.setIfInBounds 0 true) = [] := by
          rw [List.eq_nil_iff_forall_not_mem]
          intro j hj
          obtain ⟨h1, o, ho, _⟩ := mem_ready.1 hj
          have hjn : j < n := by have := (Array.getElem?_eq_some_iff.1 ho).1; simp at this; omega
          rw [allset j hjn] at h1
          cases h1
        cases f with
        | zero => exact hk.2
        | succ f => exact hk.1 hnil
      have hQ1 := last f _ hK
      rw [show f + 1 + (l.length - n) = (f + (l.length - n)) + 1 by omega]
      refine ⟨fun hh0 => (by rw [hr0] at hh0; cases hh0), fun i hi => ?_⟩
      rw [hr0] at hi
      have hi2 : i = 0 ∨ i = n := by simpa using hi
      rcases hi2 with rfl | rfl
      · have q' : qOp P l.toArray C 0 (wpAnyQ P .any (l.take n).toArray C (fun a' => ∀ w', C w' → wpList P l.toArray Q (l.drop n) a' w') f (L0.setIfInBounds 0 true)) a' := by
          unfold qOp at q ⊢
          simp only [ho0', ho0, Region.wanted, hg0] at q ⊢
          exact q
        exact wpOp_of_qOp hw' (fun a'' w'' hw'' hk => wpAny_adds (hT _ inv1 allset a'' w'' hw'' (last f _ hk)) f) q'
      · obtain ⟨on, hon⟩ : ∃ on, l[i]? = some on := ⟨_, List.getElem?_eq_getElem hn⟩
        have hdrop : l.drop i = on :: l.drop (i + 1) := by
          rw [List.drop_eq_getElem_cons hn]
          congr 1
          rw [List.getElem?_eq_getElem hn] at hon
          injection hon
        have hona : l.toArray[i]? = some on := by rw [List.getElem?_toArray]; exact hon
        have hw1 : wpOp P l.toArray Q i (wpList P l.toArray Q (l.drop (i + 1))) (a'.put o0.dst v) w' := by
          have := hQ1 w' hw'
          rw [hdrop] at this
          unfold wpOp
          simp only [hona]
          exact this
        have hl0 : l[0]? = some o0 := by rw [← List.getElem?_toArray]; exact ho0
        have hyIf : YieldsIf P l.toArray C o0 v a' := by
          refine .inl ⟨by simp [Region.wanted, hg0], fun w hw => ?_⟩
          rcases hy with ⟨_, hv⟩ | ⟨hf, _⟩
          · have h3 := hv w hw
            unfold Oper.quietAt at h3
            generalize hrun : (execOp a'.eval o0).run P w = r at *
            cases r with
            | ok x w2 =>
              obtain ⟨u, rfl⟩ := hz o0 hl0 _ _ _ _ hrun
              simp only [Oper.quietUpon] at h3
              rw [h3.1, h3.2]
            | halt x w2 => simp only [Oper.quietUpon] at h3
          · simp [Region.wanted, hg0] at hf
        have hap' : o0.apart l.toArray on = true := by
          rw [hl0, hon] at hap
          simpa using hap
        have h2 := wpOp_putIf (P := P) (S := C) hona hap' (fun cs b => Region.noSelect_spec hsell 0 o0 cs b ho0) (fun cs b => Region.noSelect_spec hsell i on cs b hona) (fun c a w h => hQ c a _ _ w h) hyIf hw1
        refine wpOp_mono (fun a'' w'' hk => ?_) (hN _ a' w' hw' h2)
        obtain ⟨hCw, hyI, hrest⟩ := hk
        have h4 : wpAny P .any l.toArray Q (l.length - i - 1 + 1) (L0.setIfInBounds i true) a'' w'' := by
          refine ⟨fun hh0 => (by rw [hr1] at hh0; cases hh0), fun j hj => ?_⟩
          rw [hr1] at hj
          obtain rfl : j = 0 := by simpa using hj
          refine hyI.wpOp ho0 hCw ?_
          have h5 := wpAny_of_seq (P := P) (md := .any) (Q' := Q) (ops := l.toArray) (l.drop (i + 1)) (i + 1) ((L0.setIfInBounds i true).setIfInBounds 0 true) (a''.put o0.dst v) w'' (fun j => by simp [List.getElem?_drop]) (by rw [List.length_drop, show l.length - (i + 1) = l.length - i - 1 by omega]; exact hseq2) hrest
          rw [List.length_drop, show l.length - (i + 1) = l.length - i - 1 by omega] at h5
          exact h5
        have h6 := wpAny_adds h4 f
        rw [show l.length - i - 1 + 1 = l.length - i by omega] at h6
        exact h6)
    n (Array.replicate l.length false) a _ hC inv0 hH
  rw [show n + (l.length - n) = l.length by omega] at this
  simpa using this
theorem buildSlice_alloc {t e : TypeId} {i : TypeInfo} {z : Value} (ht : P.underlying t = some (.slice e)) (hi : P.info? e = some i) (hz : i.zero = some z) (hs : i.size = 1) (v : Value) (w w' : World) (x : Value)
    (h : (Instr.buildSlice t 1 #[(0, v)]).run P w = .ok x w') : ∃ o, w' = w.alloc o := by
  simp only [Instr.buildSlice, Sem.run_bind, run_underlying ht, Result.andThen_ok, sizeOf, typeInfo, zeroValue, newRow] at h
  simp [hi, hs, hz, Result.andThen, Sem.run_bind] at h
  generalize Instr.fill (fun i => some (i, 1)) (Array.map (fun x => z.cells[x % z.cells.size]!) (Array.range 1)) [(0, v)] = r at h
  cases r with
  | none => simp [stuck] at h
  | some cells =>
    simp [Result.andThen] at h
    exact ⟨_, h.2.symm⟩
theorem wpOp_slice {n : Nat} {on : Oper} {Q : Exit → Act → World → Prop} {t e : TypeId} {x : Operand} (hon : ops[n]? = some on) (hop : on.op = .buildSlice t 1 #[(0, x)]) {z : Value} {bytes : Nat} (ht : P.underlying t = some (.slice e)) (hinfo : (P.info? e).map (fun i => (i.zero, i.size, i.bytes)) = some (some z, 1, bytes))
    (hC : ∀ w o, C w → C (w.alloc o)) (K : Act → World → Prop) (a : Act) (w : World) (hw : C w) (h : wpOp P ops Q n K a w) : wpOp P ops Q n (fun a' w' => C w' ∧ K a' w') a w := by
  obtain ⟨i, hi, hz, hs, _⟩ := info_parts hinfo
  unfold wpOp at h ⊢
  simp only [hon] at h ⊢
  split
  · rename_i hwt
    rw [if_pos hwt] at h
    rcases h with h | h
    · refine .inl ?_
      unfold Oper.wp at h ⊢
      have hx : execOp a.eval on = Next.value <$> Instr.buildSlice t 1 #[(0, a.eval x)] := by simp [execOp, hop]
      rw [hx] at h ⊢
      rw [Sem.run_map] at h ⊢
      generalize hrun : (Instr.buildSlice t 1 #[(0, a.eval x)]).run P w = r at h ⊢
      cases r with
      | ok u w' =>
        obtain ⟨o, rfl⟩ := buildSlice_alloc ht hi hz hs _ _ _ _ hrun
        exact ⟨hC w o hw, h⟩
      | halt u w' => cases u <;> exact h
    · exact .inr h
  · rename_i hwt
    rw [if_neg hwt] at h
    exact ⟨hw, h⟩
theorem wp_region_quietTailZIn {id : Nat} {Q : Exit → Act → World → Prop} {a : Act} {w : World} {l : List Oper} (n : Nat) (S : World → Prop) (hm : P.follows .mixedOrders = true) (hB : headZB l n = true) (hS : S w.drew)
    (hQ : ∀ c (a : Act) d v w, Q (.panic c) (a.put d v) w → Q (.panic c) a w)
    {o0 : Oper} {t0 : TypeId} {x0 : Operand} (h0 : l[0]? = some o0) (h0p : o0.op = .load t0 x0)
    {on : Oper} {t e : TypeId} {x : Operand} (hon : l[n]? = some on) (hop : on.op = .buildSlice t 1 #[(0, x)]) {z : Value} {bytes : Nat} (ht : P.underlying t = some (.slice e)) (hinfo : (P.info? e).map (fun i => (i.zero, i.size, i.bytes)) = some (some z, 1, bytes))
    (hSa : ∀ w o, S w → S (w.alloc o))
    (h : wpQuiet P (l.take n).toArray (fun w' => ∃ x : InC S, w' = x.w) (fun a' => ∀ w', (∃ x : InC S, w' = x.w) → wpList P l.toArray Q (l.drop n) a' w') (l.take n) a) : (Code.region id l.toArray true).wp P Q a w := by
  refine wpAny_of_quiet0 n hm hB ⟨⟨_, hS⟩, rfl⟩ hQ (fun o ho ρ w w' x hr => ?_) (wpOp_slice (by rw [List.getElem?_toArray]; exact hon) hop ht hinfo (fun w o ⟨x, hx⟩ => ⟨⟨_, hSa w o (by rw [hx]; exact x.ok)⟩, rfl⟩)) h
  rw [h0] at ho
  cases ho
  have hx : execOp ρ o0 = Next.value <$> Instr.loadAt t0 (ρ x0) := by simp [execOp, h0p]
  rw [hx, Sem.run_map] at hr
  generalize (Instr.loadAt t0 (ρ x0)).run P w = r at hr
  cases r with
  | ok u w2 =>
    simp [Result.andThen] at hr
    exact ⟨u, hr.1.symm⟩
  | halt u w2 => simp [Result.andThen] at hr
end
end Go.Proofs.Ytkcmacglomdfcaa
