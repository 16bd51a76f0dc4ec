/-
  REGIONS THAT DRAW THEIR ORDER, over any program: operations that yield one value in every world of a class (a class that a callee may move about in), and behind them a tail in one forced order that may write.
-/
import Derived.StillTail
import Derived.BigQuiet
namespace Go.Proofs.Ytkfpnilbjjkhgaa

/-- A world of a class. -/
structure InC (S : World → Prop) where
  w : World
  ok : S w
theorem least {p : Nat → Prop} : ∀ n, (∃ i, i < n ∧ p i) → ∃ i, i < n ∧ p i ∧ ∀ j, j < i → ¬ p j := by
  intro n
  induction n with
  | zero =>
    rintro ⟨i, h, _⟩
    omega
  | succ n ih =>
    rintro ⟨i, hi, hp⟩
    by_cases h : ∃ i, i < n ∧ p i
    · obtain ⟨k, h1, h2, h3⟩ := ih h
      exact ⟨k, by omega, h2, h3⟩
    · have hn : ¬ i < n := fun hlt => h ⟨i, hlt, hp⟩
      obtain rfl : i = n := by omega
      exact ⟨i, by omega, hp, fun j hj hpj => h ⟨j, hj, hpj⟩⟩

section
variable {P : Program} {ops ops' : Array Oper} {md : Region.Mode} {C : World → Prop}

theorem wpAny_more {Q : Exit → Act → World → Prop} : ∀ (f : Nat) (listed : Array Bool) (a : Act) (w : World), wpAny P md ops Q f listed a w → wpAny P md ops Q (f + 1) listed a w
  | 0, _, _, _, h => ⟨fun _ => h.2, fun i hi => by rw [h.1] at hi; cases hi⟩
  | f + 1, _, _, _, h => ⟨h.1, fun i hi => wpOp_mono (fun a' w' h' => wpAny_more f _ a' w' h') (h.2 i hi)⟩
theorem wpAny_adds {Q : Exit → Act → World → Prop} {g : Nat} {listed : Array Bool} {a : Act} {w : World} (h : wpAny P md ops Q g listed a w) : ∀ f, wpAny P md ops Q (f + g) listed a w
  | 0 => by rw [Nat.zero_add]; exact h
  | f + 1 => by rw [show f + 1 + g = (f + g) + 1 by omega]; exact wpAny_more _ _ _ _ (wpAny_adds h f)

theorem wpAny_of_quietHead {n g : Nat} {Q₁ : Act → Prop} {Q : Exit → Act → World → Prop} (hs : Region.sinkB md ops n = true) (hc : Region.chainB md ops n = true) (hn : n < ops.size)
    (hops : ∀ i, i < n → ops'[i]? = ops[i]?) (hsz : ops'.size = n) (hguard : ∀ (i : Nat) (o : Oper), ops'[i]? = some o → o.guard = none) (hedge : ∀ (i : Nat) (o : Oper), ops'[i]? = some o → ∀ e ∈ o.after, e.on < i)
    (hT : ∀ listed, HeadInv md ops n listed → (∀ i, i < n → listed.getD i true = true) → ∀ a w, C w → Q₁ a → wpAny P md ops Q g listed a w) :
    ∀ (f : Nat) (listed : Array Bool) (a : Act) (w : World), C w → HeadInv md ops n listed → wpAnyQ P md ops' C Q₁ f listed a → wpAny P md ops Q (f + g) listed a w := by
  have some_lt : ∀ (i : Nat) (o : Oper), ops'[i]? = some o → i < n := fun i o h => by rw [← hsz]; exact (Array.getElem?_eq_some_iff.1 h).1
  intro f
  induction f with
  | zero =>
    intro listed a w hw inv h
    refine wpAny_adds (hT listed inv (fun i hi => ?_) a w hw h.2) 0
    cases hl : listed.getD i true with
    | true => rfl
    | false =>
      obtain ⟨k, hk, hun, hmin⟩ := least (p := fun i => listed.getD i true = false) n ⟨i, hi, hl⟩
      have ho : ops'[k]? = some ops'[k] := Array.getElem?_eq_getElem (by rw [hsz]; exact hk)
      have hr : k ∈ Region.ready md ops' listed := mem_ready.2 ⟨hun, _, ho, fun e he _ => by
        have hlt := hedge k _ ho e he
        have h1 := hmin e.on hlt
        simp only [Bool.not_eq_false] at h1
        have hsz' : e.on < listed.size := by rw [inv.size]; omega
        simp [hsz'] at h1 ⊢
        exact h1⟩
      rw [h.1] at hr
      cases hr
  | succ f ih =>
    intro listed a w hw inv h
    by_cases hall : ∀ i, i < n → listed.getD i true = true
    · have hr : Region.ready md ops' listed = [] := by
        rw [List.eq_nil_iff_forall_not_mem]
        intro j hj
        obtain ⟨h1, o, ho, _⟩ := mem_ready.1 hj
        rw [hall j (some_lt j o ho)] at h1
        cases h1
      exact wpAny_adds (hT listed inv hall a w hw (h.1 hr)) _
    · have hex : ∃ i, i < n ∧ listed.getD i true = false := by
        apply Classical.byContradiction
        intro hno
        refine hall fun i hi => ?_
        cases hl : listed.getD i true with
        | true => rfl
        | false => exact absurd ⟨i, hi, hl⟩ hno
      obtain ⟨k, hk, hun, hmin⟩ := least (p := fun i => listed.getD i true = false) n hex
      have ho : ops'[k]? = some ops'[k] := Array.getElem?_eq_getElem (by rw [hsz]; exact hk)
      have hready : ∀ e ∈ (ops'[k]'(by rw [hsz]; exact hk)).after, Region.binds md e = true → listed.getD e.on false = true := fun e he _ => by
        have hlt := hedge k _ ho e he
        have h1 := hmin e.on hlt
        simp only [Bool.not_eq_false] at h1
        have hsz' : e.on < listed.size := by rw [inv.size]; omega
        simp [hsz'] at h1 ⊢
        exact h1
      have hrk : k ∈ Region.ready md ops listed := mem_ready.2 ⟨hun, _, (hops k hk).symm.trans ho, hready⟩
      rw [show f + 1 + g = (f + g) + 1 by omega]
      refine ⟨fun h0 => (by rw [h0] at hrk; cases hrk), fun i hi => ?_⟩
      have hin : i < n := by
        rcases Nat.lt_or_ge i n with h' | h'
        · exact h'
        · exact absurd hi (tail_waits hs hc hn inv _ k rfl hk hun i h')
      obtain ⟨hiun, oi, hoi, hia⟩ := mem_ready.1 hi
      have hoi' : ops'[i]? = some oi := (hops i hin).trans hoi
      have q := h.2 i (mem_ready.2 ⟨hiun, oi, hoi', hia⟩)
      have q' : qOp P ops C i (wpAnyQ P md ops' C Q₁ f (listed.setIfInBounds i true)) a := by
        unfold qOp at q ⊢
        simp only [hoi', hoi, Region.wanted, hguard i oi hoi'] at q ⊢
        exact q
      exact wpOp_of_qOp hw (fun a' w' hw' hk' => ih _ a' w' hw' (inv.set hi hin) hk') q'

def headB (l : List Oper) (n : Nat) : Bool :=
  Region.noSelect (l.take n).toArray && decide (n < l.length) && Region.sinkB .any l.toArray n && Region.chainB .any l.toArray n && Region.lexFrom .any (l.take n).toArray n 0 (Array.replicate l.length false) &&
  ((l.take n).all fun o => o.guard.isNone) && ((List.range n).all fun i => (((l.take n).toArray[i]?).map fun o => o.after.all fun e => decide (e.on < i)).getD true) &&
  Region.seqB .any l.toArray (l.length - n) n (List.replicate n true ++ List.replicate (l.length - n) false).toArray

theorem wp_region_quietTail {id : Nat} {Q : Exit → Act → World → Prop} {a : Act} {w : World} {l : List Oper} (n : Nat) (hm : P.follows .mixedOrders = true) (hB : headB l n = true) (hC : C { w with drawn := w.drawn + 1 })
    (h : wpQuiet P (l.take n).toArray C (fun a' => ∀ w', C w' → wpList P l.toArray Q (l.drop n) a' w') (l.take n) a) : (Code.region id l.toArray true).wp P Q a w := by
  simp only [headB, Bool.and_eq_true, decide_eq_true_eq] at hB
  obtain ⟨⟨⟨⟨⟨⟨⟨hsel, hn⟩, hs⟩, hc⟩, hlex⟩, hg⟩, he⟩, hseq⟩ := hB
  have htl : (l.take n).length = n := by simp; omega
  have hH := wpAnyQ_lex (C := C) (md := .any) hsel (l.take n) 0 (Array.replicate l.length false) a (by simp) (by rw [htl]; exact hlex) h
  rw [htl] at hH
  refine wp_region_any hm ?_
  have inv0 : HeadInv .any l.toArray n (Array.replicate l.length false) :=
    ⟨by simp, fun j oj _ hl => (by rw [getD_replicate_false] at hl; cases hl), fun t _ ht => getD_in (by simpa using ht) (getD_replicate_false _ _)⟩
  have := wpAny_of_quietHead (ops := l.toArray) (ops' := (l.take n).toArray) (g := l.length - n) (Q := Q) (P := P) (md := .any) (C := C) hs hc (by simpa using hn) (fun i hi => by simp [hi]) (by simpa using htl)
    (fun i o ho => by
      have := List.all_eq_true.1 hg o (by
        rw [List.getElem?_toArray] at ho
        exact List.mem_of_getElem? ho)
      simpa using this)
    (fun i o ho e hee => by
      have hi : i < n := by have := (Array.getElem?_eq_some_iff.1 ho).1; simp at this; omega
      have h1 := List.all_eq_true.1 he i (List.mem_range.2 hi)
      rw [ho] at h1
      simp only [Option.map_some, Option.getD_some] at h1
      rw [Array.all_eq_true'] at h1
      simpa using h1 e hee)
    (fun listed inv hall a' w' hw' hq => by
      have hl : listed = (List.replicate n true ++ List.replicate (l.length - n) false).toArray := by
        have hsz : listed.size = l.length := by rw [inv.size]; simp
        apply Array.ext
        · simp [hsz]; omega
        · intro i h1 h2
          by_cases hi : i < n
          · have := hall i hi
            simp [h1] at this
            simp [hi, this]
          · have := inv.tail i (by omega) (by simpa [hsz] using h1)
            simp [h1] at this
            simp [List.getElem_append, hi, this]
      subst hl
      have h1 := wpAny_of_seq (P := P) (md := .any) (Q' := Q) (ops := l.toArray) (l.drop n) n _ a' w' (fun j => by simp [List.getElem?_drop]) (by rw [List.length_drop]; exact hseq) (hq w' hw')
      rwa [List.length_drop] at h1)
    n (Array.replicate l.length false) a _ hC inv0 hH
  rw [show n + (l.length - n) = l.length by omega] at this
  simpa using this

/-- A region without a tail, in a class of worlds. -/
theorem wp_region_quietIn {id : Nat} {Q : Exit → Act → World → Prop} {a : Act} {w : World} {l : List Oper} (S : World → Prop) (hm : P.follows .mixedOrders = true) (hB : Region.lexB .any l.toArray = true) (hS : S w.drew)
    (h : wpQuiet P l.toArray (fun w' => ∃ x : InC S, w' = x.w) (fun a' => ∀ w', (∃ x : InC S, w' = x.w) → Q .normal a' w') l a) : (Code.region id l.toArray true).wp P Q a w :=
  wp_region_quiet (C := fun w' => ∃ x : InC S, w' = x.w) hm hB ⟨⟨_, hS⟩, rfl⟩ (by simpa using h)
/-- .. and with one. -/
theorem wp_region_quietTailIn {id : Nat} {Q : Exit → Act → World → Prop} {a : Act} {w : World} {l : List Oper} (n : Nat) (S : World → Prop) (hm : P.follows .mixedOrders = true) (hB : headB l n = true) (hS : S w.drew)
    (h : wpQuiet P (l.take n).toArray (fun w' => ∃ x : InC S, w' = x.w) (fun a' => ∀ w', (∃ x : InC S, w' = x.w) → wpList P l.toArray Q (l.drop n) a' w') (l.take n) a) : (Code.region id l.toArray true).wp P Q a w :=
  wp_region_quietTail n hm hB ⟨⟨_, hS⟩, rfl⟩ h
end
end Go.Proofs.Ytkfpnilbjjkhgaa
