/-
  REGIONS THAT DRAW THEIR ORDER: heads by their numbers; what is left comes up in any order.
-/
import Derived.Test.YtkcmacglomdfcaaMovT
namespace Go.Proofs.Ytkcmacglomdfcaa

section
variable {P : Program} {ops : Array Oper} {md : Region.Mode} {S : World → Prop} {Mv : World → World → Prop} {Q : Exit → Act → World → Prop}
def headsIB (md : Region.Mode) (ops : Array Oper) : List Nat → Array Bool → Bool
  | [], _ => true
  | k :: is, listed => (Region.ready md ops listed).contains k && Region.free md ops listed k && headsIB md ops is (listed.setIfInBounds k true)
def lstI : List Nat → Array Bool → Array Bool
  | [], listed => listed
  | k :: is, listed => lstI is (listed.setIfInBounds k true)
theorem wpAnyM_of_headsI (hr : ∀ w, Mv w w) (ht : ∀ {A B C : World}, Mv A B → Mv B C → Mv A C) (hsel : Region.noSelect ops = true) (hQ : ∀ c (a : Act) d v w, Q (.panic c) (a.put d v) w → Q (.panic c) a w) (g : Nat) :
    ∀ (is : List Nat) (l : List Oper) (listed : Array Bool) (a : Act) (w : World), is.map (ops[·]?) = l.map some → headsIB md ops is listed = true →
      wpMH P ops S Mv (fun a w => wpAnyM P md ops Q S Mv g (lstI is listed) a w) l a w → wpAnyM P md ops Q S Mv (l.length + g) listed a w
  | [], l, listed, a, w, hl, hB, h => by
    have hl0 : l = [] := by cases l with
      | nil => rfl
      | cons o l => simp at hl
    subst hl0
    rw [List.length_nil, Nat.zero_add]
    exact h
  | k :: is, [], listed, a, w, hl, hB, h => by simp at hl
  | k :: is, o :: l, listed, a, w, hl, hB, h => by
    simp only [List.map_cons, List.cons.injEq] at hl
    simp only [headsIB, Bool.and_eq_true] at hB
    obtain ⟨⟨hrd, hf⟩, hB'⟩ := hB
    obtain ⟨v, hy, hK⟩ := h
    rw [List.length_cons, show l.length + 1 + g = l.length + g + 1 by omega]
    exact wpAnyM_first hr ht hl.1 (Region.noSelect_spec hsel) (fun c a w h => hQ c a _ _ w h) _ listed a w (Region.free_spec hl.1 hf) (by simpa using hrd) hy
      (wpAnyM_of_headsI hr ht hsel hQ g is l _ _ w hl.2 hB' hK)
def movIB (l : List Oper) (is : List Nat) : Bool := Region.noSelect l.toArray && decide (is.length ≤ l.length) && headsIB .any l.toArray is (Array.replicate l.length false)
theorem wp_region_movesI {id : Nat} {a : Act} {w : World} {l : List Oper} (is : List Nat) (hs : List Oper) (hm0 : is.map (l.toArray[·]?) = hs.map some) (S : World → Prop) (Mv : World → World → Prop) (hr : ∀ w, Mv w w) (ht : ∀ {A B C : World}, Mv A B → Mv B C → Mv A C) (hm : P.follows .mixedOrders = true) (hB : movIB l is = true) (hS : S w.drew)
    (hQ : ∀ c (a : Act) d v w, Q (.panic c) (a.put d v) w → Q (.panic c) a w)
    (h : wpMH P l.toArray S Mv (fun a w => wpAnyM P .any l.toArray Q S Mv (l.length - is.length) (lstI is (Array.replicate l.length false)) a w) hs a w.drew) : (Code.region id l.toArray true).wp P Q a w := by
  simp only [movIB, Bool.and_eq_true, decide_eq_true_eq] at hB
  obtain ⟨⟨hsel, hn⟩, hlex⟩ := hB
  refine wp_region_any hm ?_
  have hlen : hs.length = is.length := by have := congrArg List.length hm0; simpa using this.symm
  have := wpAnyM_of_headsI (md := .any) hr ht hsel hQ (l.length - is.length) is hs (Array.replicate l.length false) a w.drew hm0 hlex h
  rw [hlen, show is.length + (l.length - is.length) = l.length by omega] at this
  have h2 := wpAny_of_M hr _ _ _ _ hS this
  simpa using h2
theorem pick_map (l : List Oper) : ∀ (is : List Nat), is.all (fun i => decide (i < l.length)) = true → is.map (l.toArray[·]?) = (is.filterMap (fun i => l[i]?)).map some
  | [], _ => rfl
  | i :: is, h => by
    simp only [List.all_cons, Bool.and_eq_true, decide_eq_true_eq] at h
    rw [List.map_cons, pick_map l is h.2, List.filterMap_cons, List.getElem?_eq_getElem h.1]
    simp [h.1]
theorem wp_region_movesJ {id : Nat} {a : Act} {w : World} {l : List Oper} (is : List Nat) (S : World → Prop) (Mv : World → World → Prop) (hr : ∀ w, Mv w w) (ht : ∀ {A B C : World}, Mv A B → Mv B C → Mv A C) (hm : P.follows .mixedOrders = true) (hB : movIB l is = true) (hlt : is.all (fun i => decide (i < l.length)) = true) (hS : S w.drew)
    (hQ : ∀ c (a : Act) d v w, Q (.panic c) (a.put d v) w → Q (.panic c) a w)
    (h : wpMH P l.toArray S Mv (fun a w => wpAnyM P .any l.toArray Q S Mv (l.length - is.length) (lstI is (Array.replicate l.length false)) a w) (is.filterMap (fun i => l[i]?)) a w.drew) : (Code.region id l.toArray true).wp P Q a w :=
  wp_region_movesI is _ (pick_map l is hlt) S Mv hr ht hm hB hS hQ h
end
end Go.Proofs.Ytkcmacglomdfcaa
