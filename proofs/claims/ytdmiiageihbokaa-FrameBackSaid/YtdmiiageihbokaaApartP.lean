/-
  WORDS for Apart: labels on blocks, what stays but for one label, rows that are marked.
-/
import Derived.Test.YtdmiiageihbokaaNum
namespace Go.Proofs.Ytdmiiageihbokaa
open Go.RowKit

/-- Blocks of other labels stay as they were. -/
structure Stays (o : Nat → Nat) (l : Nat) (w w' : World) : Prop where
  size : w.heap.size ≤ w'.heap.size
  block : ∀ x, x < w.heap.size → o x ≠ l → w'.heap[x]? = w.heap[x]?
theorem Stays.refl (o : Nat → Nat) (l : Nat) (w : World) : Stays o l w w := ⟨Nat.le_refl _, fun _ _ _ => rfl⟩
theorem Stays.grown {o : Nat → Nat} {l : Nat} {w w1 w2 : World} {row : Option Nat} (h : Stays o l w w1) (hg : w1.grownBy w2 row) (hr : ∀ g, row = some g → g < w.heap.size → o g = l) : Stays o l w w2 :=
  ⟨Nat.le_trans h.size hg.size, fun x hx ho => (hg.block x (Nat.lt_of_lt_of_le hx h.size) (fun e => ho (hr x e.symm hx))).trans (h.block x hx ho)⟩
theorem Stays.alloc {o : Nat → Nat} {l : Nat} {w w1 : World} (h : Stays o l w w1) (ob : Obj) : Stays o l w (w1.alloc ob) :=
  h.grown (World.grownBy_alloc w1 ob none) (by intro g hg; cases hg)
theorem Stays.cell {o : Nat → Nat} {l : Nat} {w w1 : World} (h : Stays o l w w1) {a : Addr} {v : Value} (hc : w.cell? a = some v) (ho : o a.block ≠ l) : w1.cell? a = some v :=
  (World.cell?_of_block (h.block a.block (World.block_lt_of_cell? w a hc) ho)).trans hc
theorem Stays.row {o : Nat → Nat} {l : Nat} {w w1 : World} (h : Stays o l w w1) {base : Nat} {e : TypeId} {size : Nat} {v : Value} {n : Nat} {xs : List Value} (hr : w.ownsRow base e size v n xs) (ho : ∀ g, v.ownBlock = some g → o g ≠ l) : w1.ownsRow base e size v n xs := by
  refine ⟨hr.1, ?_⟩
  rcases hr.2 with h2 | ⟨g, cap, cur, rfl, hg, hh, r⟩
  · exact .inl h2
  · exact .inr ⟨g, cap, cur, rfl, hg, (h.block g (Array.getElem?_eq_some_iff.1 hh).1 (ho g rfl)).trans hh, r⟩
theorem Stays.rv {o : Nat → Nat} {l : Nat} {w w1 : World} (h : Stays o l w w1) {A : Option Addr} {n : Nat} {vs : List Value} (hr : RV w A n vs) (ho : ∀ ad, A = some ad → o ad.block ≠ l) : RV w1 A n vs :=
  ⟨hr.1, fun hn => by
    obtain ⟨b, off, rfl, hc⟩ := hr.2 hn
    exact ⟨b, off, rfl, fun j u hu => h.cell (hc j u hu) (ho ⟨b, off, none⟩ rfl)⟩⟩

/-- Rows of bytes, each with its label. -/
structure Lot (w : World) (B : Nat) (o : Nat → Nat) (us : List Value) (ns : Nat → Nat) (xs : Nat → List UInt8) : Prop where
  own : ∀ (i : Nat) u, us[i]? = some u → w.ownsRow B 5 1 u (ns i) ((xs i).map B8)
  lab : ∀ (i : Nat) u g, us[i]? = some u → u.ownBlock = some g → o g = i + 2
theorem Lot.stays {w w1 : World} {B : Nat} {o : Nat → Nat} {us : List Value} {ns : Nat → Nat} {xs : Nat → List UInt8} {l : Nat} (h : Lot w B o us ns xs) (hs : Stays o l w w1) (hl : ∀ (i : Nat) u, us[i]? = some u → i + 2 ≠ l) : Lot w1 B o us ns xs :=
  ⟨fun i u hu => hs.row (h.own i u hu) (fun g hg => by rw [h.lab i u g hu hg]; exact hl i u hu), h.lab⟩
/-- One of the rows is another one now. -/
theorem Lot.set {w w1 : World} {B : Nat} {o : Nat → Nat} {us : List Value} {ns : Nat → Nat} {xs ys : Nat → List UInt8} {k : Nat} {u : Value} (h : Lot w B o us ns xs) (hs : Stays o (k + 2) w w1) (hk : us[k]? = some u) (hr : w1.ownsRow B 5 1 u (ns k) ((ys k).map B8)) (hy : ∀ i, i ≠ k → ys i = xs i) : Lot w1 B o us ns ys := by
  refine ⟨fun i v hv => ?_, h.lab⟩
  by_cases e : i = k
  · subst e
    rw [hk] at hv
    cases hv
    exact hr
  · rw [hy i e]
    exact hs.row (h.own i v hv) (fun g hg => by rw [h.lab i v g hv hg]; omega)
/-- Other labels for what is new. -/
theorem Lot.relabel {w : World} {B : Nat} {o o' : Nat → Nat} {us : List Value} {ns : Nat → Nat} {xs : Nat → List UInt8} (h : Lot w B o us ns xs) (s : Nat) (hw : ∀ (i : Nat) u g, us[i]? = some u → u.ownBlock = some g → g < s) (ho : ∀ x, x < s → o' x = o x) : Lot w B o' us ns xs :=
  ⟨h.own, fun i u g hu hg => by rw [ho g (hw i u g hu hg)]; exact h.lab i u g hu hg⟩
theorem Lot.lt {w : World} {B : Nat} {o : Nat → Nat} {us : List Value} {ns : Nat → Nat} {xs : Nat → List UInt8} (h : Lot w B o us ns xs) {i : Nat} {u : Value} {g : Nat} (hu : us[i]? = some u) (hg : u.ownBlock = some g) : g < w.heap.size := ((h.own i u hu).lt g hg).2
theorem Lot.snoc {w : World} {B : Nat} {o : Nat → Nat} {us : List Value} {ns : Nat → Nat} {xs : Nat → List UInt8} (h : Lot w B o us ns xs) {v : Value} (hr : w.ownsRow B 5 1 v (ns us.length) ((xs us.length).map B8)) (hl : ∀ g, v.ownBlock = some g → o g = us.length + 2) : Lot w B o (us ++ [v]) ns xs := by
  have key : ∀ (i : Nat) u, (us ++ [v])[i]? = some u → us[i]? = some u ∨ (i = us.length ∧ u = v) := by
    intro i u hu
    by_cases hi : i < us.length
    · rw [List.getElem?_append_left hi] at hu
      exact .inl hu
    · rw [List.getElem?_append_right (by omega)] at hu
      have h0 : i - us.length = 0 := by
        have := (List.getElem?_eq_some_iff.1 hu).1
        simp at this
        omega
      rw [h0] at hu
      cases hu
      exact .inr ⟨by omega, rfl⟩
  constructor
  · intro i u hu
    rcases key i u hu with h' | ⟨rfl, rfl⟩
    · exact h.own i u h'
    · exact hr
  · intro i u g hu hg
    rcases key i u hu with h' | ⟨rfl, rfl⟩
    · exact h.lab i u g h' hg
    · exact hl g hg

/-- Labels for what is new. -/
def relab (o : Nat → Nat) (s l : Nat) : Nat → Nat := fun x => if x < s then o x else l
theorem relab_lt {o : Nat → Nat} {s l x : Nat} (h : x < s) : relab o s l x = o x := by simp [relab, h]
theorem relab_ge {o : Nat → Nat} {s l x : Nat} (h : s ≤ x) : relab o s l x = l := by simp [relab, Nat.not_lt.2 h]
theorem slice_one (A : Option Addr) (n c : Nat) : ∀ u ∈ [Value.slice A n c], u.oneCell' = true := by
  intro u hu
  simp at hu
  subst hu
  rfl
def lenV : Value → Nat
  | .slice _ n _ => n
  | _ => 0
/-- A row of a call's own, as a slice. -/
theorem own_form {w : World} {B : Nat} {e : TypeId} {v : Value} {n : Nat} {xs : List Value} (h : w.ownsRow B e 1 v n xs) :
    ∃ A c, v = .slice A n c ∧ n ≤ c ∧ c ≤ maxLen ∧ RV w A n xs ∧ ∀ ad, A = some ad → v.ownBlock = some ad.block ∧ ad = ⟨ad.block, 0, none⟩ := by
  have hl := h.1
  rw [Nat.mul_one] at hl
  rcases h.2 with ⟨rfl, rfl⟩ | ⟨g, cap, cur, rfl, _, hh, hnc, hcm, _, htake⟩
  · exact ⟨none, 0, rfl, Nat.le_refl _, Nat.zero_le _, ⟨hl, fun h0 => absurd h0 (by omega)⟩, fun ad h => by cases h⟩
  · refine ⟨some ⟨g, 0, none⟩, cap, rfl, hnc, hcm, RV.of_rangeAt (fun j u hu => ?_) hl, fun ad h => by cases h; exact ⟨rfl, rfl⟩⟩
    have := h.cells (g := g) rfl j u hu
    rw [Addr.add_mid] at this
    exact this
/-- A shorter view of a row that is a call's own. -/
theorem own_prefix {w w' : World} {B : Nat} {e : TypeId} {u v : Value} {n m : Nat} {xs ys : List Value} (hu : w.ownsRow B e 1 u n xs) (hv : w.ownsRow B e 1 v m ys) (hv' : w'.ownsRow B e 1 v m ys) (hg : u.ownBlock ≠ none → u.ownBlock = v.ownBlock) (hx : xs = ys.take n) (hnm : n ≤ m) : w'.ownsRow B e 1 u n xs := by
  refine ⟨hu.1, ?_⟩
  rcases hu.2 with h0 | ⟨g, cap, cur, rfl, hb, hh, hnc, hcm, hcs, htake⟩
  · exact .inl h0
  · have hg' := hg (by simp [Value.ownBlock])
    rcases hv.2 with ⟨rfl, _⟩ | ⟨g1, cap1, cur1, rfl, _, hh1, _, _, hcs1, _⟩
    · simp [Value.ownBlock] at hg'
    · simp [Value.ownBlock] at hg'
      subst hg'
      rw [hh] at hh1
      simp only [Option.some.injEq, Obj.cells.injEq, and_true] at hh1
      obtain ⟨rfl⟩ := hh1
      rcases hv'.2 with ⟨h, _⟩ | ⟨g2, cap2, cur2, h2, _, hh2, hm2, hcm2, hcs2, htake2⟩
      · cases h
      · cases h2
        refine .inr ⟨g, cap, cur2, rfl, hb, hh2, hnc, hcm, by omega, ?_⟩
        rw [hx, ← htake2, List.take_take]
        congr 1
        omega

/-! ### the marks -/
def markB (k j : Nat) : UInt8 := UInt8.ofNat (31 * k + 3 * j + 1)
def marks (k n : Nat) : List UInt8 := (List.range n).map (markB k)
theorem marks_len (k n : Nat) : (marks k n).length = n := by simp [marks]
theorem marks_succ (k n : Nat) : marks k (n + 1) = marks k n ++ [markB k n] := by simp [marks, List.range_succ]
theorem marks_take (k n m : Nat) (h : n ≤ m) : (marks k m).take n = marks k n := by
  rw [marks, ← List.map_take, List.take_range, Nat.min_eq_left h, marks]
theorem marks_at (k n j : Nat) (h : j < n) : (marks k n)[j]? = some (markB k j) := by
  simp [marks, h]
theorem markB_int (k j : Nat) : (31 * (k : Int) + 3 * (j : Int) + 1) % 256 = ((markB k j).toNat : Int) := by
  rw [markB, UInt8.toNat_ofNat']
  omega
def mixed (k : Nat) (xs : List UInt8) (j : Nat) : List UInt8 := marks k j ++ xs.drop j
theorem mixed_zero (k : Nat) (xs : List UInt8) : mixed k xs 0 = xs := by simp [mixed, marks]
theorem mixed_all (k : Nat) (xs : List UInt8) (n : Nat) (h : xs.length = n) : mixed k xs n = marks k n := by
  rw [mixed, List.drop_of_length_le (by omega), List.append_nil]
theorem mixed_len (k : Nat) (xs : List UInt8) (j : Nat) (h : j ≤ xs.length) : (mixed k xs j).length = xs.length := by
  rw [mixed, List.length_append, marks_len, List.length_drop]; omega
theorem mixed_set (k : Nat) (xs : List UInt8) (j : Nat) (h : j < xs.length) : (mixed k xs j).set j (markB k j) = mixed k xs (j + 1) := by
  rw [mixed, List.set_append_right _ _ (by rw [marks_len]; exact Nat.le_refl _), marks_len, Nat.sub_self, mixed, marks_succ, List.append_assoc]
  congr 1
  rw [List.drop_eq_getElem_cons h]
  rfl
end Go.Proofs.Ytdmiiageihbokaa
