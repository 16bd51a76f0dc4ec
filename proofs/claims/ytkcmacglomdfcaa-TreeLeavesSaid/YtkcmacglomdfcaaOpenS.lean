/-
  DIGESTS THAT CAME IN: one by value, a row of them; rows of digests in memory.
-/
import Derived.Test.YtkcmacglomdfcaaOpen
import Derived.WideKeyArr2
namespace Go.Proofs.Ytkcmacglomdfcaa
open Go.ChangeShapes Go.WideShapes Go.ChangeAt Go.RowKit

/-- A digest as a value. -/
def SumV (d : List UInt8) : Value := .agg (d.map B8).toArray
/-- The slice with address A and n digests reads as ls. -/
def RS (w : World) (A : Option Addr) (n : Nat) (ls : List (List UInt8)) : Prop :=
  ls.length = n ∧ (∀ x ∈ ls, x.length = 32) ∧ (0 < n → ∃ b o, A = some ⟨b, o, none⟩ ∧ ∀ i x, ls[i]? = some x → w.rangeAt b (o + i * 32) (x.map B8))
def SS (w : World) (v : Value) (ls : List (List UInt8)) : Prop := ∃ A n c, v = .slice A n c ∧ n ≤ c ∧ c ≤ maxLen ∧ RS w A n ls
section
variable {w w' : World} {A : Option Addr} {n : Nat} {ls : List (List UInt8)}
theorem RS.len (h : RS w A n ls) : ls.length = n := h.1
theorem RS.nil (w : World) (A : Option Addr) : RS w A 0 [] := ⟨rfl, fun x hx => by simp at hx, fun h => absurd h (by omega)⟩
theorem RS.at_ {i : Nat} (h : RS w A n ls) (hi : i < n) : ∃ b o x, A = some ⟨b, o, none⟩ ∧ ls[i]? = some x ∧ x.length = 32 ∧ w.rangeAt b (o + i * 32) (x.map B8) := by
  obtain ⟨b, o, e, hc⟩ := h.2.2 (by omega)
  have hl : i < ls.length := by rw [h.1]; exact hi
  exact ⟨b, o, ls[i], e, List.getElem?_eq_getElem hl, h.2.1 _ (List.getElem_mem hl), hc i _ (List.getElem?_eq_getElem hl)⟩
theorem rangeAt_below' {b o : Nat} {vs : List Value} (h : w.rangeAt b o vs) (hb : Below w.heap.size w w') : w'.rangeAt b o vs := fun j v hv =>
  (hb.cell (World.block_lt_of_cell? w _ (h j v hv))).trans (h j v hv)
theorem RS.below (h : RS w A n ls) (hb : Below w.heap.size w w') : RS w' A n ls :=
  ⟨h.1, h.2.1, fun hn => by
    obtain ⟨b, o, e, hc⟩ := h.2.2 hn
    exact ⟨b, o, e, fun i x hx => rangeAt_below' (hc i x hx) hb⟩⟩
theorem RS.take (h : RS w A n ls) {k : Nat} (hk : k ≤ n) : RS w A k (ls.take k) := by
  refine ⟨by rw [List.length_take, h.1]; omega, fun x hx => h.2.1 x (List.mem_of_mem_take hx), fun hn => ?_⟩
  obtain ⟨b, o, e, hc⟩ := h.2.2 (by omega)
  refine ⟨b, o, e, fun i x hx => hc i x ?_⟩
  rw [List.getElem?_take] at hx
  split at hx
  · exact hx
  · cases hx
theorem RS.cut (h : RS w A n ls) {k cap : Nat} (hk : k ≤ n) (hc : n ≤ cap) : RS w (if cap = k then A else A.map (·.add (k * 32))) (n - k) (ls.drop k) := by
  refine ⟨by rw [List.length_drop, h.1], fun x hx => h.2.1 x (List.mem_of_mem_drop hx), fun hn => ?_⟩
  obtain ⟨b, o, rfl, hcell⟩ := h.2.2 (by omega)
  rw [if_neg (by omega)]
  refine ⟨b, o + k * 32, by simp [Addr.add_mid], fun i x hx => ?_⟩
  have := hcell (k + i) x (by rw [← hx, List.getElem?_drop])
  rw [Nat.add_mul, ← Nat.add_assoc] at this
  exact this
theorem rangeAt_app {b o : Nat} {xs ys : List Value} (h : w.rangeAt b o xs) (h' : w.rangeAt b (o + xs.length) ys) : w.rangeAt b o (xs ++ ys) := fun j v hv => by
  by_cases hj : j < xs.length
  · exact h j v (by rw [List.getElem?_append_left hj] at hv; exact hv)
  · have := h' (j - xs.length) v (by rw [List.getElem?_append_right (by omega)] at hv; exact hv)
    rw [show o + xs.length + (j - xs.length) = o + j by omega] at this
    exact this
theorem rangeAt_flat {b : Nat} : ∀ (ls : List (List UInt8)) (o : Nat), (∀ x ∈ ls, x.length = 32) → (∀ i x, ls[i]? = some x → w.rangeAt b (o + i * 32) (x.map B8)) → w.rangeAt b o (ls.flatten.map B8)
  | [], _, _, _ => fun j v hv => by simp at hv
  | x :: r, o, hl, h => by
    rw [List.flatten_cons, List.map_append]
    have hx := hl x (by simp)
    refine rangeAt_app (by simpa using h 0 x rfl) ?_
    rw [List.length_map, hx]
    refine rangeAt_flat r (o + 32) (fun y hy => hl y (by simp [hy])) fun i y hy => ?_
    have := h (i + 1) y (by simpa using hy)
    rw [Nat.add_mul, Nat.one_mul, Nat.add_comm (i * 32) 32, ← Nat.add_assoc] at this
    exact this
theorem rangeAt_part {b : Nat} : ∀ (ls : List (List UInt8)) (o : Nat), (∀ x ∈ ls, x.length = 32) → w.rangeAt b o (ls.flatten.map B8) → ∀ i x, ls[i]? = some x → w.rangeAt b (o + i * 32) (x.map B8)
  | [], _, _, _ => fun i x hx => by simp at hx
  | y :: r, o, hl, h => fun i x hx => by
    rw [List.flatten_cons, List.map_append] at h
    have hy := hl y (by simp)
    cases i with
    | zero =>
      simp at hx
      subst hx
      simpa using rangeAt_left h
    | succ i =>
      have h2 := rangeAt_right h
      rw [List.length_map, hy] at h2
      have := rangeAt_part r (o + 32) (fun z hz => hl z (by simp [hz])) h2 i x (by simpa using hx)
      rw [Nat.add_mul, Nat.one_mul, Nat.add_comm (i * 32) 32, ← Nat.add_assoc]
      exact this
theorem flat_len : ∀ (ls : List (List UInt8)), (∀ x ∈ ls, x.length = 32) → ls.flatten.length = ls.length * 32
  | [], _ => rfl
  | x :: r, h => by
    rw [List.flatten_cons, List.length_append, h x (by simp), flat_len r (fun y hy => h y (by simp [hy])), List.length_cons]
    omega
theorem RS.rc (h : RS w A n ls) : RC w A (ls.flatten.map B8) := fun hne => by
  have hn : 0 < n := by
    rcases Nat.eq_zero_or_pos n with h0 | h0
    · have : ls = [] := List.eq_nil_of_length_eq_zero (by rw [h.1, h0])
      subst this
      simp at hne
    · exact h0
  obtain ⟨b, o, e, hc⟩ := h.2.2 hn
  exact ⟨b, o, e, rangeAt_flat ls o h.2.1 hc⟩
theorem RS.of_rangeAt {b o : Nat} (hl : ∀ x ∈ ls, x.length = 32) (hn : ls.length = n) (h : w.rangeAt b o (ls.flatten.map B8)) : RS w (some ⟨b, o, none⟩) n ls :=
  ⟨hn, hl, fun _ => ⟨b, o, rfl, rangeAt_part ls o hl h⟩⟩
theorem SS.below {v : Value} (h : SS w v ls) (hb : Below w.heap.size w w') : SS w' v ls := by
  obtain ⟨A, n, c, rfl, h1, h2, h3⟩ := h
  exact ⟨A, n, c, rfl, h1, h2, h3.below hb⟩
/-- A row of digests of the call's own. -/
theorem SS.of_own {base : Nat} {e : TypeId} {v : Value} {k : Nat} (h : w.ownsRow base e 32 v k (ls.flatten.map B8)) (hl : ∀ x ∈ ls, x.length = 32) (hk : ls.length = k) : SS w v ls := by
  rcases h.2 with ⟨rfl, hx⟩ | ⟨g, cap, cur, rfl, _, hh, hnc, hcm, _, htake⟩
  · have : ls = [] := List.eq_nil_of_length_eq_zero (by omega)
    subst this
    subst hx
    exact ⟨none, 0, 0, rfl, Nat.le_refl _, Nat.zero_le _, RS.nil _ _⟩
  · refine ⟨_, k, cap, rfl, hnc, hcm, RS.of_rangeAt hl hk fun j u hu => ?_⟩
    have := h.cells (g := g) rfl j u hu
    rw [Addr.add_mid] at this
    exact this
end

section
variable {H : Type} {enc : TypeId × Value → H} {P : Program} {w : World} {base : Nat} {held : Bool}
theorem trod_sum {t e : TypeId} {fuel : Nat} {cs : List Value} {x : DataW H × List MemPlace} (ht : P.underlying t = some (.array 32 e)) (he : P.underlying e = some (.int .u8)) (hc : P.cellsOf e = 1) (hct : P.cellsOf t = 32)
    (h : DataW.trod enc P w base (fun _ => true) held fuel t cs = some x) : ∃ bs : List UInt8, bs.length = 32 ∧ cs = bs.map B8 := by
  obtain ⟨xs, m, rfl, rfl, hlen, hxl, hel⟩ := DataW.trod_array ht h
  rw [hct] at hlen
  have hat : ∀ i (hi : i < 32), ∃ b : UInt8, cs[i]? = some (B8 b) := by
    intro i hi
    have h1 := hel i hi
    rw [hc, Nat.mul_one, List.getElem?_eq_getElem (by omega)] at h1
    obtain ⟨a, ea, _, wa⟩ := DataW.trod_int he h1
    refine ⟨UInt8.ofNat a.toNat, ?_⟩
    rw [b8_of_wf wa]
    have h2 : ((cs.drop i).take 1)[0]? = some (.int .u8 a) := by rw [ea]; rfl
    rw [List.getElem?_take_of_lt (by decide), List.getElem?_drop] at h2
    simpa using h2
  refine ⟨cs.map fun v => match v with | .int _ z => UInt8.ofNat z.toNat | _ => 0, by simpa using hlen, ?_⟩
  apply List.ext_getElem?
  intro i
  by_cases hi : i < 32
  · obtain ⟨b, hb⟩ := hat i hi
    rw [hb, List.getElem?_map, List.getElem?_map, hb]
    simp [B8]
  · rw [List.getElem?_eq_none (by omega), List.getElem?_eq_none (by simp [hlen]; omega)]
theorem open_sum {t e : TypeId} {v : Value} {d : DataW H} {p : List MemPlace} {r : Reach} {b0 : Nat} (K : WideMaps.ArrKey P t e 32) (he : P.underlying e = some (.int .u8))
    (hv : Value.okWide P w r b0 t v) (h : DataW.Trod enc P w base (fun _ => true) held t v d p) : ∃ bs : List UInt8, v = SumV bs ∧ bs.length = 32 := by
  obtain ⟨xs, rfl, _⟩ := WideMaps.okWide_arr K hv
  obtain ⟨fuel, hf⟩ := h
  obtain ⟨bs, hl, hcs⟩ := trod_sum K.hu he K.one K.size hf
  refine ⟨bs, ?_, hl⟩
  simp only [Value.cells] at hcs
  rw [SumV, ← hcs]
theorem open_sums {t te e : TypeId} {v : Value} {d : DataW H} {p : List MemPlace} {r : Reach} {b0 : Nat} (ht : P.underlying t = some (.slice te)) (K : WideMaps.ArrKey P te e 32) (he : P.underlying e = some (.int .u8))
    (hv : Value.okWide P w r b0 t v) (h : DataW.Trod enc P w base (fun _ => true) held t v d p) : ∃ ls, SS w v ls := by
  obtain ⟨a, len, cap, rfl⟩ := okWide_slice ht hv
  obtain ⟨fuel, hf⟩ := h
  rcases Go.Deep.open_slice ht hf with ⟨hcs, hx⟩ | ⟨a', len', cap', m, n, D, Pl, hcs, _, hl, hm, hmm, hx, hel⟩
  · simp [Value.cells] at hcs
    obtain ⟨rfl, rfl, rfl⟩ := hcs
    exact ⟨[], none, 0, 0, rfl, Nat.le_refl _, Nat.zero_le _, RS.nil _ _⟩
  · simp [Value.cells] at hcs
    obtain ⟨rfl, rfl, rfl⟩ := hcs
    rw [if_pos rfl] at hmm
    subst hmm
    have key : ∀ i, i < len → ∃ bs : List UInt8, bs.length = 32 ∧ ∀ j u, (bs.map B8)[j]? = some u → w.cell? (a'.add (i * 32 + j)) = some u := by
      intro i hi
      obtain ⟨cs', hcs', htr⟩ := hel i (by omega)
      obtain ⟨bs, hbl, rfl⟩ := trod_sum K.hu he K.one K.size htr
      rw [K.size] at hcs'
      obtain ⟨_, _, hat⟩ := World.cells?_some hcs'
      refine ⟨bs, hbl, fun j u hu => ?_⟩
      have hj : j < 32 := by have := (List.getElem?_eq_some_iff.1 hu).1; simpa [hbl] using this
      have h0 := hat (i := j) hj
      rw [Addr.add_add] at h0
      rw [h0]
      exact hu
    have hlist : ∀ k, k ≤ len → ∃ ls : List (List UInt8), ls.length = k ∧ (∀ x ∈ ls, x.length = 32) ∧ ∀ i x, ls[i]? = some x → ∀ j u, (x.map B8)[j]? = some u → w.cell? (a'.add (i * 32 + j)) = some u := by
      intro k
      induction k with
      | zero => intro _; exact ⟨[], rfl, fun x hx => by simp at hx, fun i x hx => by simp at hx⟩
      | succ k ih =>
        intro hk
        obtain ⟨ls, h1, h2, h3⟩ := ih (by omega)
        obtain ⟨bs, hb1, hb2⟩ := key k (by omega)
        refine ⟨ls ++ [bs], by simp [h1], fun x hx => ?_, fun i x hx => ?_⟩
        · rcases List.mem_append.1 hx with hx | hx
          · exact h2 x hx
          · simp at hx; subst hx; exact hb1
        · by_cases hi : i < ls.length
          · rw [List.getElem?_append_left hi] at hx; exact h3 i x hx
          · have hlt := (List.getElem?_eq_some_iff.1 hx).1
            simp at hlt
            obtain rfl : i = k := by omega
            rw [List.getElem?_append_right (by omega), h1] at hx
            simp at hx
            subst hx
            exact hb2
    obtain ⟨ls, h1, h2, h3⟩ := hlist len (Nat.le_refl _)
    refine ⟨ls, _, len, _, rfl, hl, hm, h1, h2, fun hn => ?_⟩
    have hl0 : ls[0]? = some (ls[0]'(by omega)) := List.getElem?_eq_getElem (by omega)
    have h32 := h2 _ (List.getElem_mem (show 0 < ls.length by omega))
    have h0 := h3 0 _ hl0 0 (B8 ((ls[0]'(by omega))[0]'(by omega))) (by rw [List.getElem?_map, List.getElem?_eq_getElem (by omega)]; rfl)
    obtain ⟨b, off, spot⟩ := a'
    have hs : spot = none := by simpa [Addr.add] using World.cell?_spot h0
    subst hs
    refine ⟨b, off, rfl, fun i x hx j u hu => ?_⟩
    have := h3 i x hx j u hu
    rw [Addr.add_mid] at this
    rw [Nat.add_assoc]
    exact this
end
end Go.Proofs.Ytkcmacglomdfcaa
