/-
  WORDS FOR MEMORY, over any program: rows of bytes that are read, arrays in blocks, what stays.
-/
import Derived.WalkKit
import Derived.Lib.Hide
import Derived.Deep.MidRow
import Derived.Maps.AppendAt
import Derived.Lib.SlBytesConst
import Derived.Deep.AppendLies
namespace Go.Proofs.Ytkfpnilbjjkhgaa
open Go.RowKit

/-! ### Below, over stores of many cells -/
theorem below_setCells {B : Nat} {a : World} {b : Nat} (hb : B ≤ b) : ∀ (vs : List Value) (o : Nat) (w : World), Below B a w → Below B a (w.setCells b o vs)
  | [], _, _, h => h
  | v :: r, o, w, h => by
    rw [World.setCells]
    exact below_setCells hb r (o + 1) _ (h.setCell (p := ⟨b, o, none⟩) hb v)
theorem heapSize_setCells (b : Nat) : ∀ (vs : List Value) (o : Nat) (w : World), (w.setCells b o vs).heap.size = w.heap.size
  | [], _, _ => rfl
  | v :: r, o, w => by
    rw [World.setCells, heapSize_setCells b r (o + 1)]
    simp [World.setCell]

/-! ### A row of values that is read -/
/-- The slice value with address A and n elements reads as the values vs (one cell each). -/
def RV (w : World) (A : Option Addr) (n : Nat) (vs : List Value) : Prop :=
  vs.length = n ∧ (0 < n → ∃ b o, A = some ⟨b, o, none⟩ ∧ w.rangeAt b o vs)
def B8 (c : UInt8) : Value := .int .u8 (c.toNat : Int)
/-- .. as the bytes bs. -/
def RB (w : World) (A : Option Addr) (n : Nat) (bs : List UInt8) : Prop := RV w A n (bs.map B8)

section
variable {w w' : World} {A : Option Addr} {n : Nat} {vs : List Value} {bs : List UInt8}
theorem RV.len (h : RV w A n vs) : vs.length = n := h.1
theorem RB.len (h : RB w A n bs) : bs.length = n := by simpa using h.1
theorem RV.at_ {k : Nat} (h : RV w A n vs) (hk : k < n) : ∃ b o u, A = some ⟨b, o, none⟩ ∧ vs[k]? = some u ∧ w.cell? ⟨b, o + k, none⟩ = some u := by
  obtain ⟨b, o, e, hc⟩ := h.2 (by omega)
  have hl : k < vs.length := by have := h.1; omega
  exact ⟨b, o, vs[k], e, List.getElem?_eq_getElem hl, hc k _ (List.getElem?_eq_getElem hl)⟩
theorem RB.at_ {k : Nat} (h : RB w A n bs) (hk : k < n) : ∃ b o c, A = some ⟨b, o, none⟩ ∧ bs[k]? = some c ∧ w.cell? ⟨b, o + k, none⟩ = some (.int .u8 (c.toNat : Int)) := by
  obtain ⟨b, o, u, e, hv, hc⟩ := RV.at_ h hk
  rw [List.getElem?_map] at hv
  cases hb : bs[k]? with
  | none => rw [hb] at hv; cases hv
  | some c =>
    rw [hb] at hv
    cases hv
    exact ⟨b, o, c, e, rfl, hc⟩
theorem RV.zero_of_none (h : RV w none n vs) : n = 0 := by
  rcases Nat.eq_zero_or_pos n with h0 | h0
  · exact h0
  · obtain ⟨_, _, e, _⟩ := h.2 h0
    cases e
theorem RV.lt {b o : Nat} (h : RV w (some ⟨b, o, none⟩) n vs) (hn : 0 < n) : b < w.heap.size := by
  obtain ⟨b', o', u, e, _, hc⟩ := h.at_ hn
  cases e
  exact World.block_lt_of_cell? w _ hc
theorem RV.keep (h : RV w A n vs) (hk : ∀ p : Addr, p.block < w.heap.size → w'.cell? p = w.cell? p) : RV w' A n vs :=
  ⟨h.1, fun hn => by
    obtain ⟨b, o, e, hc⟩ := h.2 hn
    exact ⟨b, o, e, fun j u hu => (hk _ (World.block_lt_of_cell? w _ (hc j u hu))).trans (hc j u hu)⟩⟩
theorem RV.below (h : RV w A n vs) (hb : Below w.heap.size w w') : RV w' A n vs := h.keep fun _ hp => hb.cell hp
theorem RB.below (h : RB w A n bs) (hb : Below w.heap.size w w') : RB w' A n bs := RV.below h hb
theorem RV.belowB {B : Nat} (h : RV w A n vs) (hb : Below B w w') (hA : ∀ ad, A = some ad → 0 < n → ad.block < B) : RV w' A n vs :=
  ⟨h.1, fun hn => by
    obtain ⟨b, o, rfl, hc⟩ := h.2 hn
    have hlt : b < B := hA ⟨b, o, none⟩ rfl hn
    exact ⟨b, o, rfl, fun j u hu => (hb.cell (p := ⟨b, o + j, none⟩) hlt).trans (hc j u hu)⟩⟩
theorem RB.belowB {B : Nat} (h : RB w A n bs) (hb : Below B w w') (hA : ∀ ad, A = some ad → 0 < n → ad.block < B) : RB w' A n bs := RV.belowB h hb hA
theorem RV.nil (w : World) (A : Option Addr) : RV w A 0 [] := ⟨rfl, fun h => absurd h (by omega)⟩
theorem RB.nil (w : World) (A : Option Addr) : RB w A 0 [] := RV.nil w A
theorem RV.cut (h : RV w A n vs) {k cap : Nat} (hk : k ≤ n) (hc : n ≤ cap) : RV w (if cap = k then A else A.map (·.add k)) (n - k) (vs.drop k) := by
  refine ⟨by rw [List.length_drop, h.1], fun hn => ?_⟩
  obtain ⟨b, o, rfl, hcell⟩ := h.2 (by omega)
  rw [if_neg (by omega)]
  refine ⟨b, o + k, by simp [Addr.add_mid], fun j u hu => ?_⟩
  rw [Nat.add_assoc]
  exact hcell _ u (by rw [← hu, List.getElem?_drop])
theorem RV.take (h : RV w A n vs) {k : Nat} (hk : k ≤ n) : RV w A k (vs.take k) := by
  refine ⟨by rw [List.length_take, h.1]; omega, fun hn => ?_⟩
  obtain ⟨b, o, rfl, hcell⟩ := h.2 (by omega)
  refine ⟨b, o, rfl, fun j u hu => ?_⟩
  rw [List.getElem?_take] at hu
  split at hu
  · exact hcell _ u hu
  · cases hu
theorem RB.cut (h : RB w A n bs) {k cap : Nat} (hk : k ≤ n) (hc : n ≤ cap) : RB w (if cap = k then A else A.map (·.add k)) (n - k) (bs.drop k) := by
  have := RV.cut h hk hc
  rwa [← List.map_drop] at this
theorem RB.take (h : RB w A n bs) {k : Nat} (hk : k ≤ n) : RB w A k (bs.take k) := by
  have := RV.take h hk
  rwa [← List.map_take] at this
end

theorem take_snoc {α : Type} {l : List α} {k : Nat} {c : α} (h : l[k]? = some c) : l.take (k + 1) = l.take k ++ [c] := by
  rw [List.take_add_one, h]; rfl

theorem rangeAt_blk {w : World} {g : Nat} {cs : List Value} {t : TypeId} {fr : Nat × Nat} (h : w.heap[g]? = some (.cells cs.toArray t fr)) : w.rangeAt g 0 cs := fun j v hv => by
  rw [cell_of_row _ _ _ cs.toArray t fr h, Nat.zero_add]
  simpa using hv
theorem rangeAt_left {w : World} {b o : Nat} {xs ys : List Value} (h : w.rangeAt b o (xs ++ ys)) : w.rangeAt b o xs := fun j v hv => by
  have hj : j < xs.length := (List.getElem?_eq_some_iff.1 hv).1
  exact h j v (by rw [List.getElem?_append_left hj]; exact hv)
theorem rangeAt_right {w : World} {b o : Nat} {xs ys : List Value} (h : w.rangeAt b o (xs ++ ys)) : w.rangeAt b (o + xs.length) ys := fun j v hv => by
  have := h (xs.length + j) v (by rw [List.getElem?_append_right (by omega), Nat.add_sub_cancel_left]; exact hv)
  rwa [← Nat.add_assoc] at this
theorem RV.of_rangeAt {w : World} {b o : Nat} {vs : List Value} (h : w.rangeAt b o vs) {n : Nat} (hn : vs.length = n) : RV w (some ⟨b, o, none⟩) n vs := ⟨hn, fun _ => ⟨b, o, rfl, h⟩⟩
theorem frozen_blk {w : World} {g : Nat} {cs : Array Value} {t : TypeId} (h : w.heap[g]? = some (.cells cs t (0, 0))) (i : Nat) : w.frozen? ⟨g, i, none⟩ = false := by
  simp [World.frozen?, h]

/-- A block's whole array. -/
theorem rangeAt_new (w : World) (cs : Array Value) (t : TypeId) (fr : Nat × Nat) : (w.alloc (.cells cs t fr)).rangeAt w.heap.size 0 cs.toList := fun j v hv => by
  have h := heap_alloc_new w (.cells cs t fr)
  rw [cell_of_row _ _ _ cs t fr h, Nat.zero_add]
  simpa using hv
theorem rangeAt_at (w : World) (g : Nat) (vs : List Value) (t : TypeId) (fr : Nat × Nat) (hg : w.heap.size = g) : (w.alloc (.cells vs.toArray t fr)).rangeAt g 0 vs := by
  subst hg
  exact rangeAt_new w vs.toArray t fr
theorem there_new (w : World) (cs : Array Value) (t : TypeId) : (w.alloc (.cells cs t)).there w.heap.size 0 cs.size := fun j hj => by
  have h := heap_alloc_new w (.cells cs t)
  refine ⟨?_, ?_⟩
  · rw [cell_of_row _ _ _ cs t (0, 0) h, Nat.zero_add]
    simp [hj]
  · unfold World.frozen?
    rw [h]
    simp
theorem there_new' (w : World) (cs : Array Value) (t : TypeId) {n : Nat} (h : cs.size = n) : (w.alloc (.cells cs t)).there w.heap.size 0 n := h ▸ there_new w cs t
theorem results_cell {fn : Func} {s : Tmp} {ty : TypeId} (h : fn.results = #[.cell s ty]) (tmps : Array Value) (P : Program) (w : World) (b o : Nat) (hp : tmps.getD s undef = .pointer (some ⟨b, o, none⟩))
    (cs : List Value) (d : TypeDesc) (hc : w.rangeAt b o cs) (hu : P.underlying ty = some d) (hd : d.isRow = true) (hi : (P.info? ty).map (·.size) = some cs.length) :
    (results fn tmps).run P w = .ok (.agg cs.toArray) w := by
  have hp' : tmps[s]?.getD undef = .pointer (some ⟨b, o, none⟩) := by simpa using hp
  simp only [results, h]
  simp [hp', asAddr, run_loadVar_mid w b o ty cs d hc hu hd hi]
/-! ### Slice values -/
/-- A value that is a slice of bytes, and reads as bs. -/
def SB (w : World) (v : Value) (bs : List UInt8) : Prop := ∃ A n c, v = .slice A n c ∧ n ≤ c ∧ c ≤ maxLen ∧ RB w A n bs
/-- A value that is a slice of values, and reads as vs. -/
def SV (w : World) (v : Value) (vs : List Value) : Prop := ∃ A n c, v = .slice A n c ∧ n ≤ c ∧ c ≤ maxLen ∧ RV w A n vs
/-- A value that is a slice of slices of bytes, and reads as ps. -/
def SBs (w : World) (v : Value) (ps : List (List UInt8)) : Prop := ∃ vs, SV w v vs ∧ vs.length = ps.length ∧ ∀ (k : Nat) u bs, vs[k]? = some u → ps[k]? = some bs → SB w u bs
section
variable {w w' : World} {v : Value} {bs : List UInt8} {vs : List Value} {ps : List (List UInt8)}
theorem SB.below (h : SB w v bs) (hb : Below w.heap.size w w') : SB w' v bs := by
  obtain ⟨A, n, c, rfl, h1, h2, h3⟩ := h
  exact ⟨A, n, c, rfl, h1, h2, h3.below hb⟩
theorem SV.below (h : SV w v vs) (hb : Below w.heap.size w w') : SV w' v vs := by
  obtain ⟨A, n, c, rfl, h1, h2, h3⟩ := h
  exact ⟨A, n, c, rfl, h1, h2, h3.below hb⟩
theorem SBs.below (h : SBs w v ps) (hb : Below w.heap.size w w') : SBs w' v ps := by
  obtain ⟨vs, h1, h2, h3⟩ := h
  exact ⟨vs, h1.below hb, h2, fun k u bs hu hb' => (h3 k u bs hu hb').below hb⟩
theorem SB.le (h : SB w v bs) : bs.length ≤ maxLen := by
  obtain ⟨A, n, c, rfl, h1, h2, h3⟩ := h
  rw [h3.len]; omega
theorem SB.of_rangeAt {b o n c : Nat} (h : w.rangeAt b o (bs.map B8)) (hn : bs.length = n) (hc : n ≤ c) (hm : c ≤ maxLen) : SB w (.slice (some ⟨b, o, none⟩) n c) bs :=
  ⟨_, n, c, rfl, hc, hm, RV.of_rangeAt h (by simpa using hn)⟩
theorem SBs.two {u : Value} {a b : List UInt8} (h : SB w u a) (h' : SB w v b) {A : Option Addr} (hr : RV w A 2 [u, v]) : SBs w (.slice A 2 2) [a, b] :=
  ⟨[u, v], ⟨A, 2, 2, rfl, Nat.le_refl _, by decide, hr⟩, rfl, fun k x y hu hb => by
    match k, hu, hb with
    | 0, hu, hb => cases hu; cases hb; exact h
    | 1, hu, hb => cases hu; cases hb; exact h'⟩
theorem SBs.three {u x : Value} {a b d : List UInt8} (h : SB w u a) (h' : SB w v b) (h'' : SB w x d) {A : Option Addr} (hr : RV w A 3 [u, v, x]) : SBs w (.slice A 3 3) [a, b, d] :=
  ⟨[u, v, x], ⟨A, 3, 3, rfl, Nat.le_refl _, by decide, hr⟩, rfl, fun k y z hu hb => by
    match k, hu, hb with
    | 0, hu, hb => cases hu; cases hb; exact h
    | 1, hu, hb => cases hu; cases hb; exact h'
    | 2, hu, hb => cases hu; cases hb; exact h''⟩
theorem SBs.one (h : SB w v bs) {A : Option Addr} {c : Nat} (hc : 1 ≤ c) (hm : c ≤ maxLen) (hr : RV w A 1 [v]) : SBs w (.slice A 1 c) [bs] :=
  ⟨[v], ⟨A, 1, c, rfl, hc, hm, hr⟩, rfl, fun k u b hu hb => by
    match k, hu, hb with
    | 0, hu, hb => cases hu; cases hb; exact h⟩
end

/-- Cells of block b alone were written. -/
theorem grownBy_setCells (w : World) (b : Nat) : ∀ (vs : List Value) (o : Nat) (w' : World), w.grownBy w' (some b) → w.grownBy (w'.setCells b o vs) (some b)
  | [], _, _, h => h
  | v :: r, o, w', h => by
    rw [World.setCells]
    refine grownBy_setCells w b r (o + 1) _ ⟨h.os, h.tape, h.output, by simpa [World.setCell] using h.size, fun k hk hne => ?_⟩
    rw [Below.heap_setCell _ _ _ _ (fun e => hne (by rw [e]))]
    exact h.block k hk hne
theorem grownBy_refl (w : World) (row : Option Nat) : w.grownBy w row := ⟨rfl, rfl, rfl, Nat.le_refl _, fun _ _ _ => rfl⟩
/-- A whole array is stored: the world behind it a letter. -/
theorem wpList_store_row {P : Program} {ops : Array Oper} {rest : List Oper} {op : Oper} {a : Act} {w : World} {Q : Exit → Act → World → Prop} (hgd : op.guard = none) (ty : TypeId) (x y : Operand) (ho : op.op = .store ty x y)
    (b o : Nat) (cells : Array Value) (hx : a.eval x = .pointer (some ⟨b, o, none⟩)) (hy : a.eval y = .agg cells)
    (ht : w.there b o cells.size) (hi : (P.info? ty).map (·.size) = some cells.size) (h1 : cells.all (·.oneCell') = true)
    (h : ∀ w', w.grownBy w' (some b) → Hid (w'.heap.size = w.heap.size) → w'.rangeAt b o cells.toList → w'.there b o cells.size → wpList P ops Q rest (a.put op.dst undef) w') : wpList P ops Q (op :: rest) a w :=
  wpList_store_mid hgd ty x y ho b o cells hx hy ht hi h1
    (h _ (grownBy_setCells w b _ _ w (grownBy_refl w _)) (heapSize_setCells _ _ _ _) (World.rangeAt_setCells_same w b o _ (by simpa using ht)) (World.there_setCells ht _ _ _))

/-! ### append -/
/-- The cells vs lie at A (nothing is asked of A where vs is empty). -/
def RC (w : World) (A : Option Addr) (vs : List Value) : Prop := vs ≠ [] → ∃ b o, A = some ⟨b, o, none⟩ ∧ w.rangeAt b o vs
theorem RV.rc {w : World} {A : Option Addr} {n : Nat} {vs : List Value} (h : RV w A n vs) : RC w A vs := fun hne => h.2 (by rw [← h.1]; exact List.length_pos_iff.2 hne)
theorem RC.cells {w : World} {ad : Addr} {vs : List Value} (h : RC w (some ad) vs) : ∀ j u, vs[j]? = some u → w.cell? (ad.add j) = some u := by
  intro j u hu
  obtain ⟨b, o, e, hc⟩ := h (fun e => by subst e; simp at hu)
  cases e
  rw [Addr.add_mid]
  exact hc j u hu
theorem rc_new (w : World) (cs : List Value) (t : TypeId) (fr : Nat × Nat) : RC (w.alloc (.cells cs.toArray t fr)) (some ⟨w.heap.size, 0, none⟩) cs := fun _ => ⟨_, _, rfl, rangeAt_new w cs.toArray t fr⟩
theorem RC.of_nil {w : World} {vs : List Value} (h : RC w none vs) : vs = [] := by
  rcases Classical.em (vs = []) with e | e
  · exact e
  · obtain ⟨b, o, e', _⟩ := h e
    cases e'
theorem b8_oneCell (bs : List UInt8) : ∀ u ∈ bs.map B8, u.oneCell' = true := by
  intro u hu
  simp only [List.mem_map] at hu
  obtain ⟨c, _, rfl⟩ := hu
  rfl

section
variable {P : Program} (w : World)
theorem run_append_nothing (t ty e : TypeId) (i : TypeInfo) (ht : P.underlying t = some (.slice e)) (hi : P.info? e = some i) (A : Option Addr) (n c : Nat) (hnc : n ≤ c) (cx : Nat) :
    (Builtin.append_ #[t, t] ty #[.slice A n c, .slice none 0 cx]).run P w = .ok (.slice A n c) w := by
  cases A <;> simp [Builtin.append_, run_underlying ht, sizeOf, typeInfo, hi, Builtin.lenOf, Builtin.firstCells, hnc, storeCells]

/-- append within the capacity, the block known whole. -/
theorem run_append_in (t ty e : TypeId) (i : TypeInfo) (size : Nat) (ht : P.underlying t = some (.slice e)) (hi : P.info? e = some i) (hsize : i.size = size)
    (g n c : Nat) (cur : Array Value) (hcur : w.heap[g]? = some (.cells cur e (0, 0))) (A : Option Addr) (m cx : Nat) (news : List Value) (hr : RC w A news) (hl : news.length = m * size) (hA : A = none → m = 0)
    (h1 : ∀ u ∈ news, u.oneCell' = true) (hroom : n + m ≤ c) (hfit : cur.size = c * size) :
    ∃ w', (Builtin.append_ #[t, t] ty #[.slice (some ⟨g, 0, none⟩) n c, .slice A m cx]).run P w = .ok (.slice (some ⟨g, 0, none⟩) (n + m) c) w' ∧
      w'.heap[g]? = some (.cells (cur.toList.take (n * size) ++ news ++ cur.toList.drop ((n + m) * size)).toArray e (0, 0)) ∧ w.grownBy w' (some g) ∧ w'.heap.size = w.heap.size := by
  subst hsize
  cases A with
  | none =>
    have hm := hA rfl
    subst hm
    have hn := hr.of_nil
    subst hn
    refine ⟨w, run_append_nothing w t ty e i ht hi _ n c (by omega) cx, ?_, grownBy_refl w _, rfl⟩
    simpa using hcur
  | some ad =>
    have hfit' : n * i.size + news.length ≤ cur.size := by rw [hl, hfit, ← Nat.add_mul]; exact Nat.mul_le_mul_right _ hroom
    have hrun := run_append_room (P := P) w t ty e i ht hi g n c cur hcur ad m cx news hl hr.cells h1 hroom hfit'
    refine ⟨_, hrun, ?_, ⟨rfl, rfl, rfl, by simp, fun k _ hk => setRow_other w g k _ (fun e => hk (by simp [e]))⟩, by simp⟩
    rw [setRow_heap w g cur _ e _ hcur, hl, ← Nat.add_mul]

theorem wpList_append_in {ops : Array Oper} {rest : List Oper} {o : Oper} {a : Act} {Q : Exit → Act → World → Prop} (hgd : o.guard = none) (s x : Operand) (t : TypeId)
    (ho : o.op = .call { callee := .builtin .append, args := #[s, x], argTypes := #[t, t] })
    (e : TypeId) (i : TypeInfo) (size : Nat) (ht : P.underlying t = some (.slice e)) (hi : P.info? e = some i) (hsize : i.size = size)
    (g n c : Nat) (cur : Array Value) (hs : a.eval s = .slice (some ⟨g, 0, none⟩) n c) (hcur : w.heap[g]? = some (.cells cur e (0, 0)))
    (A : Option Addr) (m cx : Nat) (news : List Value) (hx : a.eval x = .slice A m cx) (hr : RC w A news) (hl : news.length = m * size) (hA : A = none → m = 0)
    (h1 : ∀ u ∈ news, u.oneCell' = true) (hroom : n + m ≤ c) (hfit : cur.size = c * size)
    (h : ∀ w', Hid (w'.heap[g]? = some (.cells (cur.toList.take (n * size) ++ news ++ cur.toList.drop ((n + m) * size)).toArray e (0, 0))) → w.grownBy w' (some g) → Hid (w'.heap.size = w.heap.size) →
      wpList P ops Q rest (a.put o.dst (.slice (some ⟨g, 0, none⟩) (n + m) c)) w') : wpList P ops Q (o :: rest) a w := by
  refine wpList_plain hgd fun K hK => ?_
  obtain ⟨w', hrun, h2, h3, h4⟩ := run_append_in (P := P) w t o.type e i size ht hi hsize g n c cur hcur A m cx news hr hl hA h1 hroom hfit
  unfold Oper.wp execOp
  simp only [ho, resolve, invoke, builtin, Sem.run_bind, Sem.run_pure, Result.andThen_ok, List.map_toArray, List.map_cons, List.map_nil, hs, hx, hrun]
  exact hK _ _ (h w' h2 h3 h4)

/-- append onto a row of the call's own, that may grow; the source nil or not. -/
theorem run_append_any (base : Nat) (t ty e : TypeId) (i : TypeInfo) (z : Value) (size bytes : Nat) (ht : P.underlying t = some (.slice e)) (hi : P.info? e = some i) (hz : i.zero = some z)
    (hsize : i.size = size) (hby : i.bytes = bytes) (hzs : z.cells.size = size) (hsz : 0 < size)
    (v : Value) (n : Nat) (xs : List Value) (hown : w.ownsRow base e size v n xs)
    (A : Option Addr) (m c : Nat) (news : List Value) (hr : RC w A news) (hl : news.length = m * size) (h1 : ∀ u ∈ news, u.oneCell' = true)
    (h63 : n + m ≤ maxLen) (hbytes : (n + m) * bytes ≤ 140737488355328) (hbase : base ≤ w.heap.size) :
    ∃ v' w', (Builtin.append_ #[t, t] ty #[v, .slice A m c]).run P w = .ok v' w' ∧ w'.ownsRow base e size v' (n + m) (xs ++ news) ∧ w.grownBy w' v.ownBlock ∧
      (v'.ownBlock = v.ownBlock ∨ v'.ownBlock = some w.heap.size) := by
  rcases A with _ | ad
  · have hn := hr.of_nil
    subst hn
    have hm : m = 0 := by
      rcases Nat.eq_zero_or_pos m with h0 | h0
      · exact h0
      · have := Nat.mul_pos h0 hsz
        simp at hl
        omega
    subst hm
    rcases hown.2 with ⟨rfl, rfl⟩ | ⟨g, cap, cur, rfl, _, _, hnc, _⟩
    · exact ⟨_, w, run_append_nothing w t ty e i ht hi _ 0 0 (Nat.le_refl _) c, by simpa using hown, grownBy_refl w _, .inl rfl⟩
    · exact ⟨_, w, run_append_nothing w t ty e i ht hi _ n cap hnc c, by simpa using hown, grownBy_refl w _, .inl rfl⟩
  · obtain ⟨v', w', hrun, h2, h3, _, h5⟩ := run_append_own_at (P := P) w base t ty e i z size bytes ht hi hz hsize hby hzs hsz v n xs hown ad m c news hl hr.cells h1 h63 hbytes hbase
    exact ⟨v', w', hrun, h2, h3, h5⟩

theorem wpList_append_any {ops : Array Oper} {rest : List Oper} {o : Oper} {a : Act} {Q : Exit → Act → World → Prop} (hgd : o.guard = none) (s x : Operand) (t : TypeId)
    (ho : o.op = .call { callee := .builtin .append, args := #[s, x], argTypes := #[t, t] })
    (base : Nat) (e : TypeId) (i : TypeInfo) (z : Value) (size bytes : Nat) (ht : P.underlying t = some (.slice e)) (hi : P.info? e = some i) (hz : i.zero = some z)
    (hsize : i.size = size) (hby : i.bytes = bytes) (hzs : z.cells.size = size) (hsz : 0 < size)
    (v : Value) (n : Nat) (xs : List Value) (hs : a.eval s = v) (hown : w.ownsRow base e size v n xs)
    (A : Option Addr) (m c : Nat) (news : List Value) (hx : a.eval x = .slice A m c) (hr : RC w A news) (hl : news.length = m * size) (h1 : ∀ u ∈ news, u.oneCell' = true)
    (h63 : n + m ≤ maxLen) (hbytes : (n + m) * bytes ≤ 140737488355328) (hbase : base ≤ w.heap.size)
    (h : ∀ v' w', w'.ownsRow base e size v' (n + m) (xs ++ news) → w.grownBy w' v.ownBlock → (v'.ownBlock = v.ownBlock ∨ v'.ownBlock = some w.heap.size) → wpList P ops Q rest (a.put o.dst v') w') : wpList P ops Q (o :: rest) a w := by
  refine wpList_plain hgd fun K hK => ?_
  obtain ⟨v', w', hrun, h2, h3, h4⟩ := run_append_any (P := P) w base t o.type e i z size bytes ht hi hz hsize hby hzs hsz v n xs hown A m c news hr hl h1 h63 hbytes hbase
  unfold Oper.wp execOp
  simp only [ho, resolve, invoke, builtin, Sem.run_bind, Sem.run_pure, Result.andThen_ok, List.map_toArray, List.map_cons, List.map_nil, hs, hx, hrun]
  exact hK _ _ (h v' w' h2 h3 h4)
end

/-- What is owned stays owned while nothing that is there is written. -/
theorem ownsRow_below {w w' : World} {base : Nat} {e : TypeId} {size : Nat} {v : Value} {n : Nat} {xs : List Value} (h : w.ownsRow base e size v n xs) (hb : Below w.heap.size w w') : w'.ownsRow base e size v n xs := by
  refine ⟨h.1, ?_⟩
  rcases h.2 with h2 | ⟨g, cap, cur, hv, hg, hh, r⟩
  · exact .inl h2
  · exact .inr ⟨g, cap, cur, hv, hg, (hb.block g (Array.getElem?_eq_some_iff.1 hh).1).trans hh, r⟩
theorem ownsRow_base {w : World} {base base' : Nat} {e : TypeId} {size : Nat} {v : Value} {n : Nat} {xs : List Value} (h : w.ownsRow base e size v n xs) (hb : base' ≤ base) : w.ownsRow base' e size v n xs := by
  refine ⟨h.1, ?_⟩
  rcases h.2 with h2 | ⟨g, cap, cur, hv, hg, r⟩
  · exact .inl h2
  · exact .inr ⟨g, cap, cur, hv, by omega, r⟩
/-- append onto a row that was made behind the world W: what was there in W stays. -/
theorem wpList_append_row {P : Program} {w : World} {ops : Array Oper} {rest : List Oper} {o : Oper} {a : Act} {Q : Exit → Act → World → Prop} (hgd : o.guard = none) (s x : Operand) (t : TypeId)
    (ho : o.op = .call { callee := .builtin .append, args := #[s, x], argTypes := #[t, t] })
    (W : World) (hW : Below W.heap.size W w) {e : TypeId} {z : Value} {size bytes : Nat} (ht : P.underlying t = some (.slice e)) (hinfo : (P.info? e).map (fun i => (i.zero, i.size, i.bytes)) = some (some z, size, bytes))
    (hzs : z.cells.size = size) (hsz : 0 < size)
    (v : Value) (n : Nat) (xs : List Value) (hs : a.eval s = v) (hown : w.ownsRow W.heap.size e size v n xs)
    (A : Option Addr) (m c : Nat) (news : List Value) (hx : a.eval x = .slice A m c) (hr : RC w A news) (hl : news.length = m * size) (h1 : ∀ u ∈ news, u.oneCell' = true)
    (h63 : n + m ≤ maxLen) (hbytes : (n + m) * bytes ≤ 140737488355328)
    (h : ∀ v' w', w'.ownsRow W.heap.size e size v' (n + m) (xs ++ news) → Below W.heap.size W w' → wpList P ops Q rest (a.put o.dst v') w') : wpList P ops Q (o :: rest) a w := by
  obtain ⟨i, hi, hz, hsize, hby⟩ := info_parts hinfo
  refine wpList_append_any w hgd s x t ho W.heap.size e i z size bytes ht hi hz hsize hby hzs hsz v n xs hs hown A m c news hx hr hl h1 h63 hbytes hW.size fun v' w' h2 h3 _ => ?_
  exact h v' w' h2 (hW.grown h3 hW.size fun k hk => (hown.lt k hk).1)

/-- What was appended to reads as it did. -/
theorem run_append_keep {P : Program} {w w' : World} {base : Nat} {t ty e : TypeId} {i : TypeInfo} {z : Value} {size bytes : Nat} (ht : P.underlying t = some (.slice e)) (hi : P.info? e = some i) (hz : i.zero = some z)
    (hsize : i.size = size) (hby : i.bytes = bytes) {v : Value} {n : Nat} {xs : List Value} (hown : w.ownsRow base e size v n xs)
    {A : Option Addr} {m c : Nat} {news : List Value} (hr : RC w A news) (hl : news.length = m * size) (hsz : 0 < size) (h1 : ∀ u ∈ news, u.oneCell' = true)
    (h63 : n + m ≤ maxLen) (hbytes : (n + m) * bytes ≤ 140737488355328) {v' : Value} (hrun : (Builtin.append_ #[t, t] ty #[v, .slice A m c]).run P w = .ok v' w') : w'.ownsRow base e size v n xs := by
  subst hsize
  subst hby
  rcases hown.2 with ⟨rfl, rfl⟩ | ⟨g, cap, cur, rfl, hb, hg, hnc, hcm, hcs, htake⟩
  · have : xs = [] := List.eq_nil_of_length_eq_zero (by simpa using hown.1)
    subst this
    exact World.ownsRow_nil _ _ _ _
  · cases A with
    | none =>
      have hn := hr.of_nil
      subst hn
      have hm : m = 0 := by
        rcases Nat.eq_zero_or_pos m with h0 | h0
        · exact h0
        · have := Nat.mul_pos h0 hsz
          simp at hl
          omega
      subst hm
      rw [run_append_nothing w t ty e i ht hi _ n cap hnc c] at hrun
      injection hrun with _ hw
      subst hw
      exact hown
    | some ad =>
      by_cases hroom : n + m ≤ cap
      · have hfit : n * i.size + news.length ≤ cur.size := by rw [hl, hcs, ← Nat.add_mul]; exact Nat.mul_le_mul_right _ hroom
        rw [run_append_room (P := P) w t ty e i ht hi g n cap cur hg ad m c news hl hr.cells h1 hroom hfit] at hrun
        injection hrun with _ hw
        subst hw
        refine ⟨hown.1, .inr ⟨g, cap, _, rfl, hb, setRow_heap w g cur _ e _ hg, hnc, hcm, ?_, ?_⟩⟩
        · simp only [List.size_toArray, List.length_append, List.length_take, List.length_drop, Array.length_toList]
          omega
        · rw [htake, List.append_assoc, ← hown.1]
          exact List.take_left
      · have holds : ∀ j u, xs[j]? = some u → w.cell? ((⟨g, 0, none⟩ : Addr).add j) = some u := hown.cells (g := g) rfl
        rw [run_append_grow (P := P) w t ty e i z ht hi hz ⟨g, 0, none⟩ n cap xs hown.1 holds ad m c news hl hr.cells (by omega) (by simp only [maxLen] at h63; omega) (growslice_fits (by omega) hbytes)] at hrun
        injection hrun with _ hw
        subst hw
        exact (hown.drew).alloc _
theorem wpList_append_keep {P : Program} {w : World} {ops : Array Oper} {rest : List Oper} {o : Oper} {a : Act} {Q : Exit → Act → World → Prop} (hgd : o.guard = none) (s x : Operand) (t : TypeId)
    (ho : o.op = .call { callee := .builtin .append, args := #[s, x], argTypes := #[t, t] })
    (W : World) (hW : Below W.heap.size W w) {e : TypeId} {z : Value} {size bytes : Nat} (ht : P.underlying t = some (.slice e)) (hinfo : (P.info? e).map (fun i => (i.zero, i.size, i.bytes)) = some (some z, size, bytes))
    (hzs : z.cells.size = size) (hsz : 0 < size)
    (v : Value) (n : Nat) (xs : List Value) (hs : a.eval s = v) (hown : w.ownsRow W.heap.size e size v n xs)
    (A : Option Addr) (m c : Nat) (news : List Value) (hx : a.eval x = .slice A m c) (hr : RC w A news) (hl : news.length = m * size) (h1 : ∀ u ∈ news, u.oneCell' = true)
    (h63 : n + m ≤ maxLen) (hbytes : (n + m) * bytes ≤ 140737488355328)
    (h : ∀ v' w', w'.ownsRow W.heap.size e size v' (n + m) (xs ++ news) → Below W.heap.size W w' → w'.ownsRow W.heap.size e size v n xs → w.grownBy w' v.ownBlock → (v'.ownBlock = v.ownBlock ∨ v'.ownBlock = some w.heap.size) → wpList P ops Q rest (a.put o.dst v') w') : wpList P ops Q (o :: rest) a w := by
  obtain ⟨i, hi, hz, hsize, hby⟩ := info_parts hinfo
  refine wpList_plain hgd fun K hK => ?_
  obtain ⟨v', w', hrun, h2, h3, h4⟩ := run_append_any (P := P) w W.heap.size t o.type e i z size bytes ht hi hz hsize hby hzs hsz v n xs hown A m c news hr hl h1 h63 hbytes hW.size
  have hk := run_append_keep ht hi hz hsize hby hown hr hl hsz h1 h63 hbytes hrun
  unfold Oper.wp execOp
  simp only [ho, resolve, invoke, builtin, Sem.run_bind, Sem.run_pure, Result.andThen_ok, List.map_toArray, List.map_cons, List.map_nil, hs, hx, hrun]
  exact hK _ _ (h v' w' h2 (hW.grown h3 hW.size fun k hk => (hown.lt k hk).1) hk h3 h4)
/-- .. under a guard that says yes. -/
theorem wpList_append_keepW {P : Program} {w : World} {ops : Array Oper} {rest : List Oper} {o : Oper} {a : Act} {Q : Exit → Act → World → Prop} (hwt : Region.wanted o (yielded ops a.tmps) = true) (s x : Operand) (t : TypeId)
    (ho : o.op = .call { callee := .builtin .append, args := #[s, x], argTypes := #[t, t] })
    (W : World) (hW : Below W.heap.size W w) {e : TypeId} {z : Value} {size bytes : Nat} (ht : P.underlying t = some (.slice e)) (hinfo : (P.info? e).map (fun i => (i.zero, i.size, i.bytes)) = some (some z, size, bytes))
    (hzs : z.cells.size = size) (hsz : 0 < size)
    (v : Value) (n : Nat) (xs : List Value) (hs : a.eval s = v) (hown : w.ownsRow W.heap.size e size v n xs)
    (A : Option Addr) (m c : Nat) (news : List Value) (hx : a.eval x = .slice A m c) (hr : RC w A news) (hl : news.length = m * size) (h1 : ∀ u ∈ news, u.oneCell' = true)
    (h63 : n + m ≤ maxLen) (hbytes : (n + m) * bytes ≤ 140737488355328)
    (h : ∀ v' w', w'.ownsRow W.heap.size e size v' (n + m) (xs ++ news) → Below W.heap.size W w' → w'.ownsRow W.heap.size e size v n xs → w.grownBy w' v.ownBlock → (v'.ownBlock = v.ownBlock ∨ v'.ownBlock = some w.heap.size) → wpList P ops Q rest (a.put o.dst v') w') : wpList P ops Q (o :: rest) a w := by
  obtain ⟨i, hi, hz, hsize, hby⟩ := info_parts hinfo
  refine wpList_step fun K hK => ?_
  rw [if_pos hwt]
  obtain ⟨v', w', hrun, h2, h3, h4⟩ := run_append_any (P := P) w W.heap.size t o.type e i z size bytes ht hi hz hsize hby hzs hsz v n xs hown A m c news hr hl h1 h63 hbytes hW.size
  have hk := run_append_keep ht hi hz hsize hby hown hr hl hsz h1 h63 hbytes hrun
  unfold Oper.wp execOp
  simp only [ho, resolve, invoke, builtin, Sem.run_bind, Sem.run_pure, Result.andThen_ok, List.map_toArray, List.map_cons, List.map_nil, hs, hx, hrun]
  exact hK _ _ (h v' w' h2 (hW.grown h3 hW.size fun k hk => (hown.lt k hk).1) hk h3 h4)
/-- .. in a region that draws its order. -/
theorem step_append_row {P : Program} {w : World} {ops : Array Oper} {o : Oper} {a : Act} {K : Act → World → Prop} {Q : Exit → Act → World → Prop} {E : Prop} (hgd : o.guard = none) (s x : Operand) (t : TypeId)
    (ho : o.op = .call { callee := .builtin .append, args := #[s, x], argTypes := #[t, t] })
    (W : World) (hW : Below W.heap.size W w) {e : TypeId} {z : Value} {size bytes : Nat} (ht : P.underlying t = some (.slice e)) (hinfo : (P.info? e).map (fun i => (i.zero, i.size, i.bytes)) = some (some z, size, bytes))
    (hzs : z.cells.size = size) (hsz : 0 < size)
    (v : Value) (n : Nat) (xs : List Value) (hs : a.eval s = v) (hown : w.ownsRow W.heap.size e size v n xs)
    (A : Option Addr) (m c : Nat) (news : List Value) (hx : a.eval x = .slice A m c) (hr : RC w A news) (hl : news.length = m * size) (h1 : ∀ u ∈ news, u.oneCell' = true)
    (h63 : n + m ≤ maxLen) (hbytes : (n + m) * bytes ≤ 140737488355328)
    (h : ∀ v' w', w'.ownsRow W.heap.size e size v' (n + m) (xs ++ news) → Below W.heap.size W w' → K (a.put o.dst v') w') :
    if Region.wanted o (yielded ops a.tmps) = true then Oper.wp P o a w K Q else E := by
  obtain ⟨i, hi, hz, hsize, hby⟩ := info_parts hinfo
  rw [if_pos (by simp [Region.wanted, hgd])]
  obtain ⟨v', w', hrun, h2, h3, _⟩ := run_append_any (P := P) w W.heap.size t o.type e i z size bytes ht hi hz hsize hby hzs hsz v n xs hown A m c news hr hl h1 h63 hbytes hW.size
  unfold Oper.wp execOp
  simp only [ho, resolve, invoke, builtin, Sem.run_bind, Sem.run_pure, Result.andThen_ok, List.map_toArray, List.map_cons, List.map_nil, hs, hx, hrun]
  exact h v' w' h2 (hW.grown h3 hW.size fun k hk => (hown.lt k hk).1)

/-- append whose run is known. -/
theorem wpList_append_run {P : Program} {w w' : World} {ops : Array Oper} {rest : List Oper} {o : Oper} {a : Act} {Q : Exit → Act → World → Prop} (hgd : o.guard = none) (s x : Operand) (t tx : TypeId)
    (ho : o.op = .call { callee := .builtin .append, args := #[s, x], argTypes := #[t, tx] }) (vs vx v : Value) (hs : a.eval s = vs) (hx : a.eval x = vx)
    (hrun : (Builtin.append_ #[t, tx] o.type #[vs, vx]).run P w = .ok v w') (h : wpList P ops Q rest (a.put o.dst v) w') : wpList P ops Q (o :: rest) a w := by
  refine wpList_plain hgd fun K hK => ?_
  unfold Oper.wp execOp
  simp only [ho, resolve, invoke, builtin, Sem.run_bind, Sem.run_pure, Result.andThen_ok, List.map_toArray, List.map_cons, List.map_nil, hs, hx, hrun]
  exact hK _ _ h

/-- A constant text as bytes. -/
theorem run_bytes_lit {P : Program} {t e : TypeId} (ht : P.underlying t = some (.slice e)) (he : P.underlying e = some (.int .u8)) (w : World) (g : Nat) (C : Array Value) (n c : Nat) (hg : w.heap.size = g) :
    (convert t t (.slice (some ⟨g, 0, none⟩) n c)).run P (w.alloc (.cells C e)) = .ok (.slice (some ⟨g, 0, none⟩) n c) (w.alloc (.cells C e (C.size, C.size + 1))) := by
  subst hg
  exact Lib.run_convert_bytes_const w t e C n c ht he

theorem SB.of_own {w : World} {base : Nat} {e : TypeId} {v : Value} {k : Nat} {xs : List UInt8} (h : w.ownsRow base e 1 v k (xs.map B8)) : SB w v xs := by
  have hl := h.1
  rw [List.length_map, Nat.mul_one] at hl
  rcases h.2 with ⟨rfl, rfl⟩ | ⟨g, cap, cur, rfl, _, hh, hnc, hcm, _, htake⟩
  · have : xs = [] := List.eq_nil_of_length_eq_zero hl
    subst this
    exact ⟨none, 0, 0, rfl, Nat.le_refl _, Nat.zero_le _, RB.nil _ _⟩
  · refine SB.of_rangeAt (fun j u hu => ?_) hl hnc hcm
    have := h.cells (g := g) rfl j u hu
    rw [Addr.add_mid] at this
    exact this
theorem ownsRow_empty (w : World) {base : Nat} (e : TypeId) (size : Nat) (hb : base ≤ w.heap.size) : (w.alloc (.cells #[] e)).ownsRow base e size (.slice (some ⟨w.heap.size, 0, none⟩) 0 0) 0 [] :=
  World.ownsRow_made w #[] 0 hb (Nat.zero_le _) (by simp)

/-! ### strings out of bytes -/
def strOf (bs : List UInt8) : ByteArray := ⟨bs.toArray⟩
theorem strOf_toList (bs : List UInt8) : (strOf bs).toList = bs := by rw [ByteArray.toList_eq]; simp [strOf]
theorem run_string_of {P : Program} (w : World) (src dst e : TypeId) (hs : P.underlying src = some (.slice e)) (he : P.underlying e = some (.int .u8)) (hd : P.underlying dst = some .string)
    (A : Option Addr) (n c : Nat) (bs : List UInt8) (hr : RB w A n bs) : (convert src dst (.slice A n c)).run P w = .ok (.string (strOf bs)) w := by
  cases A with
  | none =>
    have h0 : n = 0 := RV.zero_of_none hr
    subst h0
    have hb : bs = [] := List.eq_nil_of_length_eq_zero hr.len
    subst hb
    exact run_convert_bytes_nil w src e hs he 0 c dst hd
  | some ad =>
    have hl := run_loadCells_list (P := P) w ad (bs.map B8) (RC.cells (RV.rc hr))
    rw [run_convert_bytes_string w src dst e (some ad) n c hs he hd]
    have hmap : bs.map B8 = (bs.map fun c => (c.toNat : Int)).map (Value.int .u8) := by simp [B8, Function.comp_def]
    rw [List.length_map, hr.len, hmap] at hl
    rw [run_bytesToString w ad n c _ hl, foldl_push_bytes]
    simp [strOf, Function.comp_def]
end Go.Proofs.Ytkfpnilbjjkhgaa
