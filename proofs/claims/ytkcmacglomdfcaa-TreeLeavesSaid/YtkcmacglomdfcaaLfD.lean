/-
  THE WALK of leaf.Root.
-/
import Derived.Test.YtkcmacglomdfcaaLfC
import Derived.Great.BuildSlice
import Derived.Outline
namespace Go.Proofs.Ytkcmacglomdfcaa
open Go.RowKit

/-- A whole array is read, in a class of worlds. -/
theorem wpQuiet_load_mid {P : Program} {S : World → Prop} {ops : Array Oper} {rest : List Oper} {op : Oper} {a : Act} {Q : Act → Prop} (hw : Region.wanted op (yielded ops a.tmps) = true) (ty : TypeId) (x : Operand) (ho : op.op = .load ty x)
    (b o : Nat) (hx : a.eval x = .pointer (some ⟨b, o, none⟩)) (cs : List Value) (d : TypeDesc) (hS : ∀ y : InC S, y.w.rangeAt b o cs)
    (hu : P.underlying ty = some d) (hd : d.isRow = true) (hi : (P.info? ty).map (·.size) = some cs.length)
    (h : wpQuiet P ops (fun w' => ∃ y : InC S, w' = y.w) Q rest (a.put op.dst (.agg cs.toArray))) : wpQuiet P ops (fun w' => ∃ y : InC S, w' = y.w) Q (op :: rest) a := by
  unfold wpQuiet
  rw [if_pos hw]
  refine ⟨.agg cs.toArray, ?_, h⟩
  rintro w ⟨y, rfl⟩
  unfold Oper.quietAt execOp
  simp only [ho, hx, Instr.loadAt, Instr.sureAddr, Sem.run_bind, Sem.run_pure, Result.andThen_ok, run_loadVar_mid y.w b o ty cs d (hS y) hu hd hi]
  exact ⟨rfl, rfl⟩
/-- A slice of one element that is an aggregate. -/
theorem wpList_buildOne {P : Program} {ops : Array Oper} {rest : List Oper} {o : Oper} {a : Act} {w : World} {Q : Exit → Act → World → Prop} (hg : o.guard = none) (t e : TypeId) (x : Operand) (ho : o.op = .buildSlice t 1 #[(0, x)])
    (cells : List Value) (hx : a.eval x = .agg cells.toArray) {z : Value} {size bytes : Nat} (hu : P.underlying t = some (.slice e)) (hinfo : (P.info? e).map (fun i => (i.zero, i.size, i.bytes)) = some (some z, size, bytes))
    (hl : cells.length = size) (hpos : 0 < size) (hsmall : size ≤ 1000)
    (h : wpList P ops Q rest (a.put o.dst (.slice (some ⟨w.heap.size, 0, none⟩) 1 1)) (w.alloc (.cells cells.toArray e))) : wpList P ops Q (o :: rest) a w := by
  obtain ⟨i, hi, hz, hsize, hby⟩ := info_parts hinfo
  subst hsize
  refine wpList_buildSlice hg t e 1 _ ho cells.toArray i z hu hi hz (by have h3 : (1000 : Nat) ≤ 2 ^ 24 := (by decide); rw [Nat.one_mul]; omega) (by omega) ?_ h
  have hf := Great.fill_whole hpos [.agg cells.toArray] ((Array.range (1 * i.size)).map (z.cells[· % z.cells.size]!)) (by intro v hv; simp at hv; subst hv; simpa [Value.cells] using hl) (by simp)
  have e1 : (#[(0, x)].map fun (p : Nat × Operand) => (p.1, a.eval p.2)).toList = (([Value.agg cells.toArray].zipIdx 0).map fun x => (x.2, x.1)) := by simp [hx]
  have e2 : ([Value.agg cells.toArray].flatMap fun v => v.cells.toList).toArray = cells.toArray := by simp [Value.cells]
  rw [e2] at hf
  rw [← hf, ← e1]
/-- A whole row as cells. -/
def wc (x : Nat × Dg) : List Value := .int .i64 (x.1 : Int) :: x.2.map B8
def wh (q : List (Nat × Dg)) : List Value := q.flatMap wc
theorem wc_len (x : Nat × Dg) (h : x.2.length = 32) : (wc x).length = 33 := by simp [wc, h]
theorem wh_snoc (q : List (Nat × Dg)) (x : Nat × Dg) : wh (q ++ [x]) = wh q ++ wc x := by simp [wh]
theorem wh_len : ∀ (q : List (Nat × Dg)), (∀ x ∈ q, x.2.length = 32) → (wh q).length = q.length * 33
  | [], _ => rfl
  | x :: r, h => by
    have e : wh (x :: r) = wc x ++ wh r := rfl
    rw [e, List.length_append, wc_len x (h x (by simp)), wh_len r (fun y hy => h y (by simp [hy])), List.length_cons]
    omega
theorem wh_part {w : World} {b : Nat} : ∀ (q : List (Nat × Dg)) (o : Nat), (∀ x ∈ q, x.2.length = 32) → w.rangeAt b o (wh q) → ∀ k x, q[k]? = some x → w.rangeAt b (o + k * 33) (wc x)
  | [], _, _, _ => fun k x hx => by simp at hx
  | y :: r, o, hl, h => fun k x hx => by
    have e : wh (y :: r) = wc y ++ wh r := rfl
    rw [e] at h
    have hy := wc_len y (hl y (by simp))
    cases k with
    | zero =>
      simp at hx
      subst hx
      simpa using rangeAt_left h
    | succ k =>
      have h2 := rangeAt_right h
      rw [hy] at h2
      have := wh_part r (o + 33) (fun z hz => hl z (by simp [hz])) h2 k x (by simpa using hx)
      rw [Nat.add_mul, Nat.one_mul, Nat.add_comm (k * 33) 33, ← Nat.add_assoc]
      exact this
theorem wc_parts {w : World} {b o : Nat} {x : Nat × Dg} (h : w.rangeAt b o (wc x)) : w.cell? ⟨b, o, none⟩ = some (.int .i64 (x.1 : Int)) ∧ w.rangeAt b (o + 1) (x.2.map B8) :=
  ⟨by simpa using h 0 _ rfl, rangeAt_right (xs := [Value.int .i64 (x.1 : Int)]) h⟩
theorem wc_mk {w : World} {b o : Nat} {x : Nat × Dg} (h : w.cell? ⟨b, o, none⟩ = some (.int .i64 (x.1 : Int))) (h' : w.rangeAt b (o + 1) (x.2.map B8)) : w.rangeAt b o (wc x) :=
  rangeAt_app (xs := [Value.int .i64 (x.1 : Int)]) (fun j v hv => by
    cases j with
    | zero => simp at hv; subst hv; simpa using h
    | succ j => simp at hv) h'
/-- A shorter row of the same block. -/
theorem own_less {w : World} {B : Nat} {e : TypeId} {s : Nat} {A : Option Addr} {n c : Nat} {xs ys : List Value} {k : Nat} (h : w.ownsRow B e s (.slice A n c) n (xs ++ ys)) (hx : xs.length = k * s) (hk : k ≤ n) : w.ownsRow B e s (.slice A k c) k xs := by
  refine ⟨hx, ?_⟩
  rcases h.2 with ⟨he, hn⟩ | ⟨g, cap, cur, hv, hB, hh, hnc, hcm, hcs, htake⟩
  · cases he
    have hk0 : k = 0 := by omega
    subst hk0
    exact .inl ⟨rfl, rfl⟩
  · cases hv
    refine .inr ⟨g, c, cur, rfl, hB, hh, Nat.le_trans hk hnc, hcm, hcs, ?_⟩
    have hl : k * s ≤ n * s := Nat.mul_le_mul_right _ hk
    have := congrArg (List.take (k * s)) htake
    rw [List.take_take, Nat.min_eq_left hl] at this
    rw [this, ← hx, List.take_left]
theorem own_formK {w : World} {B : Nat} {e : TypeId} {s : Nat} {v : Value} {n : Nat} {xs : List Value} (h : w.ownsRow B e s v n xs) :
    ∃ A c, v = .slice A n c ∧ n ≤ c ∧ c ≤ maxLen ∧ (0 < n → ∃ g, A = some ⟨g, 0, none⟩ ∧ v.ownBlock = some g ∧ w.rangeAt g 0 xs ∧ B ≤ g) := by
  rcases h.2 with ⟨rfl, rfl⟩ | ⟨g, cap, cur, rfl, hB, hh, hnc, hcm, _, htake⟩
  · exact ⟨none, 0, rfl, Nat.le_refl _, Nat.zero_le _, fun h0 => absurd h0 (by omega)⟩
  · refine ⟨some ⟨g, 0, none⟩, cap, rfl, hnc, hcm, fun _ => ⟨g, rfl, rfl, fun j u hu => ?_, hB⟩⟩
    have := h.cells (g := g) rfl j u hu
    rw [Addr.add_mid] at this
    exact this
theorem fold_set : ∀ (xs : List Value) (k : Nat) (z : Array Value), (List.foldl (fun (cs : Array Value) (x : Value × Nat) => cs.setIfInBounds (1 + x.snd) x.fst) z (xs.zipIdx k)).size = z.size ∧
    ∀ j, (List.foldl (fun (cs : Array Value) (x : Value × Nat) => cs.setIfInBounds (1 + x.snd) x.fst) z (xs.zipIdx k))[j]? = if 1 + k ≤ j ∧ j < 1 + k + xs.length ∧ j < z.size then xs[j - 1 - k]? else z[j]?
  | [], k, z => ⟨rfl, fun j => by rw [if_neg (by simp; omega)]; rfl⟩
  | x :: r, k, z => by
    rw [List.zipIdx_cons, List.foldl_cons]
    obtain ⟨h1, h2⟩ := fold_set r (k + 1) (z.setIfInBounds (1 + k) x)
    refine ⟨by rw [h1, Array.size_setIfInBounds], fun j => ?_⟩
    rw [h2, Array.size_setIfInBounds]
    by_cases hj : 1 + (k + 1) ≤ j ∧ j < 1 + (k + 1) + r.length ∧ j < z.size
    · rw [if_pos hj, if_pos (by simp; omega)]
      rw [show j - 1 - k = (j - 1 - (k + 1)) + 1 by omega, List.getElem?_cons_succ]
    · rw [if_neg hj, Array.getElem?_setIfInBounds]
      by_cases hk : 1 + k = j
      · subst hk
        rw [if_pos rfl]
        by_cases hz : 1 + k < z.size
        · rw [if_pos hz, if_pos (by simp; omega)]
          rw [show 1 + k - 1 - k = 0 by omega]
          rfl
        · rw [if_neg hz, if_neg (by omega)]
          rw [Array.getElem?_eq_none (by omega)]
      · rw [if_neg hk, if_neg (by simp; omega)]
theorem build_whole (s : Value) (z : Array Value) (hz : z.size = 33) (h0 : z[0]? = some s) (xs : List Value) (hx : xs.length = 32) :
    List.foldl (fun (cs : Array Value) (x : Value × Nat) => cs.setIfInBounds (1 + x.snd) x.fst) z xs.zipIdx = (s :: xs).toArray := by
  obtain ⟨h1, h2⟩ := fold_set xs 0 z
  apply Array.ext_getElem?
  intro j
  rw [h2]
  cases j with
  | zero => rw [if_neg (by omega), h0]; rfl
  | succ j =>
    by_cases hj : j < 32
    · rw [if_pos (by omega)]
      simp
    · rw [if_neg (by omega), Array.getElem?_eq_none (by omega)]
      simp
      omega
@[go_sem high] theorem build_lit (s : Value) (xs : List Value) (hx : xs.length = 32) :
    List.foldl (fun (cs : Array Value) (x : Value × Nat) => cs.setIfInBounds (1 + x.snd) x.fst) #[s, .int .u8 0, .int .u8 0, .int .u8 0, .int .u8 0, .int .u8 0, .int .u8 0, .int .u8 0, .int .u8 0, .int .u8 0, .int .u8 0, .int .u8 0, .int .u8 0, .int .u8 0, .int .u8 0, .int .u8 0, .int .u8 0, .int .u8 0, .int .u8 0, .int .u8 0, .int .u8 0, .int .u8 0, .int .u8 0, .int .u8 0, .int .u8 0, .int .u8 0, .int .u8 0, .int .u8 0, .int .u8 0, .int .u8 0, .int .u8 0, .int .u8 0, .int .u8 0] xs.zipIdx = (s :: xs).toArray := build_whole _ _ rfl rfl xs hx
theorem wc_one (x : Nat × Dg) : (wc x).toArray.all (·.oneCell') = true := by
  rw [Array.all_eq_true_iff_forall_mem]
  intro u hu
  simp only [wc, List.mem_toArray, List.mem_cons] at hu
  rcases hu with rfl | hu
  · rfl
  · exact b8_oneCell _ u hu
theorem info_wc (x : Nat × Dg) (h : x.2.length = 32) : (Try.prog.info? 123).map (·.size) = some (wc x).toArray.size := by
  rw [List.size_toArray, wc_len x h]
  kernel_rfl
theorem own_at {w : World} {B : Nat} {e : TypeId} {s g n c k : Nat} {xs : List Value} (h : w.ownsRow B e s (.slice (some ⟨g, 0, none⟩) n c) k xs) : w.rangeAt g 0 xs := fun j u hu => by
  have := h.cells (g := g) rfl j u hu
  rw [Addr.add_mid] at this
  exact this
theorem info_whole3 : (Try.prog.info? 123).map (fun i => (i.zero, i.size, i.bytes)) = some (some (.agg (.int .i64 0 :: List.replicate 32 (.int .u8 0)).toArray), 33, 40) := by kernel_rfl
theorem Mid.le {F : Dg → Dg} {q : List (Nat × Dg)} {x : Nat × Dg} {p : List Dg} (h : Mid F q x p) : x.1 ≤ p.length := by
  obtain ⟨a, b, e, rfl, _, h2, _⟩ := h
  rw [List.length_append]
  omega
theorem info_whole : (Try.prog.info? 123).map (·.size) = some 33 := by kernel_rfl
/-- Between two rounds: the stack. -/
structure RootS (w : World) (q : List (Nat × Dg)) (v : Value) (wr : World) : Prop where
  below : Below w.heap.size w wr
  res : wr.heap[w.heap.size]? = some (.cells (List.replicate 32 (.int .u8 0)).toArray 26 (0, 0))
  own : wr.ownsRow w.heap.size 123 33 v q.length (wh q)
  l32 : ∀ x ∈ q, x.2.length = 32
section
variable {w wr wr' : World} {q q' : List (Nat × Dg)} {v v' : Value}
theorem RootS.stable (h : RootS w q v wr) (hb : Below wr.heap.size wr wr') : RootS w q v wr' := ⟨h.below.trans (hb.mono h.below.size), heap_below h.res hb, ownsRow_below h.own hb, h.l32⟩
theorem RootS.lt (h : RootS w q v wr) : w.heap.size < wr.heap.size := (Array.getElem?_eq_some_iff.1 h.res).1
theorem RootS.grown (h : RootS w q v wr) {b : Nat} (hg : wr.grownBy wr' (some b)) (hb : w.heap.size < b) (hv : v.ownBlock ≠ some b) : RootS w q v wr' :=
  ⟨h.below.grown hg h.below.size (by intro x e; cases e; omega), (hg.block _ h.lt (by intro e; cases e; omega)).trans h.res, h.own.kept hg (.inr hv), h.l32⟩
/-- .. and the box of the row that is being put together. -/
structure RootB (w : World) (q : List (Nat × Dg)) (v : Value) (b : Nat) (x : Nat × Dg) (wr : World) : Prop where
  rs : RootS w q v wr
  gt : w.heap.size < b
  lt : b < wr.heap.size
  ne : v.ownBlock ≠ some b
  rng : wr.rangeAt b 0 (wc x)
  thr : wr.there b 0 33
  x32 : x.2.length = 32
variable {b : Nat} {x x' : Nat × Dg}
theorem RootB.stable (h : RootB w q v b x wr) (hb : Below wr.heap.size wr wr') : RootB w q v b x wr' :=
  ⟨h.rs.stable hb, h.gt, Nat.lt_of_lt_of_le h.lt hb.size, h.ne, rangeAt_below' h.rng hb, there_same h.thr (hb.block _ h.lt), h.x32⟩
/-- At the end: the stack, and the box of the digest. -/
structure RootE (w : World) (q : List (Nat × Dg)) (v : Value) (b : Nat) (d : Dg) (wr : World) : Prop where
  rs : RootS w q v wr
  gt : w.heap.size < b
  lt : b < wr.heap.size
  ne : v.ownBlock ≠ some b
  rng : wr.rangeAt b 0 (d.map B8)
  thr : wr.there b 0 32
  d32 : d.length = 32
theorem RootE.stable {d : Dg} (h : RootE w q v b d wr) (hb : Below wr.heap.size wr wr') : RootE w q v b d wr' :=
  ⟨h.rs.stable hb, h.gt, Nat.lt_of_lt_of_le h.lt hb.size, h.ne, rangeAt_below' h.rng hb, there_same h.thr (hb.block _ h.lt), h.d32⟩
theorem RootS.putE {d : Dg} (h : RootS w q v wr) (hgt : w.heap.size < b) (hne : v.ownBlock ≠ some b) (hg : wr.grownBy wr' (some b)) (hlt : b < wr'.heap.size) (hr : wr'.rangeAt b 0 (d.map B8)) (ht : wr'.there b 0 (d.map B8).toArray.size) (hd : d.length = 32) : RootE w q v b d wr' :=
  ⟨h.grown hg hgt hne, hgt, hlt, hne, hr, by have e : (d.map B8).toArray.size = 32 := (by simp [hd]); rw [e] at ht; exact ht, hd⟩
theorem RootS.put (h : RootS w q v wr) (hgt : w.heap.size < b) (hne : v.ownBlock ≠ some b) (hg : wr.grownBy wr' (some b)) (hlt : b < wr'.heap.size) (hr : wr'.rangeAt b 0 (wc x')) (ht : wr'.there b 0 33) (hx : x'.2.length = 32) : RootB w q v b x' wr' :=
  ⟨h.grown hg hgt hne, hgt, hlt, hne, hr, ht, hx⟩
end
section
variable {F : List UInt8 → List UInt8} (HF : Dig F)
include HF
set_option maxRecDepth 100000 in
set_option maxHeartbeats 4000000 in
theorem root_any (w : World) (A : Option Addr) (n c : Nat) (ls : List (List UInt8)) (hr : RS w A n ls) (hn : n ≤ 1048576) :
    Calls Try.prog 38 #[.slice A n c] w fun e w' => e = .returned (SumV (rootF F ls)) ∧ Below w.heap.size w w' := by
  have hlen := hr.len
  have HN := Lib.hid (fun w l r => node_any HF w (l := l) (r := r))
  have HE := Lib.hid (empty_any HF)
  have HFl := Lib.hid HF.len
  have Hlen := Lib.hid hlen
  have hrl : (rootF F ls).length = 32 := rootF_len HF.len _ ls rfl hr.2.1
  obtain ⟨D, hD⟩ : ∃ D, D = rootF F ls := ⟨_, rfl⟩
  rw [← hD] at hrl ⊢
  have HD := Lib.hid hD
  have Hrl := Lib.hid hrl
  clear hlen hD hrl
  go_enter Try.func38, Try.ntmps38
  go_wp2_with fail
  go_loopw [3, 12] (fun v i wr => ∃ (k : Nat) (q : List (Nat × Dg)) (Av : Option Addr) (cv : Nat), k ≤ n ∧ i = .int .i64 k ∧ v = .slice Av q.length cv ∧ q.length ≤ k ∧ Hid (Stk F q (ls.take k) ∧ RootS w q (.slice Av q.length cv) wr)) (fun _ i _ => n - (intOf i).toNat)
  case atStart => exact ⟨0, [], none, 0, Nat.zero_le _, rfl, rfl, Nat.le_refl _, Lib.hid ⟨rfl, (Below.refl _ _).alloc (Nat.le_refl _) _, heap_alloc_new w _, World.ownsRow_nil _ _ _ _, fun x hx => by simp at hx⟩⟩
  case round =>
    obtain ⟨k, q, Av, cv, hk, rfl, rfl, hqk, hq⟩ := hrel
    by_cases hkl : k < n
    · have hdk : decide ((k : Int) < n) = true := decide_eq_true (by omega)
      obtain ⟨b, o, d, rfl, hd, hd32, hrd⟩ := (hr.below hq.out.2.below).at_ hkl
      have hi := info_of d hd32
      have hi' := info_of' d hd32
      have hml : (d.map B8).length = 32 := by rw [List.length_map, hd32]
      have hm : Mid F q (1, d) (ls.take (k + 1)) := by rw [take_snoc hd]; exact hq.out.1.mid d
      have HM := Lib.hid hm
      have HS := Lib.hid hq.out.2
      obtain ⟨wo, rfl⟩ : ∃ wo : World, wo = wr := ⟨_, rfl⟩
      clear hm hd hq
      go_wp2_with (first
        | ((with_reducible show wpList _ _ _ (⟨_, Op.load 26 (.tmp 14), _, _, _, _⟩ :: _) _ _); refine wpList_load_mid rfl _ _ rfl b (o + k * 32) rfl (d.map B8) _ hrd Try.underlying26 rfl hi ?_)
        | ((with_reducible show wpList _ _ _ (⟨_, Op.store 26 (.tmp 5) _, _, _, _, _⟩ :: _) _ _); refine wpList_store_row rfl _ _ _ rfl wo.heap.size 0 (d.map B8).toArray rfl rfl (there_new' _ _ _ (by simp [hd32])) hi' (b8_all d) ?_; intro w5 hg5 hs5 ht5 hth5; rw [List.toList_toArray] at ht5)
        | ((with_reducible show wpList _ _ _ (⟨_, Op.load 26 (.tmp 5), _, _, _, _⟩ :: _) _ _); refine wpList_load_mid rfl _ _ rfl wo.heap.size 0 rfl (d.map B8) _ ht5 Try.underlying26 rfl hi ?_)
        | ((with_reducible show wpList _ _ _ (⟨_, Op.store 123 (.tmp 6) _, _, _, _, _⟩ :: _) _ _); refine wpList_store_row rfl _ _ _ rfl w5.heap.size 0 (wc (1, d)).toArray rfl rfl (there_new' _ _ _ (by simp [wc_len, hd32])) (info_wc (1, d) hd32) (wc_one _) ?_; intro w6 hg6 hs6 ht6 hth6; rw [List.toList_toArray] at ht6))
      have h05 : RootS w q (.slice Av q.length cv) w5 := by
        refine RootS.grown (HS.out.stable ((Below.refl _ _).alloc (Nat.le_refl _) _)) hg5 HS.out.lt (fun e => ?_)
        have := (HS.out.own.lt _ e).2
        omega
      have hz5 : wo.heap.size < w5.heap.size := by rw [hs5.out]; simp
      have h06 : RootB w q (.slice Av q.length cv) w5.heap.size (1, d) w6 := by
        refine RootS.put (h05.stable ((Below.refl _ _).alloc (Nat.le_refl _) _)) h05.lt (fun e => ?_) hg6 (by rw [hs6.out]; simp) ht6 (by have e : (wc (1, d)).toArray.size = 33 := (by rw [List.size_toArray, wc_len (1, d) hd32]); rw [e] at hth6; exact hth6) hd32
        have := (h05.own.lt _ e).2
        omega
      have H06 := Lib.hid (And.intro HM.out h06)
      clear hg5 hs5 ht5 hth5 hg6 hs6 ht6 hth6 h05 h06 hrd hi hi' hml HM HS hz5
      go_loopw [3, 7] (fun v kk wr => ∃ (q : List (Nat × Dg)) (x : Nat × Dg) (Av : Option Addr) (cv : Nat), v = .slice Av q.length cv ∧ kk = .int .i64 ((q.length : Int) - 1) ∧ q.length ≤ k ∧ Hid (Mid F q x (ls.take (k + 1)) ∧ RootB w q (.slice Av q.length cv) w5.heap.size x wr)) (fun _ kk _ => (intOf kk + 1).toNat)
      case atStart => exact ⟨q, (1, d), Av, cv, rfl, rfl, hqk, H06⟩
      case round =>
        obtain ⟨q, x, Av, cv, rfl, rfl, hqk, hq⟩ := hrel
        obtain ⟨m, hm⟩ : ∃ m, m = q.length := ⟨_, rfl⟩
        have hx40 : x.1 ≤ 1048576 := by have h1 := hq.out.1.le; rw [List.length_take] at h1; omega
        rw [← hm] at hqk hq ⊢
        have Hm := Lib.hid hm.symm
        have hc0 : w6.heap.size = w6.heap.size := rfl
        have HB := Lib.hid hq.out.2
        have HM := Lib.hid hq.out.1
        by_cases hcase : ∃ q1 y, q = q1 ++ [y] ∧ y.1 = x.1
        · obtain ⟨q1, ⟨s, d1⟩, hq1, hyx⟩ := hcase
          obtain ⟨s', d2⟩ := x
          obtain rfl : s = s' := hyx
          obtain ⟨j, hj⟩ : ∃ j, j = q1.length := ⟨_, rfl⟩
          have hmj : m = j + 1 := by rw [hm, hj, hq1]; simp
          have e7 : (m : Int) - 1 = (j : Int) := by omega
          have hown := HB.out.rs.own
          rw [Hm.out] at hown
          obtain ⟨A0, c0, e0, hmc, -, hg0⟩ := own_formK hown
          cases e0
          obtain ⟨g, rfl, -, hrg, -⟩ := hg0 (by omega)
          have hyq : q[j]? = some (s, d1) := by rw [hq1, hj, List.getElem?_append_right (Nat.le_refl _)]; simp
          have hy := wh_part q 0 HB.out.rs.l32 hrg j _ hyq
          rw [Nat.zero_add] at hy
          have hcy := (wc_parts hy).1
          have hcx := (wc_parts HB.out.rng).1
          have hd1 : d1.length = 32 := HB.out.rs.l32 (s, d1) (by rw [hq1]; simp)
          have hd2 : d2.length = 32 := HB.out.x32
          have hjm : j < m := by omega
          have hjm' : (j : Int) < (m : Int) := by omega
          have hjc : j ≤ cv := by omega
          obtain ⟨s2, hs2⟩ : ∃ s2, s2 = 2 * s := ⟨_, rfl⟩
          have hmg : Mid F q1 (s2, nodeF F d1 d2) (ls.take (k + 1)) := by rw [hs2]; exact (by have h := HM.out; rw [hq1] at h; exact h : Mid F (q1 ++ [(s, d1)]) (s, d2) (ls.take (k + 1))).merge
          have hdn : (nodeF F d1 d2).length = 32 := HFl.out _
          have hnode := fun w => HN.out w d1 d2 hd1 hd2
          generalize nodeF F d1 d2 = dn at hmg hdn hnode
          unfold SumV at hnode
          have e2s : 2 * (s : Int) = (s2 : Int) := by omega
          have hi1 := info_of d1 hd1
          have hi2 := info_of d2 hd2
          have hdn' : (dn.map B8).length = 32 := by rw [List.length_map, hdn]
          have Hnode := Lib.hid hnode
          have Hmg := Lib.hid hmg
          have Hq1 := Lib.hid hq1
          have Hj := Lib.hid hj
          have Hyq := Lib.hid hyq
          have hs40 : s ≤ 1048576 := hx40
          rw [e7]
          clear hq hc0 e7 hm hq1 hj hmj hown hg0 hrg hy hmc hs2 hmg hnode hyq hx40
          go_wp2_with fail
          go_quiet (fail)
          have HBz := Lib.hid (HB.out.stable (below_drewN (Below.refl _ _) nq))
          generalize wr.drewN nq = wz at HBz ⊢
          clear hcx hcy HB
          obtain ⟨S, hS⟩ : ∃ S : World → Prop, S = fun u => RootB w q (.slice (some ⟨g, 0, none⟩) m cv) w5.heap.size (s, d2) u := ⟨_, rfl⟩
          have Sx : ∀ u, S u → RootB w q (.slice (some ⟨g, 0, none⟩) m cv) w5.heap.size (s, d2) u := by rw [hS]; exact fun _ h => h
          have Sb : ∀ u u', S u → Below u.heap.size u u' → S u' := by rw [hS]; exact fun u u' h hb => h.stable hb
          have Sz : S wz := by rw [hS]; exact HBz.out
          have hne : Nonempty (InC S) := ⟨⟨_, Sz⟩⟩
          have FA : ∀ y : InC S, y.w.rangeAt g (j * 33 + 1) (d1.map B8) := fun y => by
            have h1 := wh_part q 0 (Sx _ y.ok).rs.l32 (own_at (Sx _ y.ok).rs.own) j _ Hyq.out
            rw [Nat.zero_add] at h1
            exact (wc_parts h1).2
          have FB : ∀ y : InC S, y.w.rangeAt w5.heap.size 1 (d2.map B8) := fun y => by
            have h1 := (wc_parts (Sx _ y.ok).rng).2
            rwa [Nat.zero_add] at h1
          have FC : ∀ y : InC S, y.w.cell? ⟨w5.heap.size, 0, none⟩ = some (.int .i64 (s : Int)) := fun y => (wc_parts (Sx _ y.ok).rng).1
          have CM : ∀ y : InC S, Calls Try.prog 33 #[.agg (d1.map B8).toArray, .agg (d2.map B8).toArray] y.w fun e w' => e = .returned (.agg (dn.map B8).toArray) ∧ ∃ z : InC S, w' = z.w := fun y =>
            (Hnode.out y.w).mono fun e w' ⟨h1, h2⟩ => ⟨h1, ⟨w', Sb _ _ y.ok h2⟩, rfl⟩
          have HSx := Lib.hid Sx
          have HCM := Lib.hid CM
          have HSd := Lib.hid (Sb wz wz.drew Sz (below_drewN (Below.refl _ _) 1))
          clear hS Sx Sb Sz CM HBz
          go_wp2_with fail
          refine wp_region_quietTailIn 12 S (by kernel_rfl) (by kernel_rfl) HSd.out ?_
          simp only [List.take_succ_cons, List.take_zero, List.drop_succ_cons, List.drop_zero]
          repeat (first
            | ((with_reducible show wpQuiet _ _ _ _ (⟨_, Op.load 26 (.tmp 41), _, _, _, _⟩ :: _) _); refine wpQuiet_load_mid rfl _ _ rfl g (j * 33 + 1) rfl (d1.map B8) _ FA Try.underlying26 rfl hi1 ?_; simp only [Act.put, List.setIfInBounds_toArray, List.set_cons_zero, List.set_cons_succ])
            | ((with_reducible show wpQuiet _ _ _ _ (⟨_, Op.load 26 (.tmp 43), _, _, _, _⟩ :: _) _); refine wpQuiet_load_mid rfl _ _ rfl w5.heap.size 1 rfl (d2.map B8) _ FB Try.underlying26 rfl hi2 ?_; simp only [Act.put, List.setIfInBounds_toArray, List.set_cons_zero, List.set_cons_succ])
            | go_big_quiet_step (first | (go_at_call 33; exact HCM.out _)))
          refine wpQuiet_nil ?_
          rintro _ ⟨y1, rfl⟩
          have hY := HSx.out _ y1.ok
          have hth : y1.w.there w5.heap.size 0 (wc (s2, dn)).toArray.size := by
            have e : (wc (s2, dn)).toArray.size = 33 := by rw [List.size_toArray, wc_len (s2, dn) hdn]
            rw [e]
            exact hY.thr
          have HY := Lib.hid hY
          clear FA FB FC hne hY
          go_wp2_with ((with_reducible show wpList _ _ _ (⟨_, Op.store 123 (.tmp 6) _, _, _, _, _⟩ :: _) _ _); refine wpList_store_row rfl _ _ _ rfl w5.heap.size 0 (wc (s2, dn)).toArray rfl rfl hth (info_wc (s2, dn) hdn) (wc_one _) ?_; intro w9 hg9 hs9 ht9 hth9; rw [List.toList_toArray] at ht9)
          have hN : Mid F q1 (s2, dn) (ls.take (k + 1)) ∧ RootB w q1 (.slice (some ⟨g, 0, none⟩) j cv) w5.heap.size (s2, dn) w9 := by
            refine ⟨Hmg.out, ?_⟩
            have h1 := HY.out.rs
            have hown := h1.own
            rw [Hm.out, Hq1.out, wh_snoc] at hown
            have hl1 : ∀ x ∈ q1, x.2.length = 32 := fun x hx => h1.l32 x (by rw [Hq1.out]; simp [hx])
            have hless := own_less (k := j) hown (by rw [wh_len q1 hl1, Hj.out]) (by omega)
            rw [show j = q1.length from Hj.out] at hless ⊢
            refine RootS.put ⟨h1.below, h1.res, hless, hl1⟩ HY.out.gt HY.out.ne hg9 (by rw [hs9.out]; exact HY.out.lt) ht9 ?_ hdn
            have e : (wc (s2, dn)).toArray.size = 33 := by rw [List.size_toArray, wc_len (s2, dn) hdn]
            rw [e] at hth9
            exact hth9
          have HNn := Lib.hid hN
          clear hN hg9 hs9 ht9 hth9 hth
          go_roundw
          case rel => exact ⟨q1, (s2, dn), some ⟨g, 0, none⟩, cv, by rw [← Hj.out], by rw [← Hj.out], by rw [← Hj.out]; omega, by rw [← Hj.out]; exact HNn⟩
          case measure => (simp [intOf] <;> omega)
        · have hst : Stk F (q ++ [x]) (ls.take (k + 1)) := HM.out.stk (fun r y e h => hcase ⟨r, y, e, h⟩)
          have Hst := Lib.hid hst
          have hrx := HB.out.rng
          have hix : (Try.prog.info? 123).map (·.size) = some (wc x).length := by rw [wc_len x HB.out.x32]; exact info_whole
          have hcx := (wc_parts hrx).1
          rcases List.eq_nil_or_concat q with hq0 | ⟨q1, y, hq1⟩
          · have e7 : (m : Int) - 1 = -1 := by rw [hq0] at hm; simp at hm; omega
            rw [e7]
            clear hst hq hc0 hcase e7 hm hq0
            go_wp2_with fail
            go_quiet (fail)
            have HBz := Lib.hid (HB.out.stable (below_drewN (Below.refl _ _) nq))
            generalize wr.drewN nq = wz at HBz ⊢
            clear hrx hcx HB
            have HB := HBz
            have hrx := HB.out.rng
            clear HBz
            obtain ⟨wy, rfl⟩ : ∃ wy : World, wy = wz := ⟨_, rfl⟩
            go_wp2_with (first
              | ((with_reducible show wpList _ _ _ (⟨_, Op.buildSlice _ _ _, _, _, _, _⟩ :: _) _ _); refine wpList_buildOne rfl _ _ _ rfl (wc x) rfl Try.underlying121 info_whole3 (wc_len x HB.out.x32) (by decide) (by decide) ?_; simp only [Act.put, List.setIfInBounds_toArray, List.set_cons_zero, List.set_cons_succ])
              | ((with_reducible show wpList _ _ _ (⟨_, Op.load 123 (.tmp 6), _, _, _, _⟩ :: _) _ _); refine wpList_load_mid rfl _ _ rfl w5.heap.size 0 rfl (wc x) _ hrx Try.underlying123 rfl hix ?_; simp only [Act.put, List.setIfInBounds_toArray, List.set_cons_zero, List.set_cons_succ])
              | (at_builtin; refine wpList_append_keep rfl (.tmp 50) (.tmp 52) 121 rfl w ?hW Try.underlying121 info_whole3 rfl (by decide) (.slice Av m cv) m (wh q) rfl ?hown (some ⟨wy.heap.size, 0, none⟩) 1 1 (wc x) rfl ?hrc ?hlen (fun u hu => Array.all_eq_true_iff_forall_mem.1 (wc_one x) u (by simpa using hu)) (by unfold maxLen; omega) (by omega) ?_; (case hW => exact HB.out.rs.below.alloc HB.out.rs.below.size _); (case hown => have h := HB.out.rs.own; rw [Hm.out] at h; exact h.alloc _); (case hrc => exact rc_new wy _ _ _); (case hlen => have h := wc_len x HB.out.x32; omega); intro v8 w8 hown8 hb8 hk8 hg8 _; obtain ⟨A8, c8, rfl, -, -, -⟩ := own_formK hown8; have H8 := Lib.hid (And.intro hown8 (And.intro hb8 hg8)); clear hown8 hb8 hk8 hg8; simp only [Act.put, List.setIfInBounds_toArray, List.set_cons_zero, List.set_cons_succ]))
            obtain ⟨hown8, hb8, hg8⟩ := H8.out
            have hr8 : w8.heap[w.heap.size]? = some (.cells (List.replicate 32 (.int .u8 0)).toArray 26 (0, 0)) :=
              (hg8.block w.heap.size (by have := HB.out.rs.lt; simp; omega) (fun e => own_notBox HB.out.rs.own HB.out.rs.res (by decide) e.symm)).trans ((Below.heap_alloc _ _ _ HB.out.rs.lt).trans HB.out.rs.res)
            have hN : Stk F (q ++ [x]) (ls.take (k + 1)) ∧ RootS w (q ++ [x]) (.slice A8 (q ++ [x]).length c8) w8 := by
              have hl : (q ++ [x]).length = m + 1 := by rw [List.length_append, Hm.out]; rfl
              refine ⟨Hst.out, hb8, hr8, ?_, fun y hy => ?_⟩
              · rw [hl, wh_snoc]
                exact hown8
              · rcases List.mem_append.1 hy with hy | hy
                · exact HB.out.rs.l32 y hy
                · simp at hy
                  subst hy
                  exact HB.out.x32
            have HN2 := Lib.hid hN
            have hql : (q ++ [x]).length = m + 1 := by rw [List.length_append, Hm.out]; rfl
            have Hql := Lib.hid hql
            clear hN hr8 hown8 hb8 hg8 hql hrx hix
            go_roundw
            case rel => exact ⟨k + 1, q ++ [x], A8, c8, hkl, by go_num, by rw [Hql.out], by rw [Hql.out]; omega, HN2⟩
            case measure => simp [intOf]; omega
          · rw [List.concat_eq_append] at hq1
            have hne : ¬ y.1 = x.1 := fun e => hcase ⟨q1, y, hq1, e⟩
            obtain ⟨j, hj⟩ : ∃ j, j = q1.length := ⟨_, rfl⟩
            have hmj : m = j + 1 := by rw [hm, hj, hq1]; simp
            have e7 : (m : Int) - 1 = (j : Int) := by omega
            have hown := HB.out.rs.own
            rw [Hm.out] at hown
            obtain ⟨A0, c0, e0, -, -, hg0⟩ := own_formK hown
            cases e0
            obtain ⟨g, rfl, -, hrg, -⟩ := hg0 (by omega)
            have hy := wh_part q 0 HB.out.rs.l32 hrg j y (by rw [hq1, hj, List.getElem?_append_right (Nat.le_refl _)]; simp)
            rw [Nat.zero_add] at hy
            have hcy := (wc_parts hy).1
            have hxy : ((y.1 : Int) == (x.1 : Int)) = false := by simp; omega
            have hjm : j < m := by omega
            have hjm' : (j : Int) < (m : Int) := by omega
            rw [e7]
            clear hst hq hc0 hcase e7 hm hq1 hj hmj hown hg0 hrg hy hne
            go_wp2_with fail
            go_quiet (fail)
            have HBz := Lib.hid (HB.out.stable (below_drewN (Below.refl _ _) nq))
            generalize wr.drewN nq = wz at HBz ⊢
            clear hrx hcx HB hcy hxy
            have HB := HBz
            have hrx := HB.out.rng
            clear HBz
            obtain ⟨wy, rfl⟩ : ∃ wy : World, wy = wz := ⟨_, rfl⟩
            go_wp2_with (first
              | ((with_reducible show wpList _ _ _ (⟨_, Op.buildSlice _ _ _, _, _, _, _⟩ :: _) _ _); refine wpList_buildOne rfl _ _ _ rfl (wc x) rfl Try.underlying121 info_whole3 (wc_len x HB.out.x32) (by decide) (by decide) ?_; simp only [Act.put, List.setIfInBounds_toArray, List.set_cons_zero, List.set_cons_succ])
              | ((with_reducible show wpList _ _ _ (⟨_, Op.load 123 (.tmp 6), _, _, _, _⟩ :: _) _ _); refine wpList_load_mid rfl _ _ rfl w5.heap.size 0 rfl (wc x) _ hrx Try.underlying123 rfl hix ?_; simp only [Act.put, List.setIfInBounds_toArray, List.set_cons_zero, List.set_cons_succ])
              | (at_builtin; refine wpList_append_keep rfl (.tmp 50) (.tmp 52) 121 rfl w ?hW Try.underlying121 info_whole3 rfl (by decide) (.slice (some ⟨g, 0, none⟩) m cv) m (wh q) rfl ?hown (some ⟨wy.heap.size, 0, none⟩) 1 1 (wc x) rfl ?hrc ?hlen (fun u hu => Array.all_eq_true_iff_forall_mem.1 (wc_one x) u (by simpa using hu)) (by unfold maxLen; omega) (by omega) ?_; (case hW => exact HB.out.rs.below.alloc HB.out.rs.below.size _); (case hown => have h := HB.out.rs.own; rw [Hm.out] at h; exact h.alloc _); (case hrc => exact rc_new wy _ _ _); (case hlen => have h := wc_len x HB.out.x32; omega); intro v8 w8 hown8 hb8 hk8 hg8 _; obtain ⟨A8, c8, rfl, -, -, -⟩ := own_formK hown8; have H8 := Lib.hid (And.intro hown8 (And.intro hb8 hg8)); clear hown8 hb8 hk8 hg8; simp only [Act.put, List.setIfInBounds_toArray, List.set_cons_zero, List.set_cons_succ]))
            obtain ⟨hown8, hb8, hg8⟩ := H8.out
            have hr8 : w8.heap[w.heap.size]? = some (.cells (List.replicate 32 (.int .u8 0)).toArray 26 (0, 0)) :=
              (hg8.block w.heap.size (by have := HB.out.rs.lt; simp; omega) (fun e => own_notBox HB.out.rs.own HB.out.rs.res (by decide) e.symm)).trans ((Below.heap_alloc _ _ _ HB.out.rs.lt).trans HB.out.rs.res)
            have hN : Stk F (q ++ [x]) (ls.take (k + 1)) ∧ RootS w (q ++ [x]) (.slice A8 (q ++ [x]).length c8) w8 := by
              have hl : (q ++ [x]).length = m + 1 := by rw [List.length_append, Hm.out]; rfl
              refine ⟨Hst.out, hb8, hr8, ?_, fun y hy => ?_⟩
              · rw [hl, wh_snoc]
                exact hown8
              · rcases List.mem_append.1 hy with hy | hy
                · exact HB.out.rs.l32 y hy
                · simp at hy
                  subst hy
                  exact HB.out.x32
            have HN2 := Lib.hid hN
            have hql : (q ++ [x]).length = m + 1 := by rw [List.length_append, Hm.out]; rfl
            have Hql := Lib.hid hql
            clear hN hr8 hown8 hb8 hg8 hql hrx hix
            go_roundw
            case rel => exact ⟨k + 1, q ++ [x], A8, c8, hkl, by go_num, by rw [Hql.out], by rw [Hql.out]; omega, HN2⟩
            case measure => simp [intOf]; omega
    · obtain rfl : k = n := by omega
      have hfull : ls.take k = ls := List.take_of_length_le (by rw [Hlen.out]; exact Nat.le_refl _)
      rw [hfull] at hq
      clear hfull
      obtain ⟨m, hm⟩ : ∃ m, m = q.length := ⟨_, rfl⟩
      rw [← hm] at hqk hq ⊢
      have HS := Lib.hid hq.out.2
      have hst := hq.out.1
      rcases List.eq_nil_or_concat q with hq0 | ⟨q1, y, hq1⟩
      · have hD0 : D = F [] := by
          rw [hq0] at hst
          have hls : ls = [] := hst
          rw [HD.out, hls, rootF_nil]
        obtain rfl : m = 0 := by rw [hm, hq0]; rfl
        have hE := HE.out
        rw [← hD0] at hE
        unfold SumV at hE
        have HE' := Lib.hid hE
        have hi := info_of D Hrl.out
        have hi' := info_of' D Hrl.out
        clear hE hD0 hst hq hm hq0 hr
        go_wp2_with fail
        refine (HE'.out _).mono ?_
        rintro e w1 ⟨rfl, hb1⟩
        have h1 := HS.out.stable hb1
        have hth := there32 h1.res D Hrl.out rfl
        have H1 := Lib.hid h1
        clear h1 hb1
        go_wp2_with ((with_reducible show wpList _ _ _ (⟨_, Op.store 26 _ _, _, _, _, _⟩ :: _) _ _); refine wpList_store_row rfl _ _ _ rfl w.heap.size 0 (D.map B8).toArray rfl rfl hth hi' (b8_all D) ?_; intro w8 hg8 hs8 ht8 hth8)
        refine bodyPost_ret (v := SumV D) ?_ rfl ⟨rfl, ?_⟩
        · exact results_cell (s := 2) rfl _ _ _ w.heap.size 0 rfl (D.map B8) _ (by simpa using ht8) Try.underlying26 rfl hi
        · exact H1.out.below.grown hg8 (Nat.le_of_lt H1.out.lt) (by intro k hk; cases hk; exact Nat.le_refl _)
      · rw [List.concat_eq_append] at hq1
        obtain ⟨s, d1⟩ := y
        obtain ⟨j, hj⟩ : ∃ j, j = q1.length := ⟨_, rfl⟩
        obtain rfl : m = j + 1 := by rw [hm, hj, hq1]; simp
        have hown := HS.out.own
        rw [← hm] at hown
        obtain ⟨A0, c0, e0, hmc, -, hg0⟩ := own_formK hown
        cases e0
        obtain ⟨g, rfl, -, hrg, -⟩ := hg0 (by omega)
        have hyq : q[j]? = some (s, d1) := by rw [hq1, hj, List.getElem?_append_right (Nat.le_refl _)]; simp
        have hy := wh_part q 0 HS.out.l32 hrg j _ hyq
        rw [Nat.zero_add] at hy
        have hry := (wc_parts hy).2
        have hd1 : d1.length = 32 := HS.out.l32 (s, d1) (by rw [hq1]; simp)
        have hi := info_of d1 hd1
        have hi' := info_of' d1 hd1
        have e7 : ((j + 1 : Nat) : Int) - 1 = (j : Int) := by omega
        have hfin : Fin' F q1 d1 ls := by rw [hq1] at hst; exact hst.fin
        have Hfin := Lib.hid hfin
        have Hq1 := Lib.hid hq1
        have Hj := Lib.hid hj
        obtain ⟨wo, rfl⟩ : ∃ wo : World, wo = wr := ⟨_, rfl⟩
        clear hq hst hm hq1 hj hown hg0 hrg hyq hy hfin hr
        go_wp2_with (first
          | ((with_reducible show wpList _ _ _ (⟨_, Op.load 26 (.tmp 64), _, _, _, _⟩ :: _) _ _); refine wpList_load_mid rfl _ _ rfl g (j * 33 + 1) rfl (d1.map B8) _ hry Try.underlying26 rfl hi ?_; simp only [Act.put, List.setIfInBounds_toArray, List.set_cons_zero, List.set_cons_succ])
          | ((with_reducible show wpList _ _ _ (⟨_, Op.store 26 (.tmp 8) _, _, _, _, _⟩ :: _) _ _); refine wpList_store_row rfl _ _ _ rfl wo.heap.size 0 (d1.map B8).toArray rfl rfl (there_new' _ _ _ (by simp [hd1])) hi' (b8_all d1) ?_; intro w5 hg5 hs5 ht5 hth5; rw [List.toList_toArray] at ht5))
        have h05 : RootE w q (.slice (some ⟨g, 0, none⟩) (j + 1) cv) wo.heap.size d1 w5 := by
          refine RootS.putE (HS.out.stable ((Below.refl _ _).alloc (Nat.le_refl _) _)) HS.out.lt (fun e => ?_) hg5 (by rw [hs5.out]; simp) ht5 hth5 hd1
          have := (HS.out.own.lt _ e).2
          omega
        have H05 := Lib.hid (And.intro Hfin.out h05)
        have HQ : Hid (∃ rest, q = q1 ++ rest) := Lib.hid ⟨_, Hq1.out⟩
        have hq1j : q1.length = j := Hj.out.symm
        clear hg5 hs5 ht5 hth5 h05 hi hi' hry
        go_loopw [9] (fun kk wr => ∃ (q2 : List (Nat × Dg)) (d : Dg), kk = .int .i64 ((q2.length : Int) - 1) ∧ q2.length ≤ j ∧ Hid (∃ rest, q = q2 ++ rest) ∧ Hid (Fin' F q2 d ls ∧ RootE w q (.slice (some ⟨g, 0, none⟩) (j + 1) cv) wo.heap.size d wr)) (fun kk _ => (intOf kk + 1).toNat)
        case atStart => exact ⟨q1, d1, by rw [hq1j]; go_num, by omega, HQ, H05⟩
        case round =>
          obtain ⟨q2, d, rfl, hq2j, hpre, hq⟩ := hrel
          have HE5 := Lib.hid hq.out.2
          rcases List.eq_nil_or_concat q2 with hq0 | ⟨q3, y, hq3⟩
          · have hDd : D = d := by
              have h := hq.out.1
              rw [hq0] at h
              rw [HD.out, h.root]
            rw [hq0]
            rw [show ((([] : List (Nat × Dg)).length : Int) - 1) = -1 from rfl]
            subst hDd
            have hrd := HE5.out.rng
            have hi := info_of D HE5.out.d32
            have hi' := info_of' D HE5.out.d32
            have hth := there32 HE5.out.rs.res D HE5.out.d32 rfl
            clear hq hq0 hpre hq2j
            go_wp2_with (first
              | ((with_reducible show wpList _ _ _ (⟨_, Op.load 26 (.tmp 8), _, _, _, _⟩ :: _) _ _); refine wpList_load_mid rfl _ _ rfl wo.heap.size 0 rfl (D.map B8) _ hrd Try.underlying26 rfl hi ?_; simp only [Act.put, List.setIfInBounds_toArray, List.set_cons_zero, List.set_cons_succ])
              | ((with_reducible show wpList _ _ _ (⟨_, Op.store 26 (.tmp 2) _, _, _, _, _⟩ :: _) _ _); refine wpList_store_row rfl _ _ _ rfl w.heap.size 0 (D.map B8).toArray rfl rfl hth hi' (b8_all D) ?_; intro w8 hg8 hs8 ht8 hth8))
            refine bodyPost_ret (v := SumV D) ?_ rfl ⟨rfl, ?_⟩
            · exact results_cell (s := 2) rfl _ _ _ w.heap.size 0 rfl (D.map B8) _ (by simpa using ht8) Try.underlying26 rfl hi
            · exact HE5.out.rs.below.grown hg8 (Nat.le_of_lt HE5.out.rs.lt) (by intro k hk; cases hk; exact Nat.le_refl _)
          · rw [List.concat_eq_append] at hq3
            obtain ⟨s3, d3⟩ := y
            obtain ⟨i, hi⟩ : ∃ i, i = q3.length := ⟨_, rfl⟩
            have hl2 : q2.length = i + 1 := by rw [hi, hq3]; simp
            have e7 : (q2.length : Int) - 1 = (i : Int) := by omega
            rw [e7]
            have hyq : q[i]? = some (s3, d3) := by
              obtain ⟨rest, hr⟩ := hpre.out
              rw [hr, hq3, List.append_assoc, hi, List.getElem?_append_right (Nat.le_refl _)]
              simp
            have hd3 : d3.length = 32 := HE5.out.rs.l32 (s3, d3) (List.mem_of_getElem? hyq)
            have hd : d.length = 32 := HE5.out.d32
            have hdn : (nodeF F d3 d).length = 32 := HFl.out _
            have hfn : Fin' F q3 (nodeF F d3 d) ls := by have h := hq.out.1; rw [hq3] at h; exact h.step
            have hnode := fun w => HN.out w d3 d hd3 hd
            generalize nodeF F d3 d = dn at hfn hdn hnode
            unfold SumV at hnode
            have hi1 := info_of d3 hd3
            have hi2 := info_of d hd
            have hi3 := info_of' dn hdn
            have hpre3 : ∃ rest, q = q3 ++ rest := by
              obtain ⟨rest, hr⟩ := hpre.out
              exact ⟨[(s3, d3)] ++ rest, by rw [hr, hq3, List.append_assoc]⟩
            have hij : i < j + 1 := by omega
            have Hnode := Lib.hid hnode
            have Hfn := Lib.hid hfn
            have Hpre3 := Lib.hid hpre3
            have Hi := Lib.hid hi
            have Hyq := Lib.hid hyq
            have Hl2 := Lib.hid hl2
            obtain ⟨S, hS⟩ : ∃ S : World → Prop, S = fun u => RootE w q (.slice (some ⟨g, 0, none⟩) (j + 1) cv) wo.heap.size d u := ⟨_, rfl⟩
            have Sx : ∀ u, S u → RootE w q (.slice (some ⟨g, 0, none⟩) (j + 1) cv) wo.heap.size d u := by rw [hS]; exact fun _ h => h
            have Sb : ∀ u u', S u → Below u.heap.size u u' → S u' := by rw [hS]; exact fun u u' h hb => h.stable hb
            have Sz : S wr := by rw [hS]; exact HE5.out
            have hne : Nonempty (InC S) := ⟨⟨_, Sz⟩⟩
            have FA : ∀ y : InC S, y.w.rangeAt g (i * 33 + 1) (d3.map B8) := fun y => by
              have h1 := wh_part q 0 (Sx _ y.ok).rs.l32 (own_at (Sx _ y.ok).rs.own) i _ Hyq.out
              rw [Nat.zero_add] at h1
              exact (wc_parts h1).2
            have FB : ∀ y : InC S, y.w.rangeAt wo.heap.size 0 (d.map B8) := fun y => (Sx _ y.ok).rng
            have CM : ∀ y : InC S, Calls Try.prog 33 #[.agg (d3.map B8).toArray, .agg (d.map B8).toArray] y.w fun e w' => e = .returned (.agg (dn.map B8).toArray) ∧ ∃ z : InC S, w' = z.w := fun y =>
              (Hnode.out y.w).mono fun e w' ⟨h1, h2⟩ => ⟨h1, ⟨w', Sb _ _ y.ok h2⟩, rfl⟩
            have HSx := Lib.hid Sx
            have HCM := Lib.hid CM
            have HSd := Lib.hid (Sb wr wr.drew Sz (below_drewN (Below.refl _ _) 1))
            clear hS Sx Sb Sz CM hq hpre hq3 hi hl2 e7 hyq hfn hnode hpre3 hq2j
            go_wp2_with fail
            refine wp_region_quietTailIn 7 S (by kernel_rfl) (by kernel_rfl) HSd.out ?_
            simp only [List.take_succ_cons, List.take_zero, List.drop_succ_cons, List.drop_zero]
            repeat (first
              | ((with_reducible show wpQuiet _ _ _ _ (⟨_, Op.load 26 (.tmp 76), _, _, _, _⟩ :: _) _); refine wpQuiet_load_mid rfl _ _ rfl g (i * 33 + 1) rfl (d3.map B8) _ FA Try.underlying26 rfl hi1 ?_; simp only [Act.put, List.setIfInBounds_toArray, List.set_cons_zero, List.set_cons_succ])
              | ((with_reducible show wpQuiet _ _ _ _ (⟨_, Op.load 26 (.tmp 8), _, _, _, _⟩ :: _) _); refine wpQuiet_load_mid rfl _ _ rfl wo.heap.size 0 rfl (d.map B8) _ FB Try.underlying26 rfl hi2 ?_; simp only [Act.put, List.setIfInBounds_toArray, List.set_cons_zero, List.set_cons_succ])
              | go_big_quiet_step (first | (go_at_call 33; exact HCM.out _)))
            refine wpQuiet_nil ?_
            rintro _ ⟨y1, rfl⟩
            have hY := HSx.out _ y1.ok
            have hth : y1.w.there wo.heap.size 0 (dn.map B8).toArray.size := by
              have e : (dn.map B8).toArray.size = 32 := by simp [hdn]
              rw [e]
              exact hY.thr
            have HY := Lib.hid hY
            clear FA FB hne hY
            go_wp2_with ((with_reducible show wpList _ _ _ (⟨_, Op.store 26 (.tmp 8) _, _, _, _, _⟩ :: _) _ _); refine wpList_store_row rfl _ _ _ rfl wo.heap.size 0 (dn.map B8).toArray rfl rfl hth hi3 (b8_all dn) ?_; intro w9 hg9 hs9 ht9 hth9; rw [List.toList_toArray] at ht9)
            have hN : Fin' F q3 dn ls ∧ RootE w q (.slice (some ⟨g, 0, none⟩) (j + 1) cv) wo.heap.size dn w9 :=
              ⟨Hfn.out, RootS.putE HY.out.rs HY.out.gt HY.out.ne hg9 (by rw [hs9.out]; exact HY.out.lt) ht9 hth9 hdn⟩
            have HNn := Lib.hid hN
            clear hN hg9 hs9 ht9 hth9 hth
            go_roundw
            case rel => exact ⟨q3, dn, by rw [← Hi.out], by rw [← Hi.out]; have := Hl2.out; omega, Hpre3, HNn⟩
            case measure => (simp [intOf] <;> omega)
end
end Go.Proofs.Ytkcmacglomdfcaa
