/-
  THE WALKS of proof.Come and Holds.
-/
import Derived.Test.YtkcmacglomdfcaaPfE
import Derived.Test.YtkcmacglomdfcaaPfB
namespace Go.Proofs.Ytkcmacglomdfcaa
open Go.RowKit Go.Shelf

theorem zeros_lit : (#[(.int .u8 0 : Value), (.int .u8 0 : Value), (.int .u8 0 : Value), (.int .u8 0 : Value), (.int .u8 0 : Value), (.int .u8 0 : Value), (.int .u8 0 : Value), (.int .u8 0 : Value), (.int .u8 0 : Value), (.int .u8 0 : Value), (.int .u8 0 : Value), (.int .u8 0 : Value), (.int .u8 0 : Value), (.int .u8 0 : Value), (.int .u8 0 : Value), (.int .u8 0 : Value), (.int .u8 0 : Value), (.int .u8 0 : Value), (.int .u8 0 : Value), (.int .u8 0 : Value), (.int .u8 0 : Value), (.int .u8 0 : Value), (.int .u8 0 : Value), (.int .u8 0 : Value), (.int .u8 0 : Value), (.int .u8 0 : Value), (.int .u8 0 : Value), (.int .u8 0 : Value), (.int .u8 0 : Value), (.int .u8 0 : Value), (.int .u8 0 : Value), (.int .u8 0 : Value)] : Array Value) = (List.replicate 32 (.int .u8 0)).toArray := rfl
theorem zeros_map : (List.replicate 32 (.int .u8 0) : List Value) = (List.replicate 32 (0 : UInt8)).map B8 := rfl
/-- A digest in a variable, and what stands beside it, returned. -/
theorem results_cell_tmp {fn : Func} {s s2 : Tmp} {ty : TypeId} (h : fn.results = #[.cell s ty, .tmp s2]) (tmps : Array Value) (P : Program) (w : World) (b o : Nat) (hp : tmps.getD s undef = .pointer (some ⟨b, o, none⟩)) (v : Value) (hv : tmps.getD s2 undef = v)
    (cs : List Value) (d : TypeDesc) (hc : w.rangeAt b o cs) (hu : P.underlying ty = some d) (hd : d.isRow = true) (hi : (P.info? ty).map (·.size) = some cs.length) :
    (results fn tmps).run P w = .ok (.tuple #[.agg cs.toArray, v]) w := by
  have hp' : tmps[s]?.getD undef = .pointer (some ⟨b, o, none⟩) := by simpa using hp
  have hv' : tmps[s2]?.getD undef = v := by simpa using hv
  simp only [results, h]
  simp [hp', hv', asAddr, run_loadVar_mid w b o ty cs d hc hu hd hi]
/-- In Come: the digest so far, the result's block, the turns. -/
structure CmI (w : World) (V : Value) (m : Nat) (T : List Bool) (d : Dg) (u : World) : Prop where
  below : Below w.heap.size w u
  d32 : d.length = 32
  sum : u.rangeAt w.heap.size 0 (d.map B8)
  sth : u.there w.heap.size 0 32
  rth : u.there (w.heap.size + 1) 0 32
  own : u.ownsRow (w.heap.size + 2) 140 1 V m (T.map Value.bool)
theorem there_lt {w : World} {b n : Nat} (h : w.there b 0 n) (hn : 0 < n) : b < w.heap.size := by
  have := (h 0 hn).1
  cases hc : w.cell? ⟨b, 0 + 0, none⟩ with
  | none => rw [hc] at this; simp at this
  | some v => exact World.block_lt_of_cell? w _ hc
theorem CmI.stable {w u u' : World} {V : Value} {m : Nat} {T : List Bool} {d : Dg} (h : CmI w V m T d u) (hb : Below u.heap.size u u') : CmI w V m T d u' :=
  ⟨h.below.trans (hb.mono h.below.size), h.d32, rangeAt_below' h.sum hb, there_same h.sth (hb.block _ (there_lt h.sth (by decide))), there_same h.rth (hb.block _ (there_lt h.rth (by decide))), ownsRow_below h.own hb⟩
theorem CmI.put {w u u' : World} {V : Value} {m : Nat} {T : List Bool} {d d' : Dg} (h : CmI w V m T d u) (hg : u.grownBy u' (some w.heap.size)) (hr : u'.rangeAt w.heap.size 0 (d'.map B8)) (ht : u'.there w.heap.size 0 32) (hd : d'.length = 32) : CmI w V m T d' u' := by
  refine ⟨h.below.grown hg h.below.size (by intro k hk; cases hk; exact Nat.le_refl _), hd, hr, ht, there_same h.rth (hg.block _ (there_lt h.rth (by decide)) (by simp)), h.own.kept hg ?_⟩
  rcases hz : V.ownBlock with _ | g
  · exact .inl rfl
  · have := (h.own.lt g hz).1
    exact .inr (by intro e; cases e; omega)
/-- A whole array's load under a guard that says yes. -/
theorem wpList_load_midW {P : Program} {ops : Array Oper} {rest : List Oper} {op : Oper} {a : Act} {w : World} {Q : Exit → Act → World → Prop} (hwt : Region.wanted op (yielded ops a.tmps) = true) (ty : TypeId) (x : Operand) (ho : op.op = .load ty x)
    (b o : Nat) (hx : a.eval x = .pointer (some ⟨b, o, none⟩)) (cs : List Value) (d : TypeDesc) (hc : w.rangeAt b o cs)
    (hu : P.underlying ty = some d) (hd : d.isRow = true) (hi : (P.info? ty).map (·.size) = some cs.length)
    (h : wpList P ops Q rest (a.put op.dst (.agg cs.toArray)) w) : wpList P ops Q (op :: rest) a w :=
  wpList_step fun _ hK => by
    rw [if_pos hwt]
    exact wp_load_mid ty x ho b o hx cs d hc hu hd hi (hK _ _ h)
def zero32 : Dg := List.replicate 32 0
abbrev errV (k : Int) : Value := .iface 58 (.int .i64 k)
set_option maxRecDepth 100000 in
theorem come_range (w : World) (d : Dg) (i n : Int) (h : ¬ (1 ≤ n ∧ n ≤ 1048576 ∧ 0 ≤ i ∧ i < n)) (V : Value) :
    Calls Try.prog 90 #[SumV d, .int .i64 i, .int .i64 n, V] w fun e w' => e = .returned (.tuple #[SumV zero32, errV 2]) ∧ Below w.heap.size w w' := by
  have hs := fun w => sound_no w i n h
  have HS := Lib.hid hs
  clear hs h
  unfold SumV
  go_enter Try.func90, Try.ntmps90
  go_wp2_with (first
    | (go_at_call 91; refine (HS.out _).mono ?_; rintro e w' ⟨rfl, rfl⟩)
    | ((with_reducible show wpList _ _ _ (⟨_, Op.store 26 (.tmp 8) _, _, _, _, _⟩ :: _) _ _); refine wpList_store_row rfl _ _ _ rfl (w.heap.size + 1) 0 (zero32.map B8).toArray rfl rfl (there_blk (heap_alloc_at _ _ _ (by simp)) (by decide)) (by kernel_rfl) (b8_all zero32) ?_; intro w10 hg10 hs10 ht10 hth10; rw [List.toList_toArray] at ht10))
  refine bodyPost_ret (v := .tuple #[.agg (zero32.map B8).toArray, errV 2]) ?_ rfl ⟨rfl, ?_⟩
  · exact results_cell_tmp (s := 8) (s2 := 9) rfl _ _ _ (w.heap.size + 1) 0 rfl _ rfl (zero32.map B8) _ ht10 Try.underlying26 rfl (by kernel_rfl)
  · exact (((Below.refl _ _).alloc (Nat.le_refl _) _).alloc (by simp) _).grown hg10 (by simp <;> omega) (by intro k hk; cases hk; omega)
set_option maxRecDepth 100000 in
set_option maxHeartbeats 1000000 in
theorem come_len (w : World) (d : Dg) (i n : Nat) (hi : i < n) (hn : n ≤ 1048576) (A : Option Addr) (m c : Nat) (hm : m ≠ (turns i n).length) :
    Calls Try.prog 90 #[SumV d, .int .i64 (i : Int), .int .i64 (n : Int), .slice A m c] w fun e w' => e = .returned (.tuple #[SumV zero32, errV 13]) ∧ Below w.heap.size w w' := by
  have hs := fun w => sound_yes w i n hi hn
  have HS := Lib.hid hs
  obtain ⟨m', hm'⟩ : ∃ m', m' = (turns i n).length := ⟨_, rfl⟩
  rw [← hm'] at hm
  have Hm' := Lib.hid hm'
  clear hs hm'
  have hne : ((m' : Int) != (m : Int)) = true := by simp; omega
  clear hm
  unfold SumV
  go_enter Try.func90, Try.ntmps90
  go_wp2_with (go_at_call 91; refine (HS.out _).mono ?_; rintro e w' ⟨rfl, rfl⟩)
  rw [zeros_lit]
  obtain ⟨W2, hW2⟩ : ∃ W2, W2 = (w.alloc (.cells (d.map B8).toArray 26)).alloc (.cells (List.replicate 32 (.int .u8 0)).toArray 26) := ⟨_, rfl⟩
  have hb2 : Below w.heap.size w W2 := by rw [hW2]; exact ((Below.refl _ _).alloc (Nat.le_refl _) _).alloc (by simp) _
  have hz2 : W2.heap[w.heap.size + 1]? = some (.cells (List.replicate 32 (.int .u8 0)).toArray 26 (0, 0)) := by rw [hW2]; exact heap_alloc_at _ _ _ (by simp)
  rw [← hW2]
  have HW2 := Lib.hid (And.intro hb2 hz2)
  clear hW2 hb2 hz2
  refine (way_any _ _ _).mono ?_
  rintro e w6 ⟨rfl, hw6⟩
  have h6 : Below W2.heap.size W2 w6 := by rw [← hw6]; exact ((Below.refl _ _).alloc (Nat.le_refl _) _).alloc (by simp) _
  have c6 : w6.cell? ⟨W2.heap.size, 0, none⟩ = some (.int .i64 (i : Int)) := by
    have : w6.heap[W2.heap.size]? = some (.cells #[.int .i64 (i : Int)] 3 (0, 0)) := by rw [← hw6]; exact (Below.heap_alloc _ _ _ (by simp)).trans (heap_alloc_new W2 _)
    rw [cell_of_row _ _ _ _ _ _ this]; rfl
  have d6 : w6.cell? ⟨W2.heap.size + 1, 0, none⟩ = some (.int .i64 (n : Int)) := by
    have : w6.heap[W2.heap.size + 1]? = some (.cells #[.int .i64 (n : Int)] 3 (0, 0)) := by rw [← hw6]; exact heap_alloc_at _ _ _ (by simp)
    rw [cell_of_row _ _ _ _ _ _ this]; rfl
  have hcol := collect_any w6 _ _ i n hi hn c6 d6
  have H6 := Lib.hid (And.intro h6 hcol)
  clear hw6 h6 c6 d6 hcol
  go_wp2_with fail
  refine H6.out.2.mono ?_
  rintro e w7 ⟨At, ct, rfl, hown7, hb7⟩
  rw [← Hm'.out] at hown7 ⊢
  have hb27 : Below W2.heap.size W2 w7 := H6.out.1.trans (hb7.mono H6.out.1.size)
  have hz7 := heap_below HW2.out.2 hb27
  have hth : w7.there (w.heap.size + 1) 0 (zero32.map B8).toArray.size := there_blk hz7 (by decide)
  have hb07 := HW2.out.1.trans (hb27.mono HW2.out.1.size)
  have H7 := Lib.hid hb07
  clear hown7 hb7 hb27 hz7 hb07
  go_wp2_with ((with_reducible show wpList _ _ _ (⟨_, Op.store 26 (.tmp 8) _, _, _, _, _⟩ :: _) _ _); refine wpList_store_row rfl _ _ _ rfl (w.heap.size + 1) 0 (zero32.map B8).toArray rfl rfl hth (by kernel_rfl) (b8_all zero32) ?_; intro w10 hg10 hs10 ht10 hth10; rw [List.toList_toArray] at ht10)
  refine bodyPost_ret (v := .tuple #[.agg (zero32.map B8).toArray, errV 13]) ?_ rfl ⟨rfl, ?_⟩
  · exact results_cell_tmp (s := 8) (s2 := 9) rfl _ _ _ (w.heap.size + 1) 0 rfl _ rfl (zero32.map B8) _ ht10 Try.underlying26 rfl (by kernel_rfl)
  · exact H7.out.grown hg10 H7.out.size (by intro k hk; cases hk; omega)
set_option maxRecDepth 100000 in
set_option maxHeartbeats 1000000 in
/-- Holds, out of what Come answers. -/
theorem holds_of (w : World) (d r g : Dg) (hd : d.length = 32) (hr : r.length = 32) (hg : g.length = 32) (i n : Int) (V ev : Value)
    (hc : ∀ u, Below w.heap.size w u → Calls Try.prog 90 #[SumV d, .int .i64 i, .int .i64 n, V] u fun e w' => e = .returned (.tuple #[SumV g, ev]) ∧ Below u.heap.size u w')
    (b : Bool) (hb : (ev = .nilIface ∧ b = (g == r)) ∨ (∃ k, ev = errV k ∧ b = false)) :
    Calls Try.prog 62 #[SumV d, .int .i64 i, .int .i64 n, V, SumV r] w fun e w' => e = .returned (.bool b) ∧ Below w.heap.size w w' := by
  have HC := Lib.hid hc
  clear hc
  unfold SumV at HC ⊢
  have hi1 := info_of d hd
  have hi2 := info_of r hr
  have hi3 := info_of g hg
  have hi3' := info_of' g hg
  have HX : Hid (∀ (cl cr : List Value), cl = d.map B8 → cr = r.map B8 → ∀ W, W = (w.alloc (.cells cl.toArray 26)).alloc (.cells cr.toArray 26) →
      Below w.heap.size w W ∧ W.rangeAt w.heap.size 0 (d.map B8) ∧ W.rangeAt (w.heap.size + 1) 0 (r.map B8) ∧ W.heap.size = w.heap.size + 2) := Lib.hid (by
    rintro cl cr rfl rfl W rfl
    exact ⟨((Below.refl _ _).alloc (Nat.le_refl _) _).alloc (by simp) _, World.rangeAt_alloc (rangeAt_at _ _ _ _ _ rfl) _, rangeAt_at _ _ _ _ _ (by simp), by simp⟩)
  have Hg := Lib.hid hg
  have he := fun w => run_eql_sum w g r hg hr
  obtain ⟨q, hq⟩ : ∃ q, q = (g == r) := ⟨_, rfl⟩
  rw [← hq] at he hb
  have Hb := Lib.hid hb
  clear hb hq hg hr hd
  go_enter Try.func62, Try.ntmps62
  go_wp2_with ((with_reducible show wpList _ _ _ (⟨_, Op.load 26 (.tmp 5), _, _, _, _⟩ :: _) _ _); refine wpList_load_mid rfl _ _ rfl w.heap.size 0 rfl (d.map B8) _ (HX.out _ _ rfl rfl _ rfl).2.1 Try.underlying26 rfl hi1 ?_; simp only [Act.put, List.setIfInBounds_toArray, List.set_cons_zero, List.set_cons_succ])
  refine (HC.out _ (HX.out _ _ rfl rfl _ rfl).1).mono ?_
  rintro e w3 ⟨rfl, hb3⟩
  obtain ⟨hb2, -, hr2, hs2⟩ := HX.out _ _ rfl rfl _ rfl
  have hr3 := rangeAt_below' hr2 hb3
  have hb03 := hb2.trans (hb3.mono hb2.size)
  have hlt : w.heap.size + 2 ≤ w3.heap.size := by have := hb3.size; omega
  have H3 := Lib.hid (And.intro hr3 (And.intro hb03 hlt))
  clear HX hb2 hr2 hs2 hr3 hb03 hlt hb3
  rcases Hb.out with ⟨rfl, rfl⟩ | ⟨k, rfl, rfl⟩
  · go_wp2_with (first
      | ((with_reducible show wpList _ _ _ (⟨_, Op.store 26 (.tmp 11) _, _, _, _, _⟩ :: _) _ _); refine wpList_store_row rfl _ _ _ rfl w3.heap.size 0 (g.map B8).toArray rfl rfl (there_new' _ _ _ (by simp [Hg.out])) hi3' (b8_all g) ?_; intro w8 hg8 hs8 ht8 hth8; rw [List.toList_toArray] at ht8; have hb8 : Below w3.heap.size w3 w8 := ((Below.refl _ _).alloc (Nat.le_refl _) _).grown hg8 (by simp) (by intro k hk; cases hk; exact Nat.le_refl _); have hr8 := rangeAt_below' H3.out.1 hb8)
      | ((with_reducible show wpList _ _ _ (⟨_, Op.load 26 (.tmp 11), _, _, _, _⟩ :: _) _ _); refine wpList_load_midW rfl _ _ rfl w3.heap.size 0 rfl (g.map B8) _ ht8 Try.underlying26 rfl hi3 ?_; simp only [Act.put, List.setIfInBounds_toArray, List.set_cons_zero, List.set_cons_succ])
      | ((with_reducible show wpList _ _ _ (⟨_, Op.load 26 (.tmp 9), _, _, _, _⟩ :: _) _ _); refine wpList_load_midW rfl _ _ rfl (w.heap.size + 1) 0 rfl (r.map B8) _ hr8 Try.underlying26 rfl hi2 ?_; simp only [Act.put, List.setIfInBounds_toArray, List.set_cons_zero, List.set_cons_succ]))
    go_ret
    exact ⟨rfl, H3.out.2.1.trans (hb8.mono H3.out.2.1.size)⟩
  · go_wp2_with ((with_reducible show wpList _ _ _ (⟨_, Op.store 26 (.tmp 11) _, _, _, _, _⟩ :: _) _ _); refine wpList_store_row rfl _ _ _ rfl w3.heap.size 0 (g.map B8).toArray rfl rfl (there_new' _ _ _ (by simp [Hg.out])) hi3' (b8_all g) ?_; intro w8 hg8 hs8 ht8 hth8; rw [List.toList_toArray] at ht8; have hb8 : Below w3.heap.size w3 w8 := ((Below.refl _ _).alloc (Nat.le_refl _) _).grown hg8 (by simp) (by intro k hk; cases hk; exact Nat.le_refl _))
    go_ret
    exact ⟨rfl, H3.out.2.1.trans (hb8.mono H3.out.2.1.size)⟩
section
variable {F : List UInt8 → List UInt8} (HF : Dig F)
include HF
set_option maxRecDepth 100000 in
set_option maxHeartbeats 2000000 in
theorem come_yes (w : World) (d : Dg) (hd : d.length = 32) (i n : Nat) (hi : i < n) (hn : n ≤ 1048576) (A : Option Addr) (m c : Nat) (ps : List Dg) (hr : RS w A m ps) (hmc : m ≤ c) (hm : m = (turns i n).length) :
    Calls Try.prog 90 #[SumV d, .int .i64 (i : Int), .int .i64 (n : Int), .slice A m c] w fun e w' => e = .returned (.tuple #[SumV (comeF F d (turns i n).reverse ps), .nilIface]) ∧ Below w.heap.size w w' := by
  obtain ⟨D, hD⟩ : ∃ D, D = comeF F d (turns i n).reverse ps := ⟨_, rfl⟩
  rw [← hD]
  have HD := Lib.hid hD
  clear hD
  have hs := fun w => sound_yes w i n hi hn
  have HS := Lib.hid hs
  have hNd := node_any HF
  have HNd := Lib.hid hNd
  have Hm := Lib.hid hm
  have hml := turns_len n i
  have hm6 : m ≤ 1048576 := by omega
  have hlen := hr.len
  have Hlen := Lib.hid hlen
  have hF32 := HF.len
  have HF32 := Lib.hid hF32
  have Hd := Lib.hid hd
  have hps32 := hr.2.1
  have Hps32 := Lib.hid hps32
  clear hs hm hml hNd hlen hF32 hd hps32
  unfold SumV
  go_enter Try.func90, Try.ntmps90
  go_wp2_with (go_at_call 91; refine (HS.out _).mono ?_; rintro e w' ⟨rfl, rfl⟩)
  rw [zeros_lit]
  obtain ⟨W2, hW2⟩ : ∃ W2, W2 = (w.alloc (.cells (d.map B8).toArray 26)).alloc (.cells (List.replicate 32 (.int .u8 0)).toArray 26) := ⟨_, rfl⟩
  have hb2 : Below w.heap.size w W2 := by rw [hW2]; exact ((Below.refl _ _).alloc (Nat.le_refl _) _).alloc (by simp) _
  have hs2 : W2.heap.size = w.heap.size + 2 := by rw [hW2]; simp
  have ha2 : W2.heap[w.heap.size]? = some (.cells (d.map B8).toArray 26 (0, 0)) := by rw [hW2]; exact (Below.heap_alloc _ _ _ (by simp)).trans (heap_alloc_new w _)
  have hz2 : W2.heap[w.heap.size + 1]? = some (.cells (List.replicate 32 (.int .u8 0)).toArray 26 (0, 0)) := by rw [hW2]; exact heap_alloc_at _ _ _ (by simp)
  rw [← hW2]
  have HW2 := Lib.hid (And.intro hb2 (And.intro hs2 (And.intro ha2 hz2)))
  clear hW2 hb2 hs2 ha2 hz2
  refine (way_any _ _ _).mono ?_
  rintro e w6 ⟨rfl, hw6⟩
  have h6 : Below W2.heap.size W2 w6 := by rw [← hw6]; exact ((Below.refl _ _).alloc (Nat.le_refl _) _).alloc (by simp) _
  have c6 : w6.cell? ⟨W2.heap.size, 0, none⟩ = some (.int .i64 (i : Int)) := by
    have : w6.heap[W2.heap.size]? = some (.cells #[.int .i64 (i : Int)] 3 (0, 0)) := by rw [← hw6]; exact (Below.heap_alloc _ _ _ (by simp)).trans (heap_alloc_new W2 _)
    rw [cell_of_row _ _ _ _ _ _ this]; rfl
  have d6 : w6.cell? ⟨W2.heap.size + 1, 0, none⟩ = some (.int .i64 (n : Int)) := by
    have : w6.heap[W2.heap.size + 1]? = some (.cells #[.int .i64 (n : Int)] 3 (0, 0)) := by rw [← hw6]; exact heap_alloc_at _ _ _ (by simp)
    rw [cell_of_row _ _ _ _ _ _ this]; rfl
  have hcol := collect_any w6 _ _ i n hi hn c6 d6
  have H6 := Lib.hid (And.intro h6 hcol)
  clear hw6 h6 c6 d6 hcol
  go_wp2_with fail
  refine H6.out.2.mono ?_
  rintro e w7 ⟨At, ct, rfl, hown7, hb7⟩
  rw [← Hm.out] at hown7 ⊢
  have hb27 : Below W2.heap.size W2 w7 := H6.out.1.trans (hb7.mono H6.out.1.size)
  have hown7' := ownsRow_base (base' := w.heap.size + 2) hown7 (by have := H6.out.1.size; have := HW2.out.2.1; omega)
  obtain ⟨T, hT⟩ : ∃ T, T = (turns i n).reverse := ⟨_, rfl⟩
  have hTl : T.length = m := by rw [hT, List.length_reverse, Hm.out]
  have hrev : (turns i n) = T.reverse := by rw [hT, List.reverse_reverse]
  rw [hrev] at hown7'
  have HT := Lib.hid (And.intro hT hTl)
  have hm2 : ((m : Int) != (m : Int)) = false := by simp
  obtain ⟨X, hX⟩ : ∃ X : World → Prop, X = fun u => CmI w (.slice At m ct) m T d u := ⟨_, rfl⟩
  have hrv : Calls Try.prog 105 #[.slice At m ct] w7 fun e w' => e = .returned (.tuple #[]) ∧ X w' := by
    have hI : ∀ u, Below w7.heap.size w7 u ∨ True → Below (w.heap.size + 2) W2 u → u.ownsRow (w.heap.size + 2) 140 1 (.slice At m ct) m (T.map Value.bool) → X u := by
      intro u _ hbu hou
      rw [hX]
      have hbu' : Below W2.heap.size W2 u := hbu.mono (by have := HW2.out.2.1; omega)
      exact ⟨HW2.out.1.trans (hbu.mono (by omega)), Hd.out, rangeAt_below' (by have := rangeAt_blk HW2.out.2.2.1; simpa using this) hbu', there_same (there_blk HW2.out.2.2.1 (by simp [Hd.out])) (hbu'.block _ (by have := HW2.out.2.1; omega)),
        there_same (there_blk HW2.out.2.2.2 (by simp)) (hbu'.block _ (by have := HW2.out.2.1; omega)), hou⟩
    have hb27' : Below (w.heap.size + 2) W2 w7 := hb27.mono (by have := HW2.out.2.1; omega)
    by_cases hm0 : m = 0
    · have hT0 : T = [] := List.eq_nil_of_length_eq_zero (by omega)
      subst hm0
      refine (rev_turns_none w7 At ct).mono ?_
      rintro e w' ⟨he, rfl⟩
      rw [hT0] at hown7'
      exact ⟨he, hI _ (.inr trivial) hb27' (by rw [hT0]; exact hown7')⟩
    · obtain ⟨g, cap, hv, -, -⟩ := hown7'.form (by omega)
      injection hv with hv1 _ hv3
      subst hv1
      subst hv3
      refine (rev_turns w7 (w.heap.size + 2) g m ct T.reverse hown7' (by rw [List.length_reverse, hTl]) (by omega)).mono ?_
      rintro e w' ⟨he, ho', hb'⟩
      rw [List.reverse_reverse] at ho'
      exact ⟨he, hI _ (.inr trivial) (hb' _ hb27') ho'⟩
  have Hrv := Lib.hid hrv
  have HX := Lib.hid hX
  clear hown7 hown7' hb7 hT hTl hrev hrv hX hb27
  go_wp2_with fail
  refine Hrv.out.mono ?_
  rintro e w8 ⟨rfl, h8⟩
  rw [HX.out] at h8
  have h08 : Hid (∃ d', d' = comeF F d (T.take 0) (ps.take 0) ∧ CmI w (.slice At m ct) m T d' w8) := Lib.hid ⟨_, rfl, by simpa [comeF] using h8⟩
  clear h8
  go_wp2_with fail
  go_loopw [34] (fun iv wr => ∃ k : Nat, k ≤ m ∧ iv = .int .i64 (k : Int) ∧ Hid (∃ d', d' = comeF F d (T.take k) (ps.take k) ∧ CmI w (.slice At m ct) m T d' wr)) (fun iv _ => m - (intOf iv).toNat)
  case atStart => exact ⟨0, Nat.zero_le _, rfl, h08⟩
  case round =>
    obtain ⟨k, hk, rfl, hq⟩ := hrel
    by_cases hkl : k < m
    · obtain ⟨d', hd', hI⟩ := hq.out
      obtain ⟨b, o, x, rfl, hx, hx32, hrx⟩ := (hr.below hI.below).at_ hkl
      have hTk : k < T.length := by rw [HT.out.2]; exact hkl
      obtain ⟨t, ht⟩ : ∃ t, T[k]? = some t := ⟨_, List.getElem?_eq_getElem hTk⟩
      obtain ⟨dn, hdn⟩ : ∃ dn, dn = if t then nodeF F d' x else nodeF F x d' := ⟨_, rfl⟩
      have hnx : dn = comeF F d (T.take (k + 1)) (ps.take (k + 1)) := by
        rw [take_snoc ht, take_snoc hx, comeF_snoc _ _ _ _ _ (by rw [List.length_take, List.length_take, HT.out.2, Hlen.out]), ← hd', hdn]
      have hdn32 : dn.length = 32 := by rw [hdn]; cases t <;> exact HF32.out _
      have hN : Calls Try.prog 33 (if t then #[.agg (d'.map B8).toArray, .agg (x.map B8).toArray] else #[.agg (x.map B8).toArray, .agg (d'.map B8).toArray]) = Calls Try.prog 33 (if t then #[.agg (d'.map B8).toArray, .agg (x.map B8).toArray] else #[.agg (x.map B8).toArray, .agg (d'.map B8).toArray]) := rfl
      have hNode : ∀ u : World, Calls Try.prog 33 (if t then #[.agg (d'.map B8).toArray, .agg (x.map B8).toArray] else #[.agg (x.map B8).toArray, .agg (d'.map B8).toArray]) u fun e w' => e = .returned (.agg (dn.map B8).toArray) ∧ Below u.heap.size u w' := fun u => by
        rw [hdn]
        cases t
        · exact HNd.out u x d' hx32 hI.d32
        · exact HNd.out u d' x hI.d32 hx32
      obtain ⟨g, cap, hv, -, -⟩ := hI.own.form (by omega)
      injection hv with hv1 _ hv3
      subst hv1
      subst hv3
      have hcellT : ∀ u, CmI w (.slice (some ⟨g, 0, none⟩) m ct) m T d' u → u.cell? ⟨g, k, none⟩ = some (.bool t) := fun u hu => by
        have := hu.own.cells (g := g) rfl k (.bool t) (by rw [List.getElem?_map, ht]; rfl)
        rw [Addr.add_mid, Nat.zero_add] at this
        exact this
      have hi1 := info_of x hx32
      have hi1' := info_of' x hx32
      have hi2 := info_of d' hI.d32
      have hi3 := info_of' dn hdn32
      have HI := Lib.hid hI
      have Hnx := Lib.hid hnx
      have HNode := Lib.hid hNode
      have HcT := Lib.hid hcellT
      have Hx32 := Lib.hid hx32
      have Hdn32 := Lib.hid hdn32
      clear hN hd' hx hTk ht hdn hnx hNode hcellT hI hq hx32 hdn32 h08 HX Hrv
      obtain ⟨wo, rfl⟩ : ∃ wo : World, wo = wr := ⟨_, rfl⟩
      cases t with
      | true =>
        have hN2 := HNode.out
        simp only [if_true] at hN2
        have HN2 := Lib.hid hN2
        clear hN2 HNode
        go_wp2_with (first
          | ((with_reducible show wpList _ _ _ (⟨_, Op.load 26 (.tmp 37), _, _, _, _⟩ :: _) _ _); refine wpList_load_mid rfl _ _ rfl b (o + k * 32) rfl (x.map B8) _ hrx Try.underlying26 rfl hi1 ?_; simp only [Act.put, List.setIfInBounds_toArray, List.set_cons_zero, List.set_cons_succ])
          | ((with_reducible show wpList _ _ _ (⟨_, Op.store 26 (.tmp 12) _, _, _, _, _⟩ :: _) _ _); refine wpList_store_row rfl _ _ _ rfl wo.heap.size 0 (x.map B8).toArray rfl rfl (there_new' _ _ _ (by simp [Hx32.out])) hi1' (b8_all x) ?_; intro w8 hg8 hs8 ht8 hth8; rw [List.toList_toArray] at ht8; have hb8 : Below wo.heap.size wo w8 := ((Below.refl _ _).alloc (Nat.le_refl _) _).grown hg8 (by simp) (by intro k hk; cases hk; exact Nat.le_refl _); have H8 := Lib.hid (HI.out.stable hb8); have hcT := HcT.out _ H8.out; clear hg8 hs8 hth8 hb8)
          | ((with_reducible show wpList _ _ _ (⟨_, Op.load 26 (.tmp 4), _, _, _, _⟩ :: _) _ _); refine wpList_load_mid rfl _ _ rfl w.heap.size 0 rfl (d'.map B8) _ H8.out.sum Try.underlying26 rfl hi2 ?_; simp only [Act.put, List.setIfInBounds_toArray, List.set_cons_zero, List.set_cons_succ])
          | ((with_reducible show wpList _ _ _ (⟨_, Op.load 26 (.tmp 12), _, _, _, _⟩ :: _) _ _); refine wpList_load_mid rfl _ _ rfl wo.heap.size 0 rfl (x.map B8) _ ht8 Try.underlying26 rfl hi1 ?_; simp only [Act.put, List.setIfInBounds_toArray, List.set_cons_zero, List.set_cons_succ]))
        refine (HN2.out _).mono ?_
        rintro e w9 ⟨rfl, hb9⟩
        have H9 := Lib.hid (H8.out.stable hb9)
        have hth : w9.there w.heap.size 0 (dn.map B8).toArray.size := by simpa [Hdn32.out] using H9.out.sth
        clear hb9 ht8 hcT hrx
        go_wp2_with ((with_reducible show wpList _ _ _ (⟨_, Op.store 26 (.tmp 4) _, _, _, _, _⟩ :: _) _ _); refine wpList_store_row rfl _ _ _ rfl w.heap.size 0 (dn.map B8).toArray rfl rfl hth hi3 (b8_all dn) ?_; intro w10 hg10 hs10 ht10 hth10; rw [List.toList_toArray] at ht10)
        have H10 := Lib.hid (H9.out.put hg10 ht10 (by simpa [Hdn32.out] using hth10) Hdn32.out)
        have HR : Hid (∃ d', d' = comeF F d (T.take (k + 1)) (ps.take (k + 1)) ∧ CmI w (.slice (some ⟨g, 0, none⟩) m ct) m T d' w10) := Lib.hid ⟨dn, Hnx.out, H10.out⟩
        clear hg10 hs10 ht10 hth10 hth
        go_roundw
        case rel => exact ⟨k + 1, hkl, by go_num, HR⟩
        case measure => simp [intOf]; omega
      | false =>
        have hN2 := HNode.out
        simp only [Bool.false_eq_true, if_false] at hN2
        have HN2 := Lib.hid hN2
        clear hN2 HNode
        go_wp2_with (first
          | ((with_reducible show wpList _ _ _ (⟨_, Op.load 26 (.tmp 37), _, _, _, _⟩ :: _) _ _); refine wpList_load_mid rfl _ _ rfl b (o + k * 32) rfl (x.map B8) _ hrx Try.underlying26 rfl hi1 ?_; simp only [Act.put, List.setIfInBounds_toArray, List.set_cons_zero, List.set_cons_succ])
          | ((with_reducible show wpList _ _ _ (⟨_, Op.store 26 (.tmp 12) _, _, _, _, _⟩ :: _) _ _); refine wpList_store_row rfl _ _ _ rfl wo.heap.size 0 (x.map B8).toArray rfl rfl (there_new' _ _ _ (by simp [Hx32.out])) hi1' (b8_all x) ?_; intro w8 hg8 hs8 ht8 hth8; rw [List.toList_toArray] at ht8; have hb8 : Below wo.heap.size wo w8 := ((Below.refl _ _).alloc (Nat.le_refl _) _).grown hg8 (by simp) (by intro k hk; cases hk; exact Nat.le_refl _); have H8 := Lib.hid (HI.out.stable hb8); have hcT := HcT.out _ H8.out; clear hg8 hs8 hth8 hb8)
          | ((with_reducible show wpList _ _ _ (⟨_, Op.load 26 (.tmp 4), _, _, _, _⟩ :: _) _ _); refine wpList_load_mid rfl _ _ rfl w.heap.size 0 rfl (d'.map B8) _ H8.out.sum Try.underlying26 rfl hi2 ?_; simp only [Act.put, List.setIfInBounds_toArray, List.set_cons_zero, List.set_cons_succ])
          | ((with_reducible show wpList _ _ _ (⟨_, Op.load 26 (.tmp 12), _, _, _, _⟩ :: _) _ _); refine wpList_load_mid rfl _ _ rfl wo.heap.size 0 rfl (x.map B8) _ ht8 Try.underlying26 rfl hi1 ?_; simp only [Act.put, List.setIfInBounds_toArray, List.set_cons_zero, List.set_cons_succ]))
        refine (HN2.out _).mono ?_
        rintro e w9 ⟨rfl, hb9⟩
        have H9 := Lib.hid (H8.out.stable hb9)
        have hth : w9.there w.heap.size 0 (dn.map B8).toArray.size := by simpa [Hdn32.out] using H9.out.sth
        clear hb9 ht8 hcT hrx
        go_wp2_with ((with_reducible show wpList _ _ _ (⟨_, Op.store 26 (.tmp 4) _, _, _, _, _⟩ :: _) _ _); refine wpList_store_row rfl _ _ _ rfl w.heap.size 0 (dn.map B8).toArray rfl rfl hth hi3 (b8_all dn) ?_; intro w10 hg10 hs10 ht10 hth10; rw [List.toList_toArray] at ht10)
        have H10 := Lib.hid (H9.out.put hg10 ht10 (by simpa [Hdn32.out] using hth10) Hdn32.out)
        have HR : Hid (∃ d', d' = comeF F d (T.take (k + 1)) (ps.take (k + 1)) ∧ CmI w (.slice (some ⟨g, 0, none⟩) m ct) m T d' w10) := Lib.hid ⟨dn, Hnx.out, H10.out⟩
        clear hg10 hs10 ht10 hth10 hth
        go_roundw
        case rel => exact ⟨k + 1, hkl, by go_num, HR⟩
        case measure => simp [intOf]; omega
    · obtain rfl : k = m := by omega
      obtain ⟨d', hd', hI⟩ := hq.out
      have hdD : d' = D := by
        rw [List.take_of_length_le (by rw [HT.out.2]; exact Nat.le_refl _), List.take_of_length_le (by rw [Hlen.out]; exact Nat.le_refl _), HT.out.1] at hd'
        rw [hd', HD.out]
      subst hdD
      have hi2 := info_of d' hI.d32
      have hi2' := info_of' d' hI.d32
      have hsum := hI.sum
      have hth : wr.there (w.heap.size + 1) 0 (d'.map B8).toArray.size := by simpa [hI.d32] using hI.rth
      have HI := Lib.hid hI
      clear hq hI hd' h08 HX Hrv hr
      go_wp2_with (first
        | ((with_reducible show wpList _ _ _ (⟨_, Op.load 26 (.tmp 4), _, _, _, _⟩ :: _) _ _); refine wpList_load_mid rfl _ _ rfl w.heap.size 0 rfl (d'.map B8) _ hsum Try.underlying26 rfl hi2 ?_; simp only [Act.put, List.setIfInBounds_toArray, List.set_cons_zero, List.set_cons_succ])
        | ((with_reducible show wpList _ _ _ (⟨_, Op.store 26 (.tmp 8) _, _, _, _, _⟩ :: _) _ _); refine wpList_store_row rfl _ _ _ rfl (w.heap.size + 1) 0 (d'.map B8).toArray rfl rfl hth hi2' (b8_all d') ?_; intro w10 hg10 hs10 ht10 hth10; rw [List.toList_toArray] at ht10))
      refine bodyPost_ret (v := .tuple #[.agg (d'.map B8).toArray, .nilIface]) ?_ rfl ⟨rfl, ?_⟩
      · exact results_cell_tmp (s := 8) (s2 := 9) rfl _ _ _ (w.heap.size + 1) 0 rfl _ rfl (d'.map B8) _ ht10 Try.underlying26 rfl hi2
      · exact HI.out.below.grown hg10 HI.out.below.size (by intro k hk; cases hk; omega)
end
end Go.Proofs.Ytkcmacglomdfcaa
