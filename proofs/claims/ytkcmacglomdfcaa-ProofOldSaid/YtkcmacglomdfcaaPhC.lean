/-
  THE WALK of the document's Both.
-/
import Derived.Test.YtkcmacglomdfcaaPfG
import Derived.Test.YtkcmacglomdfcaaPfI
import Derived.Test.YtkcmacglomdfcaaPhA
import Derived.Test.YtkcmacglomdfcaaMoves
namespace Go.Proofs.Ytkcmacglomdfcaa
open Go.RowKit

theorem results_cells_tmp {fn : Func} {s s' s2 : Tmp} {ty : TypeId} (h : fn.results = #[.cell s ty, .cell s' ty, .tmp s2]) (tmps : Array Value) (P : Program) (w : World) (b b' : Nat) (hp : tmps.getD s undef = .pointer (some ⟨b, 0, none⟩)) (hq : tmps.getD s' undef = .pointer (some ⟨b', 0, none⟩)) (v : Value) (hv : tmps.getD s2 undef = v)
    (cs cs' : List Value) (d : TypeDesc) (hc : w.rangeAt b 0 cs) (hc' : w.rangeAt b' 0 cs') (hu : P.underlying ty = some d) (hd : d.isRow = true) (hi : (P.info? ty).map (·.size) = some cs.length) (hi' : (P.info? ty).map (·.size) = some cs'.length) :
    (results fn tmps).run P w = .ok (.tuple #[.agg cs.toArray, .agg cs'.toArray, v]) w := by
  have hp' : tmps[s]?.getD undef = .pointer (some ⟨b, 0, none⟩) := by simpa using hp
  have hq' : tmps[s']?.getD undef = .pointer (some ⟨b', 0, none⟩) := by simpa using hq
  have hv' : tmps[s2]?.getD undef = v := by simpa using hv
  simp only [results, h]
  simp [hp', hq', hv', asAddr, run_loadVar_mid w b 0 ty cs d hc hu hd hi, run_loadVar_mid w b' 0 ty cs' d hc' hu hd hi']
theorem foldT_len {F : Dg → Dg} : ∀ (ts : List Bool) (ps : List Dg) (x : Dg × Dg), (foldT F x ts ps).length ≤ 2 * ts.length
  | [], _, _ => by simp [foldT]
  | _ :: _, [], _ => by simp [foldT]
  | t :: ts, p :: ps, x => by
    rw [foldT, List.length_append, List.length_cons]
    have := foldT_len (F := F) ts ps (if t then (x.1, nodeF F x.2 p) else (nodeF F p x.1, nodeF F p x.2))
    cases t <;> simp at this ⊢ <;> omega
theorem bothT_len {F : Dg → Dg} {m n : Nat} {all : Bool} {old : Dg} {ps : List Dg} (h0 : 1 ≤ m) : (bothT F m n all old ps).length ≤ 2 * n := by
  rw [bothT]
  have h1 := foldT_len (F := F) (stepsF m n).reverse (restE m n all ps) (startE m n all old ps, startE m n all old ps)
  have h2 := stepsF_len n m h0
  rw [List.length_reverse] at h1
  omega
/-- What the document's Both answers. -/
def BothPost (w : World) (D1 D2 : Dg) (T : List Dg) (e : Ending) (w' : World) : Prop := ∃ A c us, e = .returned (.tuple #[SumV D1, SumV D2, .slice A T.length c]) ∧ w'.ownsRow w.heap.size 22 1 (.slice A T.length c) T.length us ∧ Elts w' w.heap.size us T ∧ Below w.heap.size w w'
/-- In Both: the digest that came in, the results' blocks. -/
structure B3 (w : World) (d : Dg) (u : World) : Prop where
  below : Below w.heap.size w u
  r0 : u.rangeAt w.heap.size 0 (d.map B8)
  t1 : u.there (w.heap.size + 1) 0 32
  t2 : u.there (w.heap.size + 2) 0 32
  sz : w.heap.size + 3 ≤ u.heap.size
theorem B3.stable {w u u' : World} {d : Dg} (h : B3 w d u) (hb : Below u.heap.size u u') : B3 w d u' :=
  ⟨h.below.trans (hb.mono h.below.size), rangeAt_below' h.r0 hb, there_same h.t1 (hb.block _ (there_lt h.t1 (by decide))), there_same h.t2 (hb.block _ (there_lt h.t2 (by decide))), Nat.le_trans h.sz hb.size⟩
theorem B3.put1 {w u u' : World} {d : Dg} (h : B3 w d u) (hg : u.grownBy u' (some (w.heap.size + 1))) (ht : u'.there (w.heap.size + 1) 0 32) : B3 w d u' :=
  ⟨h.below.grown hg h.below.size (by intro k hk; cases hk; omega), rangeAt_grown h.r0 hg (by simp), ht, there_grown h.t2 (by decide) hg (by simp), Nat.le_trans h.sz hg.size⟩
theorem B3.put2 {w u u' : World} {d : Dg} (h : B3 w d u) (hg : u.grownBy u' (some (w.heap.size + 2))) (ht : u'.there (w.heap.size + 2) 0 32) : B3 w d u' :=
  ⟨h.below.grown hg h.below.size (by intro k hk; cases hk; omega), rangeAt_grown h.r0 hg (by simp), there_grown h.t1 (by decide) hg (by simp), ht, Nat.le_trans h.sz hg.size⟩
theorem b3_made (w : World) (d : Dg) : Hid (∀ (cl : List Value), cl = d.map B8 → ∀ (z : Array Value), z.size = 32 → ∀ W, W = ((w.alloc (.cells cl.toArray 26)).alloc (.cells z 26)).alloc (.cells z 26) → B3 w d W ∧ W.heap.size = w.heap.size + 3) := Lib.hid (by
  rintro cl rfl z hz W rfl
  have ha : Below (w.heap.size + 1) (w.alloc (.cells (d.map B8).toArray 26)) ((w.alloc (.cells (d.map B8).toArray 26)).alloc (.cells z 26)) := by
    have := (Below.refl (w.alloc (.cells (d.map B8).toArray 26)).heap.size (w.alloc (.cells (d.map B8).toArray 26))).alloc (Nat.le_refl _) (.cells z 26)
    simpa using this
  refine ⟨⟨(((Below.refl _ _).alloc (Nat.le_refl _) _).alloc (by simp) _).alloc (by simp <;> omega) _, World.rangeAt_alloc (World.rangeAt_alloc (rangeAt_at _ _ _ _ _ rfl) _) _, ?_, ?_, by simp⟩, by simp⟩
  · exact World.there_alloc (there_blk (heap_alloc_at _ _ _ (by simp)) (by omega)) _
  · exact there_blk (heap_alloc_at _ _ _ (by simp)) (by omega))
/-- .. and the last digest. -/
structure Rb8 (w : World) (d p : Dg) (u : World) : Prop where
  b3 : B3 w d u
  rp : u.rangeAt (w.heap.size + 3) 0 (p.map B8)
  sz : w.heap.size + 3 < u.heap.size
theorem Rb8.stable {w u u' : World} {d p : Dg} (h : Rb8 w d p u) (hb : Below u.heap.size u u') : Rb8 w d p u' := ⟨h.b3.stable hb, rangeAt_below' h.rp hb, Nat.lt_of_lt_of_le h.sz hb.size⟩
theorem rb8 {w W w8 : World} {d p : Dg} {y : Obj} (h : B3 w d W ∧ W.heap.size = w.heap.size + 3) (hg : (W.alloc y).grownBy w8 (some (w.heap.size + 3))) (ht : w8.rangeAt (w.heap.size + 3) 0 (p.map B8)) : Hid (Rb8 w d p w8) := by
  have hb : Below W.heap.size W w8 := ((Below.refl _ _).alloc (Nat.le_refl _) _).grown hg (by simp) (by intro k hk; cases hk; rw [h.2]; exact Nat.le_refl _)
  exact Lib.hid ⟨h.1.stable hb, ht, Nat.lt_of_lt_of_le (by simp [h.2]) hg.size⟩
/-- .. and what the rest comes to. -/
structure RbS (w : World) (b1 b2 b3 : Nat) (d1 d2 d3 : Dg) (V : Value) (m : Nat) (us : List Value) (T : List Dg) (u : World) : Prop where
  below : Below w.heap.size w u
  sz : w.heap.size + 3 ≤ u.heap.size
  r1 : u.rangeAt b1 0 (d1.map B8)
  r2 : u.rangeAt b2 0 (d2.map B8)
  r3 : u.rangeAt b3 0 (d3.map B8)
  t1 : u.there (w.heap.size + 1) 0 32
  t2 : u.there (w.heap.size + 2) 0 32
  own : u.ownsRow (w.heap.size + 3) 22 1 V m us
  elts : Elts u (w.heap.size + 3) us T
  ne1 : V.ownBlock ≠ some b1
  ne2 : V.ownBlock ≠ some b2
  ne3 : V.ownBlock ≠ some b3
  g1 : w.heap.size + 3 ≤ b1
  g2 : w.heap.size + 3 ≤ b2
  g3 : w.heap.size + 3 ≤ b3
section
variable {w : World} {b1 b2 b3 : Nat} {d1 d2 d3 : Dg} {V : Value} {m : Nat} {us : List Value} {T : List Dg} {u u' : World}
theorem RbS.stable (h : RbS w b1 b2 b3 d1 d2 d3 V m us T u) (hb : Below u.heap.size u u') : RbS w b1 b2 b3 d1 d2 d3 V m us T u' :=
  ⟨h.below.trans (hb.mono h.below.size), Nat.le_trans h.sz hb.size, rangeAt_below' h.r1 hb, rangeAt_below' h.r2 hb, rangeAt_below' h.r3 hb, there_same h.t1 (hb.block _ (there_lt h.t1 (by decide))), there_same h.t2 (hb.block _ (there_lt h.t2 (by decide))), ownsRow_below h.own hb, h.elts.below hb, h.ne1, h.ne2, h.ne3, h.g1, h.g2, h.g3⟩
theorem RbS.grown (h : RbS w b1 b2 b3 d1 d2 d3 V m us T u) (hg : u.grownBy u' V.ownBlock) (hk : u'.ownsRow (w.heap.size + 3) 22 1 V m us) : RbS w b1 b2 b3 d1 d2 d3 V m us T u' :=
  ⟨h.below.grown hg h.below.size (fun k e => by have := (h.own.lt k e).1; omega), Nat.le_trans h.sz hg.size, rangeAt_grown h.r1 hg h.ne1, rangeAt_grown h.r2 hg h.ne2, rangeAt_grown h.r3 hg h.ne3, there_grown h.t1 (by decide) hg (fun e => by have := (h.own.lt _ e).1; omega), there_grown h.t2 (by decide) hg (fun e => by have := (h.own.lt _ e).1; omega), hk, h.elts.kept h.own (by decide) hg, h.ne1, h.ne2, h.ne3, h.g1, h.g2, h.g3⟩
theorem RbS.put1 (h : RbS w b1 b2 b3 d1 d2 d3 V m us T u) (hg : u.grownBy u' (some (w.heap.size + 1))) (ht : u'.there (w.heap.size + 1) 0 32) : RbS w b1 b2 b3 d1 d2 d3 V m us T u' :=
  ⟨h.below.grown hg h.below.size (by intro k hk; cases hk; omega), Nat.le_trans h.sz hg.size, rangeAt_grown h.r1 hg (fun e => by cases e; have := h.g1; omega), rangeAt_grown h.r2 hg (fun e => by cases e; have := h.g2; omega), rangeAt_grown h.r3 hg (fun e => by cases e; have := h.g3; omega), ht, there_grown h.t2 (by decide) hg (by simp), own_put h.own (by omega) hg, h.elts.put (by omega) hg, h.ne1, h.ne2, h.ne3, h.g1, h.g2, h.g3⟩
theorem RbS.put2 (h : RbS w b1 b2 b3 d1 d2 d3 V m us T u) (hg : u.grownBy u' (some (w.heap.size + 2))) (ht : u'.there (w.heap.size + 2) 0 32) : RbS w b1 b2 b3 d1 d2 d3 V m us T u' :=
  ⟨h.below.grown hg h.below.size (by intro k hk; cases hk; omega), Nat.le_trans h.sz hg.size, rangeAt_grown h.r1 hg (fun e => by cases e; have := h.g1; omega), rangeAt_grown h.r2 hg (fun e => by cases e; have := h.g2; omega), rangeAt_grown h.r3 hg (fun e => by cases e; have := h.g3; omega), there_grown h.t1 (by decide) hg (by simp), ht, own_put h.own (by omega) hg, h.elts.put (by omega) hg, h.ne1, h.ne2, h.ne3, h.g1, h.g2, h.g3⟩
/-- A row of texts beside it. -/
structure RbT (w : World) (b1 b2 b3 : Nat) (d1 d2 d3 : Dg) (V : Value) (m : Nat) (us : List Value) (T : List Dg) (V' : Value) (m' : Nat) (us' : List Value) (T' : List Dg) (u : World) : Prop where
  s : RbS w b1 b2 b3 d1 d2 d3 V m us T u
  own : u.ownsRow (w.heap.size + 3) 22 1 V' m' us'
  elts : Elts u (w.heap.size + 3) us' T'
variable {V' : Value} {m' : Nat} {us' : List Value} {T' : List Dg}
theorem RbT.stable (h : RbT w b1 b2 b3 d1 d2 d3 V m us T V' m' us' T' u) (hb : Below u.heap.size u u') : RbT w b1 b2 b3 d1 d2 d3 V m us T V' m' us' T' u' := ⟨h.s.stable hb, ownsRow_below h.own hb, h.elts.below hb⟩
theorem RbT.put1 (h : RbT w b1 b2 b3 d1 d2 d3 V m us T V' m' us' T' u) (hg : u.grownBy u' (some (w.heap.size + 1))) (ht : u'.there (w.heap.size + 1) 0 32) : RbT w b1 b2 b3 d1 d2 d3 V m us T V' m' us' T' u' := ⟨h.s.put1 hg ht, own_put h.own (by omega) hg, h.elts.put (by omega) hg⟩
theorem RbT.put2 (h : RbT w b1 b2 b3 d1 d2 d3 V m us T V' m' us' T' u) (hg : u.grownBy u' (some (w.heap.size + 2))) (ht : u'.there (w.heap.size + 2) 0 32) : RbT w b1 b2 b3 d1 d2 d3 V m us T V' m' us' T' u' := ⟨h.s.put2 hg ht, own_put h.own (by omega) hg, h.elts.put (by omega) hg⟩
theorem rbT {w12 : World} {v : Value} {ts : List Value} {xs : List Dg} {k : Nat} (h : RbS w b1 b2 b3 d1 d2 d3 V m us T u) (ho : Elts u (w.heap.size + 3) ts xs) (hn : w12.ownsRow (w.heap.size + 3) 22 1 v k (us ++ ts)) (hk : w12.ownsRow (w.heap.size + 3) 22 1 V m us) (hg : u.grownBy w12 V.ownBlock) :
    RbT w b1 b2 b3 d1 d2 d3 V m us T v k (us ++ ts) (T ++ xs) w12 :=
  ⟨h.grown hg hk, hn, (h.elts.app ho).kept h.own (by decide) hg⟩
end
theorem rb10 {w w8 w9 W2 w10 w11 : World} {d p d2 d3 : Dg} {V : Value} {m : Nat} {us : List Value} {T : List Dg} {z : Array Value} (h : Rb8 w d p w9) (ho : w9.ownsRow w8.heap.size 22 1 V m us) (hE : Elts w9 w8.heap.size us T) (h8 : w.heap.size + 3 < w8.heap.size) (h89 : w8.heap.size ≤ w9.heap.size)
    (hW : W2 = (w9.alloc (.cells z 26)).alloc (.cells z 26)) (hz : z.size = 32) (hg1 : W2.grownBy w10 (some w9.heap.size)) (r1 : w10.rangeAt w9.heap.size 0 (d2.map B8)) (hg2 : w10.grownBy w11 (some (w9.heap.size + 1))) (r2 : w11.rangeAt (w9.heap.size + 1) 0 (d3.map B8)) :
    Hid (RbS w (w.heap.size + 3) w9.heap.size (w9.heap.size + 1) p d2 d3 V m us T w11) := by
  obtain ⟨hb, -, -⟩ := (two_made w9).out z hz W2 hW
  have h10 : Below w9.heap.size w9 w10 := hb.grown hg1 hb.size (by intro k hk; cases hk; exact Nat.le_refl _)
  have h11 : Below w9.heap.size w9 w11 := h10.grown hg2 h10.size (by intro k hk; cases hk; omega)
  have hs := h.stable h11
  refine Lib.hid ⟨hs.b3.below, by have := hs.sz; omega, hs.rp, rangeAt_grown r1 hg2 (by simp), r2, hs.b3.t1, hs.b3.t2, ownsRow_below (ownsRow_base ho (by omega)) h11, (hE.base (by omega)).below h11, fun e => ?_, fun e => ?_, fun e => ?_, Nat.le_refl _, by omega, by omega⟩
  · have := (ho.lt _ e).1
    omega
  · have := (ho.lt _ e).2
    omega
  · have := (ho.lt _ e).2
    omega
section
variable {F : List UInt8 → List UInt8} (HF : Dig F)
include HF
set_option maxRecDepth 100000 in
set_option maxHeartbeats 16000000 in
theorem refboth_any : ∀ (f n : Nat), n ≤ f → ∀ (w : World) (i : Nat) (al : Bool) (d : Dg) (A : Option Addr) (m c : Nat) (ps : List Dg), d.length = 32 → 1 ≤ i → i ≤ n → n ≤ 1048576 → RS w A m ps → m ≤ c → c ≤ maxLen → m = needsF i n al →
    Calls Try.prog 96 #[.int .i64 (i : Int), .int .i64 (n : Int), .bool al, SumV d, .slice A m c] w (BothPost w (bothF F i n al d ps).1 (bothF F i n al d ps).2 (bothT F i n al d ps)) := by
  intro f
  induction f with
  | zero => intro n hf w i al d A m c ps hd h0 hi; omega
  | succ f ih =>
    intro n hf w i al d A m c ps hd h0 hi hn hr hmc hcm hm
    have hcm' := hcm
    unfold maxLen at hcm
    have hid := info_of d hd
    have hid' := info_of' d hd
    have HX := b3_made w d
    have Hd := Lib.hid hd
    by_cases h1 : i = n
    · subst h1
      rw [bothF_end al d ps (Nat.le_refl _), bothT_end al d ps (Nat.le_refl _)]
      have dn : ((i : Int) == (i : Int)) = true := by simp
      cases al with
      | true =>
        simp only [if_true]
        clear hr ih hf hm hd hmc hcm hcm'
        unfold SumV
        go_enter Try.func96, Try.ntmps96
        go_wp2_with fail
        obtain ⟨W0, hW0⟩ : ∃ W0, W0 = ((w.alloc (.cells (d.map B8).toArray 26)).alloc (.cells #[.int .u8 0, .int .u8 0, .int .u8 0, .int .u8 0, .int .u8 0, .int .u8 0, .int .u8 0, .int .u8 0, .int .u8 0, .int .u8 0, .int .u8 0, .int .u8 0, .int .u8 0, .int .u8 0, .int .u8 0, .int .u8 0, .int .u8 0, .int .u8 0, .int .u8 0, .int .u8 0, .int .u8 0, .int .u8 0, .int .u8 0, .int .u8 0, .int .u8 0, .int .u8 0, .int .u8 0, .int .u8 0, .int .u8 0, .int .u8 0, .int .u8 0, .int .u8 0] 26)).alloc (.cells #[.int .u8 0, .int .u8 0, .int .u8 0, .int .u8 0, .int .u8 0, .int .u8 0, .int .u8 0, .int .u8 0, .int .u8 0, .int .u8 0, .int .u8 0, .int .u8 0, .int .u8 0, .int .u8 0, .int .u8 0, .int .u8 0, .int .u8 0, .int .u8 0, .int .u8 0, .int .u8 0, .int .u8 0, .int .u8 0, .int .u8 0, .int .u8 0, .int .u8 0, .int .u8 0, .int .u8 0, .int .u8 0, .int .u8 0, .int .u8 0, .int .u8 0, .int .u8 0] 26) := ⟨_, rfl⟩
        have hB0 := HX.out _ rfl _ rfl W0 hW0
        rw [← hW0]
        clear hW0
        refine wp_region_noPanic ?_
        refine wp_region_moves 2 (fun u => B3 w d u) (fun u u' => u = u') (fun u => rfl) (fun h k => h.trans k) (by kernel_rfl) (by kernel_rfl) (hB0.1.stable (below_drewN (Below.refl _ _) 1)) (fun _ _ _ _ _ h => h) ?_
        simp only [List.take_succ_cons, List.take_zero, List.drop_succ_cons, List.drop_zero]
        refine wpMH_loadW (fun u => rfl) (by rfl) _ _ rfl w.heap.size 0 rfl (d.map B8) _ (fun u h => h.r0) Try.underlying26 rfl hid ?_
        simp only [Act.put, List.setIfInBounds_toArray, List.set_cons_zero, List.set_cons_succ]
        refine wpMH_loadW (fun u => rfl) (by rfl) _ _ rfl w.heap.size 0 rfl (d.map B8) _ (fun u h => h.r0) Try.underlying26 rfl hid ?_
        simp only [Act.put, List.setIfInBounds_toArray, List.set_cons_zero, List.set_cons_succ]
        refine wpMH_nil ?_
        refine wpMT_cons ?_
        intro u1 hS1 e1
        have hth1 : u1.there (w.heap.size + 1) 0 (d.map B8).toArray.size := sz_there Hd.out hS1.t1
        clear e1 hB0
        go_wp2_with ((with_reducible show wpList _ _ _ (⟨_, Op.store 26 (.tmp 10) _, _, _, _, _⟩ :: _) _ _); refine wpList_store_row rfl _ _ _ rfl (w.heap.size + 1) 0 (d.map B8).toArray rfl rfl (hth1) hid' (b8_all d) ?_; intro w5 hg5 hs5 ht5 hth5; rw [List.toList_toArray] at ht5; have H5 := Lib.hid (And.intro (hS1.put1 hg5 (there_sz Hd.out hth5)) ht5); clear hg5 hs5 ht5 hth5 hth1)
        refine ⟨H5.out.1, ?_⟩
        refine wpMT_cons ?_
        rintro u2 - rfl
        have hth2 : w5.there (w.heap.size + 2) 0 (d.map B8).toArray.size := sz_there Hd.out H5.out.1.t2
        go_wp2_with ((with_reducible show wpList _ _ _ (⟨_, Op.store 26 (.tmp 11) _, _, _, _, _⟩ :: _) _ _); refine wpList_store_row rfl _ _ _ rfl (w.heap.size + 2) 0 (d.map B8).toArray rfl rfl (hth2) hid' (b8_all d) ?_; intro w6 hg6 hs6 ht6 hth6; rw [List.toList_toArray] at ht6; have H6 := Lib.hid (And.intro (H5.out.1.put2 hg6 (there_sz Hd.out hth6)) (And.intro (rangeAt_grown H5.out.2 hg6 (by simp)) ht6)); clear hg6 hs6 ht6 hth6 hth2)
        refine ⟨H6.out.1, ?_⟩
        refine wpMT_cons ?_
        rintro u3 - rfl
        go_wp2_with fail
        refine ⟨H6.out.1, ?_⟩
        refine wpMT_nil ?_
        rintro u4 - rfl
        refine NoPanic.normal ?_
        go_wp2_with fail
        refine bodyPost_ret (v := .tuple #[.agg (d.map B8).toArray, .agg (d.map B8).toArray, .slice none 0 0]) ?_ rfl ?_
        · exact results_cells_tmp (s := 10) (s' := 11) (s2 := 12) rfl _ _ _ (w.heap.size + 1) (w.heap.size + 2) rfl rfl _ rfl (d.map B8) (d.map B8) _ H6.out.2.1 H6.out.2.2 Try.underlying26 rfl hid hid
        · exact ⟨none, 0, [], rfl, World.ownsRow_nil _ _ _ _, Elts.nil _ _, H6.out.1.below⟩
      | false =>
        simp only [Bool.false_eq_true, if_false]
        rw [needsF_end false (Nat.le_refl _)] at hm
        simp only [Bool.false_eq_true, if_false] at hm
        subst hm
        obtain ⟨b, o, p, rfl, hx, hp32, hrp⟩ := hr.at_ (i := 0) (by omega)
        rw [Nat.zero_mul, Nat.add_zero] at hrp
        have hhd : ps.headD [] = p := by cases ps with
          | nil => simp at hx
          | cons y r => simpa using hx
        rw [hhd]
        have hip := info_of p hp32
        have hip' := info_of' p hp32
        have Hp := Lib.hid hp32
        have Hrp := Lib.hid (fun u (hu : Below w.heap.size w u) => rangeAt_below' hrp hu)
        clear hr ih hf hd hmc hcm hcm' hx hhd hp32 hrp
        unfold SumV
        go_enter Try.func96, Try.ntmps96
        go_wp2_with fail
        obtain ⟨W0, hW0⟩ : ∃ W0, W0 = ((w.alloc (.cells (d.map B8).toArray 26)).alloc (.cells #[.int .u8 0, .int .u8 0, .int .u8 0, .int .u8 0, .int .u8 0, .int .u8 0, .int .u8 0, .int .u8 0, .int .u8 0, .int .u8 0, .int .u8 0, .int .u8 0, .int .u8 0, .int .u8 0, .int .u8 0, .int .u8 0, .int .u8 0, .int .u8 0, .int .u8 0, .int .u8 0, .int .u8 0, .int .u8 0, .int .u8 0, .int .u8 0, .int .u8 0, .int .u8 0, .int .u8 0, .int .u8 0, .int .u8 0, .int .u8 0, .int .u8 0, .int .u8 0] 26)).alloc (.cells #[.int .u8 0, .int .u8 0, .int .u8 0, .int .u8 0, .int .u8 0, .int .u8 0, .int .u8 0, .int .u8 0, .int .u8 0, .int .u8 0, .int .u8 0, .int .u8 0, .int .u8 0, .int .u8 0, .int .u8 0, .int .u8 0, .int .u8 0, .int .u8 0, .int .u8 0, .int .u8 0, .int .u8 0, .int .u8 0, .int .u8 0, .int .u8 0, .int .u8 0, .int .u8 0, .int .u8 0, .int .u8 0, .int .u8 0, .int .u8 0, .int .u8 0, .int .u8 0] 26) := ⟨_, rfl⟩
        have hB0 := HX.out _ rfl _ rfl W0 hW0
        rw [← hW0]
        clear hW0
        refine wp_region_noPanic ?_
        refine wp_region_moves 6 (fun u => B3 w d u) (fun u u' => u = u') (fun u => rfl) (fun h k => h.trans k) (by kernel_rfl) (by kernel_rfl) (hB0.1.stable (below_drewN (Below.refl _ _) 1)) (fun _ _ _ _ _ h => h) ?_
        simp only [List.take_succ_cons, List.take_zero, List.drop_succ_cons, List.drop_zero]
        refine wpMH_moveW (fun u => rfl) (by rfl) _ rfl _ rfl ?_
        simp only [Act.put, List.setIfInBounds_toArray, List.set_cons_zero, List.set_cons_succ]
        refine wpMH_pureW (fun u => rfl) (by rfl) (.pointer (some ⟨b, o, none⟩)) (fun u hu => by go_simp) ?_
        simp only [Act.put, List.setIfInBounds_toArray, List.set_cons_zero, List.set_cons_succ]
        refine wpMH_loadW (fun u => rfl) (by rfl) _ _ rfl b o rfl (p.map B8) _ (fun u h => Hrp.out u h.below) Try.underlying26 rfl hip ?_
        simp only [Act.put, List.setIfInBounds_toArray, List.set_cons_zero, List.set_cons_succ]
        refine wpMH_moveW (fun u => rfl) (by rfl) _ rfl _ rfl ?_
        simp only [Act.put, List.setIfInBounds_toArray, List.set_cons_zero, List.set_cons_succ]
        refine wpMH_pureW (fun u => rfl) (by rfl) (.pointer (some ⟨b, o, none⟩)) (fun u hu => by go_simp) ?_
        simp only [Act.put, List.setIfInBounds_toArray, List.set_cons_zero, List.set_cons_succ]
        refine wpMH_loadW (fun u => rfl) (by rfl) _ _ rfl b o rfl (p.map B8) _ (fun u h => Hrp.out u h.below) Try.underlying26 rfl hip ?_
        simp only [Act.put, List.setIfInBounds_toArray, List.set_cons_zero, List.set_cons_succ]
        refine wpMH_nil ?_
        refine wpMT_cons ?_
        intro u1 hS1 e1
        have hth1 : u1.there (w.heap.size + 1) 0 (p.map B8).toArray.size := sz_there Hp.out hS1.t1
        clear e1 hB0
        go_wp2_with ((with_reducible show wpList _ _ _ (⟨_, Op.store 26 (.tmp 10) _, _, _, _, _⟩ :: _) _ _); refine wpList_store_row rfl _ _ _ rfl (w.heap.size + 1) 0 (p.map B8).toArray rfl rfl (hth1) hip' (b8_all p) ?_; intro w5 hg5 hs5 ht5 hth5; rw [List.toList_toArray] at ht5; have H5 := Lib.hid (And.intro (hS1.put1 hg5 (there_sz Hp.out hth5)) ht5); clear hg5 hs5 ht5 hth5 hth1)
        refine ⟨H5.out.1, ?_⟩
        refine wpMT_cons ?_
        rintro u2 - rfl
        have hth2 : w5.there (w.heap.size + 2) 0 (p.map B8).toArray.size := sz_there Hp.out H5.out.1.t2
        go_wp2_with ((with_reducible show wpList _ _ _ (⟨_, Op.store 26 (.tmp 11) _, _, _, _, _⟩ :: _) _ _); refine wpList_store_row rfl _ _ _ rfl (w.heap.size + 2) 0 (p.map B8).toArray rfl rfl (hth2) hip' (b8_all p) ?_; intro w6 hg6 hs6 ht6 hth6; rw [List.toList_toArray] at ht6; have H6 := Lib.hid (And.intro (H5.out.1.put2 hg6 (there_sz Hp.out hth6)) (And.intro (rangeAt_grown H5.out.2 hg6 (by simp)) ht6)); clear hg6 hs6 ht6 hth6 hth2)
        refine ⟨H6.out.1, ?_⟩
        refine wpMT_cons ?_
        rintro u3 - rfl
        go_wp2_with fail
        refine ⟨H6.out.1, ?_⟩
        refine wpMT_nil ?_
        rintro u4 - rfl
        refine NoPanic.normal ?_
        go_wp2_with fail
        refine bodyPost_ret (v := .tuple #[.agg (p.map B8).toArray, .agg (p.map B8).toArray, .slice none 0 0]) ?_ rfl ?_
        · exact results_cells_tmp (s := 10) (s' := 11) (s2 := 12) rfl _ _ _ (w.heap.size + 1) (w.heap.size + 2) rfl rfl _ rfl (p.map B8) (p.map B8) _ H6.out.2.1 H6.out.2.2 Try.underlying26 rfl hip hip
        · exact ⟨none, 0, [], rfl, World.ownsRow_nil _ _ _ _, Elts.nil _ _, H6.out.1.below⟩
    · have hk1 := cutN_lt (n := n) (by omega)
      have hk2 := cutN_pos (n := n) (by omega)
      obtain ⟨k, hk⟩ : ∃ k, k = cutN n := ⟨_, rfl⟩
      have hcutc := fun w => refcut_any w (n : Int) (by omega) (by omega)
      rw [Int.toNat_natCast, ← hk] at hcutc
      rw [← hk] at hk1 hk2
      have Hcut := Lib.hid hcutc
      have dn : ((i : Int) == (n : Int)) = false := by simp; omega
      by_cases hik : i ≤ k
      · have dk : decide (i ≤ k) = true := decide_eq_true hik
        have hT := needsF_left al h0 (show i < n by omega) (by rw [← hk]; exact hik)
        rw [hT, Nat.add_comm, ← hk] at hm
        obtain ⟨m', hm'⟩ : ∃ m', m' = needsF i k al := ⟨_, rfl⟩
        rw [← hm'] at hm
        obtain ⟨rs, p, hps, hrl⟩ := snoc_of_len (n := m') (l := ps) (by have := hr.len; omega)
        have hrl2 : rs.length = needsF i (cutN n) al := by rw [hrl, hm', hk]
        rw [hps, bothF_left al d rs p h0 (by omega) (by rw [← hk]; exact hik) hrl2, bothT_left al d rs p h0 (by omega) (by rw [← hk]; exact hik) hrl2, ← hk]
        have hp32 : p.length = 32 := hr.2.1 p (by rw [hps]; simp)
        obtain ⟨b, o, hA, hcells⟩ := hr.2.2 (by omega)
        subst hA
        have hrp : w.rangeAt b (o + m' * 32) (p.map B8) := hcells m' p (by rw [hps, List.getElem?_append_right (by omega), hrl, Nat.sub_self]; rfl)
        have hrr : RS w (some ⟨b, o, none⟩) m' rs := by
          have h := hr.take (k := m') (by omega)
          rw [hps, List.take_append_of_le_length (by omega), List.take_of_length_le (by omega)] at h
          exact h
        obtain ⟨x, hx⟩ : ∃ x, x = (bothF F i k al d rs).1 := ⟨_, rfl⟩
        obtain ⟨y, hy⟩ : ∃ y, y = (bothF F i k al d rs).2 := ⟨_, rfl⟩
        obtain ⟨T, hTT⟩ : ∃ T, T = bothT F i k al d rs := ⟨_, rfl⟩
        have hxy := bothF_32 HF.len (m := i) (n := k) (all := al) hd hrr.2.1 (by rw [hrl, hm'])
        rw [← hx, ← hy] at hxy
        have hx32 := hxy.1
        have hy32 := hxy.2
        obtain ⟨mT, hmT⟩ : ∃ mT, mT = T.length := ⟨_, rfl⟩
        have hmTl : mT ≤ 2 * k := by rw [hmT, hTT]; exact bothT_len (by omega)
        rw [← hx, ← hy, ← hTT]
        have HIH : Hid (∀ u, Below w.heap.size w u → Calls Try.prog 96 #[.int .i64 (i : Int), .int .i64 (k : Int), .bool al, .agg (d.map B8).toArray, .slice (some ⟨b, o, none⟩) m' c] u fun e w' => ∃ A c us, e = .returned (.tuple #[.agg (x.map B8).toArray, .agg (y.map B8).toArray, .slice A mT c]) ∧ w'.ownsRow u.heap.size 22 1 (.slice A mT c) mT us ∧ Elts w' u.heap.size us T ∧ Below u.heap.size u w') := Lib.hid fun u hu => by
          have h := ih k (by omega) u i al d (some ⟨b, o, none⟩) m' c rs hd (by omega) (by omega) (by omega) (hrr.below hu) (by omega) hcm' hm'
          rw [← hx, ← hy, ← hTT] at h
          unfold BothPost SumV at h
          rw [← hmT] at h
          exact h
        have hip := info_of p hp32
        have hip' := info_of' p hp32
        have hix := info_of x hx32
        have hix' := info_of' x hx32
        have hiy := info_of y hy32
        have hiy' := info_of' y hy32
        have H32 := Lib.hid (And.intro hp32 (And.intro hx32 (And.intro hy32 hmT)))
        have Hrp := Lib.hid (fun u (hu : Below w.heap.size w u) => rangeAt_below' hrp hu)
        have em : (m : Int) - 1 = (m' : Int) := by omega
        have b1 : (0 : Int) ≤ (m' : Int) := by omega
        have b2 : (m' : Int) < (m : Int) := by omega
        have b3 : (m' : Int) ≤ (c : Int) := by omega
        have b4 : m' < m := by omega
        have hmm : m = m' + 1 := hm
        have Hmm := Lib.hid hmm
        obtain ⟨D, hD⟩ : ∃ D, D = nodeF F y p := ⟨_, rfl⟩
        have hD32 : D.length = 32 := by rw [hD]; exact HF.len _
        rw [← hD]
        have hiD := info_of D hD32
        have hiD' := info_of' D hD32
        have HD32 := Lib.hid hD32
        have HNd : Hid (∀ u, Calls Try.prog 34 #[.agg (y.map B8).toArray, .agg (p.map B8).toArray] u fun e w' => e = .returned (.agg (D.map B8).toArray) ∧ Below u.heap.size u w') := Lib.hid fun u => by rw [hD]; exact refnode_any HF u y p hy32 hp32
        have HTx : Hid (∀ u, Calls Try.prog 84 #[.agg (y.map B8).toArray, .agg (p.map B8).toArray] u fun e w' => ∃ A c, e = .returned (.slice A 65 c) ∧ w'.ownsRow u.heap.size 5 1 (.slice A 65 c) 65 ((1 :: (y ++ p)).map B8) ∧ Below u.heap.size u w') := Lib.hid fun u => reftext_own u y p hy32 hp32
        clear hr ih hT hf hm hd hps hrl hrl2 hp32 hcells hrp hrr hx hy hTT hxy hx32 hy32 hmT hD hD32 hm' hcutc hk hmm
        unfold SumV
        go_enter Try.func96, Try.ntmps96
        go_wp2_with (first
          | (go_at_call 37; refine (Hcut.out _).mono ?_; rintro e w' ⟨rfl, rfl⟩)
          | ((with_reducible show wpList _ _ _ (⟨_, Op.load 26 (.tmp 40), _, _, _, _⟩ :: _) _ _); refine wpList_load_mid rfl _ _ rfl b (o + m' * 32) rfl (p.map B8) _ (Hrp.out _ (HX.out _ rfl _ (by rfl) _ rfl).1.below) Try.underlying26 rfl hip ?_; simp only [Act.put, List.setIfInBounds_toArray, List.set_cons_zero, List.set_cons_succ])
          | ((with_reducible show wpList _ _ _ (⟨_, Op.store 26 (.tmp 14) _, _, _, _, _⟩ :: _) _ _); refine wpList_store_row rfl _ _ _ rfl (w.heap.size + 3) 0 (p.map B8).toArray rfl rfl (there_blk (heap_alloc_at _ _ _ (by simp)) (by simp [H32.out.1])) hip' (b8_all p) ?_; intro w8 hg8 hs8 ht8 hth8; rw [List.toList_toArray] at ht8; have H8 := rb8 (HX.out _ rfl _ (by rfl) _ rfl) hg8 ht8; clear hg8 hs8 ht8 hth8)
          | ((with_reducible show wpList _ _ _ (⟨_, Op.load 26 (.tmp 8), _, _, _, _⟩ :: _) _ _); refine wpList_load_mid rfl _ _ rfl w.heap.size 0 rfl (d.map B8) _ H8.out.b3.r0 Try.underlying26 rfl hid ?_; simp only [Act.put, List.setIfInBounds_toArray, List.set_cons_zero, List.set_cons_succ]))
        refine (HIH.out _ H8.out.b3.below).mono ?_
        rintro e w9 ⟨A9, c9, us, rfl, hown9, hE9, hb9⟩
        have H9 := Lib.hid (And.intro (H8.out.stable hb9) (And.intro hown9 (And.intro hE9 (And.intro H8.out.sz hb9.size))))
        clear hown9 hE9 hb9
        go_wp2_with (first
          | ((with_reducible show wpList _ _ _ (⟨_, Op.store 26 (.tmp 16) _, _, _, _, _⟩ :: _) _ _); obtain ⟨W2, hW2⟩ : ∃ W2, W2 = (w9.alloc (.cells #[.int .u8 0, .int .u8 0, .int .u8 0, .int .u8 0, .int .u8 0, .int .u8 0, .int .u8 0, .int .u8 0, .int .u8 0, .int .u8 0, .int .u8 0, .int .u8 0, .int .u8 0, .int .u8 0, .int .u8 0, .int .u8 0, .int .u8 0, .int .u8 0, .int .u8 0, .int .u8 0, .int .u8 0, .int .u8 0, .int .u8 0, .int .u8 0, .int .u8 0, .int .u8 0, .int .u8 0, .int .u8 0, .int .u8 0, .int .u8 0, .int .u8 0, .int .u8 0] 26)).alloc (.cells #[.int .u8 0, .int .u8 0, .int .u8 0, .int .u8 0, .int .u8 0, .int .u8 0, .int .u8 0, .int .u8 0, .int .u8 0, .int .u8 0, .int .u8 0, .int .u8 0, .int .u8 0, .int .u8 0, .int .u8 0, .int .u8 0, .int .u8 0, .int .u8 0, .int .u8 0, .int .u8 0, .int .u8 0, .int .u8 0, .int .u8 0, .int .u8 0, .int .u8 0, .int .u8 0, .int .u8 0, .int .u8 0, .int .u8 0, .int .u8 0, .int .u8 0, .int .u8 0] 26) := ⟨_, rfl⟩; have Hmm2 := Lib.hid ((two_made w9).out _ rfl W2 hW2); rw [← hW2]; have HW2 := Lib.hid hW2; clear hW2; have hth9 : W2.there w9.heap.size 0 (x.map B8).toArray.size := sz_there H32.out.2.1 Hmm2.out.2.1; refine wpList_store_row rfl _ _ _ rfl w9.heap.size 0 (x.map B8).toArray rfl rfl (hth9) hix' (b8_all x) ?_; intro w10 hg10 hs10 ht10 hth10; rw [List.toList_toArray] at ht10; have hth11 : w10.there (w9.heap.size + 1) 0 (y.map B8).toArray.size := sz_there H32.out.2.2.1 (there_grown Hmm2.out.2.2 (by decide) hg10 (by simp)); have hg10' := Lib.hid hg10; have ht10' := Lib.hid ht10; clear hs10 hth10 hth9 hg10 ht10)
          | ((with_reducible show wpList _ _ _ (⟨_, Op.store 26 (.tmp 17) _, _, _, _, _⟩ :: _) _ _); refine wpList_store_row rfl _ _ _ rfl (w9.heap.size + 1) 0 (y.map B8).toArray rfl rfl (hth11) hiy' (b8_all y) ?_; intro w11 hg11 hs11 ht11 hth11; rw [List.toList_toArray] at ht11; have H11 := rb10 H9.out.1 H9.out.2.1 H9.out.2.2.1 H9.out.2.2.2.1 H9.out.2.2.2.2 HW2.out rfl hg10'.out ht10'.out hg11 ht11; clear hg11 hs11 ht11 hth11))
        obtain ⟨bx, hbx⟩ : ∃ bx, bx = w9.heap.size := ⟨_, rfl⟩
        rw [← hbx] at H11 ⊢
        clear hbx H9 H8
        have hsd := H11.out.stable (below_drewN (Below.refl _ _) 1)
        have eg1 := enters_of Try.func34 (by kernel_rfl) rfl
        clear H11
        refine wp_region_noPanic ?_
        refine wp_region_moves 7 (fun u => RbS w (w.heap.size + 3) bx (bx + 1) p x y (.slice A9 mT c9) mT us T u) (fun u u' => Below u.heap.size u u') (fun u => Below.refl _ _) (fun h k => h.trans (k.mono h.size)) (by kernel_rfl) (by kernel_rfl) hsd (fun _ _ _ _ _ h => h) ?_
        simp only [List.take_succ_cons, List.take_zero, List.drop_succ_cons, List.drop_zero]
        refine wpMH_loadW (fun u => Below.refl _ _) (by rfl) _ _ rfl bx 0 rfl (x.map B8) _ (fun u h => h.r2) Try.underlying26 rfl hix ?_
        simp only [Act.put, List.setIfInBounds_toArray, List.set_cons_zero, List.set_cons_succ]
        refine wpMH_loadW (fun u => Below.refl _ _) (by rfl) _ _ rfl (bx + 1) 0 rfl (y.map B8) _ (fun u h => h.r3) Try.underlying26 rfl hiy ?_
        simp only [Act.put, List.setIfInBounds_toArray, List.set_cons_zero, List.set_cons_succ]
        refine wpMH_loadW (fun u => Below.refl _ _) (by rfl) _ _ rfl (w.heap.size + 3) 0 rfl (p.map B8) _ (fun u h => h.r1) Try.underlying26 rfl hip ?_
        simp only [Act.put, List.setIfInBounds_toArray, List.set_cons_zero, List.set_cons_succ]
        refine wpMH_callW (by rfl) 34 _ _ rfl eg1 [.agg (y.map B8).toArray, .agg (p.map B8).toArray] rfl (.agg (D.map B8).toArray) (fun u h => (HNd.out u).mono fun e w' ⟨h1, h2⟩ => ⟨h1, h.stable h2, h2⟩) ?_
        simp only [Act.put, List.setIfInBounds_toArray, List.set_cons_zero, List.set_cons_succ]
        refine wpMH_moveW (fun u => Below.refl _ _) (by rfl) _ rfl _ rfl ?_
        simp only [Act.put, List.setIfInBounds_toArray, List.set_cons_zero, List.set_cons_succ]
        refine wpMH_loadW (fun u => Below.refl _ _) (by rfl) _ _ rfl (bx + 1) 0 rfl (y.map B8) _ (fun u h => h.r3) Try.underlying26 rfl hiy ?_
        simp only [Act.put, List.setIfInBounds_toArray, List.set_cons_zero, List.set_cons_succ]
        refine wpMH_loadW (fun u => Below.refl _ _) (by rfl) _ _ rfl (w.heap.size + 3) 0 rfl (p.map B8) _ (fun u h => h.r1) Try.underlying26 rfl hip ?_
        simp only [Act.put, List.setIfInBounds_toArray, List.set_cons_zero, List.set_cons_succ]
        refine wpMH_nil ?_
        refine wpMT_cons ?_
        intro u1 hS1 hM1
        clear hsd hM1
        go_wp2_with fail
        refine (HTx.out _).mono ?_
        rintro e wt ⟨At, ct, rfl, hownt, hbt⟩
        have hS1t := hS1.stable hbt
        have HX1 := Lib.hid (And.intro hS1t (And.intro hS1.sz hownt))
        clear hS1 hownt hbt hS1t
        go_wp2_with fail
        refine ⟨HX1.out.1, ?_⟩
        have hownt' := ownsRow_base (base' := w.heap.size + 3) HX1.out.2.2 HX1.out.2.1
        refine wpMT_cons ?_
        intro u2 hS2 hM2
        have ho2 := ownsRow_below hownt' hM2
        clear hownt' hM2
        go_wp2_with fail
        have hal2 : Below u2.heap.size u2 (u2.alloc (.cells #[.slice At 65 ct] 22)) := (Below.refl _ _).alloc (Nat.le_refl _) _
        refine ⟨hS2.stable hal2, ?_⟩
        have hrc2 := rc_new u2 [.slice At 65 ct] 22 (0, 0)
        have ho2a := ho2.alloc (.cells #[.slice At 65 ct] 22)
        obtain ⟨ua, hua⟩ : ∃ ua, ua = u2.alloc (.cells #[.slice At 65 ct] 22) := ⟨_, rfl⟩
        obtain ⟨ub, hub⟩ : ∃ ub, ub = u2.heap.size := ⟨_, rfl⟩
        rw [← hua, ← hub] at hrc2
        rw [← hua] at ho2a
        rw [← hua, ← hub]
        clear hua hub hal2 hS2 ho2
        refine wpMT_cons ?_
        intro u3 hS3 hM3
        have hrc3 := RC.below hrc2 hM3
        have ho3 := ownsRow_below ho2a hM3
        clear hrc2 ho2a hM3
        go_wp2_with (at_builtin; refine wpList_append_from rfl (.tmp 64) (.tmp 68) 35 rfl (w.heap.size + 3) hS3.sz Try.underlying35 info_row3 rfl (by decide) (.slice A9 mT c9) mT us rfl hS3.own (some ⟨ub, 0, none⟩) 1 1 [.slice At 65 ct] rfl hrc3 rfl (by intro u hu; simp at hu; subst hu; rfl) (by unfold maxLen; omega) (by omega) ?_; intro v12 w12 hown12 hk12 hg12 _; obtain ⟨A12, c12, rfl, -, -, -, -⟩ := own_form hown12; have H12 := Lib.hid (rbT hS3 (Elts.one rfl ho3) hown12 hk12 hg12); clear hown12 hk12 hg12)
        clear hS3 hrc3 ho3
        refine ⟨H12.out.s, ?_⟩
        refine wpMT_cons ?_
        intro u4 hS4 hM4
        have hth4 : u4.there (w.heap.size + 1) 0 (x.map B8).toArray.size := sz_there H32.out.2.1 hS4.t1
        have H4 := Lib.hid (H12.out.stable hM4)
        clear hS4 hM4
        go_wp2_with ((with_reducible show wpList _ _ _ (⟨_, Op.store 26 (.tmp 10) _, _, _, _, _⟩ :: _) _ _); refine wpList_store_row rfl _ _ _ rfl (w.heap.size + 1) 0 (x.map B8).toArray rfl rfl (hth4) hix' (b8_all x) ?_; intro w13 hg13 hs13 ht13 hth13; rw [List.toList_toArray] at ht13; have H13 := Lib.hid (And.intro (H4.out.put1 hg13 (there_sz H32.out.2.1 hth13)) ht13); clear hg13 hs13 ht13 hth13)
        refine ⟨H13.out.1.s, ?_⟩
        refine wpMT_cons ?_
        intro u5 hS5 hM5
        have hth5 : u5.there (w.heap.size + 2) 0 (D.map B8).toArray.size := sz_there HD32.out hS5.t2
        have H5 := Lib.hid (And.intro (H13.out.1.stable hM5) (rangeAt_below' H13.out.2 hM5))
        clear hS5 hM5 hth4
        go_wp2_with ((with_reducible show wpList _ _ _ (⟨_, Op.store 26 (.tmp 11) _, _, _, _, _⟩ :: _) _ _); refine wpList_store_row rfl _ _ _ rfl (w.heap.size + 2) 0 (D.map B8).toArray rfl rfl (hth5) hiD' (b8_all D) ?_; intro w14 hg14 hs14 ht14 hth14; rw [List.toList_toArray] at ht14; have H14 := Lib.hid (And.intro (H5.out.1.put2 hg14 (there_sz HD32.out hth14)) (And.intro (rangeAt_grown H5.out.2 hg14 (by simp)) ht14)); clear hg14 hs14 ht14 hth14)
        refine ⟨H14.out.1.s, ?_⟩
        refine wpMT_cons ?_
        intro u6 hS6 hM6
        have H6 := Lib.hid (And.intro (H14.out.1.stable hM6) (And.intro (rangeAt_below' H14.out.2.1 hM6) (rangeAt_below' H14.out.2.2 hM6)))
        clear hS6 hM6 hth5
        go_wp2_with fail
        refine ⟨H6.out.1.s, ?_⟩
        refine wpMT_nil ?_
        intro u7 hS7 hM7
        have H7 := Lib.hid (And.intro (H6.out.1.stable hM7) (And.intro (rangeAt_below' H6.out.2.1 hM7) (rangeAt_below' H6.out.2.2 hM7)))
        clear hS7 hM7
        refine NoPanic.normal ?_
        go_wp2_with fail
        have hl : (T ++ [1 :: (y ++ p)]).length = mT + 1 := by rw [List.length_append, ← H32.out.2.2.2]; rfl
        refine bodyPost_ret (v := .tuple #[.agg (x.map B8).toArray, .agg (D.map B8).toArray, .slice A12 (mT + 1) c12]) ?_ rfl ?_
        · exact results_cells_tmp (s := 10) (s' := 11) (s2 := 12) rfl _ _ _ (w.heap.size + 1) (w.heap.size + 2) rfl rfl _ rfl (x.map B8) (D.map B8) _ H7.out.2.1 H7.out.2.2 Try.underlying26 rfl hix hiD
        · exact ⟨A12, c12, us ++ [.slice At 65 ct], by rw [hl]; rfl, by rw [hl]; exact ownsRow_base H7.out.1.own (by omega), H7.out.1.elts.base (by omega), H7.out.1.s.below⟩
      · have dk : decide (i ≤ k) = false := decide_eq_false hik
        obtain ⟨i2, hi2⟩ : ∃ i2, i2 = i - k := ⟨_, rfl⟩
        obtain ⟨n2, hn2⟩ : ∃ n2, n2 = n - k := ⟨_, rfl⟩
        have e1 : (i : Int) - (k : Int) = (i2 : Int) := by omega
        have e2 : (n : Int) - (k : Int) = (n2 : Int) := by omega
        have g1 : (k : Int) ≤ (i : Int) := by omega
        have g2 : (k : Int) ≤ (n : Int) := by omega
        have f0 : 1 ≤ i2 := by omega
        have f1 : i2 ≤ n2 := by omega
        have f2 : n2 ≤ f := by omega
        have f3 : n2 ≤ 1048576 := by omega
        have hT := needsF_right al h0 (show i < n by omega) (by rw [← hk]; exact hik)
        rw [hT, Nat.add_comm, ← hk, ← hi2, ← hn2] at hm
        obtain ⟨m', hm'⟩ : ∃ m', m' = needsF i2 n2 false := ⟨_, rfl⟩
        rw [← hm'] at hm
        obtain ⟨rs, p, hps, hrl⟩ := snoc_of_len (n := m') (l := ps) (by have := hr.len; omega)
        have hrl2 : rs.length = needsF (i - cutN n) (n - cutN n) false := by rw [hrl, hm', hi2, hn2, hk]
        rw [hps, bothF_right al d rs p h0 (by omega) (by rw [← hk]; exact hik) hrl2, bothT_right al d rs p h0 (by omega) (by rw [← hk]; exact hik) hrl2, ← hk, ← hi2, ← hn2]
        have hp32 : p.length = 32 := hr.2.1 p (by rw [hps]; simp)
        obtain ⟨b, o, hA, hcells⟩ := hr.2.2 (by omega)
        subst hA
        have hrp : w.rangeAt b (o + m' * 32) (p.map B8) := hcells m' p (by rw [hps, List.getElem?_append_right (by omega), hrl, Nat.sub_self]; rfl)
        have hrr : RS w (some ⟨b, o, none⟩) m' rs := by
          have h := hr.take (k := m') (by omega)
          rw [hps, List.take_append_of_le_length (by omega), List.take_of_length_le (by omega)] at h
          exact h
        obtain ⟨x, hx⟩ : ∃ x, x = (bothF F i2 n2 false d rs).1 := ⟨_, rfl⟩
        obtain ⟨y, hy⟩ : ∃ y, y = (bothF F i2 n2 false d rs).2 := ⟨_, rfl⟩
        obtain ⟨T, hTT⟩ : ∃ T, T = bothT F i2 n2 false d rs := ⟨_, rfl⟩
        have hxy := bothF_32 HF.len (m := i2) (n := n2) (all := false) hd hrr.2.1 (by rw [hrl, hm'])
        rw [← hx, ← hy] at hxy
        have hx32 := hxy.1
        have hy32 := hxy.2
        obtain ⟨mT, hmT⟩ : ∃ mT, mT = T.length := ⟨_, rfl⟩
        have hmTl : mT ≤ 2 * n2 := by rw [hmT, hTT]; exact bothT_len (by omega)
        rw [← hx, ← hy, ← hTT]
        have HIH : Hid (∀ u, Below w.heap.size w u → Calls Try.prog 96 #[.int .i64 (i2 : Int), .int .i64 (n2 : Int), .bool false, .agg (d.map B8).toArray, .slice (some ⟨b, o, none⟩) m' c] u fun e w' => ∃ A c us, e = .returned (.tuple #[.agg (x.map B8).toArray, .agg (y.map B8).toArray, .slice A mT c]) ∧ w'.ownsRow u.heap.size 22 1 (.slice A mT c) mT us ∧ Elts w' u.heap.size us T ∧ Below u.heap.size u w') := Lib.hid fun u hu => by
          have h := ih n2 (by omega) u i2 false d (some ⟨b, o, none⟩) m' c rs hd (by omega) (by omega) (by omega) (hrr.below hu) (by omega) hcm' hm'
          rw [← hx, ← hy, ← hTT] at h
          unfold BothPost SumV at h
          rw [← hmT] at h
          exact h
        have hip := info_of p hp32
        have hip' := info_of' p hp32
        have hix := info_of x hx32
        have hix' := info_of' x hx32
        have hiy := info_of y hy32
        have hiy' := info_of' y hy32
        have H32 := Lib.hid (And.intro hp32 (And.intro hx32 (And.intro hy32 hmT)))
        have Hrp := Lib.hid (fun u (hu : Below w.heap.size w u) => rangeAt_below' hrp hu)
        have em : (m : Int) - 1 = (m' : Int) := by omega
        have b1 : (0 : Int) ≤ (m' : Int) := by omega
        have b2 : (m' : Int) < (m : Int) := by omega
        have b3 : (m' : Int) ≤ (c : Int) := by omega
        have b4 : m' < m := by omega
        have hmm : m = m' + 1 := hm
        have Hmm := Lib.hid hmm
        obtain ⟨D1, hD1⟩ : ∃ D, D = nodeF F p x := ⟨_, rfl⟩
        obtain ⟨D2, hD2⟩ : ∃ D, D = nodeF F p y := ⟨_, rfl⟩
        have hD132 : D1.length = 32 := by rw [hD1]; exact HF.len _
        have hD232 : D2.length = 32 := by rw [hD2]; exact HF.len _
        rw [← hD1, ← hD2]
        have hi1 := info_of D1 hD132
        have hi1' := info_of' D1 hD132
        have hi2' := info_of' D2 hD232
        have hi2x := info_of D2 hD232
        have HD32 := Lib.hid (And.intro hD132 hD232)
        have HN1 : Hid (∀ u, Calls Try.prog 34 #[.agg (p.map B8).toArray, .agg (x.map B8).toArray] u fun e w' => e = .returned (.agg (D1.map B8).toArray) ∧ Below u.heap.size u w') := Lib.hid fun u => by rw [hD1]; exact refnode_any HF u p x hp32 hx32
        have HN2 : Hid (∀ u, Calls Try.prog 34 #[.agg (p.map B8).toArray, .agg (y.map B8).toArray] u fun e w' => e = .returned (.agg (D2.map B8).toArray) ∧ Below u.heap.size u w') := Lib.hid fun u => by rw [hD2]; exact refnode_any HF u p y hp32 hy32
        have HT1 : Hid (∀ u, Calls Try.prog 84 #[.agg (p.map B8).toArray, .agg (x.map B8).toArray] u fun e w' => ∃ A c, e = .returned (.slice A 65 c) ∧ w'.ownsRow u.heap.size 5 1 (.slice A 65 c) 65 ((1 :: (p ++ x)).map B8) ∧ Below u.heap.size u w') := Lib.hid fun u => reftext_own u p x hp32 hx32
        have HT2 : Hid (∀ u, Calls Try.prog 84 #[.agg (p.map B8).toArray, .agg (y.map B8).toArray] u fun e w' => ∃ A c, e = .returned (.slice A 65 c) ∧ w'.ownsRow u.heap.size 5 1 (.slice A 65 c) 65 ((1 :: (p ++ y)).map B8) ∧ Below u.heap.size u w') := Lib.hid fun u => reftext_own u p y hp32 hy32
        clear hr ih hT hf hm hd hps hrl hrl2 hp32 hcells hrp hrr hx hy hTT hxy hx32 hy32 hmT hD1 hD2 hD132 hD232 hm' hcutc hk hmm hi2 hn2
        unfold SumV
        go_enter Try.func96, Try.ntmps96
        go_wp2_with (first
          | (go_at_call 37; refine (Hcut.out _).mono ?_; rintro e w' ⟨rfl, rfl⟩)
          | ((with_reducible show wpList _ _ _ (⟨_, Op.load 26 (.tmp 40), _, _, _, _⟩ :: _) _ _); refine wpList_load_mid rfl _ _ rfl b (o + m' * 32) rfl (p.map B8) _ (Hrp.out _ (HX.out _ rfl _ (by rfl) _ rfl).1.below) Try.underlying26 rfl hip ?_; simp only [Act.put, List.setIfInBounds_toArray, List.set_cons_zero, List.set_cons_succ])
          | ((with_reducible show wpList _ _ _ (⟨_, Op.store 26 (.tmp 14) _, _, _, _, _⟩ :: _) _ _); refine wpList_store_row rfl _ _ _ rfl (w.heap.size + 3) 0 (p.map B8).toArray rfl rfl (there_blk (heap_alloc_at _ _ _ (by simp)) (by simp [H32.out.1])) hip' (b8_all p) ?_; intro w8 hg8 hs8 ht8 hth8; rw [List.toList_toArray] at ht8; have H8 := rb8 (HX.out _ rfl _ (by rfl) _ rfl) hg8 ht8; clear hg8 hs8 ht8 hth8)
          | ((with_reducible show wpList _ _ _ (⟨_, Op.load 26 (.tmp 8), _, _, _, _⟩ :: _) _ _); refine wpList_load_mid rfl _ _ rfl w.heap.size 0 rfl (d.map B8) _ H8.out.b3.r0 Try.underlying26 rfl hid ?_; simp only [Act.put, List.setIfInBounds_toArray, List.set_cons_zero, List.set_cons_succ]))
        refine (HIH.out _ H8.out.b3.below).mono ?_
        rintro e w9 ⟨A9, c9, us, rfl, hown9, hE9, hb9⟩
        have H9 := Lib.hid (And.intro (H8.out.stable hb9) (And.intro hown9 (And.intro hE9 (And.intro H8.out.sz hb9.size))))
        clear hown9 hE9 hb9
        go_wp2_with (first
          | ((with_reducible show wpList _ _ _ (⟨_, Op.store 26 (.tmp 19) _, _, _, _, _⟩ :: _) _ _); obtain ⟨W2, hW2⟩ : ∃ W2, W2 = (w9.alloc (.cells #[.int .u8 0, .int .u8 0, .int .u8 0, .int .u8 0, .int .u8 0, .int .u8 0, .int .u8 0, .int .u8 0, .int .u8 0, .int .u8 0, .int .u8 0, .int .u8 0, .int .u8 0, .int .u8 0, .int .u8 0, .int .u8 0, .int .u8 0, .int .u8 0, .int .u8 0, .int .u8 0, .int .u8 0, .int .u8 0, .int .u8 0, .int .u8 0, .int .u8 0, .int .u8 0, .int .u8 0, .int .u8 0, .int .u8 0, .int .u8 0, .int .u8 0, .int .u8 0] 26)).alloc (.cells #[.int .u8 0, .int .u8 0, .int .u8 0, .int .u8 0, .int .u8 0, .int .u8 0, .int .u8 0, .int .u8 0, .int .u8 0, .int .u8 0, .int .u8 0, .int .u8 0, .int .u8 0, .int .u8 0, .int .u8 0, .int .u8 0, .int .u8 0, .int .u8 0, .int .u8 0, .int .u8 0, .int .u8 0, .int .u8 0, .int .u8 0, .int .u8 0, .int .u8 0, .int .u8 0, .int .u8 0, .int .u8 0, .int .u8 0, .int .u8 0, .int .u8 0, .int .u8 0] 26) := ⟨_, rfl⟩; have Hmm2 := Lib.hid ((two_made w9).out _ rfl W2 hW2); rw [← hW2]; have HW2 := Lib.hid hW2; clear hW2; have hth9 : W2.there w9.heap.size 0 (x.map B8).toArray.size := sz_there H32.out.2.1 Hmm2.out.2.1; refine wpList_store_row rfl _ _ _ rfl w9.heap.size 0 (x.map B8).toArray rfl rfl (hth9) hix' (b8_all x) ?_; intro w10 hg10 hs10 ht10 hth10; rw [List.toList_toArray] at ht10; have hth11 : w10.there (w9.heap.size + 1) 0 (y.map B8).toArray.size := sz_there H32.out.2.2.1 (there_grown Hmm2.out.2.2 (by decide) hg10 (by simp)); have hg10' := Lib.hid hg10; have ht10' := Lib.hid ht10; clear hs10 hth10 hth9 hg10 ht10)
          | ((with_reducible show wpList _ _ _ (⟨_, Op.store 26 (.tmp 20) _, _, _, _, _⟩ :: _) _ _); refine wpList_store_row rfl _ _ _ rfl (w9.heap.size + 1) 0 (y.map B8).toArray rfl rfl (hth11) hiy' (b8_all y) ?_; intro w11 hg11 hs11 ht11 hth11; rw [List.toList_toArray] at ht11; have H11 := rb10 H9.out.1 H9.out.2.1 H9.out.2.2.1 H9.out.2.2.2.1 H9.out.2.2.2.2 HW2.out rfl hg10'.out ht10'.out hg11 ht11; clear hg11 hs11 ht11 hth11))
        obtain ⟨bx, hbx⟩ : ∃ bx, bx = w9.heap.size := ⟨_, rfl⟩
        rw [← hbx] at H11 ⊢
        clear hbx H9 H8
        have hsd := H11.out.stable (below_drewN (Below.refl _ _) 1)
        have eg1 := enters_of Try.func34 (by kernel_rfl) rfl
        clear H11
        refine wp_region_noPanic ?_
        refine wp_region_movesJ [0, 1, 2, 4, 5] (fun u => RbS w (w.heap.size + 3) bx (bx + 1) p x y (.slice A9 mT c9) mT us T u) (fun u u' => u = u') (fun u => rfl) (fun h k => h.trans k) (by kernel_rfl) (by kernel_rfl) (by kernel_rfl) hsd (fun _ _ _ _ _ h => h) ?_
        simp only [List.filterMap, List.getElem?_cons_zero, List.getElem?_cons_succ]
        refine wpMH_moveW (fun u => rfl) (by rfl) _ rfl _ rfl ?_
        simp only [Act.put, List.setIfInBounds_toArray, List.set_cons_zero, List.set_cons_succ]
        refine wpMH_loadW (fun u => rfl) (by rfl) _ _ rfl (w.heap.size + 3) 0 rfl (p.map B8) _ (fun u h => h.r1) Try.underlying26 rfl hip ?_
        simp only [Act.put, List.setIfInBounds_toArray, List.set_cons_zero, List.set_cons_succ]
        refine wpMH_loadW (fun u => rfl) (by rfl) _ _ rfl bx 0 rfl (x.map B8) _ (fun u h => h.r2) Try.underlying26 rfl hix ?_
        simp only [Act.put, List.setIfInBounds_toArray, List.set_cons_zero, List.set_cons_succ]
        refine wpMH_loadW (fun u => rfl) (by rfl) _ _ rfl (w.heap.size + 3) 0 rfl (p.map B8) _ (fun u h => h.r1) Try.underlying26 rfl hip ?_
        simp only [Act.put, List.setIfInBounds_toArray, List.set_cons_zero, List.set_cons_succ]
        refine wpMH_loadW (fun u => rfl) (by rfl) _ _ rfl (bx + 1) 0 rfl (y.map B8) _ (fun u h => h.r3) Try.underlying26 rfl hiy ?_
        simp only [Act.put, List.setIfInBounds_toArray, List.set_cons_zero, List.set_cons_succ]
        refine wpMH_nil ?_
        refine wpAnyM_one 3 (by kernel_rfl) rfl ?_
        simp only [List.getElem_toArray, List.getElem_cons_succ, List.getElem_cons_zero]
        intro u1 hS1 e1
        clear hsd e1
        go_wp2_with fail
        refine (HT1.out _).mono ?_
        rintro e wt ⟨At, ct, rfl, hownt, hbt⟩
        have HX1 := Lib.hid (And.intro (hS1.stable hbt) (ownsRow_base (base' := w.heap.size + 3) hownt hS1.sz))
        clear hS1 hownt hbt
        go_wp2_with fail
        refine ⟨HX1.out.1, ?_⟩
        refine wpAnyM_one 6 (by kernel_rfl) rfl ?_
        simp only [List.getElem_toArray, List.getElem_cons_succ, List.getElem_cons_zero]
        rintro u2 - rfl
        go_wp2_with fail
        refine (HT2.out _).mono ?_
        rintro e wu ⟨Au, cu, rfl, hownu, hbu⟩
        have HX2 := Lib.hid (And.intro (HX1.out.1.stable hbu) (And.intro (ownsRow_below HX1.out.2 hbu) (ownsRow_base (base' := w.heap.size + 3) hownu HX1.out.1.sz)))
        clear hownu hbu
        go_wp2_with fail
        refine ⟨HX2.out.1, ?_⟩
        refine wpAnyM_one 7 (by kernel_rfl) rfl ?_
        simp only [List.getElem_toArray, List.getElem_cons_succ, List.getElem_cons_zero]
        rintro u3 - rfl
        go_wp2_with fail
        have hal2 : Below wu.heap.size wu (wu.alloc (.cells #[.slice At 65 ct, .slice Au 65 cu] 22)) := (Below.refl _ _).alloc (Nat.le_refl _) _
        refine ⟨HX2.out.1.stable hal2, ?_⟩
        have hrc2 := rc_new wu [.slice At 65 ct, .slice Au 65 cu] 22 (0, 0)
        have hEl : Elts (wu.alloc (.cells #[.slice At 65 ct, .slice Au 65 cu] 22)) (w.heap.size + 3) [.slice At 65 ct, .slice Au 65 cu] [1 :: (p ++ x), 1 :: (p ++ y)] := Elts.app (us := [.slice At 65 ct]) (T := [1 :: (p ++ x)]) (Elts.one rfl (HX2.out.2.1.alloc _)) (Elts.one rfl (HX2.out.2.2.alloc _))
        have hS3 := HX2.out.1.stable hal2
        obtain ⟨ua, hua⟩ : ∃ ua, ua = wu.alloc (.cells #[.slice At 65 ct, .slice Au 65 cu] 22) := ⟨_, rfl⟩
        obtain ⟨ub, hub⟩ : ∃ ub, ub = wu.heap.size := ⟨_, rfl⟩
        rw [← hua, ← hub] at hrc2
        rw [← hua] at hEl hS3
        rw [← hua, ← hub]
        clear hua hub hal2 HX2 HX1
        refine wpAnyM_one 8 (by kernel_rfl) rfl ?_
        simp only [List.getElem_toArray, List.getElem_cons_succ, List.getElem_cons_zero]
        rintro u4 - rfl
        go_wp2_with (at_builtin; refine wpList_append_from rfl (.tmp 83) (.tmp 90) 35 rfl (w.heap.size + 3) hS3.sz Try.underlying35 info_row3 rfl (by decide) (.slice A9 mT c9) mT us rfl hS3.own (some ⟨ub, 0, none⟩) 2 2 [.slice At 65 ct, .slice Au 65 cu] rfl hrc2 rfl (by intro u hu; simp at hu; rcases hu with rfl | rfl <;> rfl) (by unfold maxLen; omega) (by omega) ?_; intro v12 w12 hown12 hk12 hg12 _; obtain ⟨A12, c12, rfl, -, -, -, -⟩ := own_form hown12; have H12 := Lib.hid (rbT hS3 hEl hown12 hk12 hg12); clear hown12 hk12 hg12)
        clear hS3 hrc2 hEl
        refine ⟨H12.out.s, ?_⟩
        refine wpAnyM_one 9 (by kernel_rfl) rfl ?_
        simp only [List.getElem_toArray, List.getElem_cons_succ, List.getElem_cons_zero]
        rintro u5 - rfl
        go_wp2_with fail
        refine ⟨H12.out.s, ?_⟩
        refine wpAnyM_nil (by kernel_rfl) ?_
        rintro u6 - rfl
        refine NoPanic.normal ?_
        go_wp2_with fail
        have hsd := H12.out.stable (below_drewN (Below.refl _ _) 1)
        clear H12
        refine wp_region_noPanic ?_
        refine wp_region_moves 7 (fun u => RbT w (w.heap.size + 3) bx (bx + 1) p x y (.slice A9 mT c9) mT us T (.slice A12 (mT + 2) c12) (mT + 2) (us ++ [.slice At 65 ct, .slice Au 65 cu]) (T ++ [1 :: (p ++ x), 1 :: (p ++ y)]) u) (fun u u' => Below u.heap.size u u') (fun u => Below.refl _ _) (fun h k => h.trans (k.mono h.size)) (by kernel_rfl) (by kernel_rfl) hsd (fun _ _ _ _ _ h => h) ?_
        simp only [List.take_succ_cons, List.take_zero, List.drop_succ_cons, List.drop_zero]
        refine wpMH_loadW (fun u => Below.refl _ _) (by rfl) _ _ rfl (w.heap.size + 3) 0 rfl (p.map B8) _ (fun u h => h.s.r1) Try.underlying26 rfl hip ?_
        simp only [Act.put, List.setIfInBounds_toArray, List.set_cons_zero, List.set_cons_succ]
        refine wpMH_loadW (fun u => Below.refl _ _) (by rfl) _ _ rfl bx 0 rfl (x.map B8) _ (fun u h => h.s.r2) Try.underlying26 rfl hix ?_
        simp only [Act.put, List.setIfInBounds_toArray, List.set_cons_zero, List.set_cons_succ]
        refine wpMH_callW (by rfl) 34 _ _ rfl eg1 [.agg (p.map B8).toArray, .agg (x.map B8).toArray] rfl (.agg (D1.map B8).toArray) (fun u h => (HN1.out u).mono fun e w' ⟨h1, h2⟩ => ⟨h1, h.stable h2, h2⟩) ?_
        simp only [Act.put, List.setIfInBounds_toArray, List.set_cons_zero, List.set_cons_succ]
        refine wpMH_loadW (fun u => Below.refl _ _) (by rfl) _ _ rfl (w.heap.size + 3) 0 rfl (p.map B8) _ (fun u h => h.s.r1) Try.underlying26 rfl hip ?_
        simp only [Act.put, List.setIfInBounds_toArray, List.set_cons_zero, List.set_cons_succ]
        refine wpMH_loadW (fun u => Below.refl _ _) (by rfl) _ _ rfl (bx + 1) 0 rfl (y.map B8) _ (fun u h => h.s.r3) Try.underlying26 rfl hiy ?_
        simp only [Act.put, List.setIfInBounds_toArray, List.set_cons_zero, List.set_cons_succ]
        refine wpMH_callW (by rfl) 34 _ _ rfl eg1 [.agg (p.map B8).toArray, .agg (y.map B8).toArray] rfl (.agg (D2.map B8).toArray) (fun u h => (HN2.out u).mono fun e w' ⟨h1, h2⟩ => ⟨h1, h.stable h2, h2⟩) ?_
        simp only [Act.put, List.setIfInBounds_toArray, List.set_cons_zero, List.set_cons_succ]
        refine wpMH_moveW (fun u => Below.refl _ _) (by rfl) _ rfl _ rfl ?_
        simp only [Act.put, List.setIfInBounds_toArray, List.set_cons_zero, List.set_cons_succ]
        refine wpMH_nil ?_
        refine wpMT_cons ?_
        intro u7 hS7 hM7
        have hth4 : u7.there (w.heap.size + 1) 0 (D1.map B8).toArray.size := sz_there HD32.out.1 hS7.s.t1
        have H4 := Lib.hid hS7
        clear hS7 hM7 hsd
        go_wp2_with ((with_reducible show wpList _ _ _ (⟨_, Op.store 26 (.tmp 10) _, _, _, _, _⟩ :: _) _ _); refine wpList_store_row rfl _ _ _ rfl (w.heap.size + 1) 0 (D1.map B8).toArray rfl rfl (hth4) hi1' (b8_all D1) ?_; intro w13 hg13 hs13 ht13 hth13; rw [List.toList_toArray] at ht13; have H13 := Lib.hid (And.intro (H4.out.put1 hg13 (there_sz HD32.out.1 hth13)) ht13); clear hg13 hs13 ht13 hth13)
        refine ⟨H13.out.1, ?_⟩
        refine wpMT_cons ?_
        intro u8 hS8 hM8
        have hth5 : u8.there (w.heap.size + 2) 0 (D2.map B8).toArray.size := sz_there HD32.out.2 hS8.s.t2
        have H5 := Lib.hid (And.intro hS8 (rangeAt_below' H13.out.2 hM8))
        clear hS8 hM8 hth4
        go_wp2_with ((with_reducible show wpList _ _ _ (⟨_, Op.store 26 (.tmp 11) _, _, _, _, _⟩ :: _) _ _); refine wpList_store_row rfl _ _ _ rfl (w.heap.size + 2) 0 (D2.map B8).toArray rfl rfl (hth5) hi2' (b8_all D2) ?_; intro w14 hg14 hs14 ht14 hth14; rw [List.toList_toArray] at ht14; have H14 := Lib.hid (And.intro (H5.out.1.put2 hg14 (there_sz HD32.out.2 hth14)) (And.intro (rangeAt_grown H5.out.2 hg14 (by simp)) ht14)); clear hg14 hs14 ht14 hth14)
        refine ⟨H14.out.1, ?_⟩
        refine wpMT_cons ?_
        intro u9 hS9 hM9
        have H6 := Lib.hid (And.intro hS9 (And.intro (rangeAt_below' H14.out.2.1 hM9) (rangeAt_below' H14.out.2.2 hM9)))
        clear hS9 hM9 hth5
        go_wp2_with fail
        refine ⟨H6.out.1, ?_⟩
        refine wpMT_nil ?_
        intro ux hSx hMx
        have H7 := Lib.hid (And.intro hSx (And.intro (rangeAt_below' H6.out.2.1 hMx) (rangeAt_below' H6.out.2.2 hMx)))
        clear hSx hMx
        refine NoPanic.normal ?_
        go_wp2_with fail
        have hl : (T ++ [1 :: (p ++ x), 1 :: (p ++ y)]).length = mT + 2 := by rw [List.length_append, ← H32.out.2.2.2]; rfl
        refine bodyPost_ret (v := .tuple #[.agg (D1.map B8).toArray, .agg (D2.map B8).toArray, .slice A12 (mT + 2) c12]) ?_ rfl ?_
        · exact results_cells_tmp (s := 10) (s' := 11) (s2 := 12) rfl _ _ _ (w.heap.size + 1) (w.heap.size + 2) rfl rfl _ rfl (D1.map B8) (D2.map B8) _ H7.out.2.1 H7.out.2.2 Try.underlying26 rfl hi1 hi2x
        · exact ⟨A12, c12, us ++ [.slice At 65 ct, .slice Au 65 cu], by rw [hl]; rfl, by rw [hl]; exact ownsRow_base H7.out.1.own (by omega), H7.out.1.elts.base (by omega), H7.out.1.s.below⟩
end
end Go.Proofs.Ytkcmacglomdfcaa
