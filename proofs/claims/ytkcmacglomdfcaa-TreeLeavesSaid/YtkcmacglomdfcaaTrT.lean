/-
  THE WALKS of the tree's Find and Leaf, of the document's Find and Level.
-/
import Derived.Test.YtkcmacglomdfcaaTrKO
import Derived.Test.YtkcmacglomdfcaaPfC
namespace Go.Proofs.Ytkcmacglomdfcaa
open Go.RowKit

section
variable {F : Dg → Dg} {B g : Nat} {ls : List Dg} {K : List Nat}
set_option maxRecDepth 100000 in
theorem tfind_any (w : World) (h : TS F B g ls K w) (x : Dg) (hx : x.length = 32) :
    Calls Try.prog 50 #[.pointer (some ⟨g, 0, none⟩), SumV x] w fun e w' => e = .returned (.tuple #[.int .i64 (posF ls x : Nat), .bool (decide (x ∈ ls))]) ∧ Below w.heap.size w w' := by
  obtain ⟨mb, V, us, nn, D, hT, hF, hn, h32, -⟩ := h
  have HLk : Hid (∀ u : World, u.ownsMap Try.prog 26 (plainElem Try.prog 3) mb nn D → (Instr.lookup 124 (.map (some mb)) (.agg (x.map B8).toArray) true).run Try.prog u = .ok (.tuple #[.int .i64 (posF ls x : Nat), .bool (decide (x ∈ ls))]) u) := Lib.hid fun u hu => look_tree hu hF hx
  have hix := info_of x hx
  obtain ⟨p0, hp0⟩ : ∃ p, p = posF ls x := ⟨_, rfl⟩
  obtain ⟨q0, hq0⟩ : ∃ q, q = decide (x ∈ ls) := ⟨_, rfl⟩
  rw [← hp0, ← hq0] at HLk ⊢
  obtain ⟨W, hW⟩ : ∃ W, W = w.alloc (.cells (x.map B8).toArray 26) := ⟨_, rfl⟩
  have hWb : Below w.heap.size w W ∧ W.rangeAt w.heap.size 0 (x.map B8) := by rw [hW]; exact ⟨(Below.refl _ _).alloc (Nat.le_refl _) _, rangeAt_at _ _ _ _ _ rfl⟩
  have HW := Lib.hid (And.intro (hT.stable hWb.1) hWb)
  have HWe := Lib.hid hW
  clear hT hF hn h32 hp0 hq0 hW hWb hx
  unfold SumV
  go_enter Try.func50, Try.ntmps50
  go_wp2_with fail
  rw [← HWe.out]
  have hsd : Tr B g mb V us (treeF F ls) nn D W.drew ∧ Below w.heap.size w W.drew ∧ W.drew.rangeAt w.heap.size 0 (x.map B8) := ⟨HW.out.1.stable (below_drewN (Below.refl _ _) 1), below_drewN HW.out.2.1 1, rangeAt_below' HW.out.2.2 (below_drewN (Below.refl _ _) 1)⟩
  have HSd := Lib.hid hsd
  refine wp_region_noPanic ?_
  refine wp_region_moves 11 (fun u => Tr B g mb V us (treeF F ls) nn D u ∧ Below w.heap.size w u ∧ u.rangeAt w.heap.size 0 (x.map B8)) (fun u u' => u = u') (fun u => rfl) (fun h k => h.trans k) (by kernel_rfl) (by kernel_rfl) hsd (fun _ _ _ _ _ h => h) ?_
  simp only [List.take_succ_cons, List.take_zero, List.drop_succ_cons, List.drop_zero]
  refine wpMH_moveW (fun u => rfl) (by rfl) _ rfl _ rfl ?_
  simp only [Act.put, List.setIfInBounds_toArray, List.set_cons_zero, List.set_cons_succ]
  refine wpMH_pureW (fun u => rfl) (by rfl) (.pointer (some ⟨g, 0, none⟩)) (fun u hu => by go_simp) ?_
  simp only [Act.put, List.setIfInBounds_toArray, List.set_cons_zero, List.set_cons_succ]
  refine wpMH_pureW (fun u => rfl) (by rfl) (.pointer (some ⟨g, 1, none⟩)) (fun u hu => by go_simp) ?_
  simp only [Act.put, List.setIfInBounds_toArray, List.set_cons_zero, List.set_cons_succ]
  refine wpMH_pureW (fun u => rfl) (by rfl) (.map (some mb)) (fun u hu => by have hc := hu.1.c1; go_simp) ?_
  simp only [Act.put, List.setIfInBounds_toArray, List.set_cons_zero, List.set_cons_succ]
  refine wpMH_loadW (fun u => rfl) (by rfl) _ _ rfl w.heap.size 0 rfl (x.map B8) _ (fun u h => h.2.2) Try.underlying26 rfl hix ?_
  simp only [Act.put, List.setIfInBounds_toArray, List.set_cons_zero, List.set_cons_succ]
  refine wpMH_pureW (fun u => rfl) (by rfl) (.tuple #[.int .i64 (p0 : Nat), .bool q0]) (fun u hu => run_lookup_ok rfl _ _ rfl rfl (HLk.out u hu.1.map)) ?_
  simp only [Act.put, List.setIfInBounds_toArray, List.set_cons_zero, List.set_cons_succ]
  refine wpMH_moveW (fun u => rfl) (by rfl) _ rfl _ rfl ?_
  simp only [Act.put, List.setIfInBounds_toArray, List.set_cons_zero, List.set_cons_succ]
  refine wpMH_pureW (fun u => rfl) (by rfl) (.int .i64 (p0 : Nat)) (fun u hu => by rfl) ?_
  simp only [Act.put, List.setIfInBounds_toArray, List.set_cons_zero, List.set_cons_succ]
  refine wpMH_pureW (fun u => rfl) (by rfl) (.bool q0) (fun u hu => by rfl) ?_
  simp only [Act.put, List.setIfInBounds_toArray, List.set_cons_zero, List.set_cons_succ]
  refine wpMH_pureW (fun u => rfl) (by rfl) (.int .i64 (p0 : Nat)) (fun u hu => by rfl) ?_
  simp only [Act.put, List.setIfInBounds_toArray, List.set_cons_zero, List.set_cons_succ]
  refine wpMH_pureW (fun u => rfl) (by rfl) (.bool q0) (fun u hu => by rfl) ?_
  simp only [Act.put, List.setIfInBounds_toArray, List.set_cons_zero, List.set_cons_succ]
  refine wpMH_nil ?_
  refine wpMT_nil ?_
  rintro u1 - rfl
  refine NoPanic.normal ?_
  clear hsd
  go_wp2_with fail
  go_ret2
  exact ⟨rfl, HSd.out.2.1⟩
set_option maxRecDepth 100000 in
theorem tleaf_bad (w : World) (h : TS F B g ls K w) (i : Int) (hn : i < 0 ∨ (ls.length : Int) ≤ i) :
    Calls Try.prog 52 #[.pointer (some ⟨g, 0, none⟩), .int .i64 i] w fun e w' => e = .returned (.tuple #[SumV zero32, errV 2]) ∧ Below w.heap.size w w' := by
  have HL : Hid (∀ o, Calls Try.prog 48 #[.pointer (some ⟨g, 0, none⟩)] (w.alloc o) fun e w' => e = .returned (.int .i64 (ls.length : Nat)) ∧ w.alloc o = w') := Lib.hid fun o => ts_len (h.stable ((Below.refl _ _).alloc (Nat.le_refl _) _))
  clear h
  obtain ⟨m, hm⟩ : ∃ m, m = ls.length := ⟨_, rfl⟩
  rw [← hm] at hn HL
  clear hm
  by_cases h0 : i < 0
  · have d0 : decide (i < 0) = true := decide_eq_true h0
    go_enter Try.func52, Try.ntmps52
    go_wp2_with ((with_reducible show wpList _ _ _ (⟨_, Op.store 26 (.tmp 4) _, _, _, _, _⟩ :: _) _ _); refine wpList_store_row rfl _ _ _ rfl w.heap.size 0 (zero32.map B8).toArray rfl rfl (there_blk (heap_alloc_at _ _ _ rfl) (by decide)) (by kernel_rfl) (b8_all zero32) ?_; intro w5 hg5 hs5 ht5 hth5; rw [List.toList_toArray] at ht5; skip)
    refine bodyPost_ret (v := .tuple #[SumV zero32, errV 2]) ?_ rfl ⟨rfl, ((Below.refl _ _).alloc (Nat.le_refl _) _).grown hg5 (by simp <;> omega) (by intro k hk; cases hk; omega)⟩
    exact results_cell_tmp (s := 4) (s2 := 5) rfl _ _ _ w.heap.size 0 rfl _ rfl (zero32.map B8) _ ht5 Try.underlying26 rfl (by kernel_rfl)
  · have d0 : decide (i < 0) = false := decide_eq_false h0
    have d1 : decide ((m : Int) ≤ i) = true := decide_eq_true (by omega)
    go_enter Try.func52, Try.ntmps52
    go_wp2_with (first
      | (go_at_call 48; refine (HL.out _).mono ?_; rintro e w1 ⟨rfl, rfl⟩)
      | ((with_reducible show wpList _ _ _ (⟨_, Op.store 26 (.tmp 4) _, _, _, _, _⟩ :: _) _ _); refine wpList_store_row rfl _ _ _ rfl w.heap.size 0 (zero32.map B8).toArray rfl rfl (there_blk (heap_alloc_at _ _ _ rfl) (by decide)) (by kernel_rfl) (b8_all zero32) ?_; intro w5 hg5 hs5 ht5 hth5; rw [List.toList_toArray] at ht5; skip))
    refine bodyPost_ret (v := .tuple #[SumV zero32, errV 2]) ?_ rfl ⟨rfl, ((Below.refl _ _).alloc (Nat.le_refl _) _).grown hg5 (by simp <;> omega) (by intro k hk; cases hk; omega)⟩
    exact results_cell_tmp (s := 4) (s2 := 5) rfl _ _ _ w.heap.size 0 rfl _ rfl (zero32.map B8) _ ht5 Try.underlying26 rfl (by kernel_rfl)
set_option maxRecDepth 100000 in
theorem tleaf_ok (w : World) (h : TS F B g ls K w) (h127 : ls.length ≤ 127) (i : Nat) (d : Dg) (hd : ls[i]? = some d) :
    Calls Try.prog 52 #[.pointer (some ⟨g, 0, none⟩), .int .i64 (i : Int)] w fun e w' => e = .returned (.tuple #[SumV d, .nilIface]) ∧ Below w.heap.size w w' := by
  have HL : Hid (∀ o, Calls Try.prog 48 #[.pointer (some ⟨g, 0, none⟩)] (w.alloc o) fun e w' => e = .returned (.int .i64 (ls.length : Nat)) ∧ w.alloc o = w') := Lib.hid fun o => ts_len (h.stable ((Below.refl _ _).alloc (Nat.le_refl _) _))
  have hil := (List.getElem?_eq_some_iff.1 hd).1
  obtain ⟨vb, mr, cV, rb, cx, hkm, hmr, hd32, hlook⟩ := look_level (k := 0) (ix := i) h (by rw [lev_zero]; exact hd) (by simp; omega)
  rw [lev_zero] at hlook
  have hi := info_of d hd32
  have hi' := info_of' d hd32
  obtain ⟨m, hm⟩ : ∃ m, m = ls.length := ⟨_, rfl⟩
  rw [← hm] at hil hlook HL h127 hmr
  have d0 : decide ((i : Int) < 0) = false := decide_eq_false (by omega)
  have d1 : decide (m ≤ i) = false := decide_eq_false (by omega)
  have d1' : decide ((m : Int) ≤ (i : Int)) = false := decide_eq_false (by omega)
  have d2 : (0 : Int) < (mr : Int) := by omega
  have d3 : (i : Int) < (m : Int) := by omega
  obtain ⟨W, hW⟩ : ∃ W, W = w.alloc (.cells (List.replicate 32 (.int .u8 0)).toArray 26) := ⟨_, rfl⟩
  have hWb : Below w.heap.size w W ∧ W.there w.heap.size 0 32 := by rw [hW]; exact ⟨(Below.refl _ _).alloc (Nat.le_refl _) _, there_blk (heap_alloc_at _ _ _ rfl) (by decide)⟩
  have hL := HL.out (.cells (List.replicate 32 (.int .u8 0)).toArray 26)
  rw [← hW] at hL
  obtain ⟨hc1, hc2, hr⟩ := hlook W hWb.1
  have hth := sz_there hd32 hWb.2
  have HWb := Lib.hid hWb.1
  have HWe := Lib.hid hW
  have HL1 := Lib.hid hL
  clear h hd hlook hm hW hWb hL HL
  go_enter Try.func52, Try.ntmps52
  go_wp2_with fail
  rw [zeros_lit, ← HWe.out]
  refine HL1.out.mono ?_
  rintro e w1 ⟨rfl, rfl⟩
  go_wp2_with (first
    | ((with_reducible show wpList _ _ _ (⟨_, Op.load 26 (.tmp 23), _, _, _, _⟩ :: _) _ _); refine wpList_load_mid rfl _ _ rfl rb (i * 32) rfl (d.map B8) _ hr Try.underlying26 rfl hi ?_; simp only [Act.put, List.setIfInBounds_toArray, List.set_cons_zero, List.set_cons_succ])
    | ((with_reducible show wpList _ _ _ (⟨_, Op.store 26 (.tmp 4) _, _, _, _, _⟩ :: _) _ _); refine wpList_store_row rfl _ _ _ rfl w.heap.size 0 (d.map B8).toArray rfl rfl hth hi' (b8_all d) ?_; intro w5 hg5 hs5 ht5 hth5; rw [List.toList_toArray] at ht5; skip))
  refine bodyPost_ret (v := .tuple #[SumV d, .nilIface]) ?_ rfl ⟨rfl, HWb.out.grown hg5 HWb.out.size (by intro k hk; cases hk; omega)⟩
  exact results_cell_tmp (s := 4) (s2 := 5) rfl _ _ _ w.heap.size 0 rfl _ rfl (d.map B8) _ ht5 Try.underlying26 rfl hi
/-- Level: a row of its own, empty where there is none. -/
theorem tlevel_any (w : World) (h : TS F B g ls K w) (h127 : ls.length ≤ 127) (k : Nat) :
    Calls Try.prog 53 #[.pointer (some ⟨g, 0, none⟩), .int .i64 (k : Int)] w (RowPost w (lev F k ls)) := by
  by_cases hk : 2 ^ k ≤ ls.length
  · exact ts_level h k hk (by omega)
  · refine (ts_level_out h (k : Int) (.inr ⟨k, rfl, by omega⟩)).mono ?_
    rintro e w' ⟨he, rfl⟩
    have e0 : lev F k ls = [] := List.eq_nil_of_length_eq_zero (by rw [lev_length]; exact Nat.div_eq_of_lt (by omega))
    exact ⟨none, 0, by rw [he, e0]; rfl, by rw [e0]; exact World.ownsRow_nil _ _ _ _, Below.refl _ _⟩
end
theorem idx_at {ls : List Dg} {k : Nat} {x : Dg} (h : ls[k]? = some x) (hn : x ∉ ls.take k) : ls.idxOf x = k := by
  have hk := (List.getElem?_eq_some_iff.1 h).1
  have e : ls = ls.take k ++ x :: ls.drop (k + 1) := by
    have h2 := List.drop_eq_getElem_cons hk
    rw [List.getElem?_eq_getElem hk] at h
    cases h
    rw [← h2, List.take_append_drop]
  conv => lhs; rw [e]
  rw [List.idxOf_append, if_neg hn, List.idxOf_cons_self, List.length_take]
  omega
/-- Where the document finds a leaf. -/
def atF (ls : List Dg) (x : Dg) : Int := if x ∈ ls then (ls.idxOf x : Nat) else -1
set_option maxRecDepth 100000 in
theorem rfind_any (w : World) (A : Option Addr) (n c : Nat) (ls : List Dg) (hr : RS w A n ls) (hn : n ≤ 1048576) (x : Dg) (hx : x.length = 32) :
    Calls Try.prog 51 #[.slice A n c, SumV x] w fun e w' => e = .returned (.int .i64 (atF ls x)) ∧ Below w.heap.size w w' := by
  have hix := info_of x hx
  have Hr := Lib.hid hr
  obtain ⟨W, hW⟩ : ∃ W, W = w.alloc (.cells (x.map B8).toArray 26) := ⟨_, rfl⟩
  have hWb : x ∉ ls.take 0 ∧ Below w.heap.size w W ∧ W.rangeAt w.heap.size 0 (x.map B8) := by rw [hW]; exact ⟨by simp, (Below.refl _ _).alloc (Nat.le_refl _) _, rangeAt_at _ _ _ _ _ rfl⟩
  have HW := Lib.hid hWb
  have HWe := Lib.hid hW
  clear hr hW hWb
  unfold SumV
  go_enter Try.func51, Try.ntmps51
  go_wp2_with fail
  rw [← HWe.out]
  go_loopw [5] (fun iv wr => ∃ k : Nat, k ≤ n ∧ iv = .int .i64 (k : Int) ∧ Hid (x ∉ ls.take k ∧ Below w.heap.size w wr ∧ wr.rangeAt w.heap.size 0 (x.map B8))) (fun iv _ => n - (intOf iv).toNat)
  case atStart => exact ⟨0, by omega, rfl, HW⟩
  case round =>
    obtain ⟨k, hk, rfl, hq⟩ := hrel
    by_cases hkl : k < n
    · have dl : decide (k < n) = true := decide_eq_true hkl
      have dl' : decide ((k : Int) < (n : Int)) = true := decide_eq_true (by omega)
      have kn : (k : Int) < (n : Int) := by omega
      obtain ⟨b, o, y, hA, hy, hy32, hry⟩ := (Hr.out.below hq.out.2.1).at_ (i := k) hkl
      subst hA
      have hiy := info_of y hy32
      obtain ⟨q, hqq⟩ : ∃ q, q = (y == x) := ⟨_, rfl⟩
      have heq := fun u => run_eql_sum u y x hy32 hx
      rw [← hqq] at heq
      have Hqq := Lib.hid hqq
      have Hy := Lib.hid hy
      have Hq := hq
      clear hq hy hqq
      go_wp2_with fail
      have hsd : Below wr.heap.size wr wr.drew ∧ wr.drew.rangeAt b (o + k * 32) (y.map B8) ∧ wr.drew.rangeAt w.heap.size 0 (x.map B8) := ⟨below_drewN (Below.refl _ _) 1, rangeAt_below' hry (below_drewN (Below.refl _ _) 1), rangeAt_below' Hq.out.2.2 (below_drewN (Below.refl _ _) 1)⟩
      have HSd := Lib.hid hsd
      refine wp_region_noPanic ?_
      refine wp_region_moves 6 (fun u => Below wr.heap.size wr u ∧ u.rangeAt b (o + k * 32) (y.map B8) ∧ u.rangeAt w.heap.size 0 (x.map B8)) (fun u u' => u = u') (fun u => rfl) (fun h k => h.trans k) (by kernel_rfl) (by kernel_rfl) hsd (fun _ _ _ _ _ h => h) ?_
      simp only [List.take_succ_cons, List.take_zero, List.drop_succ_cons, List.drop_zero]
      refine wpMH_moveW (fun u => rfl) (by rfl) _ rfl _ rfl ?_
      simp only [Act.put, List.setIfInBounds_toArray, List.set_cons_zero, List.set_cons_succ]
      refine wpMH_moveW (fun u => rfl) (by rfl) _ rfl _ rfl ?_
      simp only [Act.put, List.setIfInBounds_toArray, List.set_cons_zero, List.set_cons_succ]
      refine wpMH_pureW (fun u => rfl) (by rfl) (.pointer (some ⟨b, o + k * 32, none⟩)) (fun u hu => by go_simp) ?_
      simp only [Act.put, List.setIfInBounds_toArray, List.set_cons_zero, List.set_cons_succ]
      refine wpMH_loadW (fun u => rfl) (by rfl) _ _ rfl b (o + k * 32) rfl (y.map B8) _ (fun u h => h.2.1) Try.underlying26 rfl hiy ?_
      simp only [Act.put, List.setIfInBounds_toArray, List.set_cons_zero, List.set_cons_succ]
      refine wpMH_loadW (fun u => rfl) (by rfl) _ _ rfl w.heap.size 0 rfl (x.map B8) _ (fun u h => h.2.2) Try.underlying26 rfl hix ?_
      simp only [Act.put, List.setIfInBounds_toArray, List.set_cons_zero, List.set_cons_succ]
      refine wpMH_pureW (fun u => rfl) (by rfl) (.bool q) (fun u hu => by have he := heq u; go_simp) ?_
      simp only [Act.put, List.setIfInBounds_toArray, List.set_cons_zero, List.set_cons_succ]
      refine wpMH_nil ?_
      refine wpMT_nil ?_
      rintro u1 - rfl
      refine NoPanic.normal ?_
      clear hsd
      cases q with
      | true =>
        have hyx : y = x := by have := Hqq.out; simpa using this.symm
        have hres : atF ls x = (k : Int) := by
          have h1 := Hy.out
          rw [hyx] at h1
          rw [atF, if_pos (List.mem_of_getElem? h1), idx_at h1 Hq.out.1]
        have Hres := Lib.hid hres
        clear hres hyx
        go_wp2_with fail
        go_ret
        exact ⟨by rw [Hres.out]; rfl, Hq.out.2.1.trans (HSd.out.1.mono Hq.out.2.1.size)⟩
      | false =>
        have hyx : ¬ y = x := by
          have h := Hqq.out
          intro e
          rw [e, beq_self_eq_true] at h
          cases h
        have HN : Hid (x ∉ ls.take (k + 1) ∧ Below w.heap.size w wr.drew ∧ wr.drew.rangeAt w.heap.size 0 (x.map B8)) := Lib.hid ⟨fun h => by
          rw [take_snoc Hy.out] at h
          rcases List.mem_append.1 h with h | h
          · exact Hq.out.1 h
          · simp at h; exact hyx h.symm, Hq.out.2.1.trans (HSd.out.1.mono Hq.out.2.1.size), HSd.out.2.2⟩
        clear hyx
        go_wp2_with fail
        go_roundw
        case rel => exact ⟨k + 1, by omega, by go_num, HN⟩
        case measure => simp [intOf]; omega
    · have dl : decide (k < n) = false := decide_eq_false hkl
      have dl' : decide ((k : Int) < (n : Int)) = false := decide_eq_false (by omega)
      have hres : atF ls x = -1 := by
        have h := hq.out.1
        rw [List.take_of_length_le (by have := Hr.out.len; omega)] at h
        rw [atF, if_neg h]
      have Hres := Lib.hid hres
      have Hq := hq
      clear hres hq
      go_wp2_with fail
      go_ret
      exact ⟨by rw [Hres.out]; rfl, Hq.out.2.1⟩
end Go.Proofs.Ytkcmacglomdfcaa
