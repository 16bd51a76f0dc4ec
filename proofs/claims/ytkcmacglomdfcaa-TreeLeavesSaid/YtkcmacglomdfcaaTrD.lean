/-
  THE WALKS of a nil tree, of Level, and of alive in cachetlaw11; the law TreeNone.
-/
import Derived.Test.YtkcmacglomdfcaaTrC
import Derived.Test.YtkcmacglomdfcaaErr
namespace Go.Proofs.Ytkcmacglomdfcaa
open Go.RowKit

theorem clone_sums (w : World) (A : Option Addr) (n c : Nat) (ls : List Dg) (h : RS w A n ls) (hn : n ≤ 1048576) (hnc : n ≤ c) :
    Calls Try.prog 88 #[.slice A n c] w fun e w' => ∃ A' c', e = .returned (.slice A' n c') ∧ w'.ownsRow w.heap.size 26 32 (.slice A' n c') n (ls.flatten.map B8) ∧ Below w.heap.size w w' := by
  have hlen := h.len
  have hml : (ls.flatten.map B8).length = n * 32 := by rw [List.length_map, flat_len ls h.2.1, hlen]
  have Hml := Lib.hid hml
  cases A with
  | none =>
    have h0 : n = 0 := by
      rcases Nat.eq_zero_or_pos n with h0 | h0
      · exact h0
      · obtain ⟨b, o, hA, -⟩ := h.2.2 h0
        cases hA
    subst h0
    have hk := Lib.run_eql_slice_nil (P := Try.prog) w 42 26 none 0 c 0 0 Try.underlying42
    have hls : ls = [] := List.eq_nil_of_length_eq_zero hlen
    subst hls
    clear h hlen hml
    go_enter Try.func88, Try.ntmps88
    go_wp2
    go_ret
    exact ⟨none, 0, rfl, World.ownsRow_nil _ _ _ _, Below.refl _ _⟩
  | some ad =>
    have hk := Lib.run_eql_slice_nil (P := Try.prog) w 42 26 (some ad) n c 0 0 Try.underlying42
    have H := Lib.hid h
    clear h hlen hml
    go_enter Try.func88, Try.ntmps88
    go_wp2_with (at_builtin; refine wpList_append_row rfl (.tmp 5) (.tmp 6) 42 rfl w ((Below.refl _ _).alloc (Nat.le_refl _) _) Try.underlying42 info_sum3 rfl (by decide) (.slice (some ⟨w.heap.size, 0, none⟩) 0 0) 0 [] rfl (ownsRow_empty w _ _ (Nat.le_refl _)) (some ad) n c (ls.flatten.map B8) rfl ((H.out.below ((Below.refl _ _).alloc (Nat.le_refl _) _)).rc) Hml.out (b8_oneCell _) (by unfold maxLen; omega) (by omega) ?_; intro v2 w2 hown hb2; rw [List.nil_append, Nat.zero_add] at hown; obtain ⟨A2, c2, rfl, -, -, -⟩ := own_formK hown; have H2 := Lib.hid (And.intro hown hb2); clear hown hb2)
    go_ret
    exact ⟨_, _, rfl, H2.out.1, H2.out.2⟩
set_option maxRecDepth 100000 in
theorem level_out {B g mb n : Nat} {V : Value} {us : List Value} {rows : List (List Dg)} {D : DataW Unit} (u : World) (h : Tr B g mb V us rows n D u) (k : Int) (hk : k < 0 ∨ (rows.length : Int) ≤ k) :
    Calls Try.prog 53 #[.pointer (some ⟨g, 0, none⟩), .int .i64 k] u fun e w' => e = .returned (.slice none 0 0) ∧ u = w' := by
  have c0 := h.c0
  obtain ⟨A, c, rfl, -, -, -⟩ := h.form
  obtain ⟨m, hm⟩ : ∃ m, m = rows.length := ⟨_, rfl⟩
  rw [← hm] at c0 hk
  have Hk := Lib.hid hk
  clear h hk hm
  by_cases h0 : k < 0
  · have d0 : decide (k < 0) = true := decide_eq_true h0
    go_enter Try.func53, Try.ntmps53
    go_wp2
    go_ret
    exact ⟨rfl, rfl⟩
  · have d0 : decide (k < 0) = false := decide_eq_false h0
    have d1 : decide ((m : Int) ≤ k) = true := decide_eq_true (by have := Hk.out; omega)
    go_enter Try.func53, Try.ntmps53
    go_wp2
    go_ret
    exact ⟨rfl, rfl⟩
set_option maxRecDepth 100000 in
theorem level_nil (u : World) (k : Int) : Calls Try.prog 53 #[.pointer none, .int .i64 k] u fun e w' => e = .returned (.slice none 0 0) ∧ u = w' := by
  go_enter Try.func53, Try.ntmps53
  go_wp2
  go_ret
  exact ⟨rfl, rfl⟩
set_option maxRecDepth 100000 in
theorem level_in {B g mb n : Nat} {V : Value} {us : List Value} {rows : List (List Dg)} {D : DataW Unit} (u : World) (h : Tr B g mb V us rows n D u) (k : Nat) (r : List Dg) (hr : rows[k]? = some r) (hr20 : r.length ≤ 1048576) :
    Calls Try.prog 53 #[.pointer (some ⟨g, 0, none⟩), .int .i64 (k : Int)] u fun e w' => ∃ A' c', e = .returned (.slice A' r.length c') ∧ w'.ownsRow u.heap.size 26 32 (.slice A' r.length c') r.length (r.flatten.map B8) ∧ Below u.heap.size u w' := by
  have c0 := h.c0
  have hkl : k < rows.length := (List.getElem?_eq_some_iff.1 hr).1
  obtain ⟨A, c, rfl, -, hA, hcells⟩ := h.form
  obtain ⟨vb, rfl⟩ := hA (by omega)
  obtain ⟨x, hx, hcx, -⟩ := hcells vb rfl k r hr
  obtain ⟨⟨Ax, cx, rfl⟩, ho, h32⟩ := h.each k x r hx hr
  obtain ⟨A', n', c', e', hnc, -, hrs⟩ := SS.of_own ho h32 rfl
  cases e'
  have hcl := clone_sums u Ax r.length cx r hrs hr20 hnc
  obtain ⟨m, hm⟩ : ∃ m, m = rows.length := ⟨_, rfl⟩
  rw [← hm] at c0 hkl
  obtain ⟨q, hq⟩ : ∃ q, q = r.length := ⟨_, rfl⟩
  rw [← hq] at hcl hcx ⊢
  have Hcl := Lib.hid hcl
  have d0 : decide ((k : Int) < 0) = false := decide_eq_false (by omega)
  have d1 : decide ((m : Int) ≤ (k : Int)) = false := decide_eq_false (by omega)
  have d1' : decide (m ≤ k) = false := decide_eq_false (by omega)
  have b0 : (0 : Int) ≤ (k : Int) := by omega
  have b1 : (k : Int) < (m : Int) := by omega
  clear h hA hcells hx ho h32 hrs hcl hm hq hr hr20 hnc
  go_enter Try.func53, Try.ntmps53
  go_wp2_with fail
  refine Hcl.out.mono ?_
  rintro e w1 ⟨A', c', rfl, h1, h2⟩
  have H1 := Lib.hid (And.intro h1 h2)
  clear h1 h2
  go_wp2_with fail
  go_ret
  exact ⟨A', c', rfl, H1.out.1, H1.out.2⟩
/-! ### A nil tree -/
set_option maxRecDepth 100000 in
theorem len_nil (u : World) : Calls Try.prog 48 #[.pointer none] u fun e w' => e = .returned (.int .i64 0) ∧ u = w' := by
  go_enter Try.func48, Try.ntmps48
  go_wp2
  go_ret
  exact ⟨rfl, rfl⟩
set_option maxRecDepth 100000 in
theorem add_nil (u : World) (x : Dg) : Calls Try.prog 47 #[.pointer none, SumV x] u fun e w' => e = .returned (.tuple #[.int .i64 0, errV 3]) ∧ Below u.heap.size u w' := by
  have HL := Lib.hid len_nil
  unfold SumV
  go_enter Try.func47, Try.ntmps47
  go_wp2_with (go_at_call 48; refine (HL.out _).mono ?_; rintro e w1 ⟨rfl, rfl⟩)
  go_ret2
  exact ⟨rfl, (Below.refl _ _).alloc (Nat.le_refl _) _⟩
set_option maxRecDepth 100000 in
theorem find_nil (u : World) (x : Dg) : Calls Try.prog 50 #[.pointer none, SumV x] u fun e w' => e = .returned (.tuple #[.int .i64 0, .bool false]) ∧ Below u.heap.size u w' := by
  unfold SumV
  go_enter Try.func50, Try.ntmps50
  go_wp2
  go_ret2
  exact ⟨rfl, (Below.refl _ _).alloc (Nat.le_refl _) _⟩
set_option maxRecDepth 100000 in
theorem path_nil (u : World) (i n : Int) : Calls Try.prog 55 #[.pointer none, .int .i64 i, .int .i64 n] u fun e w' => e = .returned (.tuple #[.slice none 0 0, errV 2]) ∧ u = w' := by
  have HL := Lib.hid len_nil
  by_cases q1 : n < 0
  · have d1 : decide (n < 0) = true := decide_eq_true q1
    go_enter Try.func55, Try.ntmps55
    go_wp2
    go_ret2
    exact ⟨rfl, rfl⟩
  · have d1 : decide (n < 0) = false := decide_eq_false q1
    by_cases q2 : 0 < n
    · have d2 : decide (0 < n) = true := decide_eq_true q2
      go_enter Try.func55, Try.ntmps55
      go_wp2_with (go_at_call 48; refine (HL.out _).mono ?_; rintro e w1 ⟨rfl, rfl⟩)
      go_ret2
      exact ⟨rfl, rfl⟩
    · have d2 : decide (0 < n) = false := decide_eq_false q2
      by_cases q3 : i < 0
      · have d3 : decide (i < 0) = true := decide_eq_true q3
        go_enter Try.func55, Try.ntmps55
        go_wp2_with (go_at_call 48; refine (HL.out _).mono ?_; rintro e w1 ⟨rfl, rfl⟩)
        go_ret2
        exact ⟨rfl, rfl⟩
      · have d3 : decide (i < 0) = false := decide_eq_false q3
        have d4 : decide (n ≤ i) = true := decide_eq_true (by omega)
        go_enter Try.func55, Try.ntmps55
        go_wp2_with (go_at_call 48; refine (HL.out _).mono ?_; rintro e w1 ⟨rfl, rfl⟩)
        go_ret2
        exact ⟨rfl, rfl⟩
set_option maxRecDepth 100000 in
theorem begins_nil (u : World) (i n : Int) : Calls Try.prog 70 #[.pointer none, .int .i64 i, .int .i64 n] u fun e w' => e = .returned (.tuple #[.slice none 0 0, errV 2]) ∧ u = w' := by
  have HL := Lib.hid len_nil
  by_cases q1 : n < 0
  · have d1 : decide (n < 0) = true := decide_eq_true q1
    go_enter Try.func70, Try.ntmps70
    go_wp2
    go_ret2
    exact ⟨rfl, rfl⟩
  · have d1 : decide (n < 0) = false := decide_eq_false q1
    by_cases q2 : 0 < n
    · have d2 : decide (0 < n) = true := decide_eq_true q2
      go_enter Try.func70, Try.ntmps70
      go_wp2_with (go_at_call 48; refine (HL.out _).mono ?_; rintro e w1 ⟨rfl, rfl⟩)
      go_ret2
      exact ⟨rfl, rfl⟩
    · have d2 : decide (0 < n) = false := decide_eq_false q2
      by_cases q3 : i < 1
      · have d3 : decide (i < 1) = true := decide_eq_true q3
        go_enter Try.func70, Try.ntmps70
        go_wp2_with (go_at_call 48; refine (HL.out _).mono ?_; rintro e w1 ⟨rfl, rfl⟩)
        go_ret2
        exact ⟨rfl, rfl⟩
      · have d3 : decide (i < 1) = false := decide_eq_false q3
        have d4 : decide (n < i) = true := decide_eq_true (by omega)
        go_enter Try.func70, Try.ntmps70
        go_wp2_with (go_at_call 48; refine (HL.out _).mono ?_; rintro e w1 ⟨rfl, rfl⟩)
        go_ret2
        exact ⟨rfl, rfl⟩
set_option maxRecDepth 100000 in
theorem leaf_nil (u : World) (i : Int) : Calls Try.prog 52 #[.pointer none, .int .i64 i] u fun e w' => e = .returned (.tuple #[SumV zero32, errV 2]) ∧ Below u.heap.size u w' := by
  have HL := Lib.hid len_nil
  by_cases q1 : i < 0
  · have d1 : decide (i < 0) = true := decide_eq_true q1
    go_enter Try.func52, Try.ntmps52
    go_wp2_with ((with_reducible show wpList _ _ _ (⟨_, Op.store 26 (.tmp 4) _, _, _, _, _⟩ :: _) _ _); refine wpList_store_row rfl _ _ _ rfl u.heap.size 0 (zero32.map B8).toArray rfl rfl (there_blk (heap_alloc_at _ _ _ (by simp)) (by decide)) (by kernel_rfl) (b8_all zero32) ?_; intro w10 hg10 hs10 ht10 hth10; rw [List.toList_toArray] at ht10)
    refine bodyPost_ret (v := .tuple #[SumV zero32, errV 2]) ?_ rfl ⟨rfl, ?_⟩
    · exact results_cell_tmp (s := 4) (s2 := 5) rfl _ _ _ u.heap.size 0 rfl _ rfl (zero32.map B8) _ ht10 Try.underlying26 rfl (by kernel_rfl)
    · exact ((Below.refl _ _).alloc (Nat.le_refl _) _).grown hg10 (by simp <;> omega) (by intro k hk; cases hk; omega)
  · have d1 : decide (i < 0) = false := decide_eq_false q1
    have d2 : decide (0 ≤ i) = true := decide_eq_true (by omega)
    go_enter Try.func52, Try.ntmps52
    go_wp2_with (first
      | (go_at_call 48; refine (HL.out _).mono ?_; rintro e w1 ⟨rfl, rfl⟩)
      | ((with_reducible show wpList _ _ _ (⟨_, Op.store 26 (.tmp 4) _, _, _, _, _⟩ :: _) _ _); refine wpList_store_row rfl _ _ _ rfl u.heap.size 0 (zero32.map B8).toArray rfl rfl (there_blk (heap_alloc_at _ _ _ (by simp)) (by decide)) (by kernel_rfl) (b8_all zero32) ?_; intro w10 hg10 hs10 ht10 hth10; rw [List.toList_toArray] at ht10))
    refine bodyPost_ret (v := .tuple #[SumV zero32, errV 2]) ?_ rfl ⟨rfl, ?_⟩
    · exact results_cell_tmp (s := 4) (s2 := 5) rfl _ _ _ u.heap.size 0 rfl _ rfl (zero32.map B8) _ ht10 Try.underlying26 rfl (by kernel_rfl)
    · exact ((Below.refl _ _).alloc (Nat.le_refl _) _).grown hg10 (by simp <;> omega) (by intro k hk; cases hk; omega)
end Go.Proofs.Ytkcmacglomdfcaa
