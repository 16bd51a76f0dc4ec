/-
  THE WALKS of the tree's Path and Begins out of range, and of the document's.
-/
import Derived.Test.YtkcmacglomdfcaaTrKO
import Derived.Test.YtkcmacglomdfcaaPfI
namespace Go.Proofs.Ytkcmacglomdfcaa
open Go.RowKit

section
variable {F : Dg → Dg}
set_option maxRecDepth 100000 in
theorem tpath_bad (w : World) {B g : Nat} {ls : List Dg} {K : List Nat} (h : TS F B g ls K w) (i n : Int) (hb : n < 0 ∨ (ls.length : Int) < n ∨ i < 0 ∨ n ≤ i) :
    Calls Try.prog 55 #[.pointer (some ⟨g, 0, none⟩), .int .i64 i, .int .i64 n] w fun e w' => e = .returned (.tuple #[.slice none 0 0, errV 2]) ∧ w = w' := by
  have hL := ts_len h
  obtain ⟨m, hm⟩ : ∃ m, m = ls.length := ⟨_, rfl⟩
  rw [← hm] at hL hb
  have HL := Lib.hid hL
  clear h hL hm
  by_cases q0 : n < 0
  · have d0 : decide (n < 0) = true := decide_eq_true q0
    clear hb
    go_enter Try.func55, Try.ntmps55
    go_wp2_with (go_at_call 48; refine HL.out.mono ?_; rintro e w1 ⟨rfl, rfl⟩)
    go_ret2
    exact ⟨rfl, rfl⟩
  · have d0 : decide (n < 0) = false := decide_eq_false q0
    by_cases q1 : (m : Int) < n
    · have d1 : decide ((m : Int) < n) = true := decide_eq_true q1
      clear hb
      go_enter Try.func55, Try.ntmps55
      go_wp2_with (go_at_call 48; refine HL.out.mono ?_; rintro e w1 ⟨rfl, rfl⟩)
      go_ret2
      exact ⟨rfl, rfl⟩
    · have d1 : decide ((m : Int) < n) = false := decide_eq_false q1
      by_cases q2 : i < 0
      · have d2 : decide (i < 0) = true := decide_eq_true q2
        clear hb
        go_enter Try.func55, Try.ntmps55
        go_wp2_with (go_at_call 48; refine HL.out.mono ?_; rintro e w1 ⟨rfl, rfl⟩)
        go_ret2
        exact ⟨rfl, rfl⟩
      · have d2 : decide (i < 0) = false := decide_eq_false q2
        have d3 : decide (n ≤ i) = true := decide_eq_true (by omega)
        clear hb
        go_enter Try.func55, Try.ntmps55
        go_wp2_with (go_at_call 48; refine HL.out.mono ?_; rintro e w1 ⟨rfl, rfl⟩)
        go_ret2
        exact ⟨rfl, rfl⟩
set_option maxRecDepth 100000 in
theorem tbegins_bad (w : World) {B g : Nat} {ls : List Dg} {K : List Nat} (h : TS F B g ls K w) (i n : Int) (hb : n < 0 ∨ (ls.length : Int) < n ∨ i < 1 ∨ n < i) :
    Calls Try.prog 70 #[.pointer (some ⟨g, 0, none⟩), .int .i64 i, .int .i64 n] w fun e w' => e = .returned (.tuple #[.slice none 0 0, errV 2]) ∧ w = w' := by
  have hL := ts_len h
  obtain ⟨m, hm⟩ : ∃ m, m = ls.length := ⟨_, rfl⟩
  rw [← hm] at hL hb
  have HL := Lib.hid hL
  clear h hL hm
  by_cases q0 : n < 0
  · have d0 : decide (n < 0) = true := decide_eq_true q0
    clear hb
    go_enter Try.func70, Try.ntmps70
    go_wp2_with (go_at_call 48; refine HL.out.mono ?_; rintro e w1 ⟨rfl, rfl⟩)
    go_ret2
    exact ⟨rfl, rfl⟩
  · have d0 : decide (n < 0) = false := decide_eq_false q0
    by_cases q1 : (m : Int) < n
    · have d1 : decide ((m : Int) < n) = true := decide_eq_true q1
      clear hb
      go_enter Try.func70, Try.ntmps70
      go_wp2_with (go_at_call 48; refine HL.out.mono ?_; rintro e w1 ⟨rfl, rfl⟩)
      go_ret2
      exact ⟨rfl, rfl⟩
    · have d1 : decide ((m : Int) < n) = false := decide_eq_false q1
      by_cases q2 : i < 1
      · have d2 : decide (i < 1) = true := decide_eq_true q2
        clear hb
        go_enter Try.func70, Try.ntmps70
        go_wp2_with (go_at_call 48; refine HL.out.mono ?_; rintro e w1 ⟨rfl, rfl⟩)
        go_ret2
        exact ⟨rfl, rfl⟩
      · have d2 : decide (i < 1) = false := decide_eq_false q2
        have d3 : decide (n < i) = true := decide_eq_true (by omega)
        clear hb
        go_enter Try.func70, Try.ntmps70
        go_wp2_with (go_at_call 48; refine HL.out.mono ?_; rintro e w1 ⟨rfl, rfl⟩)
        go_ret2
        exact ⟨rfl, rfl⟩
end
set_option maxRecDepth 100000 in
theorem rpath_bad (w : World) (A : Option Addr) (m c : Nat) (i n : Int) (hb : n < 0 ∨ (m : Int) < n ∨ i < 0 ∨ n ≤ i) :
    Calls Try.prog 69 #[.slice A m c, .int .i64 i, .int .i64 n] w fun e w' => e = .returned (.tuple #[.slice none 0 0, .bool false]) ∧ w = w' := by
  by_cases q0 : n < 0
  · have d0 : decide (n < 0) = true := decide_eq_true q0
    clear hb
    go_enter Try.func69, Try.ntmps69
    go_wp2_with fail
    go_ret2
    exact ⟨rfl, rfl⟩
  · have d0 : decide (n < 0) = false := decide_eq_false q0
    by_cases q1 : (m : Int) < n
    · have d1 : decide ((m : Int) < n) = true := decide_eq_true q1
      clear hb
      go_enter Try.func69, Try.ntmps69
      go_wp2_with fail
      go_ret2
      exact ⟨rfl, rfl⟩
    · have d1 : decide ((m : Int) < n) = false := decide_eq_false q1
      by_cases q2 : i < 0
      · have d2 : decide (i < 0) = true := decide_eq_true q2
        clear hb
        go_enter Try.func69, Try.ntmps69
        go_wp2_with fail
        go_ret2
        exact ⟨rfl, rfl⟩
      · have d2 : decide (i < 0) = false := decide_eq_false q2
        have d3 : decide (n ≤ i) = true := decide_eq_true (by omega)
        clear hb
        go_enter Try.func69, Try.ntmps69
        go_wp2_with fail
        go_ret2
        exact ⟨rfl, rfl⟩
set_option maxRecDepth 100000 in
theorem rbegins_bad (w : World) (A : Option Addr) (m c : Nat) (i n : Int) (hb : n < 0 ∨ (m : Int) < n ∨ i < 1 ∨ n < i) :
    Calls Try.prog 71 #[.slice A m c, .int .i64 i, .int .i64 n] w fun e w' => e = .returned (.tuple #[.slice none 0 0, .bool false]) ∧ w = w' := by
  by_cases q0 : n < 0
  · have d0 : decide (n < 0) = true := decide_eq_true q0
    clear hb
    go_enter Try.func71, Try.ntmps71
    go_wp2_with fail
    go_ret2
    exact ⟨rfl, rfl⟩
  · have d0 : decide (n < 0) = false := decide_eq_false q0
    by_cases q1 : (m : Int) < n
    · have d1 : decide ((m : Int) < n) = true := decide_eq_true q1
      clear hb
      go_enter Try.func71, Try.ntmps71
      go_wp2_with fail
      go_ret2
      exact ⟨rfl, rfl⟩
    · have d1 : decide ((m : Int) < n) = false := decide_eq_false q1
      by_cases q2 : i < 1
      · have d2 : decide (i < 1) = true := decide_eq_true q2
        clear hb
        go_enter Try.func71, Try.ntmps71
        go_wp2_with fail
        go_ret2
        exact ⟨rfl, rfl⟩
      · have d2 : decide (i < 1) = false := decide_eq_false q2
        have d3 : decide (n < i) = true := decide_eq_true (by omega)
        clear hb
        go_enter Try.func71, Try.ntmps71
        go_wp2_with fail
        go_ret2
        exact ⟨rfl, rfl⟩
/-- A row of the call's own, and true. -/
def RowYes (w : World) (ps : List Dg) (e : Ending) (w' : World) : Prop := ∃ A c, e = .returned (.tuple #[.slice A ps.length c, .bool true]) ∧ w'.ownsRow w.heap.size 26 32 (.slice A ps.length c) ps.length (ps.flatten.map B8) ∧ Below w.heap.size w w'
section
variable {F : List UInt8 → List UInt8} (HF : Dig F)
include HF
set_option maxRecDepth 100000 in
theorem rpath_ok (w : World) (A : Option Addr) (m c : Nat) (ls : List Dg) (hr : RS w A m ls) (hmc : m ≤ c) (hcm : c ≤ maxLen) (hm : m ≤ 1000000) (i n : Nat) (hi : i < n) (hn : n ≤ m) :
    Calls Try.prog 69 #[.slice A m c, .int .i64 (i : Int), .int .i64 (n : Int)] w (RowYes w (pathF F (ls.take n) i)) := by
  have hR : Calls Try.prog 61 #[.slice A n c, .int .i64 (i : Int)] w (RowPost w (pathF F (ls.take n) i)) := refpath_any HF n n (Nat.le_refl _) w A c (ls.take n) i (hr.take hn) (by omega) hcm (by omega) hi
  have HR := Lib.hid hR
  have d0 : decide ((n : Int) < 0) = false := decide_eq_false (by omega)
  have d1 : decide (m < n) = false := decide_eq_false (by omega)
  have d2 : decide ((m : Int) < (n : Int)) = false := decide_eq_false (by omega)
  have d3 : decide ((i : Int) < 0) = false := decide_eq_false (by omega)
  have d4 : decide (n ≤ i) = false := decide_eq_false (by omega)
  have d4' : decide ((n : Int) ≤ (i : Int)) = false := decide_eq_false (by omega)
  unfold maxLen at hcm
  clear hr hR HF
  go_enter Try.func69, Try.ntmps69
  go_wp2_with fail
  refine HR.out.mono ?_
  rintro e w2 ⟨A2, c2, rfl, ho2, hb2⟩
  have H2 := Lib.hid (And.intro ho2 hb2)
  obtain ⟨q, hq⟩ : ∃ q, q = (pathF F (ls.take n) i).length := ⟨_, rfl⟩
  have Hq := Lib.hid hq
  rw [← hq]
  clear ho2 hb2 hq HR
  go_wp2_with fail
  go_ret2
  exact ⟨A2, c2, by rw [← Hq.out]; rfl, H2.out.1, H2.out.2⟩
set_option maxRecDepth 100000 in
theorem rbegins_ok (w : World) (A : Option Addr) (m c : Nat) (ls : List Dg) (hr : RS w A m ls) (hmc : m ≤ c) (hcm : c ≤ maxLen) (hm : m ≤ 1000000) (i n : Nat) (hi0 : 1 ≤ i) (hi : i ≤ n) (hn : n ≤ m) :
    Calls Try.prog 71 #[.slice A m c, .int .i64 (i : Int), .int .i64 (n : Int)] w (RowYes w (proveF F (ls.take n) i true)) := by
  have hR : Calls Try.prog 73 #[.slice A n c, .int .i64 (i : Int)] w (RowPost w (proveF F (ls.take n) i true)) := refbegins_any HF w A n c (ls.take n) i (hr.take hn) (by omega) hcm (by omega) hi0 hi
  have HR := Lib.hid hR
  have d0 : decide ((n : Int) < 0) = false := decide_eq_false (by omega)
  have d1 : decide (m < n) = false := decide_eq_false (by omega)
  have d2 : decide ((m : Int) < (n : Int)) = false := decide_eq_false (by omega)
  have d3 : decide ((i : Int) < 1) = false := decide_eq_false (by omega)
  have d4 : decide (n < i) = false := decide_eq_false (by omega)
  have d4' : decide ((n : Int) < (i : Int)) = false := decide_eq_false (by omega)
  unfold maxLen at hcm
  clear hr hR HF
  go_enter Try.func71, Try.ntmps71
  go_wp2_with fail
  refine HR.out.mono ?_
  rintro e w2 ⟨A2, c2, rfl, ho2, hb2⟩
  have H2 := Lib.hid (And.intro ho2 hb2)
  obtain ⟨q, hq⟩ : ∃ q, q = (proveF F (ls.take n) i true).length := ⟨_, rfl⟩
  have Hq := Lib.hid hq
  rw [← hq]
  clear ho2 hb2 hq HR
  go_wp2_with fail
  go_ret2
  exact ⟨A2, c2, by rw [← Hq.out]; rfl, H2.out.1, H2.out.2⟩
end
end Go.Proofs.Ytkcmacglomdfcaa
