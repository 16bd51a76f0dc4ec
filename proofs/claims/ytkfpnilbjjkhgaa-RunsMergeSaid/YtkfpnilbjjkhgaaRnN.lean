/-
  THE WALKS of cachetnum.Ints and cachetnum.Texts.
-/
import Derived.Test.YtkfpnilbjjkhgaaRnM
namespace Go.Proofs.Ytkfpnilbjjkhgaa
open Go.RowKit Go.Lib Go.Sort

def EqPost (b : Bool) (w : World) (e : Ending) (w' : World) : Prop := e = .returned (.bool b) ∧ ∃ q, w' = w.drewN q
theorem exec_neq_int {P : Program} {o : Oper} {a : Act} {x y : Operand} {t t2 : TypeId} (ho : o.op = .binOp .neq t x y t2) (p q : Int) (hx : a.eval x = .int .i64 p) (hy : a.eval y = .int .i64 q) (u : World) :
    (execOp a.eval o).run P u = .ok (.value (.bool (!decide (p = q)))) u := by
  unfold execOp
  simp only [ho, hx, hy]
  go_simp
  by_cases h : p = q <;> simp [h]
set_option maxRecDepth 100000 in
theorem ints_any (w : World) (A B : Option Addr) (n m c d : Nat) (xs ys : List Int) (hx : RV w A n (xs.map I64v)) (hy : RV w B m (ys.map I64v)) (hn : n ≤ 1000000) (hm : m ≤ 1000000) :
    Calls Try.prog 18 #[.slice A n c, .slice B m d] w (EqPost (decide (xs = ys)) w) := by
  have hxl : xs.length = n := by simpa using hx.1
  have hyl : ys.length = m := by simpa using hy.1
  by_cases hnm : n = m
  · subst hnm
    have HX := Lib.hid hx
    have HY := Lib.hid hy
    have Hxl := Lib.hid hxl
    have Hyl := Lib.hid hyl
    clear hx hy hxl hyl
    go_enter Try.func18, Try.ntmps18
    go_wp2
    go_loopw [13] (fun s wr => ∃ k : Nat, k ≤ n ∧ s = .int .i64 (k : Int) ∧ Hid (∃ q, wr = w.drewN q) ∧ Hid (xs.take k = ys.take k)) (fun s _ => n - (intOf s).toNat)
    case atStart => exact ⟨0, Nat.zero_le _, rfl, Lib.hid ⟨0, rfl⟩, Lib.hid rfl⟩
    case round =>
      obtain ⟨k, hk, rfl, HW, HT⟩ := hrel
      obtain ⟨q, hq⟩ := HW.out
      by_cases hlt : k < n
      · obtain ⟨b1, o1, u1, rfl, e1, c1⟩ := HX.out.at_ hlt
        obtain ⟨b2, o2, u2, rfl, e2, c2⟩ := HY.out.at_ hlt
        rw [List.getElem?_map] at e1 e2
        obtain ⟨x, hx, rfl⟩ := Option.map_eq_some_iff.1 e1
        obtain ⟨y, hy, rfl⟩ := Option.map_eq_some_iff.1 e2
        have c1' : wr.cell? ⟨b1, o1 + k, none⟩ = some (I64v x) := by rw [hq]; exact c1
        have c2' : wr.cell? ⟨b2, o2 + k, none⟩ = some (I64v y) := by rw [hq]; exact c2
        unfold I64v at c1' c2'
        obtain ⟨bn, hbn⟩ : ∃ bn, bn = !decide (x = y) := ⟨_, rfl⟩
        have Hbn := Lib.hid hbn
        have Hx := Lib.hid hx
        have Hy := Lib.hid hy
        have Hq := Lib.hid hq
        clear c1 c2 e1 e2 hbn hx hy hq HW
        go_wp2_with fail
        refine wp_region_quiet (C := fun u => ∃ m, u = wr.drewN m) (by kernel_rfl) (by kernel_rfl) ⟨1, rfl⟩ ?_
        simp only []
        repeat (first
          | ((with_reducible show wpQuiet _ _ _ _ (⟨_, Op.binOp .neq 3 _ _ _, _, _, _, _⟩ :: _) _); refine wpQ_val rfl (.bool bn) (fun u _ => (exec_neq_int rfl x y rfl rfl u).trans (by rw [Hbn.out])) ?_; simp only [Act.put, List.setIfInBounds_toArray, List.set_cons_zero, List.set_cons_succ])
          | go_big_quiet_step (fail))
        refine wpQuiet_nil ?_
        rintro _ ⟨m, rfl⟩
        have HW2 : Hid (∃ q, wr.drewN m = w.drewN q) := Lib.hid ⟨q + m, by rw [Hq.out, World.drewN_drewN]⟩
        cases bn with
        | true =>
          have hne : x ≠ y := by have := Hbn.out; simpa using this.symm
          have hd : decide (xs = ys) = false := decide_eq_false fun e => by
            have h1 := Hx.out
            rw [e, Hy.out] at h1
            exact hne (Option.some.inj h1).symm
          have HR : Hid (EqPost (decide (xs = ys)) w (.returned (.bool false)) (wr.drewN m)) := Lib.hid ⟨by rw [hd], HW2.out⟩
          clear hd hne c1' c2'
          go_wp2
          go_ret
          exact HR.out
        | false =>
          have he : x = y := by have := Hbn.out; simpa using this.symm
          have HT2 := Lib.hid (show xs.take (k + 1) = ys.take (k + 1) by rw [take_snoc Hx.out, take_snoc Hy.out, HT.out, he])
          clear he c1' c2'
          go_wp2
          go_roundw
          case rel => exact ⟨k + 1, hlt, by go_num, HW2, HT2⟩
          case measure => simp [intOf]; omega
      · obtain rfl : k = n := by omega
        have hd : decide (xs = ys) = true := decide_eq_true (by
          have := HT.out
          rwa [List.take_of_length_le (by rw [Hxl.out]; exact Nat.le_refl _), List.take_of_length_le (by rw [Hyl.out]; exact Nat.le_refl _)] at this)
        have HR : Hid (EqPost (decide (xs = ys)) w (.returned (.bool true)) wr) := Lib.hid ⟨by rw [hd], HW.out⟩
        clear hd hq
        go_wp2
        go_ret
        exact HR.out
  · have hd : decide (xs = ys) = false := decide_eq_false fun e => hnm (by rw [← hxl, ← hyl, e])
    have HR : Hid (EqPost (decide (xs = ys)) w (.returned (.bool false)) w) := Lib.hid ⟨by rw [hd], 0, rfl⟩
    clear hx hy hxl hyl hd
    go_enter Try.func18, Try.ntmps18
    go_wp2
    go_ret
    exact HR.out
set_option maxRecDepth 100000 in
theorem texts_any (w : World) (A B : Option Addr) (n m c d : Nat) (xs ys : List (List UInt8)) (hx : RV w A n (xs.map Str)) (hy : RV w B m (ys.map Str)) (hn : n ≤ 1000000) (hm : m ≤ 1000000) :
    Calls Try.prog 20 #[.slice A n c, .slice B m d] w (EqPost (decide (xs = ys)) w) := by
  have hxl : xs.length = n := by simpa using hx.1
  have hyl : ys.length = m := by simpa using hy.1
  by_cases hnm : n = m
  · subst hnm
    have HX := Lib.hid hx
    have HY := Lib.hid hy
    have Hxl := Lib.hid hxl
    have Hyl := Lib.hid hyl
    clear hx hy hxl hyl
    go_enter Try.func20, Try.ntmps20
    go_wp2
    go_loopw [13] (fun s wr => ∃ k : Nat, k ≤ n ∧ s = .int .i64 (k : Int) ∧ Hid (∃ q, wr = w.drewN q) ∧ Hid (xs.take k = ys.take k)) (fun s _ => n - (intOf s).toNat)
    case atStart => exact ⟨0, Nat.zero_le _, rfl, Lib.hid ⟨0, rfl⟩, Lib.hid rfl⟩
    case round =>
      obtain ⟨k, hk, rfl, HW, HT⟩ := hrel
      obtain ⟨q, hq⟩ := HW.out
      by_cases hlt : k < n
      · obtain ⟨b1, o1, u1, rfl, e1, c1⟩ := HX.out.at_ hlt
        obtain ⟨b2, o2, u2, rfl, e2, c2⟩ := HY.out.at_ hlt
        rw [List.getElem?_map] at e1 e2
        obtain ⟨x, hx, rfl⟩ := Option.map_eq_some_iff.1 e1
        obtain ⟨y, hy, rfl⟩ := Option.map_eq_some_iff.1 e2
        have c1' : wr.cell? ⟨b1, o1 + k, none⟩ = some (Str x) := by rw [hq]; exact c1
        have c2' : wr.cell? ⟨b2, o2 + k, none⟩ = some (Str y) := by rw [hq]; exact c2
        unfold Str at c1' c2'
        obtain ⟨bn, hbn⟩ : ∃ bn, bn = !decide (x = y) := ⟨_, rfl⟩
        have Hbn := Lib.hid hbn
        have Hx := Lib.hid hx
        have Hy := Lib.hid hy
        have Hq := Lib.hid hq
        clear c1 c2 e1 e2 hbn hx hy hq HW
        go_wp2_with fail
        refine wp_region_quiet (C := fun u => ∃ m, u = wr.drewN m) (by kernel_rfl) (by kernel_rfl) ⟨1, rfl⟩ ?_
        simp only []
        repeat (first
          | ((with_reducible show wpQuiet _ _ _ _ (⟨_, Op.binOp .neq 9 _ _ _, _, _, _, _⟩ :: _) _); refine wpQ_val rfl (.bool bn) (fun u _ => (exec_neq_str rfl x y rfl rfl u).trans (by rw [Hbn.out])) ?_; simp only [Act.put, List.setIfInBounds_toArray, List.set_cons_zero, List.set_cons_succ])
          | go_big_quiet_step (fail))
        refine wpQuiet_nil ?_
        rintro _ ⟨m, rfl⟩
        have HW2 : Hid (∃ q, wr.drewN m = w.drewN q) := Lib.hid ⟨q + m, by rw [Hq.out, World.drewN_drewN]⟩
        cases bn with
        | true =>
          have hne : x ≠ y := by have := Hbn.out; simpa using this.symm
          have hd : decide (xs = ys) = false := decide_eq_false fun e => by
            have h1 := Hx.out
            rw [e, Hy.out] at h1
            exact hne (Option.some.inj h1).symm
          have HR : Hid (EqPost (decide (xs = ys)) w (.returned (.bool false)) (wr.drewN m)) := Lib.hid ⟨by rw [hd], HW2.out⟩
          clear hd hne c1' c2'
          go_wp2
          go_ret
          exact HR.out
        | false =>
          have he : x = y := by have := Hbn.out; simpa using this.symm
          have HT2 := Lib.hid (show xs.take (k + 1) = ys.take (k + 1) by rw [take_snoc Hx.out, take_snoc Hy.out, HT.out, he])
          clear he c1' c2'
          go_wp2
          go_roundw
          case rel => exact ⟨k + 1, hlt, by go_num, HW2, HT2⟩
          case measure => simp [intOf]; omega
      · obtain rfl : k = n := by omega
        have hd : decide (xs = ys) = true := decide_eq_true (by
          have := HT.out
          rwa [List.take_of_length_le (by rw [Hxl.out]; exact Nat.le_refl _), List.take_of_length_le (by rw [Hyl.out]; exact Nat.le_refl _)] at this)
        have HR : Hid (EqPost (decide (xs = ys)) w (.returned (.bool true)) wr) := Lib.hid ⟨by rw [hd], HW.out⟩
        clear hd hq
        go_wp2
        go_ret
        exact HR.out
  · have hd : decide (xs = ys) = false := decide_eq_false fun e => hnm (by rw [← hxl, ← hyl, e])
    have HR : Hid (EqPost (decide (xs = ys)) w (.returned (.bool false)) w) := Lib.hid ⟨by rw [hd], 0, rfl⟩
    clear hx hy hxl hyl hd
    go_enter Try.func20, Try.ntmps20
    go_wp2
    go_ret
    exact HR.out
end Go.Proofs.Ytkfpnilbjjkhgaa
