/-
  A TREE OF THESE LEAVES: what its New, Add and Len answer; alive and grown in cachetlaw11.
-/
import Derived.Test.YtkcmacglomdfcaaTrD
import Derived.Test.YtkcmacglomdfcaaTrP
namespace Go.Proofs.Ytkcmacglomdfcaa
open Go.RowKit

/-- A tree of these leaves; the blocks K are none of its own. -/
def TS (F : Dg → Dg) (B g : Nat) (ls : List Dg) (K : List Nat) (u : World) : Prop := ∃ mb V us n D, Tr B g mb V us (treeF F ls) n D u ∧ Fnd ls D ∧ n ≤ ls.length ∧ (∀ x ∈ ls, x.length = 32) ∧ ∀ b ∈ K, Off g mb V us b ∧ b < u.heap.size
section
variable {F : Dg → Dg} {B g : Nat} {ls : List Dg} {K : List Nat} {u u' : World}
theorem TS.l32 (h : TS F B g ls K u) : ∀ x ∈ ls, x.length = 32 := by
  obtain ⟨mb, V, us, n, D, h1, h2, h3, h4, h5⟩ := h
  exact h4
theorem TS.size (h : TS F B g ls K u) : B < u.heap.size := by
  obtain ⟨mb, V, us, n, D, h1, h2, h3, h4, h5⟩ := h
  have := h1.gB
  have := h1.lt.1
  omega
theorem TS.stable (h : TS F B g ls K u) (hb : Below u.heap.size u u') : TS F B g ls K u' := by
  obtain ⟨mb, V, us, n, D, h1, h2, h3, h4, h5⟩ := h
  exact ⟨mb, V, us, n, D, h1.stable hb, h2, h3, h4, fun b hbk => ⟨(h5 b hbk).1, Nat.lt_of_lt_of_le (h5 b hbk).2 hb.size⟩⟩
theorem TS.more (h : TS F B g ls K u) {b : Nat} (hb : b < B) : TS F B g ls (b :: K) u := by
  have hs := h.size
  obtain ⟨mb, V, us, n, D, h1, h2, h3, h4, h5⟩ := h
  refine ⟨mb, V, us, n, D, h1, h2, h3, h4, fun c hc => ?_⟩
  rcases List.mem_cons.1 hc with rfl | hc
  · exact ⟨h1.offB hb, by omega⟩
  · exact h5 c hc
theorem TS.fresh (h : TS F B g ls K u) (hb : Below u.heap.size u u') {b : Nat} (h0 : u.heap.size ≤ b) (h1 : b < u'.heap.size) : TS F B g ls (b :: K) u' := by
  have hst := h.stable hb
  obtain ⟨mb, V, us, n, D, h1', h2, h3, h4, h5⟩ := h
  refine ⟨mb, V, us, n, D, h1'.stable hb, h2, h3, h4, fun c hc => ?_⟩
  rcases List.mem_cons.1 hc with rfl | hc
  · exact ⟨h1'.off h0, h1⟩
  · exact ⟨(h5 c hc).1, Nat.lt_of_lt_of_le (h5 c hc).2 hb.size⟩
theorem TS.put (h : TS F B g ls K u) {b : Nat} (hk : b ∈ K) (hg : u.grownBy u' (some b)) : TS F B g ls K u' := by
  obtain ⟨mb, V, us, n, D, h1, h2, h3, h4, h5⟩ := h
  exact ⟨mb, V, us, n, D, h1.put (h5 b hk).1 hg, h2, h3, h4, fun c hc => ⟨(h5 c hc).1, Nat.lt_of_lt_of_le (h5 c hc).2 hg.size⟩⟩
theorem ts_new (F : Dg → Dg) (w : World) : Calls Try.prog 43 #[] w fun e w' => e = .returned (.pointer (some ⟨w.heap.size + 1, 0, none⟩)) ∧ Below w.heap.size w w' ∧ TS F w.heap.size (w.heap.size + 1) [] [] w' :=
  (new_any w).mono fun _ _ ⟨h1, h2, h3⟩ => ⟨h1, h2, _, _, _, _, _, h3, Fnd.nil, Nat.le_refl _, fun x hx => by simp at hx, fun b hb => by simp at hb⟩
theorem ts_len (h : TS F B g ls K u) : Calls Try.prog 48 #[.pointer (some ⟨g, 0, none⟩)] u fun e w' => e = .returned (.int .i64 (ls.length : Nat)) ∧ u = w' := by
  obtain ⟨mb, V, us, n, D, h1, h2, h3, h4, h5⟩ := h
  have := len_any u h1
  rwa [lenT_tree] at this
theorem ts_add (HF : Dig F) (h : TS F B g ls K u) (hlen : ls.length < 1048576) (x : Dg) (hx : x.length = 32) :
    Calls Try.prog 47 #[.pointer (some ⟨g, 0, none⟩), SumV x] u fun e w' => e = .returned (.tuple #[.int .i64 (ls.length : Nat), .nilIface]) ∧ TS F B g (ls ++ [x]) K w' ∧ Below B u w' ∧ ∀ b ∈ K, w'.heap[b]? = u.heap[b]? := by
  have hs := h.size
  obtain ⟨mb, V, us, n, D, h1, h2, h3, h4, h5⟩ := h
  refine (add_any HF u B g mb n V us D ls h1 (by omega) h2 h3 h4 hlen x hx).mono ?_
  rintro e w' ⟨V', us', n', D', rfl, g1, g2, g3, g4, g5⟩
  refine ⟨rfl, ⟨mb, V', us', n', D', g1, g2, by rw [List.length_append]; exact g3, fun y hy => ?_, fun b hb => ?_⟩, g4, fun b hb => (g5 b (h5 b hb).2 (h5 b hb).1).1⟩
  · rcases List.mem_append.1 hy with hy | hy
    · exact h4 y hy
    · simp at hy; subst hy; exact hx
  · exact ⟨(g5 b (h5 b hb).2 (h5 b hb).1).2, Nat.lt_of_lt_of_le (h5 b hb).2 g4.size⟩
/-- Level: a row of its own. -/
theorem ts_level (h : TS F B g ls K u) (k : Nat) (hk : 2 ^ k ≤ ls.length) (hn : ls.length ≤ 1048576) :
    Calls Try.prog 53 #[.pointer (some ⟨g, 0, none⟩), .int .i64 (k : Int)] u fun e w' => ∃ A' c', e = .returned (.slice A' (lev F k ls).length c') ∧ w'.ownsRow u.heap.size 26 32 (.slice A' (lev F k ls).length c') (lev F k ls).length ((lev F k ls).flatten.map B8) ∧ Below u.heap.size u w' := by
  obtain ⟨mb, V, us, n, D, h1, h2, h3, h4, h5⟩ := h
  have hr := treeF_level (F := F) ls k
  rw [if_neg (by omega)] at hr
  exact level_in u h1 k _ hr (by rw [lev_length]; exact Nat.le_trans (Nat.div_le_self _ _) hn)
theorem ts_level_out (h : TS F B g ls K u) (k : Int) (hk : k < 0 ∨ ∃ m : Nat, k = (m : Int) ∧ ls.length < 2 ^ m) :
    Calls Try.prog 53 #[.pointer (some ⟨g, 0, none⟩), .int .i64 k] u fun e w' => e = .returned (.slice none 0 0) ∧ u = w' := by
  obtain ⟨mb, V, us, n, D, h1, h2, h3, h4, h5⟩ := h
  refine level_out u h1 k (hk.imp id ?_)
  rintro ⟨m, rfl, hm⟩
  have hr := treeF_level (F := F) ls m
  rw [if_pos hm, List.getElem?_eq_none_iff] at hr
  omega
end
/-- The chapter's example: three leaves. -/
def ex3 (k : Nat) : List Dg := (List.range k).map fun j => UInt8.ofNat j :: List.replicate 31 0
theorem ex3_len (k : Nat) : (ex3 k).length = k := by simp [ex3]
theorem ex3_succ (k : Nat) : ex3 (k + 1) = ex3 k ++ [UInt8.ofNat k :: List.replicate 31 0] := by simp [ex3, List.range_succ]
theorem lit31 (b : UInt8) : SumV (b :: List.replicate 31 0) = .agg #[B8 b, .int .u8 0, .int .u8 0, .int .u8 0, .int .u8 0, .int .u8 0, .int .u8 0, .int .u8 0, .int .u8 0, .int .u8 0, .int .u8 0, .int .u8 0, .int .u8 0, .int .u8 0, .int .u8 0, .int .u8 0, .int .u8 0, .int .u8 0, .int .u8 0, .int .u8 0, .int .u8 0, .int .u8 0, .int .u8 0, .int .u8 0, .int .u8 0, .int .u8 0, .int .u8 0, .int .u8 0, .int .u8 0, .int .u8 0, .int .u8 0, .int .u8 0] := rfl
section
variable {F : List UInt8 → List UInt8} (HF : Dig F)
include HF
set_option maxRecDepth 100000 in
theorem alive11_any (w : World) : Calls Try.prog 42 #[] w fun e w' => e = .returned (.bool true) ∧ Below w.heap.size w w' := by
  have hN := ts_new F w
  have HA : Hid (∀ u k, TS F w.heap.size (w.heap.size + 1) (ex3 k) [] u → k < 3 → Calls Try.prog 47 #[.pointer (some ⟨w.heap.size + 1, 0, none⟩), SumV (UInt8.ofNat k :: List.replicate 31 0)] u fun e w' => e = .returned (.tuple #[.int .i64 (k : Int), .nilIface]) ∧ TS F w.heap.size (w.heap.size + 1) (ex3 (k + 1)) [] w' ∧ Below w.heap.size u w') := Lib.hid fun u k hu hk => by
    have h := ts_add HF hu (by rw [ex3_len]; omega) (UInt8.ofNat k :: List.replicate 31 0) rfl
    rw [ex3_len, ← ex3_succ] at h
    exact h.mono fun e w' ⟨h1, h2, h3, _⟩ => ⟨h1, h2, h3⟩
  have HN := Lib.hid hN
  clear hN HF
  go_enter Try.func42, Try.ntmps42
  go_wp2_with fail
  refine HN.out.mono ?_
  rintro e w1 ⟨rfl, hb1, ht1⟩
  have H1 := Lib.hid (And.intro ht1 hb1)
  clear hb1 ht1 HN
  go_wp2_with fail
  go_loopw [6] (fun iv wr => ∃ k : Nat, k ≤ 3 ∧ iv = .int .i64 (k : Int) ∧ Hid (TS F w.heap.size (w.heap.size + 1) (ex3 k) [] wr ∧ Below w.heap.size w wr)) (fun iv _ => 3 - (intOf iv).toNat)
  case atStart => exact ⟨0, by omega, rfl, H1⟩
  case round =>
    obtain ⟨k, hk, rfl, hq⟩ := hrel
    rcases (by omega : k = 3 ∨ k = 2 ∨ k = 1 ∨ k = 0) with rfl | rfl | rfl | rfl
    · have hL := ts_len hq.out.1
      have h0 := ts_level hq.out.1 0 (by decide) (by decide)
      rw [show (lev F 0 (ex3 3)).length = 3 by rw [lev_length]; decide] at h0
      have h1 := fun (u : World) (hu : TS F w.heap.size (w.heap.size + 1) (ex3 3) [] u) => ts_level hu 1 (by decide) (by decide)
      rw [show (lev F 1 (ex3 3)).length = 1 by rw [lev_length]; decide] at h1
      have h2 := fun (u : World) (hu : TS F w.heap.size (w.heap.size + 1) (ex3 3) [] u) => ts_level_out hu 2 (.inr ⟨2, rfl, by decide⟩)
      have HT := Lib.hid hq.out
      have H0 := Lib.hid h0
      have H1' := Lib.hid h1
      have H2 := Lib.hid h2
      have HL := Lib.hid hL
      clear hL h0 h1 h2 hq H1
      go_wp2_with fail
      refine HL.out.mono ?_
      rintro e w2 ⟨rfl, rfl⟩
      clear HL
      rw [ex3_len]
      go_wp2_with fail
      refine H0.out.mono ?_
      rintro e w3 ⟨A3, c3, rfl, -, hb3⟩
      have HT3 := Lib.hid (And.intro (HT.out.1.stable hb3) (HT.out.2.trans (hb3.mono HT.out.2.size)))
      clear hb3 HT H0
      go_wp2_with fail
      refine (H1'.out _ HT3.out.1).mono ?_
      rintro e w4 ⟨A4, c4, rfl, -, hb4⟩
      have HT4 := Lib.hid (And.intro (HT3.out.1.stable hb4) (HT3.out.2.trans (hb4.mono HT3.out.2.size)))
      clear hb4 HT3
      go_wp2_with fail
      refine (H2.out _ HT4.out.1).mono ?_
      rintro e w5 ⟨rfl, rfl⟩
      go_wp2_with fail
      go_ret
      exact ⟨rfl, HT4.out.2⟩
    · have hA := HA.out _ 2 hq.out.1 (by omega)
      rw [lit31, show B8 (UInt8.ofNat 2) = .int .u8 2 from rfl] at hA
      have HB := Lib.hid hq.out.2
      have Hc := Lib.hid hA
      clear hq hA H1
      go_wp2_with fail
      refine Hc.out.mono ?_
      rintro e w2 ⟨rfl, ht2, hb2⟩
      have H2 : Hid (TS F w.heap.size (w.heap.size + 1) (ex3 (2 + 1)) [] w2 ∧ Below w.heap.size w w2) := Lib.hid ⟨ht2, HB.out.trans hb2⟩
      clear ht2 hb2
      go_wp2_with fail
      go_roundw
      case rel => exact ⟨2 + 1, by omega, by go_num, H2⟩
      case measure => simp [intOf]
    · have hA := HA.out _ 1 hq.out.1 (by omega)
      rw [lit31, show B8 (UInt8.ofNat 1) = .int .u8 1 from rfl] at hA
      have HB := Lib.hid hq.out.2
      have Hc := Lib.hid hA
      clear hq hA H1
      go_wp2_with fail
      refine Hc.out.mono ?_
      rintro e w2 ⟨rfl, ht2, hb2⟩
      have H2 : Hid (TS F w.heap.size (w.heap.size + 1) (ex3 (1 + 1)) [] w2 ∧ Below w.heap.size w w2) := Lib.hid ⟨ht2, HB.out.trans hb2⟩
      clear ht2 hb2
      go_wp2_with fail
      go_roundw
      case rel => exact ⟨1 + 1, by omega, by go_num, H2⟩
      case measure => simp [intOf]
    · have hA := HA.out _ 0 hq.out.1 (by omega)
      rw [lit31, show B8 (UInt8.ofNat 0) = .int .u8 0 from rfl] at hA
      have HB := Lib.hid hq.out.2
      have Hc := Lib.hid hA
      clear hq hA H1
      go_wp2_with fail
      refine Hc.out.mono ?_
      rintro e w2 ⟨rfl, ht2, hb2⟩
      have H2 : Hid (TS F w.heap.size (w.heap.size + 1) (ex3 (0 + 1)) [] w2 ∧ Below w.heap.size w w2) := Lib.hid ⟨ht2, HB.out.trans hb2⟩
      clear ht2 hb2
      go_wp2_with fail
      go_roundw
      case rel => exact ⟨0 + 1, by omega, by go_num, H2⟩
      case measure => simp [intOf]
end
end Go.Proofs.Ytkcmacglomdfcaa
