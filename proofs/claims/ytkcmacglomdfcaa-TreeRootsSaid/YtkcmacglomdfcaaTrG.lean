/-
  THE WALKS of the tree's Root, Leaf, Find, and of the document's Root and Find.
-/
import Derived.Test.YtkcmacglomdfcaaTrF
namespace Go.Proofs.Ytkcmacglomdfcaa
open Go.RowKit

section
variable {F : Dg → Dg} {B g : Nat} {ls : List Dg} {K : List Nat}
set_option maxRecDepth 100000 in
theorem troot_bad (w : World) (h : TS F B g ls K w) (n : Int) (hn : n < 0 ∨ (ls.length : Int) < n) :
    Calls Try.prog 44 #[.pointer (some ⟨g, 0, none⟩), .int .i64 n] w fun e w' => e = .returned (.tuple #[SumV zero32, errV 2]) ∧ Below w.heap.size w w' := by
  have HL : Hid (∀ o, Calls Try.prog 48 #[.pointer (some ⟨g, 0, none⟩)] (w.alloc o) fun e w' => e = .returned (.int .i64 (ls.length : Nat)) ∧ w.alloc o = w') := Lib.hid fun o => ts_len (h.stable ((Below.refl _ _).alloc (Nat.le_refl _) _))
  clear h
  obtain ⟨m, hm⟩ : ∃ m, m = ls.length := ⟨_, rfl⟩
  rw [← hm] at hn HL
  clear hm
  by_cases h0 : n < 0
  · have d0 : decide (n < 0) = true := decide_eq_true h0
    go_enter Try.func44, Try.ntmps44
    go_wp2_with ((with_reducible show wpList _ _ _ (⟨_, Op.store 26 (.tmp 4) _, _, _, _, _⟩ :: _) _ _); refine wpList_store_row rfl _ _ _ rfl w.heap.size 0 (zero32.map B8).toArray rfl rfl (there_blk (heap_alloc_at _ _ _ rfl) (by decide)) (by kernel_rfl) (b8_all zero32) ?_; intro w5 hg5 hs5 ht5 hth5; rw [List.toList_toArray] at ht5; skip)
    refine bodyPost_ret (v := .tuple #[SumV zero32, errV 2]) ?_ rfl ⟨rfl, ((Below.refl _ _).alloc (Nat.le_refl _) _).grown hg5 (by simp <;> omega) (by intro k hk; cases hk; omega)⟩
    exact results_cell_tmp (s := 4) (s2 := 5) rfl _ _ _ w.heap.size 0 rfl _ rfl (zero32.map B8) _ ht5 Try.underlying26 rfl (by kernel_rfl)
  · have d0 : decide (n < 0) = false := decide_eq_false h0
    have d1 : decide ((m : Int) < n) = true := decide_eq_true (by omega)
    go_enter Try.func44, Try.ntmps44
    go_wp2_with (first
      | (go_at_call 48; refine (HL.out _).mono ?_; rintro e w1 ⟨rfl, rfl⟩)
      | ((with_reducible show wpList _ _ _ (⟨_, Op.store 26 (.tmp 4) _, _, _, _, _⟩ :: _) _ _); refine wpList_store_row rfl _ _ _ rfl w.heap.size 0 (zero32.map B8).toArray rfl rfl (there_blk (heap_alloc_at _ _ _ rfl) (by decide)) (by kernel_rfl) (b8_all zero32) ?_; intro w5 hg5 hs5 ht5 hth5; rw [List.toList_toArray] at ht5; skip))
    refine bodyPost_ret (v := .tuple #[SumV zero32, errV 2]) ?_ rfl ⟨rfl, ((Below.refl _ _).alloc (Nat.le_refl _) _).grown hg5 (by simp <;> omega) (by intro k hk; cases hk; omega)⟩
    exact results_cell_tmp (s := 4) (s2 := 5) rfl _ _ _ w.heap.size 0 rfl _ rfl (zero32.map B8) _ ht5 Try.underlying26 rfl (by kernel_rfl)
end
section
variable {F : List UInt8 → List UInt8} (HF : Dig F)
include HF
set_option maxRecDepth 100000 in
theorem troot_ok (w : World) {B g : Nat} {ls : List Dg} {K : List Nat} (h : TS F B g ls K w) (n : Nat) (hn : n ≤ ls.length) (h127 : ls.length ≤ 127) :
    Calls Try.prog 44 #[.pointer (some ⟨g, 0, none⟩), .int .i64 (n : Int)] w fun e w' => e = .returned (.tuple #[SumV (rootF F (ls.take n)), .nilIface]) ∧ Below w.heap.size w w' := by
  have HL : Hid (∀ o, Calls Try.prog 48 #[.pointer (some ⟨g, 0, none⟩)] (w.alloc o) fun e w' => e = .returned (.int .i64 (ls.length : Nat)) ∧ w.alloc o = w') := Lib.hid fun o => ts_len (h.stable ((Below.refl _ _).alloc (Nat.le_refl _) _))
  obtain ⟨d, hd⟩ : ∃ d, d = rootF F (ls.take n) := ⟨_, rfl⟩
  have hd32 : d.length = 32 := by rw [hd]; exact rootF_len HF.len _ _ rfl (fun x hx => h.l32 x (List.mem_of_mem_take hx))
  have hi := info_of d hd32
  have hi' := info_of' d hd32
  rw [← hd]
  by_cases h0 : n = 0
  · have hE := fun u => empty_any HF u
    have e : d = F [] := by rw [hd, h0]; rfl
    rw [← e] at hE
    unfold SumV at hE
    have HE := Lib.hid hE
    obtain ⟨m, hm⟩ : ∃ m, m = ls.length := ⟨_, rfl⟩
    rw [← hm] at HL
    subst h0
    have hm0 : (0 : Int) ≤ (m : Int) := by omega
    clear h hn h127 hE e hd hm
    go_enter Try.func44, Try.ntmps44
    go_wp2_with (go_at_call 48; refine (HL.out _).mono ?_; rintro e w1 ⟨rfl, rfl⟩)
    refine (HE.out _).mono ?_
    rintro e w2 ⟨rfl, hb2⟩
    obtain ⟨W, hW⟩ : ∃ W, W = w.alloc (.cells (List.replicate 32 (.int .u8 0)).toArray 26) := ⟨_, rfl⟩
    rw [zeros_lit, ← hW] at hb2
    have hWb : Below w.heap.size w W ∧ W.there w.heap.size 0 32 := by rw [hW]; exact ⟨(Below.refl _ _).alloc (Nat.le_refl _) _, there_blk (heap_alloc_at _ _ _ rfl) (by decide)⟩
    have hb02 := hWb.1.trans (hb2.mono hWb.1.size)
    have hth2 := sz_there hd32 (there_same hWb.2 (hb2.block _ (there_lt hWb.2 (by decide))))
    have HB := Lib.hid hb02
    clear hW hWb hb2 hb02 HL
    go_wp2_with ((with_reducible show wpList _ _ _ (⟨_, Op.store 26 (.tmp 4) _, _, _, _, _⟩ :: _) _ _); refine wpList_store_row rfl _ _ _ rfl w.heap.size 0 (d.map B8).toArray rfl rfl hth2 hi' (b8_all d) ?_; intro w5 hg5 hs5 ht5 hth5; rw [List.toList_toArray] at ht5; skip)
    refine bodyPost_ret (v := .tuple #[SumV d, .nilIface]) ?_ rfl ⟨rfl, HB.out.grown hg5 HB.out.size (by intro k hk; cases hk; omega)⟩
    exact results_cell_tmp (s := 4) (s2 := 5) rfl _ _ _ w.heap.size 0 rfl _ rfl (d.map B8) _ ht5 Try.underlying26 rfl hi
  · have hP := fun u (hu : TS F B g ls K u) => part_any HF u hu 0 n (PartAt.zero n) (by omega) (by omega) h127
    simp only [List.drop_zero] at hP
    rw [← hd] at hP
    unfold SumV at hP
    have HP := Lib.hid hP
    obtain ⟨m, hm⟩ : ∃ m, m = ls.length := ⟨_, rfl⟩
    rw [← hm] at HL h127 hn
    have Hh := Lib.hid h
    have d0 : decide ((n : Int) < 0) = false := decide_eq_false (by omega)
    have d1 : decide (m < n) = false := decide_eq_false (by omega)
    have d2 : decide ((m : Int) < (n : Int)) = false := decide_eq_false (by omega)
    have d3 : ((n : Int) == 0) = false := by rw [beq_eq_false_iff_ne]; omega
    clear h hd hm hP
    go_enter Try.func44, Try.ntmps44
    go_wp2_with (go_at_call 48; refine (HL.out _).mono ?_; rintro e w1 ⟨rfl, rfl⟩)
    obtain ⟨W, hW⟩ : ∃ W, W = w.alloc (.cells (List.replicate 32 (.int .u8 0)).toArray 26) := ⟨_, rfl⟩
    rw [zeros_lit, ← hW]
    have hWb : Below w.heap.size w W ∧ W.there w.heap.size 0 32 := by rw [hW]; exact ⟨(Below.refl _ _).alloc (Nat.le_refl _) _, there_blk (heap_alloc_at _ _ _ rfl) (by decide)⟩
    refine (HP.out W (Hh.out.stable hWb.1)).mono ?_
    rintro e w2 ⟨rfl, hb2⟩
    have hb02 := hWb.1.trans (hb2.mono hWb.1.size)
    have hth2 := sz_there hd32 (there_same hWb.2 (hb2.block _ (there_lt hWb.2 (by decide))))
    have HB := Lib.hid hb02
    clear hW hWb hb2 hb02 HL
    go_wp2_with ((with_reducible show wpList _ _ _ (⟨_, Op.store 26 (.tmp 4) _, _, _, _, _⟩ :: _) _ _); refine wpList_store_row rfl _ _ _ rfl w.heap.size 0 (d.map B8).toArray rfl rfl hth2 hi' (b8_all d) ?_; intro w5 hg5 hs5 ht5 hth5; rw [List.toList_toArray] at ht5; skip)
    refine bodyPost_ret (v := .tuple #[SumV d, .nilIface]) ?_ rfl ⟨rfl, HB.out.grown hg5 HB.out.size (by intro k hk; cases hk; omega)⟩
    exact results_cell_tmp (s := 4) (s2 := 5) rfl _ _ _ w.heap.size 0 rfl _ rfl (d.map B8) _ ht5 Try.underlying26 rfl hi
end
set_option maxRecDepth 100000 in
theorem rroot_bad (w : World) (A : Option Addr) (m c : Nat) (n : Int) (hn : n < 0 ∨ (m : Int) < n) :
    Calls Try.prog 45 #[.slice A m c, .int .i64 n] w fun e w' => e = .returned (.tuple #[SumV zero32, .bool false]) ∧ Below w.heap.size w w' := by
  by_cases h0 : n < 0
  · have d0 : decide (n < 0) = true := decide_eq_true h0
    go_enter Try.func45, Try.ntmps45
    go_wp2_with ((with_reducible show wpList _ _ _ (⟨_, Op.store 26 (.tmp 4) _, _, _, _, _⟩ :: _) _ _); refine wpList_store_row rfl _ _ _ rfl w.heap.size 0 (zero32.map B8).toArray rfl rfl (there_blk (heap_alloc_at _ _ _ rfl) (by decide)) (by kernel_rfl) (b8_all zero32) ?_; intro w5 hg5 hs5 ht5 hth5; rw [List.toList_toArray] at ht5; skip)
    refine bodyPost_ret (v := .tuple #[SumV zero32, .bool false]) ?_ rfl ⟨rfl, ((Below.refl _ _).alloc (Nat.le_refl _) _).grown hg5 (by simp <;> omega) (by intro k hk; cases hk; omega)⟩
    exact results_cell_tmp (s := 4) (s2 := 5) rfl _ _ _ w.heap.size 0 rfl _ rfl (zero32.map B8) _ ht5 Try.underlying26 rfl (by kernel_rfl)
  · have d0 : decide (n < 0) = false := decide_eq_false h0
    have d1 : decide ((m : Int) < n) = true := decide_eq_true (by omega)
    clear hn
    go_enter Try.func45, Try.ntmps45
    go_wp2_with ((with_reducible show wpList _ _ _ (⟨_, Op.store 26 (.tmp 4) _, _, _, _, _⟩ :: _) _ _); refine wpList_store_row rfl _ _ _ rfl w.heap.size 0 (zero32.map B8).toArray rfl rfl (there_blk (heap_alloc_at _ _ _ rfl) (by decide)) (by kernel_rfl) (b8_all zero32) ?_; intro w5 hg5 hs5 ht5 hth5; rw [List.toList_toArray] at ht5; skip)
    refine bodyPost_ret (v := .tuple #[SumV zero32, .bool false]) ?_ rfl ⟨rfl, ((Below.refl _ _).alloc (Nat.le_refl _) _).grown hg5 (by simp <;> omega) (by intro k hk; cases hk; omega)⟩
    exact results_cell_tmp (s := 4) (s2 := 5) rfl _ _ _ w.heap.size 0 rfl _ rfl (zero32.map B8) _ ht5 Try.underlying26 rfl (by kernel_rfl)
section
variable {F : List UInt8 → List UInt8} (HF : Dig F)
include HF
set_option maxRecDepth 100000 in
theorem rroot_ok (w : World) (A : Option Addr) (m c : Nat) (ls : List Dg) (hr : RS w A m ls) (hmc : m ≤ c) (hcm : c ≤ maxLen) (hm : m ≤ 1048576) (n : Nat) (hn : n ≤ m) :
    Calls Try.prog 45 #[.slice A m c, .int .i64 (n : Int)] w fun e w' => e = .returned (.tuple #[SumV (rootF F (ls.take n)), .bool true]) ∧ Below w.heap.size w w' := by
  obtain ⟨d, hd⟩ : ∃ d, d = rootF F (ls.take n) := ⟨_, rfl⟩
  have hd32 : d.length = 32 := by rw [hd]; exact rootF_len HF.len _ _ rfl (fun x hx => hr.2.1 x (List.mem_of_mem_take hx))
  have hi := info_of d hd32
  have hi' := info_of' d hd32
  rw [← hd]
  have hR : ∀ u, Below w.heap.size w u → Calls Try.prog 39 #[.slice A n c] u fun e w' => e = .returned (.agg (d.map B8).toArray) ∧ Below u.heap.size u w' := fun u hu => by
    have h := refroot_any HF n n (Nat.le_refl _) u A c (ls.take n) ((hr.below hu).take hn) (by omega) hcm (by omega)
    rwa [← hd] at h
  have HR := Lib.hid hR
  have d0 : decide ((n : Int) < 0) = false := decide_eq_false (by omega)
  have d1 : decide (m < n) = false := decide_eq_false (by omega)
  have d2 : decide ((m : Int) < (n : Int)) = false := decide_eq_false (by omega)
  unfold maxLen at hcm
  clear hr hd hR
  go_enter Try.func45, Try.ntmps45
  go_wp2_with fail
  obtain ⟨W, hW⟩ : ∃ W, W = w.alloc (.cells (List.replicate 32 (.int .u8 0)).toArray 26) := ⟨_, rfl⟩
  rw [zeros_lit, ← hW]
  have hWb : Below w.heap.size w W ∧ W.there w.heap.size 0 32 := by rw [hW]; exact ⟨(Below.refl _ _).alloc (Nat.le_refl _) _, there_blk (heap_alloc_at _ _ _ rfl) (by decide)⟩
  refine (HR.out W hWb.1).mono ?_
  rintro e w2 ⟨rfl, hb2⟩
  have hb02 := hWb.1.trans (hb2.mono hWb.1.size)
  have hth2 := sz_there hd32 (there_same hWb.2 (hb2.block _ (there_lt hWb.2 (by decide))))
  have HB := Lib.hid hb02
  clear hW hWb hb2 hb02
  go_wp2_with ((with_reducible show wpList _ _ _ (⟨_, Op.store 26 (.tmp 4) _, _, _, _, _⟩ :: _) _ _); refine wpList_store_row rfl _ _ _ rfl w.heap.size 0 (d.map B8).toArray rfl rfl hth2 hi' (b8_all d) ?_; intro w5 hg5 hs5 ht5 hth5; rw [List.toList_toArray] at ht5; skip)
  refine bodyPost_ret (v := .tuple #[SumV d, .bool true]) ?_ rfl ⟨rfl, HB.out.grown hg5 HB.out.size (by intro k hk; cases hk; omega)⟩
  exact results_cell_tmp (s := 4) (s2 := 5) rfl _ _ _ w.heap.size 0 rfl _ rfl (d.map B8) _ ht5 Try.underlying26 rfl hi
end
end Go.Proofs.Ytkcmacglomdfcaa
