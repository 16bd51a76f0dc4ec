/-
  THE WALKS of the laws LeafCuts and LeafRoots.
-/
import Derived.Test.YtkcmacglomdfcaaLfE
namespace Go.Proofs.Ytkcmacglomdfcaa
open Go.RowKit

theorem arrSum : WideMaps.ArrKey Try.prog 26 5 32 := ⟨Try.underlying26, by kernel_rfl, by kernel_rfl, by kernel_rfl⟩
theorem info_sum3 : (Try.prog.info? 26).map (fun i => (i.zero, i.size, i.bytes)) = some (some (.agg (List.replicate 32 (.int .u8 0)).toArray), 32, 32) := by kernel_rfl
theorem leafCuts_law (w : World) (n : Int) (hn : (Lit.int .i64 n).wf = true) : Calls Try.prog 7 #[.int .i64 n] w fun e w' => e = .returned (.bool true) ∧ Below w.heap.size w w' := by
  obtain ⟨h0, h1⟩ := bounds_i64 hn
  have hA := alive9_any dig
  have hC := fun w => cut_any w n h0 h1
  have hR := fun w => refcut_any w n h0 h1
  generalize cutN n.toNat = k at hC hR
  have HA := Lib.hid hA
  have HC := Lib.hid hC
  have HR := Lib.hid hR
  clear hA hC hR
  go_enter Try.func7, Try.ntmps7
  go_wp2_with (first
    | (go_at_call 30; refine (HA.out _).mono ?_; rintro e w1 ⟨rfl, hb1⟩)
    | (go_at_call 36; refine (HC.out _).mono ?_; rintro e w2 ⟨rfl, rfl⟩)
    | (go_at_call 37; refine (HR.out _).mono ?_; rintro e w3 ⟨rfl, rfl⟩))
  go_ret
  exact ⟨rfl, hb1⟩
set_option maxHeartbeats 1000000 in
theorem leafRoots_law (w : World) (v : Value) (ls : List (List UInt8)) (hv : SS w v ls) : Calls Try.prog 8 #[v] w fun e w' => e = .returned (.bool true) ∧ Below w.heap.size w w' := by
  obtain ⟨A, n, c, rfl, hnc, hcm, hr⟩ := hv
  have hcm' := hcm
  unfold maxLen at hcm
  have hA := alive9_any dig
  have hP := root_any dig
  have hR := refroot_any dig
  have hFl := fun ls => rootF_len dig.len _ ls rfl
  generalize digest32 K32 H32 = F at hP hR hFl
  have HA := Lib.hid hA
  have HP := Lib.hid hP
  have HR := Lib.hid hR
  have HFl := Lib.hid hFl
  clear hA hP hR hFl
  by_cases hbig : 200 < n
  · go_enter Try.func8, Try.ntmps8
    go_wp2_with (go_at_call 30; refine (HA.out _).mono ?_; rintro e w1 ⟨rfl, hb1⟩)
    go_ret
    exact ⟨rfl, hb1⟩
  · have hl32 := hr.2.1
    have hlen := hr.len
    have hfl := flat_len ls hl32
    have Hlen := Lib.hid hlen
    have Hfl := Lib.hid hfl
    have hrl := HFl.out ls hl32
    have Hl32 := Lib.hid hl32
    clear hlen hfl hl32
    go_enter Try.func8, Try.ntmps8
    go_wp2_with (first
      | (go_at_call 30; refine (HA.out _).mono ?_; rintro e w1 ⟨rfl, hb1⟩)
      | (at_builtin; refine wpList_append_row rfl (.tmp 9) (.tmp 10) 42 rfl w1 ?hW Try.underlying42 info_sum3 rfl (by decide) (.slice (some ⟨w1.heap.size, 0, none⟩) 0 0) 0 [] rfl ?hown A n c (ls.flatten.map B8) rfl ?hrc ?hlen (b8_oneCell _) (by unfold maxLen; omega) (by omega) ?_; (case hW => exact (Below.refl _ _).alloc (Nat.le_refl _) _); (case hown => exact ownsRow_empty w1 _ _ (Nat.le_refl _)); (case hrc => exact ((hr.below hb1).below ((Below.refl _ _).alloc (Nat.le_refl _) _)).rc); (case hlen => rw [List.length_map, Hfl.out, Hlen.out]); intro v3 w3 hown3 hb3; rw [Nat.zero_add, List.nil_append] at hown3; obtain ⟨A3, c3, rfl, hc3, hc3m, -⟩ := own_formK hown3; have H3 := Lib.hid (And.intro hown3 hb3); clear hown3 hb3))
    have hs3 := SS.of_own H3.out.1 Hl32.out Hlen.out
    have hb03 := hb1.trans (H3.out.2.mono hb1.size)
    have hr3 := hr.below hb03
    obtain ⟨A4, n4, c4, e4, -, -, hrc⟩ := hs3
    cases e4
    refine (HP.out _ _ _ _ _ hrc (by omega)).mono ?_
    rintro e w4 ⟨rfl, hb4⟩
    go_wp2_with fail
    refine (HR.out n n (Nat.le_refl _) _ _ _ _ (hr3.below hb4) hnc hcm' (by omega)).mono ?_
    rintro e w5 ⟨rfl, hb5⟩
    have hb35 := hb4.trans (hb5.mono hb4.size)
    have hb05 := hb03.trans (hb35.mono hb03.size)
    have he := fun w => run_eql_sum w (rootF F ls) (rootF F ls) hrl hrl
    rw [beq_self_eq_true] at he
    generalize rootF F ls = D at he hrl ⊢
    unfold SumV
    have hrc5 := hrc.below hb35
    have hr5 := hr3.below hb35
    clear hb4 hb5 hb35 hrc hr3
    go_wp2_with fail
    refine (sums_any _ _ _ _ _ _ _ ls ls hrc5 hr5 (by unfold maxLen; omega)).mono ?_
    rintro e w6 ⟨rfl, hb6⟩
    rw [beq_self_eq_true]
    go_wp2_with fail
    go_ret
    exact ⟨rfl, hb05.trans (hb6.mono hb05.size)⟩
end Go.Proofs.Ytkcmacglomdfcaa
