/-
  THE WALK of the document's Level.
-/
import Derived.Test.YtkcmacglomdfcaaTrT
namespace Go.Proofs.Ytkcmacglomdfcaa
open Go.RowKit

set_option maxRecDepth 100000 in
theorem rlevel_out (w : World) (A : Option Addr) (n c : Nat) (k : Int) (hk : k < 0) :
    Calls Try.prog 54 #[.slice A n c, .int .i64 k] w fun e w' => e = .returned (.slice none 0 0) ∧ w = w' := by
  have d0 : decide (k < 0) = true := decide_eq_true hk
  go_enter Try.func54, Try.ntmps54
  go_wp2_with fail
  go_ret
  exact ⟨rfl, rfl⟩
section
variable {F : List UInt8 → List UInt8} (HF : Dig F)
include HF
set_option maxRecDepth 100000 in
set_option maxHeartbeats 4000000 in
theorem rlevel_any (w : World) (A : Option Addr) (n c : Nat) (ls : List Dg) (hr : RS w A n ls) (hnc : n ≤ c) (hcm : c ≤ maxLen) (hn : n ≤ 1000) (k : Nat) (hk : k ≤ 20) :
    Calls Try.prog 54 #[.slice A n c, .int .i64 (k : Int)] w (RowPost w (lev F k ls)) := by
  have hRt := fun (u : World) (A : Option Addr) (n c : Nat) (l : List Dg) (h : RS u A n l) (h1 : n ≤ c) (h2 : c ≤ maxLen) (h3 : n ≤ 1048576) => refroot_any HF n n (Nat.le_refl _) u A c l h h1 h2 h3
  have HFl := Lib.hid (fun l => rootF_len HF.len _ l rfl)
  have HRt := Lib.hid hRt
  have Hr := Lib.hid hr
  have d0 : decide ((k : Int) < 0) = false := decide_eq_false (by omega)
  have d1 : decide (20 < (k : Int)) = false := decide_eq_false (by omega)
  have d1' : decide (20 < k) = false := decide_eq_false (by omega)
  have Hcm := Lib.hid hcm
  clear hRt hr HF
  go_enter Try.func54, Try.ntmps54
  go_wp2_with fail
  go_loopw [5, 6] (fun s5 s6 wr => ∃ (e z : Nat), e ≤ k ∧ s5 = .int .i64 (z : Int) ∧ s6 = .int .i64 (e : Int) ∧ Hid (z = 2 ^ e ∧ wr = w)) (fun _ s6 _ => k - (intOf s6).toNat)
  case atStart => exact ⟨0, 1, Nat.zero_le _, rfl, rfl, Lib.hid ⟨rfl, rfl⟩⟩
  case round =>
    obtain ⟨e, z, he, rfl, rfl, hzw⟩ := hrel
    have hze := hzw.out.1
    have hzb : z ≤ 1048576 := by rw [hze]; exact Nat.le_trans (Nat.pow_le_pow_right (by decide) (Nat.le_trans he hk)) (by decide)
    by_cases hek : e < k
    · have dl : decide (e < k) = true := decide_eq_true hek
      have dl' : decide ((e : Int) < (k : Int)) = true := decide_eq_true (by omega)
      obtain ⟨z2, hz2⟩ : ∃ z2, z2 = 2 * z := ⟨_, rfl⟩
      have e2 : 2 * (z : Int) = (z2 : Int) := by omega
      have hz2b : z2 ≤ 2097152 := by omega
      have HN : Hid (z2 = 2 ^ (e + 1) ∧ wr = w) := Lib.hid ⟨by rw [hz2, hze, Nat.pow_succ, Nat.mul_comm], hzw.out.2⟩
      clear hze hz2
      go_wp2_with fail
      go_roundw
      case rel => exact ⟨e + 1, z2, hek, rfl, by go_num, HN⟩
      case measure => simp [intOf]; omega
    · have dl : decide (e < k) = false := decide_eq_false hek
      have dl' : decide ((e : Int) < (k : Int)) = false := decide_eq_false (by omega)
      obtain rfl : e = k := by omega
      have hz0 : 0 < z := by rw [hze]; exact Nat.two_pow_pos _
      have HZ := Lib.hid hze
      have hwe := hzw.out.2.symm
      clear hze hzw
      subst hwe
      go_wp2_with fail
      go_loopw [7, 8] (fun s7 s8 wr => ∃ (j at_ : Nat) (Av : Option Addr) (cv : Nat), s7 = .slice Av j cv ∧ s8 = .int .i64 (at_ : Int) ∧ at_ ≤ n ∧ at_ = j * z ∧ Hid (wr.ownsRow w.heap.size 26 32 (.slice Av j cv) j (((lev F e ls).take j).flatten.map B8) ∧ Below w.heap.size w wr)) (fun _ s8 _ => n - (intOf s8).toNat)
      case atStart => exact ⟨0, 0, none, 0, rfl, rfl, Nat.zero_le _, by simp, Lib.hid ⟨World.ownsRow_nil _ _ _ _, Below.refl _ _⟩⟩
      case round =>
        obtain ⟨j, at_, Av, cv, rfl, rfl, hat, haj, hq⟩ := hrel
        obtain ⟨at2, hat2⟩ : ∃ at2, at2 = at_ + z := ⟨_, rfl⟩
        have ea : (at_ : Int) + (z : Int) = (at2 : Int) := by omega
        have hat2b : at2 ≤ 3000000 := by omega
        have hjn : j ≤ at_ := by rw [haj]; exact Nat.le_mul_of_pos_right _ hz0
        by_cases hin : at2 ≤ n
        · have dl : decide (at2 ≤ n) = true := decide_eq_true hin
          have dl' : decide ((at2 : Int) ≤ (n : Int)) = true := decide_eq_true (by omega)
          have hjl : j < ls.length / 2 ^ e := by
            rw [← HZ.out, Nat.lt_div_iff_mul_lt hz0, Hr.out.len]
            have : z * j = at_ := by rw [haj, Nat.mul_comm]
            omega
          obtain ⟨d, hd⟩ : ∃ d, d = rootF F ((ls.drop at_).take z) := ⟨_, rfl⟩
          have hld : (lev F e ls)[j]? = some d := by rw [lev_at hjl, hd, haj, HZ.out]
          have hd32 : d.length = 32 := by rw [hd]; exact HFl.out _ (fun x hx => Hr.out.2.1 x (List.mem_of_mem_drop (List.mem_of_mem_take hx)))
          have hml : (d.map B8).length = 32 := by rw [List.length_map, hd32]
          obtain ⟨b, o, hA, -⟩ := Hr.out.2.2 (by omega)
          subst hA
          have hcut := (Hr.out.below hq.out.2).cut (k := at_) (cap := c) (by omega) hnc
          rw [if_neg (by omega), Option.map_some, Addr.add_mid] at hcut
          have hC := HRt.out wr (some ⟨b, o + at_ * 32, none⟩) z (c - at_) ((ls.drop at_).take z) (hcut.take (by omega)) (by omega) (by omega) (by omega)
          rw [← hd] at hC
          unfold SumV at hC
          obtain ⟨xs, hxs⟩ : ∃ xs, xs = ((lev F e ls).take j).flatten.map B8 := ⟨_, rfl⟩
          rw [← hxs] at hq
          have HC := Lib.hid hC
          have Hq := hq
          have Hxs := Lib.hid hxs
          have Hld := Lib.hid hld
          have Haj := Lib.hid haj
          have b0 : (0 : Int) ≤ (at_ : Int) := by omega
          have b1 : (at_ : Int) ≤ (at2 : Int) := by omega
          have b2 : (at2 : Int) ≤ (c : Int) := by omega
          have e3 : at2 - at_ = z := by omega
          have e4 : ¬ c = at_ := by omega
          have b3 : at_ ≤ at2 := by omega
          have b4 : at2 ≤ c := by omega
          have Hat2 := Lib.hid hat2
          clear hcut hC hq hd hxs hld hjl haj hat2
          go_wp2_with fail
          refine HC.out.mono ?_
          rintro e w3 ⟨rfl, hb3⟩
          have H3 := Lib.hid (And.intro (ownsRow_below Hq.out.1 hb3) (Hq.out.2.trans (hb3.mono Hq.out.2.size)))
          clear hb3
          go_wp2_with (at_builtin; refine wpList_append_keep rfl (.tmp 31) (.tmp 39) 42 rfl w (H3.out.2.alloc H3.out.2.size _) Try.underlying42 info_sum3 rfl (by decide) (.slice Av j cv) j xs rfl (H3.out.1.alloc _) (some ⟨w3.heap.size, 0, none⟩) 1 1 (d.map B8) rfl (rc_new w3 _ _ _) (by rw [hml]) (b8_oneCell d) (by unfold maxLen; omega) (by omega) ?_; intro v8 w8 hown8 hb8 _ hg8 _; obtain ⟨A8, c8, rfl, -, -, -⟩ := own_formK hown8; have H8 := Lib.hid (And.intro hown8 hb8); clear hown8 hb8 hg8)
          have HN : Hid (w8.ownsRow w.heap.size 26 32 (.slice A8 (j + 1) c8) (j + 1) (((lev F e ls).take (j + 1)).flatten.map B8) ∧ Below w.heap.size w w8) := Lib.hid ⟨by
            rw [take_snoc Hld.out, List.flatten_append, List.map_append, ← Hxs.out]
            simpa using H8.out.1, H8.out.2⟩
          have haj2 : at2 = (j + 1) * z := by rw [Hat2.out, Haj.out, Nat.add_mul, Nat.one_mul]
          clear H8 H3 HC
          go_roundw
          case rel => exact ⟨j + 1, at2, A8, c8, rfl, rfl, hin, haj2, HN⟩
          case measure => simp [intOf]; omega
        · have dl : decide (at2 ≤ n) = false := decide_eq_false hin
          have dl' : decide ((at2 : Int) ≤ (n : Int)) = false := decide_eq_false (by omega)
          have hjl : j = (lev F e ls).length := by
            rw [lev_length, ← HZ.out, Hr.out.len]
            refine (Nat.div_eq_of_lt_le ?_ ?_).symm
            · rw [← haj]; exact hat
            · rw [Nat.add_mul, Nat.one_mul, ← haj]; omega
          have Hjl := Lib.hid hjl
          have Hq := hq
          clear hq hjl
          go_wp2_with fail
          go_ret
          refine ⟨Av, cv, by rw [← Hjl.out]; rfl, ?_, Hq.out.2⟩
          have h := Hq.out.1
          rw [List.take_of_length_le (by rw [← Hjl.out]; exact Nat.le_refl _)] at h
          rw [← Hjl.out]
          exact h
end
end Go.Proofs.Ytkcmacglomdfcaa
