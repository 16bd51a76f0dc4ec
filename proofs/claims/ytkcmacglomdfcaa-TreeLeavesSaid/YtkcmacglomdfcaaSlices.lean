/-
  THE WALKS of slices.Concat (of rows of bytes), with slices.Grow.
-/
import Derived.Test.YtkcmacglomdfcaaNum
namespace Go.Proofs.Ytkcmacglomdfcaa
open Go.RowKit

/-- append(nil, make([]T, n)...): n zeros in a new block. -/
theorem run_append_zeros {P : Program} (w : World) (t ty ti e : TypeId) (k : IntKind) (i : TypeInfo) (z : Value) (ht : P.underlying t = some (.slice e)) (hti : P.underlying ti = some (.int k)) (hi : P.info? e = some i) (hz : i.zero = some z)
    (n : Nat) (h0 : 0 < n) (h63 : n ≤ 9223372036854775807) (h48 : n * i.bytes ≤ 281474976710656) (hsz : i.size = 1) :
    (Builtin.append_ #[t, ti] ty #[.slice none 0 0, .int .i64 (n : Int)]).run P w =
      .ok (.slice (some ⟨w.heap.size, 0, none⟩) n (grownCap w n 0 e)) (w.drew.alloc (.cells (Builtin.zeroCells z.cells n ++ Builtin.zeroCells z.cells (grownCap w n 0 e - n)) e)) := by
  have hn : n ≠ 0 := by omega
  have hw : IntKind.i64.wrap (n : Int) = n := by rw [IntKind.wrap_i64]; omega
  have hl : ¬ (281474976710656 < (n : Int) * (i.bytes : Int)) := by rw [← Int.natCast_mul]; omega
  have h63' : ¬ (9223372036854775807 < (n : Int)) := by omega
  have hn0 : ¬ ((n : Int) < 0) := by omega
  have h48' : ¬ (281474976710656 < Builtin.nextslicecap n 0 * i.bytes) := by rw [nextslicecap_zero h0]; omega
  simp [Builtin.append_, run_underlying ht, run_underlying hti, sizeOf, typeInfo, zeroValue, hi, hz, hn, hw, hl, h63', h48', Question.forced, run_firstCells_none, newRow, grownCap, asInt, asIntOf, hsz, hn0]

set_option maxRecDepth 100000 in
theorem grow_nil (w : World) (n : Nat) (hn : n ≤ 140737488355328) :
    Calls Try.prog 107 #[.slice none 0 0, .int .i64 (n : Int)] w (OwnPost w []) := by
  by_cases h0 : n = 0
  · subst h0
    go_enter Try.func107, Try.ntmps107
    go_wp2
    go_ret
    exact ⟨_, rfl, World.ownsRow_nil _ _ _ _, Below.refl _ _⟩
  · obtain ⟨i, hi, hz, hsz, hby⟩ := info_parts info_u8
    have hap := run_append_zeros (P := Try.prog) w 22 22 3 5 .i64 i (.int .u8 0) Try.underlying22 Try.underlying3 hi hz n (by omega) (by omega) (by rw [hby]; omega) hsz
    have hge := grownCap_ge w n 0 5
    have hle := grownCap_le_maxLen w n 0 5 (by unfold maxLen; omega)
    obtain ⟨c, hc⟩ : ∃ c, c = grownCap w n 0 5 := ⟨_, rfl⟩
    rw [← hc] at hap hge hle
    obtain ⟨C, hC⟩ : ∃ C, C = Builtin.zeroCells (Value.int .u8 0).cells n ++ Builtin.zeroCells (Value.int .u8 0).cells (c - n) := ⟨_, rfl⟩
    have hCs : C.size = c * 1 := by rw [hC, Array.size_append, size_zeroCells, size_zeroCells]; show n * 1 + (c - n) * 1 = c * 1; omega
    rw [← hC] at hap
    have Hs := Lib.hid hCs
    have Hle := Lib.hid hle
    clear hc hC hCs hi hz hsz hby hle
    have Hap := Lib.hid hap
    clear hap
    go_enter Try.func107, Try.ntmps107
    go_wp2_with (at_builtin; refine wpList_append_run rfl (.tmp 20) (.tmp 21) 22 3 rfl (.slice none 0 0) (.int .i64 (n : Int)) _ rfl rfl Hap.out ?_)
    go_ret
    exact ⟨_, rfl, World.ownsRow_made w.drew C c (Nat.le_refl _) Hle.out Hs.out, (Below.refl _ _).drew.alloc (Nat.le_refl _) _⟩

set_option maxRecDepth 100000 in
theorem concat_any (w : World) (v : Value) (ps : List (List UInt8)) (hv : SBs w v ps) (hn : ps.flatten.length ≤ 140737488355328) :
    Calls Try.prog 98 #[v] w (OwnPost w ps.flatten) := by
  obtain ⟨vs, ⟨A, n, c, rfl, h1, h2, h3⟩, hl, hp⟩ := hv
  unfold maxLen at h2
  have hps : ps.length = n := by rw [← hl, h3.len]
  have Hps := Lib.hid hps
  have hpre : ∀ k, (ps.take k).flatten.length ≤ ps.flatten.length := by
    intro k
    conv => rhs; rw [← List.take_append_drop k ps, List.flatten_append, List.length_append]
    omega
  clear hl hps
  go_enter Try.func98, Try.ntmps98
  go_wp2
  go_loop [3, 11] (fun s i => ∃ k : Nat, k ≤ n ∧ i = .int .i64 k ∧ s = .int .i64 ((ps.take k).flatten.length : Int)) (fun _ i => n - (intOf i).toNat)
  case atStart => exact ⟨0, by omega, rfl, by simp⟩
  case round =>
    obtain ⟨k, hk, rfl, rfl⟩ := hrel
    by_cases hlt : k < n
    · obtain ⟨b, o, u, rfl, hu, hc⟩ := h3.at_ hlt
      obtain ⟨bs, hbs⟩ : ∃ bs, ps[k]? = some bs := ⟨_, List.getElem?_eq_getElem (by rw [Hps.out]; exact hlt)⟩
      obtain ⟨A', m, c', rfl, m1, m2, m3⟩ := hp k u bs hu hbs
      have hf : (ps.take (k + 1)).flatten = (ps.take k).flatten ++ bs := by rw [take_snoc hbs, List.flatten_append]; simp
      have hle := hpre (k + 1)
      rw [hf, List.length_append, m3.len] at hle
      have hfl : (ps.take (k + 1)).flatten.length = (ps.take k).flatten.length + m := by rw [hf, List.length_append, m3.len]
      obtain ⟨L, hL⟩ : ∃ L, L = (ps.take k).flatten.length := ⟨_, rfl⟩
      rw [← hL] at hle hfl ⊢
      have Hfl := Lib.hid hfl
      have hle' : L + m ≤ 140737488355328 := by omega
      clear hL hfl hf hle hbs hu hpre hp hn
      go_wp2
      go_round
      case rel => exact ⟨k + 1, by omega, by go_num, by rw [Hfl.out]; go_num⟩
      case measure => simp [intOf]; omega
    · obtain rfl : k = n := by omega
      have hfull : ps.take k = ps := List.take_of_length_le (by rw [Hps.out]; exact Nat.le_refl _)
      rw [hfull]
      obtain ⟨F, hF⟩ : ∃ F, F = ps.flatten := ⟨_, rfl⟩
      have HF := Lib.hid hF
      have Hpre := Lib.hid hpre
      have Hp := Lib.hid hp
      rw [← hF] at hn ⊢
      clear hF hfull hpre hp
      go_wp2_with (go_at_call 107; refine (grow_nil w F.length hn).mono ?_; rintro e w1 ⟨v1, rfl, hown1, hb1⟩)
      go_loopw [6, 27] (fun a i wr => ∃ j : Nat, j ≤ k ∧ i = .int .i64 j ∧ wr.ownsRow w.heap.size 5 1 a (ps.take j).flatten.length ((ps.take j).flatten.map B8) ∧ Below w.heap.size w wr) (fun _ i _ => k - (intOf i).toNat)
      case atStart => exact ⟨0, by omega, rfl, by simpa using hown1, hb1⟩
      case round =>
        obtain ⟨j, hj, rfl, hown, hb⟩ := hrel
        by_cases hjl : j < k
        · obtain ⟨b, o, u, rfl, hu, hc⟩ := (h3.below hb).at_ hjl
          obtain ⟨bs, hbs⟩ : ∃ bs, ps[j]? = some bs := ⟨_, List.getElem?_eq_getElem (by rw [Hps.out]; exact hjl)⟩
          obtain ⟨A', m, c', rfl, m1, m2, m3⟩ := Hp.out j u bs hu hbs
          have m3' := m3.below hb
          have hf : (ps.take (j + 1)).flatten = (ps.take j).flatten ++ bs := by rw [take_snoc hbs, List.flatten_append]; simp
          have hle := Hpre.out (j + 1)
          rw [← HF.out, hf, List.length_append, m3.len] at hle
          have hml : (bs.map B8).length = m := by rw [List.length_map, m3.len]
          obtain ⟨G, hG⟩ : ∃ G, G = (ps.take j).flatten := ⟨_, rfl⟩
          rw [← hG] at hle hf hown
          have Hf := Lib.hid hf
          have Hml := Lib.hid hml
          have hle' : G.length + m ≤ 140737488355328 := by omega
          clear hG hf hle hbs hu hml
          go_wp2_with (at_builtin; refine wpList_append_row rfl (.tmp 31) (.tmp 32) 22 rfl w hb Try.underlying22 info_u8 rfl (by decide) _ G.length (G.map B8) rfl hown A' m c' (bs.map B8) rfl m3'.rc (by rw [Hml.out]; omega) (b8_oneCell bs) (by unfold maxLen; omega) (by omega) ?_; intro v3 w3 hown3 hb3; rw [← List.map_append] at hown3)
          have hown4 : w3.ownsRow w.heap.size 5 1 v3 (ps.take (j + 1)).flatten.length ((ps.take (j + 1)).flatten.map B8) := by
            rw [Hf.out, List.length_append, show bs.length = m by simpa using Hml.out]
            exact hown3
          clear hown3
          go_roundw
          case rel => exact ⟨j + 1, by omega, by go_num, hown4, hb3⟩
          case measure => simp [intOf]; omega
        · obtain rfl : j = k := by omega
          have hfull : ps.take j = ps := List.take_of_length_le (by rw [Hps.out]; exact Nat.le_refl _)
          rw [hfull] at hown
          clear hfull
          go_wp2
          go_ret
          exact ⟨_, rfl, hown, hb⟩
end Go.Proofs.Ytkcmacglomdfcaa
