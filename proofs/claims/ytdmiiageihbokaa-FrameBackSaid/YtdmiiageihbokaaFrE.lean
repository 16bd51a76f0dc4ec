/-
  THE WALK of the law FrameJoins.
-/
import Derived.Test.YtdmiiageihbokaaFrD
namespace Go.Proofs.Ytdmiiageihbokaa
open Go.RowKit

theorem recsLen_le : ∀ (ps : List (List UInt8)) (m : Nat), (∀ p ∈ ps, p.length ≤ m) → recsLen ps ≤ ps.length * (8 + m) := by
  intro ps m h
  induction ps with
  | nil => simp [recsLen]
  | cons p r ih =>
    rw [recsLen_cons, List.length_cons, Nat.add_mul]
    have h1 := h p (by simp)
    have h2 := ih fun q hq => h q (by simp [hq])
    omega
theorem all_snoc {ps : List (List UInt8)} {k : Nat} {p : List UInt8} {m : Nat} (hp : ps[k]? = some p) (h : ∀ q ∈ ps.take k, q.length ≤ m) (hl : p.length ≤ m) : ∀ q ∈ ps.take (k + 1), q.length ≤ m := by
  rw [take_snoc hp]
  intro q hq
  rcases List.mem_append.1 hq with h' | h'
  · exact h q h'
  · simp at h'; subst h'; exact hl

set_option maxRecDepth 100000 in
theorem frameJoins_law (w : World) (v0 : Value) (ps : List (List UInt8)) (h0 : SBs w v0 ps) (v1 : Value) (bs : List UInt8) (hb : SB w v1 bs) :
    Calls Try.prog 12 #[v0, v1] w fun e w' => e = .returned (.bool true) ∧ Below w.heap.size w w' := by
  obtain ⟨vs, ⟨A, n, c, rfl, h1, h2, h3⟩, hl, hp⟩ := h0
  unfold maxLen at h2
  have hps : ps.length = n := by rw [← hl, h3.len]
  have Hps := Lib.hid hps
  clear hl hps
  obtain ⟨B, m, d, rfl, m1, m2, m3⟩ := hb
  have Hm := Lib.hid m3.len
  unfold maxLen at m2
  by_cases hbig : 2000 < m
  · go_enter Try.func12, Try.ntmps12
    go_wp2_with fail
    refine (alive7_any w).mono ?_
    rintro e w1 ⟨rfl, hb1⟩
    go_wp2
    go_ret
    exact ⟨rfl, hb1⟩
  · go_enter Try.func12, Try.ntmps12
    go_wp2_with fail
    refine (alive7_any w).mono ?_
    rintro e w1 ⟨rfl, hb1⟩
    have hb2 : Below w.heap.size w (w1.alloc (.cells #[] 5)) := hb1.alloc hb1.size _
    have hown0 := ownsRow_empty w1 (base := w.heap.size) 5 1 hb1.size
    go_wp2_with fail
    go_loopw [5, 20] (fun a i wr => ∃ k : Nat, k ≤ n ∧ k ≤ 11 ∧ i = .int .i64 k ∧ wr.ownsRow w.heap.size 5 1 a (recs (ps.take k)).length ((recs (ps.take k)).map B8) ∧ Below w.heap.size w wr ∧ (∀ q ∈ ps.take k, q.length ≤ 300)) (fun _ i _ => n - (intOf i).toNat)
    case atStart => exact ⟨0, by omega, by omega, rfl, hown0, hb2, by simp⟩
    case round =>
      obtain ⟨k, hk, hk11, rfl, hown, hbw, hall⟩ := hrel
      by_cases hlt : k < n
      · by_cases hk10 : 10 < k
        · obtain ⟨b, o, u, rfl, hu, hc⟩ := (h3.below hbw).at_ hlt
          go_wp2
          go_ret
          exact ⟨rfl, hbw⟩
        · obtain ⟨b, o, u, rfl, hu, hc⟩ := (h3.below hbw).at_ hlt
          obtain ⟨p, hpk⟩ : ∃ p, ps[k]? = some p := ⟨_, List.getElem?_eq_getElem (by rw [Hps.out]; exact hlt)⟩
          have hS := (hp k u p hu hpk).below hbw
          have hS' := hS
          obtain ⟨A', m', c', rfl, q1, q2, q3⟩ := hS'
          unfold maxLen at q2
          have hml := q3.len
          by_cases hl : 300 < m'
          · clear hp hall
            go_wp2
            go_ret
            exact ⟨rfl, hbw⟩
          · have hsnoc : recs (ps.take (k + 1)) = recs (ps.take k) ++ recOf p := by rw [take_snoc hpk, recs_snoc]
            have hall' := all_snoc hpk hall (by omega : p.length ≤ 300)
            have hrl := recs_len (ps.take k)
            have hle := recsLen_le _ _ hall
            rw [List.length_take, Hps.out, Nat.min_eq_left hk] at hle
            obtain ⟨R, hR⟩ : ∃ R, R = recs (ps.take k) := ⟨_, rfl⟩
            rw [← hR] at hown hsnoc hrl
            have hRl : R.length ≤ 3388 := by omega
            have hpl := recOf_len p
            have hrp : (recOf p).length ≤ 308 := by omega
            have hpm : p.length ≤ 300 := by omega
            have Hpm := Lib.hid hpm
            have Hsn := Lib.hid hsnoc
            have Hall := Lib.hid hall'
            clear hR hrl hle hall hall' hsnoc hpl hml hu hpk q3 hpm
            obtain ⟨r, hr⟩ : ∃ r, r = recOf p := ⟨_, rfl⟩
            go_wp2_with fail
            refine (put_sb _ _ p hS (by have := Hpm.out; omega)).mono ?_
            rintro e w2 ⟨v2, rfl, hown2, hb2'⟩
            rw [← hr] at hown2 hrp Hsn
            have hb02 := hbw.trans (hb2'.mono hbw.size)
            have hownR := ownsRow_below hown hb2'
            have hS2 : SB w2 v2 r := SB.of_own hown2
            have hrl : r.length = (r.map B8).length := by rw [List.length_map]
            obtain ⟨A2, m2', c2, rfl, _, _, g3⟩ := hS2
            have hl2 := g3.len
            go_wp2_with (at_builtin; refine wpList_append_row rfl (.tmp 39) (.tmp 40) 22 rfl w hb02 Try.underlying22 info_u8 rfl (by decide) _ R.length (R.map B8) rfl hownR A2 m2' c2 (r.map B8) rfl g3.rc (by rw [← hrl, hl2]; omega) (b8_oneCell r) (by unfold maxLen; omega) (by omega) ?_; intro v3 w3 hown3 hb3; rw [← List.map_append] at hown3)
            have hown4 : w3.ownsRow w.heap.size 5 1 v3 (recs (ps.take (k + 1))).length ((recs (ps.take (k + 1))).map B8) := by
              rw [Hsn.out, List.length_append, hl2]
              exact hown3
            clear hown3 hrl g3 hown2 hownR hl2 hr hrp
            go_roundw
            case rel => exact ⟨k + 1, by omega, by omega, by go_num, hown4, hb3, Hall.out⟩
            case measure => simp [intOf]; omega
      · obtain rfl : k = n := by omega
        have hfull : ps.take k = ps := List.take_of_length_le (by rw [Hps.out]; exact Nat.le_refl _)
        rw [hfull] at hown hall
        have hle := recsLen_le _ _ hall
        have hrl := recs_len ps
        rw [Hps.out] at hle
        have hp6 : ∀ p ∈ ps, p.length ≤ 65536 := fun p h => by have := hall p h; omega
        have hj := frames_join ps bs hp6
        obtain ⟨R, hR⟩ : ∃ R, R = recs ps := ⟨_, rfl⟩
        rw [← hR] at hown hrl hj
        have hRl : R.length ≤ 3388 := by omega
        have hwl := (frames_spec bs).2.2 (frames bs).length
        rw [Hm.out, show offs (frames bs) (frames bs).length = wholeOf bs from rfl] at hwl
        have hww := whole_whole (R ++ bs)
        have hfw := frames_whole (R ++ bs)
        rw [hj.2, ← hrl] at hww hfw
        have Hj := Lib.hid hj
        have Hrl := Lib.hid hrl
        have Hww := Lib.hid hww
        have Hfw := Lib.hid hfw
        clear hfull hall hle hrl hp6 hj hR hp hww hfw
        obtain ⟨A2, m2', c2, rfl, g1, g2, g3⟩ := SB.of_own hown
        have hl2 := g3.len
        have hRm : (R.map B8).length = m2' := by rw [List.length_map, hl2]
        have hbm : (bs.map B8).length = m := by rw [List.length_map, Hm.out]
        have HRm := Lib.hid hRm
        have Hbm := Lib.hid hbm
        have hRl' : m2' ≤ 3388 := by omega
        unfold maxLen at g2
        clear hRm hbm
        have hbw2 : Below w.heap.size w (wr.alloc (.cells #[] 5)) := hbw.alloc hbw.size _
        have g3' := g3.below ((Below.refl wr.heap.size wr).alloc (Nat.le_refl _) (.cells #[] 5))
        have hownE := ownsRow_empty wr (base := w.heap.size) 5 1 hbw.size
        go_wp2_with (first
          | (at_builtin; refine wpList_append_row rfl (.tmp 43) (.tmp 44) 22 rfl w hbw2 Try.underlying22 info_u8 rfl (by decide) _ 0 [] rfl hownE A2 m2' c2 (R.map B8) rfl g3'.rc (by rw [HRm.out]; omega) (b8_oneCell R) (by unfold maxLen; omega) (by omega) ?_; intro v3 w3 hown3 hb3)
          | (at_builtin; refine wpList_append_row rfl (.tmp 45) (.tmp 46) 22 rfl w hb3 Try.underlying22 info_u8 rfl (by decide) _ _ _ rfl hown3 B m d (bs.map B8) rfl ((m3.below hb3).rc) (by rw [Hbm.out]; omega) (b8_oneCell bs) (by unfold maxLen; omega) (by omega) ?_; intro v4 w4 hown4 hb4))
        have hS4 : SB w4 v4 (R ++ bs) := SB.of_own (base := w.heap.size) (e := 5) (k := 0 + m2' + m) (by simpa only [List.nil_append, List.map_append] using hown4)
        have hS4' := hS4
        obtain ⟨A4, n4, c4, rfl, e1, e2, e3⟩ := hS4'
        have hn4 := e3.len
        rw [List.length_append, hl2, Hm.out] at hn4
        unfold maxLen at e2
        have hRb : (R ++ bs).length ≤ 140737488351232 := by rw [e3.len]; omega
        clear hown3 hown4 g3 g3' hownE hown hb3
        refine (whole_sb _ _ _ hS4 hRb).mono ?_
        rintro e w5 ⟨rfl, hb5⟩
        rw [Hj.out.2, ← Hrl.out, hl2]
        obtain ⟨q, hq⟩ : ∃ q, q = wholeOf bs := ⟨_, rfl⟩
        rw [← hq] at hwl
        have Hq := Lib.hid hq
        clear hq
        have hb05 := hb4.trans (hb5.mono hb4.size)
        have hS5 := hS4.below hb5
        have hbS : SB w (.slice B m d) bs := ⟨B, m, d, rfl, m1, m2, m3⟩
        rw [← Hq.out]
        go_wp2_with fail
        refine (whole_sb _ _ _ (hbS.below hb05) (by rw [Hm.out]; omega)).mono ?_
        rintro e w6 ⟨rfl, hb6⟩
        have hb06 := hb05.trans (hb6.mono hb05.size)
        have hS6 := hS5.below hb6
        rw [← Hq.out]
        go_wp2_with fail
        refine (count_sb _ _ _ hS6 hRb).mono ?_
        rintro e w7 ⟨rfl, hb7⟩
        have hb07 := hb06.trans (hb7.mono hb06.size)
        have hS7 := hS6.below hb7
        go_wp2_with fail
        refine (count_sb _ _ _ (hbS.below hb07) (by rw [Hm.out]; omega)).mono ?_
        rintro e w8 ⟨rfl, hb8⟩
        have hb08 := hb07.trans (hb8.mono hb07.size)
        have hS8 := hS7.below hb8
        have hfl := frames_len bs
        rw [Hm.out] at hfl
        rw [Hj.out.1, Hps.out]
        obtain ⟨F, hF⟩ : ∃ F, F = (frames bs).length := ⟨_, rfl⟩
        rw [← hF] at hfl ⊢
        have HF := Lib.hid hF
        clear hF
        go_wp2_with fail
        have hST : SB w8 (.slice A4 (m2' + q) c4) ((R ++ bs).take (m2' + q)) := by
          refine ⟨A4, m2' + q, c4, rfl, by omega, by unfold maxLen; omega, ?_⟩
          have := hS8
          obtain ⟨A', n', c', e, _, _, h3'⟩ := this
          injection e with e1 e2 e3
          subst e1 e2 e3
          exact RB.take h3' (by omega)
        have hTl : ((R ++ bs).take (m2' + q)).length ≤ 140737488351232 := by rw [List.length_take]; omega
        have hwt := Hww.out
        have hft := Hfw.out
        rw [hl2, ← Hq.out] at hwt hft
        refine (whole_sb _ _ _ hST hTl).mono ?_
        rintro e w9 ⟨rfl, hb9⟩
        have hb09 := hb08.trans (hb9.mono hb08.size)
        have hST9 := hST.below hb9
        have hS9 := hS8.below hb9
        rw [hwt]
        have Hft := Lib.hid hft
        clear hwt hft
        go_wp2_with fail
        refine (count_sb _ _ _ hST9 hTl).mono ?_
        rintro e w10 ⟨rfl, hb10⟩
        have hb010 := hb09.trans (hb10.mono hb09.size)
        have hS10 := hS9.below hb10
        rw [Hft.out, Hj.out.1, Hps.out, ← HF.out]
        go_wp2_with fail
        refine (count_sb _ _ _ hS10 hRb).mono ?_
        rintro e w11 ⟨rfl, hb11⟩
        rw [Hj.out.1, Hps.out, ← HF.out]
        go_wp2_with fail
        go_ret
        exact ⟨rfl, hb010.trans (hb11.mono hb010.size)⟩
end Go.Proofs.Ytdmiiageihbokaa
