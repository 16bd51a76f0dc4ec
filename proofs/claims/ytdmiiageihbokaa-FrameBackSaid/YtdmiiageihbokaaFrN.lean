/-
  THE WALK of the law FrameBack.
-/
import Derived.Test.YtdmiiageihbokaaFrM
import Derived.Test.YtdmiiageihbokaaSame
import Derived.Test.YtdmiiageihbokaaIterF
import Derived.Test.YtdmiiageihbokaaOpen
import Derived.Deep.RegionHeld3
namespace Go.Proofs.Ytdmiiageihbokaa
open Go.RowKit Go.Shelf Go.ChangeShapes Go.WideShapes Go.ChangeAt
attribute [local go_sem] Oper.semAt_some

theorem one_int (z : Int) : ∀ u ∈ [Value.int .i64 z], u.oneCell' = true := by
  intro u hu
  simp at hu
  subst hu
  rfl
set_option maxRecDepth 100000 in
set_option maxHeartbeats 4000000 in
theorem frameBack_law (w : World) (v0 : Value) (ps : List (List UInt8)) (h0 : SBs w v0 ps) (a : Int) (ha : (Lit.int .i64 a).wf = true) :
    Calls Try.prog 10 #[v0, .int .i64 a] w fun e w' => e = .returned (.bool true) ∧ Below w.heap.size w w' := by
  obtain ⟨ha1, ha2⟩ := bounds_i64 ha
  obtain ⟨vs, ⟨A, n, c, rfl, h1, h2, h3⟩, hl, hp⟩ := h0
  unfold maxLen at h2
  have hps : ps.length = n := by rw [← hl, h3.len]
  have Hps := Lib.hid hps
  clear hl hps
  refine (callsIn_wide (n := 9)).1 ?_
  refine callsIn_of_wp_marks Try.func10 rfl trivial ?_ rfl
  rw [wpIn_wide]
  simp only [Try.ntmps10, List.size_toArray, List.length_cons, List.length_nil, Nat.reduceAdd, Nat.reduceSub, Array.replicate_succ, Array.replicate_zero, List.push_toArray, List.append_toArray, List.nil_append, List.cons_append]
  go_wp2_with fail
  refine (alive7_any _).mono ?_
  rintro e w1 ⟨rfl, hb1⟩
  have hb01 : Below w.heap.size w w1 := (((Below.refl _ _).alloc (Nat.le_refl _) _).alloc (by simp) _).trans (hb1.mono (by simp; omega))
  have m1 : w1.heap[w.heap.size]? = some (.cells #[.slice A n c] 30 (0, 0)) := heap_below ((Below.heap_alloc _ _ _ (by simp)).trans (heap_alloc_new w _)) hb1
  have r1 : w1.heap[w.heap.size + 1]? = some (.cells #[.bool false] 4 (0, 0)) := heap_below (by have := heap_alloc_new (w.alloc (.cells #[.slice A n c] 30)) (.cells #[.bool false] 4); simpa using this) hb1
  have cm1 : w1.cell? ⟨w.heap.size, 0, none⟩ = some (.slice A n c) := by rw [cell_of_row _ _ _ _ _ _ m1]; rfl
  have hs1 : w.heap.size + 2 ≤ w1.heap.size := by have := hb1.size; simp at this; omega
  -- what an early return leaves
  have early : ∀ W, Below w1.heap.size w1 W → W.heap[w.heap.size + 1]? = some (.cells #[.bool false] 4 (0, 0)) ∧ W.cell? ⟨w.heap.size + 1, 0, none⟩ = some (.bool false) ∧
      (W.setCell ⟨w.heap.size + 1, 0, none⟩ (.bool true)).cell? ⟨w.heap.size + 1, 0, none⟩ = some (.bool true) ∧ Below w.heap.size w (W.setCell ⟨w.heap.size + 1, 0, none⟩ (.bool true)) := by
    intro W hb
    have r := heap_below r1 hb
    refine ⟨r, by rw [cell_of_row _ _ _ _ _ _ r]; rfl, ?_, (hb01.trans (hb.mono hb01.size)).setCell (p := ⟨w.heap.size + 1, 0, none⟩) (by simp) _⟩
    have r8 : (W.setCell ⟨w.heap.size + 1, 0, none⟩ (.bool true)).heap[w.heap.size + 1]? = some (.cells #[.bool true] 4 (0, 0)) := by
      rw [heap_setCell_same _ _ 0 _ _ _ r]; rfl
    rw [cell_of_row _ _ _ _ _ _ r8]; rfl
  have Early := Lib.hid early
  have R1 := Lib.hid r1
  have hx1 : w.heap.size < w1.heap.size := by omega
  have hx2 : w.heap.size < w1.heap.size + 1 := by omega
  have hx3 : w.heap.size < w1.heap.size + 1 + 1 := by omega
  clear hb1 early r1 m1
  go_wp2_with fail
  rw [show w1.heap.size + 1 + 1 = w1.heap.size + 2 from rfl]
  go_loopw [5, 21] (fun a i wr => ∃ (k : Nat) (E : Value), k ≤ n ∧ k ≤ 21 ∧ i = .int .i64 k ∧ Hid (BackIn w1 ps k a E wr) ∧ (∀ q ∈ ps.take k, q.length ≤ 300)) (fun _ i _ => n - (intOf i).toNat)
  case atStart =>
    refine ⟨0, .slice (some ⟨w1.heap.size + 1, 0, none⟩) 1 1, by omega, by omega, rfl, Lib.hid ⟨(((Below.refl _ _).alloc (Nat.le_refl _) _).alloc (by simp) _).alloc (by simp; omega) _, by simp, ?_, ?_, ?_⟩, by simp⟩
    · exact ((ownsRow_empty w1 _ _ (Nat.le_refl _)).alloc _).alloc _
    · exact heap_alloc_at _ _ _ (by simp)
    · refine ⟨by simp [endC], .inr ⟨w1.heap.size + 1, 1, #[.int .i64 0], rfl, by omega, ?_, by decide, by decide, by simp, by simp [endC, recsLen]⟩⟩
      exact (Below.heap_alloc _ _ _ (by simp)).trans (heap_alloc_at _ _ _ (by simp))
  case round =>
    obtain ⟨k, E, hk, hk21, rfl, hIn, hall⟩ := hrel
    have hbw := hIn.out.below
    have cw : wr.cell? ⟨w.heap.size, 0, none⟩ = some (.slice A n c) := (hbw.cell (p := ⟨w.heap.size, 0, none⟩) (by show w.heap.size < w1.heap.size; omega)).trans cm1
    have hb0 := hb01.trans (hbw.mono hb01.size)
    by_cases hlt : k < n
    · obtain ⟨b, o, u, rfl, hu, hc⟩ := (h3.below hb0).at_ hlt
      obtain ⟨er, ec, ec2, eb⟩ := Early.out wr hbw
      have ef := frozen_blk er 0
      clear er
      by_cases hk20 : 20 < k
      · go_wp2
        exact ⟨_, results_cell_bool rfl _ _ _ (w.heap.size + 1) (.bool true) rfl ec2 Try.underlying4, rfl, eb⟩
      · obtain ⟨p, hpk⟩ : ∃ p, ps[k]? = some p := ⟨_, List.getElem?_eq_getElem (by rw [Hps.out]; exact hlt)⟩
        have hS := (hp k u p hu hpk).below hb0
        obtain ⟨A', m', c', rfl, q1, q2, q3⟩ := id hS
        unfold maxLen at q2
        have hml := q3.len
        by_cases hl : 300 < m'
        · clear hp hall
          go_wp2
          exact ⟨_, results_cell_bool rfl _ _ _ (w.heap.size + 1) (.bool true) rfl ec2 Try.underlying4, rfl, eb⟩
        · have hsnoc : recs (ps.take (k + 1)) = recs (ps.take k) ++ recOf p := by rw [take_snoc hpk, recs_snoc]
          have hall' := all_snoc hpk hall (by omega : p.length ≤ 300)
          have hrl := recs_len (ps.take k)
          have hrl1 := recs_len (ps.take (k + 1))
          have hle := recsLen_le _ _ hall
          rw [List.length_take, Hps.out, Nat.min_eq_left hk] at hle
          have hrp := recOf_len p
          have hpm : p.length ≤ 300 := by omega
          obtain ⟨T, hT⟩ : ∃ T, T = recsLen (ps.take (k + 1)) := ⟨_, rfl⟩
          rw [← hT] at hrl1
          have hT1 : T = (recs (ps.take k)).length + (recOf p).length := by rw [← hrl1, hsnoc, List.length_append]
          have hTl : T ≤ 6800 := by omega
          obtain ⟨r, hr⟩ : ∃ r, r = recOf p := ⟨_, rfl⟩
          obtain ⟨Q, hQ⟩ : ∃ Q, Q = recs (ps.take k) := ⟨_, rfl⟩
          rw [← hQ, ← hr] at hsnoc hT1
          have HT := Lib.hid hT
          have HT1 := Lib.hid hT1
          have HQ := Lib.hid hQ
          have Hr := Lib.hid hr
          have Hsn := Lib.hid hsnoc
          have Hl1 := Lib.hid hrl1
          have Hall := Lib.hid hall'
          have Hpm := Lib.hid hpm
          obtain ⟨AE, cE, rfl, -, -, -, -⟩ := own_form hIn.out.ends
          clear hT hT1 hQ hr hsnoc hrl hrl1 hle hrp hpm hall hall' hml hu hpk q3
          go_wp2_with fail
          refine (put_sb wr _ p hS (by have := Hpm.out; omega)).mono ?_
          rintro e w2 ⟨v2, rfl, hown2, hb2⟩
          have hIn2 := hIn.out.next hb2
          rw [← Hr.out] at hown2
          have hrow2 := hIn2.row
          rw [← HQ.out] at hrow2
          have hbW2 := hIn2.below
          have hS2 : SB w2 v2 r := SB.of_own hown2
          obtain ⟨A2, m2, c2, rfl, _, _, g3⟩ := hS2
          have hl2 := g3.len
          have HI2 := Lib.hid hIn2
          have hTm : Q.length + m2 = T := by rw [HT1.out, hl2]
          clear hown2 hIn2 hS
          go_wp2_with (first
            | (at_builtin; refine wpList_append_keep rfl (.tmp 40) (.tmp 41) 22 rfl w1 hbW2 Try.underlying22 info_u8 rfl (by decide) u5 Q.length (Q.map B8) rfl hrow2 A2 m2 c2 (r.map B8) rfl g3.rc (by rw [List.length_map, hl2]; omega) (b8_oneCell r) (by unfold maxLen; omega) (by omega) ?_; intro v3 w3 hown3 hb3 hkeep3 hgr3 hor3; rw [hTm] at hown3; obtain ⟨A3, c3, rfl, -, -, -, -⟩ := own_form hown3; obtain ⟨x1, x2⟩ := HI2.out.grow hgr3; have ce3 : w3.cell? ⟨w1.heap.size + 2, 0, none⟩ = some (.slice AE (k + 1) cE) := (by rw [cell_of_row _ _ _ _ _ _ x1]; rfl))
            | (at_builtin; refine wpList_append_keep rfl (.tmp 43) (.tmp 46) 57 rfl w1 (hb3.alloc hb3.size _) Try.underlying57 info_int rfl (by decide) (.slice AE (k + 1) cE) (k + 1) (endC ps k) rfl (x2.alloc _) (some ⟨w3.heap.size, 0, none⟩) 1 1 [.int .i64 (T : Int)] rfl (rc_new w3 _ _ _) rfl (one_int _) (by unfold maxLen; omega) (by omega) ?_; intro v5 w5 hown5 hb5 hkeep5 hgr5 hor5; rw [HT.out, ← endC_succ] at hown5; obtain ⟨A5, c5, rfl, -, -, -, -⟩ := own_form hown5; obtain ⟨y1, y2⟩ := BackIn.step (c := .int .i64 (T : Int)) (Nat.le_trans HI2.out.sz hgr3.size) (by rw [Hl1.out, Hsn.out, List.map_append]; exact hown3) x1 x2 hown5 hb5 hgr5; have ce5 : w5.cell? ⟨w1.heap.size + 2, 0, none⟩ = some (.slice AE (k + 1) cE) := (by rw [cell_of_row _ _ _ _ _ _ y1]; rfl); have fe5 := frozen_blk y1 0; have Y2 := Lib.hid y2; clear y1 y2 x1 x2))
          go_roundw
          case rel => exact ⟨k + 1, _, by omega, by omega, by go_num, Y2, Hall.out⟩
          case measure => simp [intOf]; omega
    · obtain rfl : k = n := by omega
      have hfull : ps.take k = ps := List.take_of_length_le (by rw [Hps.out]; exact Nat.le_refl _)
      have hrow := hIn.out.row
      have hends := hIn.out.ends
      have hebox := hIn.out.ebox
      have hsz := hIn.out.sz
      rw [hfull] at hrow hall
      have hle := recsLen_le _ _ hall
      have hrl := recs_len ps
      rw [Hps.out] at hle
      have hp6 : ∀ p ∈ ps, p.length ≤ 65536 := fun p h => by have := hall p h; omega
      have hfr := frames_recs ps hp6
      have hwh := whole_frs ps hfr
      have hfl : (frames (recs ps)).length = k := by rw [hfr, frs_length, Hps.out]
      obtain ⟨R, hR⟩ : ∃ R, R = recs ps := ⟨_, rfl⟩
      obtain ⟨L, hL⟩ : ∃ L, L = recsLen ps := ⟨_, rfl⟩
      rw [← hR] at hrow hrl hwh hfl
      rw [← hL] at hrl hwh hle
      rw [hrl] at hrow
      obtain ⟨AR, cR, rfl, hcR1, hcR2, hRrv, hRad⟩ := own_form hrow
      obtain ⟨gE, cE, rfl, hgE1, hgE2⟩ := hends.form (by omega)
      have hRB : RB wr AR L R := hRrv
      have hcR2' := hcR2
      unfold maxLen at hcR2'
      have hL7 : L ≤ 6800 := by omega
      have ce : wr.cell? ⟨w1.heap.size + 2, 0, none⟩ = some (.slice (some ⟨gE, 0, none⟩) (k + 1) cE) := by rw [cell_of_row _ _ _ _ _ _ hebox]; rfl
      have cE_at : ∀ j, j ≤ k → wr.cell? ⟨gE, j, none⟩ = some (.int .i64 (recsLen (ps.take j) : Int)) := by
        intro j hj
        rw [hends.cellAt j (by omega), endC_at ps hj]
      obtain ⟨J, hJ, hJL⟩ : ∃ J : Nat, (IntKind.u64.wrap a).tmod ((L : Int) + 1) = (J : Int) ∧ J ≤ L := by
        have h0 : 0 ≤ IntKind.u64.wrap a := wrap_u64_nonneg a
        rw [Int.tmod_eq_emod_of_nonneg h0]
        have h3 := Int.emod_nonneg (IntKind.u64.wrap a) (b := (L : Int) + 1) (by omega)
        have h4 := Int.emod_lt_of_pos (IntKind.u64.wrap a) (b := (L : Int) + 1) (by omega)
        exact ⟨(IntKind.u64.wrap a % ((L : Int) + 1)).toNat, by omega, by omega⟩
      have HR := Lib.hid hR
      have HL := Lib.hid hL
      have Hrl := Lib.hid hrl
      have Hwh := Lib.hid hwh
      have Hfl := Lib.hid hfl
      have Hp6 := Lib.hid hp6
      have HcE := Lib.hid cE_at
      have Hrow := Lib.hid hrow
      have HRad := Lib.hid hRad
      clear hfull hR hL hrl hwh hfl hp6 cE_at hfr hle hall hrow hends hRrv hRad
      obtain ⟨w3, rfl⟩ : ∃ w3, w3 = wr := ⟨_, rfl⟩
      go_wp2
      go_loopw [11] (fun l wq => ∃ i : Nat, i ≤ k ∧ l = .int .i64 i ∧ recsLen (ps.take i) ≤ J ∧ Below w3.heap.size w3 wq) (fun l _ => k - (intOf l).toNat)
      case atStart => exact ⟨0, by omega, rfl, by simp [recsLen], Below.refl _ _⟩
      case round =>
        obtain ⟨i, hi, rfl, hiJ, hb⟩ := hrel
        have ce' : wr.cell? ⟨w1.heap.size + 2, 0, none⟩ = some (.slice (some ⟨gE, 0, none⟩) (k + 1) cE) := (hb.cell (p := ⟨w1.heap.size + 2, 0, none⟩) (by show w1.heap.size + 2 < w3.heap.size; omega)).trans ce
        have cEi : ∀ j, j ≤ k → wr.cell? ⟨gE, j, none⟩ = some (.int .i64 (recsLen (ps.take j) : Int)) := fun j hj => (hb.cell (p := ⟨gE, j, none⟩) hgE2).trans (HcE.out j hj)
        by_cases hgo : i < k ∧ recsLen (ps.take (i + 1)) ≤ J
        · obtain ⟨T, hT⟩ : ∃ T, T = recsLen (ps.take (i + 1)) := ⟨_, rfl⟩
          have c1 := cEi (i + 1) (by omega)
          rw [← hT] at c1 hgo
          have hd : decide ((T : Int) ≤ (J : Int)) = true := decide_eq_true (by omega)
          have HT := Lib.hid hT
          have hik := hgo.1
          have hTJ := hgo.2
          clear hT cEi hgo
          go_wp2
          go_roundw
          case rel => exact ⟨i + 1, by omega, by go_num, by rw [← HT.out]; exact hTJ, hb⟩
          case measure => simp [intOf]; omega
        · have hend : i = k ∨ (i < k ∧ J < recsLen (ps.take (i + 1))) := by omega
          have hcut := frames_cut ps J i Hp6.out (by rw [Hps.out]; exact hi) hiJ (by rw [Hps.out]; omega)
          rw [← HR.out] at hcut
          have hcf : (frames (R.take J)).length = i := by rw [hcut, frs_length, List.length_take, Hps.out]; omega
          have hcw := whole_frs _ hcut
          obtain ⟨V, hV⟩ : ∃ V, V = recsLen (ps.take i) := ⟨_, rfl⟩
          rw [← hV] at hcw
          have hi0 := cEi i hi
          rw [← hV] at hi0
          have SR : SB w3 (.slice AR L cR) R := ⟨_, _, _, rfl, hcR1, hcR2, hRB⟩
          have ST : SB w3 (.slice AR J cR) (R.take J) := ⟨_, _, _, rfl, by omega, hcR2, RB.take hRB hJL⟩
          have hVe := HcE.out i hi
          rw [← hV] at hVe
          have S0 : ∀ w', Below w3.heap.size w3 w' → w'.cell? ⟨w.heap.size, 0, none⟩ = some (.slice A k c) ∧ w'.cell? ⟨w1.heap.size + 2, 0, none⟩ = some (.slice (some ⟨gE, 0, none⟩) (k + 1) cE) ∧ w'.cell? ⟨gE, i, none⟩ = some (.int .i64 (V : Int)) ∧ Below w3.heap.size w3 w' := by
            intro w' hb
            refine ⟨(hb.cell (p := ⟨w.heap.size, 0, none⟩) (by show w.heap.size < w3.heap.size; omega)).trans cw, (hb.cell (p := ⟨w1.heap.size + 2, 0, none⟩) (by show w1.heap.size + 2 < w3.heap.size; omega)).trans ce, (hb.cell (p := ⟨gE, i, none⟩) hgE2).trans hVe, hb⟩
          obtain ⟨cnt, hcnt⟩ : ∃ cnt : Nat → Nat, cnt = fun N => (frames (R.take N)).length := ⟨_, rfl⟩
          obtain ⟨whl, hwhl⟩ : ∃ whl : Nat → Nat, whl = fun N => wholeOf (R.take N) := ⟨_, rfl⟩
          have hRL : R.take L = R := List.take_of_length_le (by rw [Hrl.out]; exact Nat.le_refl _)
          have e1 : cnt L = k := by rw [hcnt]; show (frames (R.take L)).length = k; rw [hRL]; exact Hfl.out
          have e2 : cnt J = i := by rw [hcnt]; exact hcf
          have e3 : whl L = L := by rw [hwhl]; show wholeOf (R.take L) = L; rw [hRL]; exact Hwh.out
          have e4 : whl J = V := by rw [hwhl]; exact hcw
          have SN : ∀ N wx, N ≤ L → Below w3.heap.size w3 wx → SB wx (.slice AR N cR) (R.take N) := fun N wx hN hb => SB.below ⟨_, _, _, rfl, by omega, hcR2, RB.take hRB hN⟩ hb
          have C1 : ∀ wx N, (Below w3.heap.size w3 wx) → N ≤ L → Calls Try.prog 33 #[.slice AR N cR] wx fun e w' => e = .returned (.int .i64 (cnt N : Int)) ∧ w'.cell? ⟨w.heap.size, 0, none⟩ = some (.slice A k c) ∧ w'.cell? ⟨w1.heap.size + 2, 0, none⟩ = some (.slice (some ⟨gE, 0, none⟩) (k + 1) cE) ∧ w'.cell? ⟨gE, i, none⟩ = some (.int .i64 (V : Int)) ∧ Below w3.heap.size w3 w' := fun wx N hb hN => (count_sb wx _ (R.take N) (SN N wx hN hb) (by rw [List.length_take]; omega)).mono fun e w' ⟨h1, h2⟩ => ⟨by rw [h1, hcnt], S0 w' (hb.trans (h2.mono hb.size))⟩
          have C2 : ∀ wx N, (Below w3.heap.size w3 wx) → N ≤ L → Calls Try.prog 31 #[.slice AR N cR] wx fun e w' => e = .returned (.int .i64 (whl N : Int)) ∧ w'.cell? ⟨w.heap.size, 0, none⟩ = some (.slice A k c) ∧ w'.cell? ⟨w1.heap.size + 2, 0, none⟩ = some (.slice (some ⟨gE, 0, none⟩) (k + 1) cE) ∧ w'.cell? ⟨gE, i, none⟩ = some (.int .i64 (V : Int)) ∧ Below w3.heap.size w3 w' := fun wx N hb hN => (whole_sb wx _ (R.take N) (SN N wx hN hb) (by rw [List.length_take]; omega)).mono fun e w' ⟨h1, h2⟩ => ⟨by rw [h1, hwhl], S0 w' (hb.trans (h2.mono hb.size))⟩
          have hLL : L ≤ L := Nat.le_refl _
          have hJ0 : (0 : Int) ≤ (J : Int) := by omega
          have hJc : (J : Int) ≤ (cR : Int) := by omega
          have hJc2 : J ≤ cR := by omega
          have hi1 : (0 : Int) ≤ (i : Int) := by omega
          have hi2 : (i : Int) < (k : Int) + 1 := by omega
          have E1 := Lib.hid e1
          have E2 := Lib.hid e2
          have E3 := Lib.hid e3
          have E4 := Lib.hid e4
          have HC1 := Lib.hid C1
          have HC2 := Lib.hid C2
          clear hcnt hwhl hRL e1 e2 e3 e4 C1 C2
          have HS0 := Lib.hid S0
          have hIb := hIn.out.below
          have HbW := Lib.hid hb
          have Hcut := Lib.hid hcut
          have Hcf := Lib.hid hcf
          have hVJ : V ≤ J := by omega
          have HV := Lib.hid hV
          have HSR := Lib.hid SR
          have HST := Lib.hid ST
          have cw' : wr.cell? ⟨w.heap.size, 0, none⟩ = some (.slice A k c) := (HS0.out wr hb).1
          rcases hend with hend | ⟨hend, hTJ⟩
          · have hd : ¬ (i : Int) + 1 < (k : Int) + 1 := by omega
            have Hend := Lib.hid hend
            clear hgo hcut hcf hcw hV S0 hend hVe cEi SR ST
            go_wp2_with fail
            go_region_held3 (fun w' => w'.cell? ⟨w.heap.size, 0, none⟩ = some (.slice A k c) ∧ w'.cell? ⟨w1.heap.size + 2, 0, none⟩ = some (.slice (some ⟨gE, 0, none⟩) (k + 1) cE) ∧ w'.cell? ⟨gE, i, none⟩ = some (.int .i64 (V : Int)) ∧ Below w3.heap.size w3 w') (first | exact HS0.out _ (below_drewN HbW.out 1) | assumption)
              (first
                | (go_at_call 33; refine (HC1.out _ _ (And.right (And.right (And.right (by assumption)))) (by assumption)).mono ?_; rintro e w' ⟨rfl, hs⟩; first | rw [E1.out] | rw [E2.out])
                | (go_at_call 31; refine (HC2.out _ _ (And.right (And.right (And.right (by assumption)))) (by assumption)).mono ?_; rintro e w' ⟨rfl, hs⟩; first | rw [E3.out] | rw [E4.out]))
            all_goals
              go_wp2_with fail
              refine (all_any _ AR J cR).mono ?_
              rintro e w6 ⟨rfl, hw6⟩
              go_wp2_with fail
              obtain ⟨W5, rfl⟩ : ∃ W5, W5 = w' := ⟨_, rfl⟩
              have hsB := hs.2.2.2
              have hb6 : Below W5.heap.size W5 w6 := by rw [← hw6]; exact ((Below.refl _ _).alloc (Nat.le_refl _) _).alloc (by simp) _
              have k6 : w6.heap[W5.heap.size]? = some (.cells #[.int .i64 ((0 : Nat) : Int)] 3 (0, 0)) := by
                rw [← hw6]
                exact (Below.heap_alloc _ _ _ (by simp)).trans (heap_alloc_new W5 _)
              have c6 : w6.heap[W5.heap.size + 1]? = some (.cells #[.slice AR J cR] 22 (0, 0)) := by
                rw [← hw6]
                exact heap_alloc_at _ _ _ (by simp)
              have s6 : w6.heap.size = W5.heap.size + 2 := by rw [← hw6]; simp
              have hc6 : w6.cell? ⟨W5.heap.size + 1, 0, none⟩ = some (.slice AR J cR) := by rw [cell_of_row _ _ _ _ _ _ c6]; rfl
              have hRJ : RB w6 AR J (R.take J) := RV.below (RV.below (RB.take hRB hJL) hsB) hb6
              have hAR : ∀ ad, AR = some ad → 0 < J → ad.block < W5.heap.size := by
                intro ad hA _
                exact Nat.lt_of_lt_of_le (Hrow.out.lt _ (HRad.out ad hA).1).2 hsB.size
              have hw3 : w1.heap.size + 3 ≤ W5.heap.size := Nat.le_trans hsz hsB.size
              refine wp_rangeIterF (n := 9) rfl (enters_of Try.func38 (by kernel_rfl) rfl) (all1_iter (W5.heap.size + 1) AR J cR (R.take J) W5.heap.size (by omega) (by omega) hcR2) (fun k args W h => frOk_size h) (fun h k => frKp_t h k)
                (fun W l o o' hl h _ => frKp_b (m := w6.heap.size) (by omega) (by omega) o' hl h) (fun k args W l o o' h _ hl ho => frOk_putObj h o' hl ho)
                (fun kk W => W.heap[W5.heap.size]? = some (.cells #[.int .i64 (kk : Int)] 3 (0, 0)) ∧ Below W5.heap.size W5 W) (fun _ _ _ => False)
                (fun k W W' h hb => ⟨heap_below h.1 hb, h.2.trans (hb.mono h.2.size)⟩) (fun c k W W' h hb => h)
                (fun k W l o o' h hl ho hoc => ⟨heap_putObj h.1 o' ho hoc, below_putObj W l o' h.2 (by omega) h.2.size⟩) (fun c k W l o o' h _ _ _ => h)
                (fun W hb => ⟨(hb.cell (p := ⟨W5.heap.size + 1, 0, none⟩) (by show W5.heap.size + 1 < w6.heap.size; omega)).trans hc6, hRJ.below hb, hAR⟩)
                ⟨k6, hb6⟩
                (fun args T => (((T.setIfInBounds 108 (args.getD 0 undef)).setIfInBounds 109 (args.getD 1 undef)).setIfInBounds 13 (args.getD 0 undef)).setIfInBounds 14 (args.getD 1 undef))
                ?assign ?body ?done ?stop
              case assign =>
                rintro l k args W K ⟨x, v, _, rfl, _⟩ hK
                gi_wp2
                simpa using hK
              case body =>
                rintro l kk args W hk ⟨hbx, hbw⟩ ⟨x, v, hx, rfl, hSv⟩
                simp only [show ∀ a b : Value, #[a, b].getD 0 undef = a from fun _ _ => rfl, show ∀ a b : Value, #[a, b].getD 1 undef = b from fun _ _ => rfl, List.setIfInBounds_toArray, List.set_cons_succ, List.set_cons_zero]
                rw [Hcf.out] at hk
                rw [Hcut.out] at hx
                obtain ⟨q, hq⟩ : ∃ q, ps[kk]? = some q := ⟨_, List.getElem?_eq_getElem (by rw [Hps.out]; omega)⟩
                rw [frs_at (ps.take i) 0 kk q (by rw [List.getElem?_take, if_pos hk]; exact hq), List.take_take, Nat.min_eq_left (by omega), Nat.zero_add] at hx
                cases hx
                have hbW := hsB.trans (hbw.mono hsB.size)
                obtain ⟨d1, d2, d3, -⟩ := HS0.out W hbW
                have d4 : W.cell? ⟨gE, kk, none⟩ = some (.int .i64 (recsLen (ps.take kk) : Int)) := (hbW.cell (p := ⟨gE, kk, none⟩) hgE2).trans (HcE.out kk (by omega))
                have d5 : W.cell? ⟨W5.heap.size, 0, none⟩ = some (.int .i64 (kk : Int)) := by rw [cell_of_row _ _ _ _ _ _ hbx]; rfl
                have d6 := frozen_blk hbx 0
                have hb0W := hb0.trans (hbW.mono hb0.size)
                obtain ⟨bp, op, u, hA, hu, hcu⟩ := (h3.below hb0W).at_ (k := kk) (by omega)
                have hSu := (hp kk u q hu hq).below hb0W
                obtain ⟨t, ht⟩ : ∃ t, t = recsLen (ps.take kk) := ⟨_, rfl⟩
                rw [← ht] at d4 ⊢
                have Hbx := Lib.hid hbx
                have hkk0 : (0 : Int) ≤ (kk : Int) := by omega
                have hkk1 : (kk : Int) < (k : Int) := by omega
                have hkk2 : (kk : Int) < (k : Int) + 1 := by omega
                subst hA
                clear hbx hq hu ht
                gi_wp2_with fail
                refine ⟨trivial, CallsIn.inRound l (callsIn_wide.2 ((same_sb W v u q q hSv hSu).mono ?_))⟩
                rintro e W' ⟨rfl, rfl⟩
                rw [decide_eq_true rfl]
                gi_wp2
                refine ⟨KeepsOthers.setCell _ _ _, ⟨(Below.refl W5.heap.size W).setCell (p := ⟨W5.heap.size, 0, none⟩) (Nat.le_refl _) _, ?_⟩, ?_, hbw.setCell (p := ⟨W5.heap.size, 0, none⟩) (Nat.le_refl _) _⟩
                · exact World.cell?_setCell_other W _ _ _ (fun e => by simp at e)
                · rw [heap_setCell_same W W5.heap.size 0 _ _ _ Hbx.out]
                  rfl
              case done =>
                rintro D W hD ⟨hbx, hbw⟩ hK
                rw [Hcf.out] at hbx
                have d5 : W.cell? ⟨W5.heap.size, 0, none⟩ = some (.int .i64 (i : Int)) := by rw [cell_of_row _ _ _ _ _ _ hbx]; rfl
                have hbW := hsB.trans (hbw.mono hsB.size)
                obtain ⟨er, ec, ec2, eb⟩ := Early.out W (hIb.trans (hbW.mono hIb.size))
                have ef := frozen_blk er 0
                have Er := Lib.hid er
                clear hbx er
                simp only [Exit.inBlock, Exit.then]
                go_wp2
                have k8 : (W.setCell ⟨w.heap.size + 1, 0, none⟩ (.bool true)).heap[D]? = some (.deferred (some [])) := by
                  rw [Below.heap_setCell _ _ _ _ (by show D ≠ w.heap.size + 1; omega)]
                  exact hK
                have r8 : (W.setCell ⟨w.heap.size + 1, 0, none⟩ (.bool true)).heap[w.heap.size + 1]? = some (.cells #[.bool true] 4 (0, 0)) := by
                  rw [heap_setCell_same _ _ 0 _ _ _ Er.out]; rfl
                refine ⟨by simp, .inl ⟨_, _, rfl, run_takeDeferred k8, ?_⟩⟩
                exact ⟨_, results_cell_bool rfl _ _ _ (w.heap.size + 1) (.bool true) rfl (by rw [cell_of_row _ _ _ _ _ _ (heap_putObj r8 _ k8 rfl)]; rfl) Try.underlying4, rfl, below_putObj _ D _ eb (by omega) eb.size⟩
              case stop =>
                intro D c k W _ _ h _
                exact h.elim
          · obtain ⟨T, hT⟩ : ∃ T, T = recsLen (ps.take (i + 1)) := ⟨_, rfl⟩
            have c1 := cEi (i + 1) (by omega)
            rw [← hT] at c1 hTJ
            have hd : decide ((T : Int) ≤ (J : Int)) = false := decide_eq_false (by omega)
            clear hgo hcut hcf hcw hV S0 hT hVe cEi SR ST
            go_wp2_with fail
            go_region_held3 (fun w' => w'.cell? ⟨w.heap.size, 0, none⟩ = some (.slice A k c) ∧ w'.cell? ⟨w1.heap.size + 2, 0, none⟩ = some (.slice (some ⟨gE, 0, none⟩) (k + 1) cE) ∧ w'.cell? ⟨gE, i, none⟩ = some (.int .i64 (V : Int)) ∧ Below w3.heap.size w3 w') (first | exact HS0.out _ (below_drewN HbW.out 1) | assumption)
              (first
                | (go_at_call 33; refine (HC1.out _ _ (And.right (And.right (And.right (by assumption)))) (by assumption)).mono ?_; rintro e w' ⟨rfl, hs⟩; first | rw [E1.out] | rw [E2.out])
                | (go_at_call 31; refine (HC2.out _ _ (And.right (And.right (And.right (by assumption)))) (by assumption)).mono ?_; rintro e w' ⟨rfl, hs⟩; first | rw [E3.out] | rw [E4.out]))
            all_goals
              go_wp2_with fail
              refine (all_any _ AR J cR).mono ?_
              rintro e w6 ⟨rfl, hw6⟩
              go_wp2_with fail
              obtain ⟨W5, rfl⟩ : ∃ W5, W5 = w' := ⟨_, rfl⟩
              have hsB := hs.2.2.2
              have hb6 : Below W5.heap.size W5 w6 := by rw [← hw6]; exact ((Below.refl _ _).alloc (Nat.le_refl _) _).alloc (by simp) _
              have k6 : w6.heap[W5.heap.size]? = some (.cells #[.int .i64 ((0 : Nat) : Int)] 3 (0, 0)) := by
                rw [← hw6]
                exact (Below.heap_alloc _ _ _ (by simp)).trans (heap_alloc_new W5 _)
              have c6 : w6.heap[W5.heap.size + 1]? = some (.cells #[.slice AR J cR] 22 (0, 0)) := by
                rw [← hw6]
                exact heap_alloc_at _ _ _ (by simp)
              have s6 : w6.heap.size = W5.heap.size + 2 := by rw [← hw6]; simp
              have hc6 : w6.cell? ⟨W5.heap.size + 1, 0, none⟩ = some (.slice AR J cR) := by rw [cell_of_row _ _ _ _ _ _ c6]; rfl
              have hRJ : RB w6 AR J (R.take J) := RV.below (RV.below (RB.take hRB hJL) hsB) hb6
              have hAR : ∀ ad, AR = some ad → 0 < J → ad.block < W5.heap.size := by
                intro ad hA _
                exact Nat.lt_of_lt_of_le (Hrow.out.lt _ (HRad.out ad hA).1).2 hsB.size
              have hw3 : w1.heap.size + 3 ≤ W5.heap.size := Nat.le_trans hsz hsB.size
              refine wp_rangeIterF (n := 9) rfl (enters_of Try.func38 (by kernel_rfl) rfl) (all1_iter (W5.heap.size + 1) AR J cR (R.take J) W5.heap.size (by omega) (by omega) hcR2) (fun k args W h => frOk_size h) (fun h k => frKp_t h k)
                (fun W l o o' hl h _ => frKp_b (m := w6.heap.size) (by omega) (by omega) o' hl h) (fun k args W l o o' h _ hl ho => frOk_putObj h o' hl ho)
                (fun kk W => W.heap[W5.heap.size]? = some (.cells #[.int .i64 (kk : Int)] 3 (0, 0)) ∧ Below W5.heap.size W5 W) (fun _ _ _ => False)
                (fun k W W' h hb => ⟨heap_below h.1 hb, h.2.trans (hb.mono h.2.size)⟩) (fun c k W W' h hb => h)
                (fun k W l o o' h hl ho hoc => ⟨heap_putObj h.1 o' ho hoc, below_putObj W l o' h.2 (by omega) h.2.size⟩) (fun c k W l o o' h _ _ _ => h)
                (fun W hb => ⟨(hb.cell (p := ⟨W5.heap.size + 1, 0, none⟩) (by show W5.heap.size + 1 < w6.heap.size; omega)).trans hc6, hRJ.below hb, hAR⟩)
                ⟨k6, hb6⟩
                (fun args T => (((T.setIfInBounds 108 (args.getD 0 undef)).setIfInBounds 109 (args.getD 1 undef)).setIfInBounds 13 (args.getD 0 undef)).setIfInBounds 14 (args.getD 1 undef))
                ?assign ?body ?done ?stop
              case assign =>
                rintro l k args W K ⟨x, v, _, rfl, _⟩ hK
                gi_wp2
                simpa using hK
              case body =>
                rintro l kk args W hk ⟨hbx, hbw⟩ ⟨x, v, hx, rfl, hSv⟩
                simp only [show ∀ a b : Value, #[a, b].getD 0 undef = a from fun _ _ => rfl, show ∀ a b : Value, #[a, b].getD 1 undef = b from fun _ _ => rfl, List.setIfInBounds_toArray, List.set_cons_succ, List.set_cons_zero]
                rw [Hcf.out] at hk
                rw [Hcut.out] at hx
                obtain ⟨q, hq⟩ : ∃ q, ps[kk]? = some q := ⟨_, List.getElem?_eq_getElem (by rw [Hps.out]; omega)⟩
                rw [frs_at (ps.take i) 0 kk q (by rw [List.getElem?_take, if_pos hk]; exact hq), List.take_take, Nat.min_eq_left (by omega), Nat.zero_add] at hx
                cases hx
                have hbW := hsB.trans (hbw.mono hsB.size)
                obtain ⟨d1, d2, d3, -⟩ := HS0.out W hbW
                have d4 : W.cell? ⟨gE, kk, none⟩ = some (.int .i64 (recsLen (ps.take kk) : Int)) := (hbW.cell (p := ⟨gE, kk, none⟩) hgE2).trans (HcE.out kk (by omega))
                have d5 : W.cell? ⟨W5.heap.size, 0, none⟩ = some (.int .i64 (kk : Int)) := by rw [cell_of_row _ _ _ _ _ _ hbx]; rfl
                have d6 := frozen_blk hbx 0
                have hb0W := hb0.trans (hbW.mono hb0.size)
                obtain ⟨bp, op, u, hA, hu, hcu⟩ := (h3.below hb0W).at_ (k := kk) (by omega)
                have hSu := (hp kk u q hu hq).below hb0W
                obtain ⟨t, ht⟩ : ∃ t, t = recsLen (ps.take kk) := ⟨_, rfl⟩
                rw [← ht] at d4 ⊢
                have Hbx := Lib.hid hbx
                have hkk0 : (0 : Int) ≤ (kk : Int) := by omega
                have hkk1 : (kk : Int) < (k : Int) := by omega
                have hkk2 : (kk : Int) < (k : Int) + 1 := by omega
                subst hA
                clear hbx hq hu ht
                gi_wp2_with fail
                refine ⟨trivial, CallsIn.inRound l (callsIn_wide.2 ((same_sb W v u q q hSv hSu).mono ?_))⟩
                rintro e W' ⟨rfl, rfl⟩
                rw [decide_eq_true rfl]
                gi_wp2
                refine ⟨KeepsOthers.setCell _ _ _, ⟨(Below.refl W5.heap.size W).setCell (p := ⟨W5.heap.size, 0, none⟩) (Nat.le_refl _) _, ?_⟩, ?_, hbw.setCell (p := ⟨W5.heap.size, 0, none⟩) (Nat.le_refl _) _⟩
                · exact World.cell?_setCell_other W _ _ _ (fun e => by simp at e)
                · rw [heap_setCell_same W W5.heap.size 0 _ _ _ Hbx.out]
                  rfl
              case done =>
                rintro D W hD ⟨hbx, hbw⟩ hK
                rw [Hcf.out] at hbx
                have d5 : W.cell? ⟨W5.heap.size, 0, none⟩ = some (.int .i64 (i : Int)) := by rw [cell_of_row _ _ _ _ _ _ hbx]; rfl
                have hbW := hsB.trans (hbw.mono hsB.size)
                obtain ⟨er, ec, ec2, eb⟩ := Early.out W (hIb.trans (hbW.mono hIb.size))
                have ef := frozen_blk er 0
                have Er := Lib.hid er
                clear hbx er
                simp only [Exit.inBlock, Exit.then]
                go_wp2
                have k8 : (W.setCell ⟨w.heap.size + 1, 0, none⟩ (.bool true)).heap[D]? = some (.deferred (some [])) := by
                  rw [Below.heap_setCell _ _ _ _ (by show D ≠ w.heap.size + 1; omega)]
                  exact hK
                have r8 : (W.setCell ⟨w.heap.size + 1, 0, none⟩ (.bool true)).heap[w.heap.size + 1]? = some (.cells #[.bool true] 4 (0, 0)) := by
                  rw [heap_setCell_same _ _ 0 _ _ _ Er.out]; rfl
                refine ⟨by simp, .inl ⟨_, _, rfl, run_takeDeferred k8, ?_⟩⟩
                exact ⟨_, results_cell_bool rfl _ _ _ (w.heap.size + 1) (.bool true) rfl (by rw [cell_of_row _ _ _ _ _ _ (heap_putObj r8 _ k8 rfl)]; rfl) Try.underlying4, rfl, below_putObj _ D _ eb (by omega) eb.size⟩
              case stop =>
                intro D c k W _ _ h _
                exact h.elim
end Go.Proofs.Ytdmiiageihbokaa
