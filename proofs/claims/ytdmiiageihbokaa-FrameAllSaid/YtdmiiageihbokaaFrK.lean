/-
  THE WALK of the law FrameAll.
-/
import Derived.Test.YtdmiiageihbokaaFrJ
import Derived.Test.YtdmiiageihbokaaFrG
import Derived.Test.YtdmiiageihbokaaSame
import Derived.Test.YtdmiiageihbokaaOpen
import Derived.Deep.RegionHeld3
namespace Go.Proofs.Ytdmiiageihbokaa
open Go.RowKit Go.Shelf Go.ChangeShapes Go.WideShapes Go.ChangeAt
attribute [local go_sem] Oper.semAt_some

set_option maxRecDepth 100000 in
set_option maxHeartbeats 4000000 in
theorem frameAll_any (w : World) (A : Option Addr) (n c : Nat) (row : List UInt8) (hr : RB w A n row) (hc : n ≤ c) (hcm : c ≤ maxLen) (hn : n ≤ 10000) (a : Int) (ha : (Lit.int .i64 a).wf = true) :
    Calls Try.prog 9 #[.slice A n c, .int .i64 a] w fun e w' => e = .returned (.bool true) ∧ Below w.heap.size w w' := by
  obtain ⟨ha1, ha2⟩ := bounds_i64 ha
  have hpl := hr.len
  have Hpl := Lib.hid hpl
  have hS : SB w (.slice A n c) row := ⟨A, n, c, rfl, hc, hcm, hr⟩
  clear hpl hr
  refine (callsIn_wide (n := 9)).1 ?_
  refine callsIn_of_wp_marks Try.func9 rfl trivial ?_ rfl
  simp only [Try.ntmps9, List.size_toArray, List.length_cons, List.length_nil, Nat.reduceAdd, Nat.reduceSub, Array.replicate_succ, Array.replicate_zero, List.push_toArray, List.append_toArray, List.nil_append, List.cons_append]
  gi_wp2_with fail
  refine ⟨trivial, callsIn_wide.2 ((alive7_any _).mono ?_)⟩
  rintro e w1 ⟨rfl, hb1⟩
  have hb01 : Below w.heap.size w w1 := (((Below.refl _ _).alloc (Nat.le_refl _) _).alloc (by simp) _).trans (hb1.mono (by simp; omega))
  have m1 : w1.heap[w.heap.size]? = some (.cells #[.int .i64 a] 3 (0, 0)) := heap_below ((Below.heap_alloc _ _ _ (by simp)).trans (heap_alloc_new w _)) hb1
  have r1 : w1.heap[w.heap.size + 1]? = some (.cells #[.bool false] 4 (0, 0)) := heap_below (by have := heap_alloc_new (w.alloc (.cells #[.int .i64 a] 3)) (.cells #[.bool false] 4); simpa using this) hb1
  have cm1 : w1.cell? ⟨w.heap.size, 0, none⟩ = some (.int .i64 a) := by rw [cell_of_row _ _ _ _ _ _ m1]; rfl
  have fm1 := frozen_blk m1 0
  have hn' : ¬ (10000 : Int) < (n : Int) := by omega
  obtain ⟨M, hM, hM20⟩ : ∃ M : Nat, (IntKind.u64.wrap a).tmod 20 = (M : Int) ∧ M < 20 := by
    have h0 : 0 ≤ IntKind.u64.wrap a := wrap_u64_nonneg a
    rw [Int.tmod_eq_emod_of_nonneg h0]
    have h3 := Int.emod_nonneg (IntKind.u64.wrap a) (b := (20 : Int)) (by omega)
    have h4 := Int.emod_lt_of_pos (IntKind.u64.wrap a) (b := (20 : Int)) (by omega)
    exact ⟨(IntKind.u64.wrap a % (20 : Int)).toNat, by omega, by omega⟩
  clear hb1
  gi_wp2_with fail
  obtain ⟨w2, hw2⟩ : ∃ w2, w2 = w1.setCell ⟨w.heap.size, 0, none⟩ (.int .i64 (1 + (M : Int))) := ⟨_, rfl⟩
  have hb2 : Below w.heap.size w w2 := by rw [hw2]; exact hb01.setCell (p := ⟨w.heap.size, 0, none⟩) (Nat.le_refl _) _
  have m2 : w2.heap[w.heap.size]? = some (.cells #[.int .i64 (1 + (M : Int))] 3 (0, 0)) := by rw [hw2, heap_setCell_same _ _ 0 _ _ _ m1]; rfl
  have r2 : w2.heap[w.heap.size + 1]? = some (.cells #[.bool false] 4 (0, 0)) := by rw [hw2, Below.heap_setCell _ _ _ _ (by simp)]; exact r1
  rw [← hw2]
  clear hw2 m1 r1 cm1 fm1 hb01 hM
  obtain ⟨A', n', c', e, _, _, hr2⟩ := hS.below hb2
  injection e with e1 e2 e3
  subst e1 e2 e3
  refine ⟨trivial, callsIn_wide.2 ((copy_any w2 A n c row hr2 (by omega)).mono ?_)⟩
  rintro e w3 ⟨g, rfl, hg, Hblk, hb3⟩
  have hb03 := hb2.trans (hb3.mono hb2.size)
  have hblk := Hblk.out
  obtain ⟨A', n', c', e, _, _, hr3⟩ := hS.below hb03
  injection e with e1 e2 e3
  subst e1 e2 e3
  clear hr2
  gi_wp2_with fail
  refine ⟨trivial, callsIn_wide.2 ((refAll_any w3 A n c row hr3 hn hc hcm).mono ?_)⟩
  rintro e w4 ⟨v, zs, rfl, hzs, hown4, hrec4, hb4⟩
  have hb04 := hb03.trans (hb4.mono hb03.size)
  obtain ⟨m, hm⟩ : ∃ m, m = zs.length := ⟨_, rfl⟩
  rw [← hm] at hown4 hzs
  obtain ⟨A4, c4, rfl⟩ : ∃ A1 c1, v = .slice A1 m c1 := by
    rcases hown4.2 with ⟨e, e2⟩ | ⟨g, cap, cur, e, _⟩
    · exact ⟨_, _, by rw [e2]; exact e⟩
    · exact ⟨_, _, e⟩
  have Hzs := Lib.hid hzs
  have Hm := Lib.hid hm
  clear hzs hm
  gi_wp2_with fail
  refine ⟨trivial, callsIn_wide.2 ((all_any _ _ n (n + 2)).mono ?_)⟩
  rintro e w5 ⟨rfl, hw5⟩
  gi_wp2_with fail
  obtain ⟨W4, hW4⟩ : ∃ W4, W4 = w4.alloc (.cells #[.slice A4 m c4] 49) := ⟨_, rfl⟩
  have hs4 : W4.heap.size = w4.heap.size + 1 := by rw [hW4]; simp
  have hb44 : Below w4.heap.size w4 W4 := by rw [hW4]; exact (Below.refl _ _).alloc (Nat.le_refl _) _
  have cw4 : W4.cell? ⟨w4.heap.size, 0, none⟩ = some (.slice A4 m c4) := by rw [hW4]; exact rangeAt_new w4 #[.slice A4 m c4] _ _ 0 _ rfl
  rw [← hW4, ← hs4] at hw5
  rw [← hs4]
  rw [show W4.heap.size + 1 + 1 + 1 = W4.heap.size + 3 from rfl, show W4.heap.size + 1 + 1 = W4.heap.size + 2 from rfl]
  have Hs4 := Lib.hid hs4
  clear hW4 hs4
  rw [wpIn_wide]
  have hb0W : Below w.heap.size w W4 := hb04.trans (hb44.mono hb04.size)
  have h5a : Below W4.heap.size W4 (W4.alloc (.cells #[.int .i64 0] 3)) := (Below.refl _ _).alloc (Nat.le_refl _) _
  have h5 : Below W4.heap.size W4 w5 := by rw [← hw5]; exact (((h5a.alloc (by simp) _).alloc (by simp; omega) _).alloc (by simp; omega) _)
  have k5 : w5.heap[W4.heap.size]? = some (.cells #[.int .i64 ((0 : Nat) : Int)] 3 (0, 0)) := by
    rw [← hw5]
    exact (Below.heap_alloc _ _ _ (by simp; omega)).trans ((Below.heap_alloc _ _ _ (by simp; omega)).trans ((Below.heap_alloc _ _ _ (by simp)).trans (heap_alloc_new W4 _)))
  have a5 : w5.heap[W4.heap.size + 1]? = some (.cells #[.slice (some ⟨g, 0, none⟩) n (n + 2)] 22 (0, 0)) := by
    rw [← hw5]
    exact (Below.heap_alloc _ _ _ (by simp)).trans ((Below.heap_alloc _ _ _ (by simp)).trans (heap_alloc_at _ _ _ (by simp)))
  have g5 : w5.heap[W4.heap.size + 2]? = some (.cells #[.slice (some ⟨W4.heap.size + 1, 0, none⟩) 1 1] 30 (0, 0)) := by
    rw [← hw5]
    exact (Below.heap_alloc _ _ _ (by simp)).trans (heap_alloc_at _ _ _ (by simp))
  have c5 : w5.heap[W4.heap.size + 3]? = some (.cells #[.slice (some ⟨g, 0, none⟩) n (n + 2)] 22 (0, 0)) := by
    rw [← hw5]
    exact heap_alloc_at _ _ _ (by simp)
  have s5 : w5.heap.size = W4.heap.size + 4 := by rw [← hw5]; simp
  have hg4 : g < w3.heap.size := (Array.getElem?_eq_some_iff.1 Hblk.out).1
  have b4 : W4.heap[g]? = some (.cells (row.map B8 ++ [B8 165, B8 90]).toArray 5 (0, 0)) := ((hb4.trans (hb44.mono hb4.size)).block g hg4).trans Hblk.out
  have hgW : g < W4.heap.size := (Array.getElem?_eq_some_iff.1 b4).1
  have b5 := heap_below b4 h5
  have start : AllIn w W4 (payN row) (payX row) (.slice (some ⟨W4.heap.size + 1, 0, none⟩) 1 1) [.slice (some ⟨g, 0, none⟩) n (n + 2)] (fun _ => 2) 0 w5 := by
    refine ⟨h5, hb0W.size, k5, g5, by omega, rfl, ⟨rfl, .inr ⟨W4.heap.size + 1, 1, _, rfl, by omega, a5, by decide, by decide, rfl, rfl⟩⟩, fun x hx => ?_, ⟨fun i u hu => ?_, fun i u x hu hx => ?_⟩⟩
    · simp [Value.ownBlock] at hx
      omega
    · match i, hu with
      | 0, hu =>
        cases hu
        rw [show payN row 0 = n from Hpl.out]
        exact copy_own b5 Hpl.out (by omega) (Nat.le_trans hb2.size hg)
    · match i, hu with
      | 0, hu => rfl
  have hpre : RB w5 (some ⟨g, 0, none⟩) n row := by
    obtain ⟨A', n', c', e, _, _, h⟩ := copyPost_sb b5 Hpl.out (by omega)
    injection e with e1 e2 e3
    subst e1 e2 e3
    exact h
  have hc5 : w5.cell? ⟨W4.heap.size + 3, 0, none⟩ = some (.slice (some ⟨g, 0, none⟩) n (n + 2)) := by rw [cell_of_row _ _ _ _ _ _ c5]; rfl
  refine wp_rangeIter2 (n := 9) rfl (enters_of Try.func38 (by kernel_rfl) rfl) (all1_two (W4.heap.size + 3) (some ⟨g, 0, none⟩) n (n + 2) row W4.heap.size (by omega) (by omega) (by unfold maxLen; omega)) (fun k args W0 W h => frNew_size h) (fun h k => frKp_t h k)
    (fun W l o o' hl h _ => frKp_b (m := w5.heap.size) (by omega) (by omega) o' hl h) (fun k args W0 W l o o' h _ hl ho => frNew_putObj h o' hl ho)
    (fun k W => ∃ G us o, AllIn w W4 (payN row) (payX row) G us o k W ∧ k < M + 1) (fun cd k W => cd = .exit 0 ∧ k = M ∧ ∃ G us o, AllIn w W4 (payN row) (payX row) G us o (k + 1) W)
    (fun k W W' ⟨G, us, o, h, hk⟩ hb => ⟨G, us, o, AllIn.stable _ _ _ _ _ _ _ _ _ _ h hb, hk⟩) (fun cd k W W' ⟨h1, h2, G, us, o, h⟩ hb => ⟨h1, h2, G, us, o, AllIn.stable _ _ _ _ _ _ _ _ _ _ h hb⟩)
    (fun k W l ob o' ⟨G, us, o, h, hk⟩ hl hob hoc => ⟨G, us, o, AllIn.abides (D := w5.heap.size) (by omega) _ _ _ _ _ h hl hob hoc, hk⟩) (fun cd k W l ob o' ⟨h1, h2, G, us, o, h⟩ hl hob hoc => ⟨h1, h2, G, us, o, AllIn.abides (D := w5.heap.size) (by omega) _ _ _ _ _ h hl hob hoc⟩)
    (fun W hb => ⟨(hb.cell (p := ⟨W4.heap.size + 3, 0, none⟩) (by show W4.heap.size + 3 < w5.heap.size; omega)).trans hc5, hpre.below hb, fun ad h _ => by cases h; exact hgW⟩)
    ⟨_, _, _, start, by omega⟩
    (fun args => { tmps := #[.slice A n c, .int .i64 a, undef, .pointer (some ⟨w.heap.size, 0, none⟩), .pointer (some ⟨w.heap.size + 1, 0, none⟩), .slice (some ⟨g, 0, none⟩) n (n + 2), .pointer (some ⟨w4.heap.size, 0, none⟩), .pointer (some ⟨W4.heap.size, 0, none⟩), .pointer (some ⟨W4.heap.size + 2, 0, none⟩), args.getD 0 undef, args.getD 1 undef, .bool true, .bool false, .slice A n c, .int .i64 n, .bool (decide ((10000 : Int) < (n : Int))), .int .i64 a, .int .u64 (IntKind.u64.wrap a), .int .u64 (M : Int), .int .i64 (M : Int), .int .i64 (1 + (M : Int)), .slice A n c, .slice (some ⟨g, 0, none⟩) n (n + 2), .slice A n c, .slice A4 m c4, .slice (some ⟨g, 0, none⟩) n (n + 2), .slice (some ⟨W4.heap.size + 1, 0, none⟩) 1 1, .slice (some ⟨g, 0, none⟩) n (n + 2), .func (.func 38) #[] #[.pointer (some ⟨W4.heap.size + 3, 0, none⟩)], args.getD 0 undef, args.getD 1 undef, undef, undef, undef, undef, undef, undef, undef, undef, undef, undef, undef, undef, undef, undef, undef, undef, undef, undef, undef, undef, undef, undef, undef, undef, undef, undef, undef, undef, undef, undef, undef, undef, undef, undef, undef, undef, undef, undef, undef, undef, undef, undef, undef, undef, undef, undef, undef, undef, undef, undef, undef, undef, undef, undef, undef, undef, undef, undef, undef, undef], defers := [] })
    ?assign ?body ?done ?stop
  case assign =>
    rintro l k args W0 W K ⟨x, v, _, rfl, _⟩ hK
    gi_wp2
    simpa using hK
  case body =>
    rintro l k args W0 W hk ⟨G, us, o, hI0, hkM⟩ hto ⟨x, v, hx, rfl, hv⟩
    have hI := hto _ (AllIn.stable w W4 (payN row) (payX row) G us o) (AllIn.abides (D := w5.heap.size) (by omega)) k hI0
    have hkm : k < m := by rw [Hzs.out]; exact hk
    obtain ⟨AG, cG, rfl, hcG1, hcG2, -, -⟩ := own_form hI.own
    obtain ⟨Av, cv, rfl, hcv1, hcv2, hvr, -⟩ := own_form hv
    obtain ⟨z, hz⟩ : ∃ z, zs[k]? = some z := ⟨_, List.getElem?_eq_getElem (by rw [← Hm.out]; exact hkm)⟩
    obtain ⟨x', hx', hz1, hz2⟩ := hrec4 k z hz
    rw [hx] at hx'
    cases hx'
    obtain ⟨gw, cw, hv4, _, _⟩ := hown4.form (by omega)
    injection hv4 with hv1 _ hv3
    subst hv1
    subst hv3
    have hbW : Below w4.heap.size w4 W := hb44.trans (hI.below.mono hb44.size)
    have hownW := ownsRow_below hown4 hbW
    obtain ⟨f1, f2⟩ := recCells_at zs k z hz
    have c_at : W.cell? ⟨gw, k * 2, none⟩ = some (.int .i64 (z.1 : Int)) := by
      have := hownW.cellAt (k * 2) (by omega)
      rw [this, f1]
    have c_p : W.cell? ⟨gw, k * 2 + 1, none⟩ = some z.2 := by
      have := hownW.cellAt (k * 2 + 1) (by omega)
      rw [this, f2]
    have hz2W := ownsRow_below hz2 hbW
    obtain ⟨zi, zv⟩ := z
    simp only at hz1 hz2W c_at c_p
    obtain ⟨Az, cz, rfl, hcz1, hcz2, hzr, -⟩ := own_form hz2W
    have c_k : W.cell? ⟨W4.heap.size, 0, none⟩ = some (.int .i64 (k : Int)) := by rw [cell_of_row _ _ _ _ _ _ hI.kbox]; rfl
    have c_g : W.cell? ⟨W4.heap.size + 2, 0, none⟩ = some (.slice AG (k + 1) cG) := by rw [cell_of_row _ _ _ _ _ _ hI.gbox]; rfl
    have c_w : W.cell? ⟨w4.heap.size, 0, none⟩ = some (.slice (some ⟨gw, 0, none⟩) m c4) := (hI.below.cell (p := ⟨w4.heap.size, 0, none⟩) (by rw [Hs4.out]; simp)).trans cw4
    have SBv : SB W (.slice Av x.2.length cv) x.2 := SB.of_own hv
    have SBz : SB W (.slice Az x.2.length cz) x.2 := SB.of_own hz2W
    have hzx : (zi : Int) = (x.1 : Int) := by omega
    rw [hzx] at c_at
    have hv2 : W.ownsRow W0.heap.size 5 1 (.slice Av x.2.length cv) (payN row (k + 1)) ((payX row (k + 1)).map B8) := by
      rw [payN, payX_at hx]
      exact hv
    have hk10 : k ≤ 10000 := by
      have := frames_len row
      rw [Hpl.out] at this
      omega
    have hb2W : Below w2.heap.size w2 W4 := by
      have e1 := hb3.trans (hb4.mono hb3.size)
      exact e1.trans (hb44.mono e1.size)
    have hm4 := heap_below m2 hb2W
    have hwW4 : w.heap.size < W4.heap.size := (Array.getElem?_eq_some_iff.1 hm4).1
    have hwne : w.heap.size ≠ W4.heap.size := by omega
    have hwne2 : w.heap.size ≠ W4.heap.size + 2 := by omega
    have HI := Lib.hid hI
    have HI0 := Lib.hid hI0
    have HV := Lib.hid hv2
    have hgl : k + 1 < W.heap.size + k + 2 := by omega
    clear hI hI0 hv hv2 f1 f2 hz2W hz2 hz hx hownW hbW hvr hzr hto hzx hz1
    simp only [show ∀ a b : Value, #[a, b].getD 0 undef = a from fun _ _ => rfl, show ∀ a b : Value, #[a, b].getD 1 undef = b from fun _ _ => rfl]
    gi_wp2_with fail
    refine ⟨trivial, CallsIn.inRound l (callsIn_wide.2 ((same_sb W _ _ x.2 x.2 SBv SBz).mono ?_))⟩
    rintro e W' ⟨rfl, rfl⟩
    rw [decide_eq_true rfl]
    have fk := frozen_blk HI.out.kbox 0
    have hW4W := HI.out.below
    have hownG := HI.out.own
    have hcase : (((k : Int) + 1 == 1 + (M : Int)) = true ∧ Hid (k = M)) ∨ (((k : Int) + 1 == 1 + (M : Int)) = false ∧ k < M) := by
      rcases Nat.lt_or_ge k M with h | h
      · exact .inr ⟨by rw [beq_eq_false_iff_ne]; omega, h⟩
      · exact .inl ⟨by rw [beq_iff_eq]; omega, Lib.hid (by omega)⟩
    rcases hcase with ⟨hB, hkM2⟩ | ⟨hB, hkM2⟩
    all_goals gi_wp2_with (gi_at_builtin; refine wpListIn_append_keep rfl (.tmp 54) (.tmp 56) 30 rfl W4 (hW4W.alloc hW4W.size _) Try.underlying30 info_row rfl (by decide) (.slice AG (k + 1) cG) (k + 1) us rfl (hownG.alloc _) (some ⟨W.heap.size, 0, none⟩) 1 1 [.slice Av x.2.length cv] rfl (rc_new W _ _ _) rfl (slice_one _ _ _) (by unfold maxLen; omega) (by omega) ?_; intro v6 w6 hown6 hb6 hkeep hgr hor; obtain ⟨A6, c6, rfl, -, -, -, -⟩ := own_form hown6; obtain ⟨q1, q2, q3, q4, q5⟩ := AllIn.step HI0.out HI.out HV.out hown6 hb6 hgr hor; have cq1 : w6.cell? ⟨W4.heap.size, 0, none⟩ = some (.int .i64 (k : Int)) := (by rw [cell_of_row _ _ _ _ _ _ q1]; rfl); have cq2 : w6.cell? ⟨W4.heap.size + 2, 0, none⟩ = some (.slice AG (k + 1) cG) := (by rw [cell_of_row _ _ _ _ _ _ q2]; rfl); have cqm : w6.cell? ⟨w.heap.size, 0, none⟩ = some (.int .i64 (1 + (M : Int))) := (hb6.cell (p := ⟨w.heap.size, 0, none⟩) hwW4).trans (by rw [cell_of_row _ _ _ _ _ _ hm4]; rfl); have fq1 := frozen_blk q1 0; have fq2 := frozen_blk q2 0)
    · exact ⟨q4, rfl, hkM2.out, _, _, _, q3⟩
    · exact ⟨q4, q5, _, _, _, q3, by omega⟩
  case done =>
    rintro D W hD ⟨G, us, o, hI, hkM⟩ hK
    have hkb := hI.kbox
    rw [← Hzs.out] at hI hkM hkb
    have hmin : (m : Int) < 1 + (M : Int) := by omega
    have hIb := hI.below
    have hb2W : Below w2.heap.size w2 W4 := by
      have e1 := hb3.trans (hb4.mono hb3.size)
      exact e1.trans (hb44.mono e1.size)
    have hm4 := heap_below m2 hb2W
    have hwW4 : w.heap.size < W4.heap.size := (Array.getElem?_eq_some_iff.1 hm4).1
    have hrow : SB W (.slice A n c) row := hS.below (hb0W.trans (hIb.mono hb0W.size))
    have hblkW : W.heap[g]? = some (.cells (row.map B8 ++ [B8 165, B8 90]).toArray 5 (0, 0)) := heap_below b4 hIb
    have hSg : SB W (.slice (some ⟨g, 0, none⟩) n (n + 2)) row := copyPost_sb hblkW Hpl.out (by omega)
    have hr0 : W.heap[w.heap.size + 1]? = some (.cells #[.bool false] 4 (0, 0)) := heap_below (heap_below r2 hb2W) hIb
    have S0 : ∀ w', Below W.heap.size W w' → w'.cell? ⟨W4.heap.size, 0, none⟩ = some (.int .i64 (m : Int)) ∧ w'.cell? ⟨w.heap.size, 0, none⟩ = some (.int .i64 (1 + (M : Int))) ∧ w'.cell? ⟨w4.heap.size, 0, none⟩ = some (.slice A4 m c4) ∧ Below W.heap.size W w' := by
      intro w' hb
      have hz := hI.sz
      refine ⟨(hb.cell (p := ⟨W4.heap.size, 0, none⟩) (by show W4.heap.size < W.heap.size; omega)).trans (by rw [cell_of_row _ _ _ _ _ _ hkb]; rfl), ?_, ?_, hb⟩
      · refine (hb.cell (p := ⟨w.heap.size, 0, none⟩) (by show w.heap.size < W.heap.size; omega)).trans ((hIb.cell (p := ⟨w.heap.size, 0, none⟩) hwW4).trans ?_)
        rw [cell_of_row _ _ _ _ _ _ hm4]; rfl
      · exact (hb.cell (p := ⟨w4.heap.size, 0, none⟩) (by show w4.heap.size < W.heap.size; have := Hs4.out; omega)).trans ((hIb.cell (p := ⟨w4.heap.size, 0, none⟩) (by rw [Hs4.out]; simp)).trans cw4)
    have C1 : ∀ wx, (Below W.heap.size W wx) → Calls Try.prog 31 #[.slice (some ⟨g, 0, none⟩) n (n + 2)] wx fun e w' => e = .returned (.int .i64 (wholeOf row : Int)) ∧ w'.cell? ⟨W4.heap.size, 0, none⟩ = some (.int .i64 (m : Int)) ∧ w'.cell? ⟨w.heap.size, 0, none⟩ = some (.int .i64 (1 + (M : Int))) ∧ w'.cell? ⟨w4.heap.size, 0, none⟩ = some (.slice A4 m c4) ∧ Below W.heap.size W w' := fun wx hb => (whole_sb wx _ row (hSg.below hb) (by rw [Hpl.out]; omega)).mono fun e w' ⟨h1, h2⟩ => ⟨h1, S0 w' (hb.trans (h2.mono hb.size))⟩
    have C2 : ∀ wx, (Below W.heap.size W wx) → Calls Try.prog 32 #[.slice A n c] wx fun e w' => e = .returned (.int .i64 (wholeOf row : Int)) ∧ w'.cell? ⟨W4.heap.size, 0, none⟩ = some (.int .i64 (m : Int)) ∧ w'.cell? ⟨w.heap.size, 0, none⟩ = some (.int .i64 (1 + (M : Int))) ∧ w'.cell? ⟨w4.heap.size, 0, none⟩ = some (.slice A4 m c4) ∧ Below W.heap.size W w' := fun wx hb => by
      obtain ⟨A', n', c', e, _, _, hrx⟩ := hrow.below hb
      injection e with e1 e2 e3
      subst e1 e2 e3
      exact (refWhole_any wx A n c row hrx hn hc hcm).mono fun e w' ⟨h1, h2⟩ => ⟨h1, S0 w' (hb.trans (h2.mono hb.size))⟩
    have C3 : ∀ wx, (Below W.heap.size W wx) → Calls Try.prog 33 #[.slice (some ⟨g, 0, none⟩) n (n + 2)] wx fun e w' => e = .returned (.int .i64 (m : Int)) ∧ w'.cell? ⟨W4.heap.size, 0, none⟩ = some (.int .i64 (m : Int)) ∧ w'.cell? ⟨w.heap.size, 0, none⟩ = some (.int .i64 (1 + (M : Int))) ∧ w'.cell? ⟨w4.heap.size, 0, none⟩ = some (.slice A4 m c4) ∧ Below W.heap.size W w' := fun wx hb => (count_sb wx _ row (hSg.below hb) (by rw [Hpl.out]; omega)).mono fun e w' ⟨h1, h2⟩ => ⟨by rw [Hzs.out]; exact h1, S0 w' (hb.trans (h2.mono hb.size))⟩
    have C4 : ∀ wx, (Below W.heap.size W wx) → Calls Try.prog 18 #[.slice (some ⟨g, 0, none⟩) n (n + 2), .slice A n c] wx fun e w' => e = .returned (.bool true) ∧ w'.cell? ⟨W4.heap.size, 0, none⟩ = some (.int .i64 (m : Int)) ∧ w'.cell? ⟨w.heap.size, 0, none⟩ = some (.int .i64 (1 + (M : Int))) ∧ w'.cell? ⟨w4.heap.size, 0, none⟩ = some (.slice A4 m c4) ∧ Below W.heap.size W w' := fun wx hb => by
      obtain ⟨A', n', c', e, _, _, hrx⟩ := hrow.below hb
      injection e with e1 e2 e3
      subst e1 e2 e3
      exact (kept_true wx g A n c row (heap_below hblkW hb) hrx (by omega)).mono fun e w' ⟨h1, h2⟩ => ⟨h1, by rw [← h2]; exact S0 wx hb⟩
    obtain ⟨q, hq⟩ : ∃ q, q = wholeOf row := ⟨_, rfl⟩
    rw [← hq] at C1 C2
    have HAp := Lib.hid (fun wx hb => hI.apart hb0W (fun i => Nat.le_trans (payN_le row i) (by rw [Hpl.out]; omega)) (by omega) wx hb)
    have HI := Lib.hid hI
    have HS0 := Lib.hid S0
    have hr0' := hr0
    simp only [Exit.inBlock, Exit.then]
    gi_wp2_with fail
    rw [wpIn_wide]
    go_region_held3 (fun w' => w'.cell? ⟨W4.heap.size, 0, none⟩ = some (.int .i64 (m : Int)) ∧ w'.cell? ⟨w.heap.size, 0, none⟩ = some (.int .i64 (1 + (M : Int))) ∧ w'.cell? ⟨w4.heap.size, 0, none⟩ = some (.slice A4 m c4) ∧ Below W.heap.size W w') (first | exact HS0.out _ (below_drewN (Below.refl _ _) 1) | assumption)
      (first
        | (go_at_call 31; refine (C1 _ (And.right (And.right (And.right (by assumption))))).mono ?_; rintro e w' ⟨rfl, hs⟩)
        | (go_at_call 32; refine (C2 _ (And.right (And.right (And.right (by assumption))))).mono ?_; rintro e w' ⟨rfl, hs⟩)
        | (go_at_call 33; refine (C3 _ (And.right (And.right (And.right (by assumption))))).mono ?_; rintro e w' ⟨rfl, hs⟩)
        | (go_at_call 18; refine (C4 _ (And.right (And.right (And.right (by assumption))))).mono ?_; rintro e w' ⟨rfl, hs⟩))
    all_goals
      have hsz := HI.out.sz
      have hfin := HAp.out _ hs.2.2.2
      have c_g : World.cell? _ ⟨W4.heap.size + 2, 0, none⟩ = some G := (hs.2.2.2.cell (p := ⟨W4.heap.size + 2, 0, none⟩) (by show W4.heap.size + 2 < W.heap.size; omega)).trans (by rw [cell_of_row _ _ _ _ _ _ HI.out.gbox]; rfl)
      gi_wp2_with fail
      refine ⟨trivial, callsIn_wide.2 (hfin.mono ?_)⟩
      rintro e w7 ⟨rfl, hb7, hx7⟩
      have r7 := hx7 _ _ hr0 (fun cs t fr h => by cases h; decide)
      have d7 := hx7 _ _ hK (fun cs t fr h => by cases h)
      have cr7 : w7.cell? ⟨w.heap.size + 1, 0, none⟩ = some (.bool false) := by rw [cell_of_row _ _ _ _ _ _ r7]; rfl
      have fr7 := frozen_blk r7 0
      have R7 := Lib.hid r7
      have D7 := Lib.hid d7
      clear hx7 r7 d7
      gi_wp2
      have k8 : (w7.setCell ⟨w.heap.size + 1, 0, none⟩ (.bool true)).heap[D]? = some (.deferred (some [])) := by
        rw [Below.heap_setCell _ _ _ _ (by show D ≠ w.heap.size + 1; have := h5.size; omega)]
        exact D7.out
      have r8 : (w7.setCell ⟨w.heap.size + 1, 0, none⟩ (.bool true)).heap[w.heap.size + 1]? = some (.cells #[.bool true] 4 (0, 0)) := by
        rw [heap_setCell_same _ _ 0 _ _ _ R7.out]; rfl
      have b8 : Below w.heap.size w (w7.setCell ⟨w.heap.size + 1, 0, none⟩ (.bool true)) := hb7.setCell (p := ⟨w.heap.size + 1, 0, none⟩) (by simp) _
      refine ⟨by simp, .inl ⟨_, _, rfl, run_takeDeferred k8, ?_⟩⟩
      exact ⟨_, results_cell_bool rfl _ _ _ (w.heap.size + 1) (.bool true) rfl (by rw [cell_of_row _ _ _ _ _ _ (heap_putObj r8 _ k8 rfl)]; rfl) Try.underlying4, rfl, below_putObj _ D _ b8 (by omega) b8.size⟩
  case stop =>
    rintro D cd k W hD hk ⟨rfl, rfl, G, us, o, hI⟩ hK
    have hkb := hI.kbox
    rw [show ((k + 1 : Nat) : Int) = 1 + (k : Int) by omega] at hkb
    have hmin : (if (m : Int) < 1 + (k : Int) then (m : Int) else 1 + (k : Int)) = 1 + (k : Int) := if_neg (by have := Hzs.out; omega)
    have hIb := hI.below
    have hb2W : Below w2.heap.size w2 W4 := by
      have e1 := hb3.trans (hb4.mono hb3.size)
      exact e1.trans (hb44.mono e1.size)
    have hm4 := heap_below m2 hb2W
    have hwW4 : w.heap.size < W4.heap.size := (Array.getElem?_eq_some_iff.1 hm4).1
    have hrow : SB W (.slice A n c) row := hS.below (hb0W.trans (hIb.mono hb0W.size))
    have hblkW : W.heap[g]? = some (.cells (row.map B8 ++ [B8 165, B8 90]).toArray 5 (0, 0)) := heap_below b4 hIb
    have hSg : SB W (.slice (some ⟨g, 0, none⟩) n (n + 2)) row := copyPost_sb hblkW Hpl.out (by omega)
    have hr0 : W.heap[w.heap.size + 1]? = some (.cells #[.bool false] 4 (0, 0)) := heap_below (heap_below r2 hb2W) hIb
    have S0 : ∀ w', Below W.heap.size W w' → w'.cell? ⟨W4.heap.size, 0, none⟩ = some (.int .i64 (1 + (k : Int))) ∧ w'.cell? ⟨w.heap.size, 0, none⟩ = some (.int .i64 (1 + (k : Int))) ∧ w'.cell? ⟨w4.heap.size, 0, none⟩ = some (.slice A4 m c4) ∧ Below W.heap.size W w' := by
      intro w' hb
      have hz := hI.sz
      refine ⟨(hb.cell (p := ⟨W4.heap.size, 0, none⟩) (by show W4.heap.size < W.heap.size; omega)).trans (by rw [cell_of_row _ _ _ _ _ _ hkb]; rfl), ?_, ?_, hb⟩
      · refine (hb.cell (p := ⟨w.heap.size, 0, none⟩) (by show w.heap.size < W.heap.size; omega)).trans ((hIb.cell (p := ⟨w.heap.size, 0, none⟩) hwW4).trans ?_)
        rw [cell_of_row _ _ _ _ _ _ hm4]; rfl
      · exact (hb.cell (p := ⟨w4.heap.size, 0, none⟩) (by show w4.heap.size < W.heap.size; have := Hs4.out; omega)).trans ((hIb.cell (p := ⟨w4.heap.size, 0, none⟩) (by rw [Hs4.out]; simp)).trans cw4)
    have C1 : ∀ wx, (Below W.heap.size W wx) → Calls Try.prog 31 #[.slice (some ⟨g, 0, none⟩) n (n + 2)] wx fun e w' => e = .returned (.int .i64 (wholeOf row : Int)) ∧ w'.cell? ⟨W4.heap.size, 0, none⟩ = some (.int .i64 (1 + (k : Int))) ∧ w'.cell? ⟨w.heap.size, 0, none⟩ = some (.int .i64 (1 + (k : Int))) ∧ w'.cell? ⟨w4.heap.size, 0, none⟩ = some (.slice A4 m c4) ∧ Below W.heap.size W w' := fun wx hb => (whole_sb wx _ row (hSg.below hb) (by rw [Hpl.out]; omega)).mono fun e w' ⟨h1, h2⟩ => ⟨h1, S0 w' (hb.trans (h2.mono hb.size))⟩
    have C2 : ∀ wx, (Below W.heap.size W wx) → Calls Try.prog 32 #[.slice A n c] wx fun e w' => e = .returned (.int .i64 (wholeOf row : Int)) ∧ w'.cell? ⟨W4.heap.size, 0, none⟩ = some (.int .i64 (1 + (k : Int))) ∧ w'.cell? ⟨w.heap.size, 0, none⟩ = some (.int .i64 (1 + (k : Int))) ∧ w'.cell? ⟨w4.heap.size, 0, none⟩ = some (.slice A4 m c4) ∧ Below W.heap.size W w' := fun wx hb => by
      obtain ⟨A', n', c', e, _, _, hrx⟩ := hrow.below hb
      injection e with e1 e2 e3
      subst e1 e2 e3
      exact (refWhole_any wx A n c row hrx hn hc hcm).mono fun e w' ⟨h1, h2⟩ => ⟨h1, S0 w' (hb.trans (h2.mono hb.size))⟩
    have C3 : ∀ wx, (Below W.heap.size W wx) → Calls Try.prog 33 #[.slice (some ⟨g, 0, none⟩) n (n + 2)] wx fun e w' => e = .returned (.int .i64 (m : Int)) ∧ w'.cell? ⟨W4.heap.size, 0, none⟩ = some (.int .i64 (1 + (k : Int))) ∧ w'.cell? ⟨w.heap.size, 0, none⟩ = some (.int .i64 (1 + (k : Int))) ∧ w'.cell? ⟨w4.heap.size, 0, none⟩ = some (.slice A4 m c4) ∧ Below W.heap.size W w' := fun wx hb => (count_sb wx _ row (hSg.below hb) (by rw [Hpl.out]; omega)).mono fun e w' ⟨h1, h2⟩ => ⟨by rw [Hzs.out]; exact h1, S0 w' (hb.trans (h2.mono hb.size))⟩
    have C4 : ∀ wx, (Below W.heap.size W wx) → Calls Try.prog 18 #[.slice (some ⟨g, 0, none⟩) n (n + 2), .slice A n c] wx fun e w' => e = .returned (.bool true) ∧ w'.cell? ⟨W4.heap.size, 0, none⟩ = some (.int .i64 (1 + (k : Int))) ∧ w'.cell? ⟨w.heap.size, 0, none⟩ = some (.int .i64 (1 + (k : Int))) ∧ w'.cell? ⟨w4.heap.size, 0, none⟩ = some (.slice A4 m c4) ∧ Below W.heap.size W w' := fun wx hb => by
      obtain ⟨A', n', c', e, _, _, hrx⟩ := hrow.below hb
      injection e with e1 e2 e3
      subst e1 e2 e3
      exact (kept_true wx g A n c row (heap_below hblkW hb) hrx (by omega)).mono fun e w' ⟨h1, h2⟩ => ⟨h1, by rw [← h2]; exact S0 wx hb⟩
    obtain ⟨q, hq⟩ : ∃ q, q = wholeOf row := ⟨_, rfl⟩
    rw [← hq] at C1 C2
    have HAp := Lib.hid (fun wx hb => hI.apart hb0W (fun i => Nat.le_trans (payN_le row i) (by rw [Hpl.out]; omega)) (by omega) wx hb)
    have HI := Lib.hid hI
    have HS0 := Lib.hid S0
    have hr0' := hr0
    simp only [Exit.inBlock, Exit.then]
    gi_wp2_with fail
    rw [wpIn_wide]
    go_region_held3 (fun w' => w'.cell? ⟨W4.heap.size, 0, none⟩ = some (.int .i64 (1 + (k : Int))) ∧ w'.cell? ⟨w.heap.size, 0, none⟩ = some (.int .i64 (1 + (k : Int))) ∧ w'.cell? ⟨w4.heap.size, 0, none⟩ = some (.slice A4 m c4) ∧ Below W.heap.size W w') (first | exact HS0.out _ (below_drewN (Below.refl _ _) 1) | assumption)
      (first
        | (go_at_call 31; refine (C1 _ (And.right (And.right (And.right (by assumption))))).mono ?_; rintro e w' ⟨rfl, hs⟩)
        | (go_at_call 32; refine (C2 _ (And.right (And.right (And.right (by assumption))))).mono ?_; rintro e w' ⟨rfl, hs⟩)
        | (go_at_call 33; refine (C3 _ (And.right (And.right (And.right (by assumption))))).mono ?_; rintro e w' ⟨rfl, hs⟩)
        | (go_at_call 18; refine (C4 _ (And.right (And.right (And.right (by assumption))))).mono ?_; rintro e w' ⟨rfl, hs⟩))
    all_goals
      have hsz := HI.out.sz
      have hfin := HAp.out _ hs.2.2.2
      have c_g : World.cell? _ ⟨W4.heap.size + 2, 0, none⟩ = some G := (hs.2.2.2.cell (p := ⟨W4.heap.size + 2, 0, none⟩) (by show W4.heap.size + 2 < W.heap.size; omega)).trans (by rw [cell_of_row _ _ _ _ _ _ HI.out.gbox]; rfl)
      gi_wp2_with fail
      refine ⟨trivial, callsIn_wide.2 (hfin.mono ?_)⟩
      rintro e w7 ⟨rfl, hb7, hx7⟩
      have r7 := hx7 _ _ hr0 (fun cs t fr h => by cases h; decide)
      have d7 := hx7 _ _ hK (fun cs t fr h => by cases h)
      have cr7 : w7.cell? ⟨w.heap.size + 1, 0, none⟩ = some (.bool false) := by rw [cell_of_row _ _ _ _ _ _ r7]; rfl
      have fr7 := frozen_blk r7 0
      have R7 := Lib.hid r7
      have D7 := Lib.hid d7
      clear hx7 r7 d7
      gi_wp2
      have k8 : (w7.setCell ⟨w.heap.size + 1, 0, none⟩ (.bool true)).heap[D]? = some (.deferred (some [])) := by
        rw [Below.heap_setCell _ _ _ _ (by show D ≠ w.heap.size + 1; have := h5.size; omega)]
        exact D7.out
      have r8 : (w7.setCell ⟨w.heap.size + 1, 0, none⟩ (.bool true)).heap[w.heap.size + 1]? = some (.cells #[.bool true] 4 (0, 0)) := by
        rw [heap_setCell_same _ _ 0 _ _ _ R7.out]; rfl
      have b8 : Below w.heap.size w (w7.setCell ⟨w.heap.size + 1, 0, none⟩ (.bool true)) := hb7.setCell (p := ⟨w.heap.size + 1, 0, none⟩) (by simp) _
      refine ⟨by simp, .inl ⟨_, _, rfl, run_takeDeferred k8, ?_⟩⟩
      exact ⟨_, results_cell_bool rfl _ _ _ (w.heap.size + 1) (.bool true) rfl (by rw [cell_of_row _ _ _ _ _ _ (heap_putObj r8 _ k8 rfl)]; rfl) Try.underlying4, rfl, below_putObj _ D _ b8 (by omega) b8.size⟩
end Go.Proofs.Ytdmiiageihbokaa
