/-
  THE WALK of the tree's part.
-/
import Derived.Test.YtkcmacglomdfcaaTrE
namespace Go.Proofs.Ytkcmacglomdfcaa
open Go.RowKit

/-- In part: the result's box, what is put together so far. -/
structure PtI (w : World) (d : Dg) (u : World) : Prop where
  below : Below w.heap.size w u
  t0 : u.there w.heap.size 0 32
  r1 : u.rangeAt (w.heap.size + 1) 0 (d.map B8)
  t1 : u.there (w.heap.size + 1) 0 32
  d32 : d.length = 32
theorem PtI.stable {w u u' : World} {d : Dg} (h : PtI w d u) (hb : Below u.heap.size u u') : PtI w d u' :=
  ⟨h.below.trans (hb.mono h.below.size), there_same h.t0 (hb.block _ (there_lt h.t0 (by decide))), rangeAt_below' h.r1 hb, there_same h.t1 (hb.block _ (there_lt h.t1 (by decide))), h.d32⟩
theorem PtI.put {w u u' : World} {d d' : Dg} (h : PtI w d u) (hg : u.grownBy u' (some (w.heap.size + 1))) (hr : u'.rangeAt (w.heap.size + 1) 0 (d'.map B8)) (ht : u'.there (w.heap.size + 1) 0 32) (hd : d'.length = 32) : PtI w d' u' :=
  ⟨h.below.grown hg h.below.size (by intro k hk; cases hk; omega), there_grownB h.t0 (by decide) hg (by simp), hr, ht, hd⟩
theorem PtI.off {w u u' : World} {d : Dg} {b : Nat} (h : PtI w d u) (hb : w.heap.size + 2 ≤ b) (hg : u.grownBy u' (some b)) : PtI w d u' :=
  ⟨h.below.grown hg h.below.size (by intro k hk; cases hk; omega), there_grownB h.t0 (by decide) hg (by simp; omega), range_grown h.r1 hg (by simp; omega), there_grownB h.t1 (by decide) hg (by simp; omega), h.d32⟩
theorem low_and : ∀ m : Nat, m < 128 → 0 < m → bits .and .i64 (m : Int) (-(m : Int)) = ((2 ^ lowk m : Nat) : Int) := by decide +kernel
/-- A level's element, in memory. -/
theorem look_level {F : Dg → Dg} {B g : Nat} {ls : List Dg} {K : List Nat} {w : World} (h : TS F B g ls K w) {k ix : Nat} {s : Dg} (hs : (lev F k ls)[ix]? = some s) (hk : 2 ^ k ≤ ls.length) :
    ∃ vb mr cV rb cx, k < mr ∧ mr ≤ ls.length ∧ s.length = 32 ∧ ∀ u, Below w.heap.size w u → u.cell? ⟨g, 0, none⟩ = some (.slice (some ⟨vb, 0, none⟩) mr cV) ∧ u.cell? ⟨vb, k, none⟩ = some (.slice (some ⟨rb, 0, none⟩) (lev F k ls).length cx) ∧ u.rangeAt rb (ix * 32) (s.map B8) := by
  obtain ⟨mb, V, us, n, D, h1, h2, h3, h4, h5⟩ := h
  have hr := treeF_level (F := F) ls k
  rw [if_neg (by omega)] at hr
  have hkl := (List.getElem?_eq_some_iff.1 hr).1
  have hixl := (List.getElem?_eq_some_iff.1 hs).1
  obtain ⟨A, c, rfl, -, hA, hcells⟩ := h1.form
  obtain ⟨vb, rfl⟩ := hA (by omega)
  obtain ⟨x, hx, hcx, -⟩ := hcells vb rfl k _ hr
  obtain ⟨⟨Ax, cx, rfl⟩, ho, h32⟩ := h1.each k x _ hx hr
  have hx32 : s.length = 32 := h32 s (List.mem_of_getElem? hs)
  obtain ⟨A', n', c', e', -, -, hrs⟩ := SS.of_own ho h32 rfl
  cases e'
  obtain ⟨rb, ob, x0, e0, hx0, -, -⟩ := hrs.at_ (i := ix) hixl
  have hob : ob = 0 := by
    obtain ⟨A0, c0, e1, -, -, hf⟩ := own_formK ho
    cases e1
    obtain ⟨g', e2, -⟩ := hf (by omega)
    rw [e0] at e2
    cases e2
    rfl
  subst hob
  subst e0
  refine ⟨vb, _, c, rb, cx, hkl, (treeF_bounds ls).1, hx32, fun u hb => ?_⟩
  have hT := h1.stable hb
  refine ⟨hT.c0, (hb.cell (World.block_lt_of_cell? w _ hcx)).trans hcx, ?_⟩
  obtain ⟨b', o', x', e', hx', -, hrr⟩ := (hrs.below hb).at_ (i := ix) hixl
  cases e'
  rw [hs] at hx'
  cases hx'
  rwa [Nat.zero_add] at hrr
section
variable {F : List UInt8 → List UInt8} (HF : Dig F)
include HF
set_option maxRecDepth 100000 in
set_option maxHeartbeats 8000000 in
theorem part_any (w : World) {B g : Nat} {ls : List Dg} {K : List Nat} (h : TS F B g ls K w) (fr n : Nat) (ha : PartAt fr n) (hn0 : 0 < n) (hl : fr + n ≤ ls.length) (h127 : ls.length ≤ 127) :
    Calls Try.prog 86 #[.pointer (some ⟨g, 0, none⟩), .int .i64 (fr : Int), .int .i64 (n : Int)] w fun e w' => e = .returned (SumV (rootF F ((ls.drop fr).take n))) ∧ Below w.heap.size w w' := by
  have hNd := node_any HF
  have HNd := Lib.hid hNd
  have HF32 := Lib.hid HF.len
  have HTS := Lib.hid h
  clear hNd HF
  go_enter Try.func86, Try.ntmps86
  go_wp2_with fail
  rw [zeros_lit]
  obtain ⟨W2, hW2⟩ : ∃ W2, W2 = (w.alloc (.cells (List.replicate 32 (.int .u8 0)).toArray 26)).alloc (.cells (List.replicate 32 (.int .u8 0)).toArray 26) := ⟨_, rfl⟩
  have hP2 : PtI w zero32 W2 := by
    rw [hW2]
    exact ⟨((Below.refl _ _).alloc (Nat.le_refl _) _).alloc (by simp) _, there_blk ((Below.heap_alloc _ _ _ (by simp)).trans (heap_alloc_new w _)) (by decide), rangeAt_at _ _ _ _ _ (by simp), there_blk (heap_alloc_at _ _ _ (by simp)) (by decide), rfl⟩
  rw [← hW2]
  have HP2 := Lib.hid hP2
  clear hW2 hP2
  go_loopw [2, 8] (fun s2 s8 wr => ∃ (m : Nat) (b : Bool) (d : Dg), s2 = .int .i64 (m : Int) ∧ s8 = .bool b ∧ (b = true ∧ m = n ∨ b = false ∧ m < n) ∧ Hid (PartI F ls fr n m d ∧ PtI w d wr)) (fun s2 _ _ => (intOf s2).toNat)
  case atStart => exact ⟨n, true, zero32, rfl, rfl, .inl ⟨rfl, rfl⟩, Lib.hid ⟨PartI.start F ls fr n zero32, HP2.out⟩⟩
  case round =>
    obtain ⟨m, b, d, rfl, rfl, hmn, hq⟩ := hrel
    have hmb : m < 128 := by omega
    by_cases hm0 : m = 0
    · subst hm0
      have hd : d = rootF F ((ls.drop fr).take n) := hq.out.1.done hn0
      have HP := Lib.hid hq.out.2
      have hr1 := HP.out.r1
      have hid := info_of d HP.out.d32
      have hid' := info_of' d HP.out.d32
      have htd := sz_there HP.out.d32 HP.out.t0
      have Hd := Lib.hid hd
      clear hq hd hmn
      go_wp2_with (first
        | ((with_reducible show wpList _ _ _ (⟨_, Op.load 26 (.tmp 7), _, _, _, _⟩ :: _) _ _); refine wpList_load_mid rfl _ _ rfl (w.heap.size + 1) 0 rfl (d.map B8) _ hr1 Try.underlying26 rfl hid ?_; simp only [Act.put, List.setIfInBounds_toArray, List.set_cons_zero, List.set_cons_succ])
        | ((with_reducible show wpList _ _ _ (⟨_, Op.store 26 (.tmp 6) _, _, _, _, _⟩ :: _) _ _); refine wpList_store_row rfl _ _ _ rfl w.heap.size 0 (d.map B8).toArray rfl rfl htd hid' (b8_all d) ?_; intro w5 hg5 hs5 ht5 hth5; rw [List.toList_toArray] at ht5; skip))
      rw [← Hd.out]
      refine bodyPost_ret (v := SumV d) ?_ rfl ⟨rfl, HP.out.below.grown hg5 HP.out.below.size (by intro k hk; cases hk; omega)⟩
      exact results_cell (s := 6) rfl _ _ _ w.heap.size 0 rfl (d.map B8) _ ht5 Try.underlying26 rfl hid
    · obtain ⟨s, hs, hkl, hst1, hst2⟩ := hq.out.1.step ha (by omega) hmb hl
      obtain ⟨hk6, hle, hz, -⟩ := lowk_all m hmb (by omega)
      have hand := low_and m hmb (by omega)
      obtain ⟨vb, mr, cV, rb, cx, hkm, hmrl, hs32, hlook⟩ := look_level h hs hkl
      have hixq := (List.getElem?_eq_some_iff.1 hs).1
      obtain ⟨q, hq'⟩ : ∃ q, q = (lev F (lowk m) ls).length := ⟨_, rfl⟩
      rw [← hq'] at hlook hixq
      have hqn : q ≤ 127 := by rw [hq', lev_length]; exact Nat.le_trans (Nat.div_le_self _ _) h127
      have hmr : mr ≤ 127 := by omega
      obtain ⟨k, hk⟩ : ∃ k, lowk m = k := ⟨_, rfl⟩
      rw [hk] at hs hkl hst1 hst2 hk6 hle hz hand hkm hixq hlook
      obtain ⟨m2, hm2⟩ : ∃ m2, m2 = m - 2 ^ k := ⟨_, rfl⟩
      obtain ⟨ix, hix⟩ : ∃ ix, ix = (fr + m2) / 2 ^ k := ⟨_, rfl⟩
      have hz0 := Nat.two_pow_pos k
      rw [← hm2] at hs hst1 hst2 hixq hlook
      rw [← hix] at hs hixq hlook
      have hshr : ((fr + m2 : Nat) : Int) / 2 ^ k = (ix : Int) := by rw [hix]; simp
      obtain ⟨fm, hfm⟩ : ∃ fm, fm = fr + m2 := ⟨_, rfl⟩
      have e3 : (fr : Int) + (m2 : Int) = (fm : Int) := by omega
      rw [← hfm] at hshr
      have hshl : Hid (∀ j, j ≤ k → ∃ p : Nat, (∀ t kk, binOp .shl t (.int .i64 1) (.int kk (j : Int)) = pure (.int .i64 (p : Int))) ∧ (j < k → p < 2 ^ k) ∧ (j = k → p = 2 ^ k)) := Lib.hid fun j hj => ⟨2 ^ j, fun t kk => shl_one t kk j (by omega), fun h => Nat.pow_lt_pow_right (by decide) h, fun h => by rw [h]⟩
      obtain ⟨z, hzz⟩ : ∃ z, 2 ^ k = z := ⟨_, rfl⟩
      rw [hzz] at hle hand hm2 hz0 hshl
      have HP := Lib.hid hq.out.2
      have HST := Lib.hid (And.intro hst1 hst2)
      have d0 : decide ((0 : Int) < (m : Int)) = true := decide_eq_true (by omega)
      have d0' : decide (0 < m) = true := decide_eq_true (by omega)
      have e0 : (m : Int) - (z : Int) = (m2 : Int) := by omega
      have HLK := Lib.hid hlook
      have hi_s := info_of s hs32
      have hi_s' := info_of' s hs32
      have g0 : (0 : Int) ≤ (k : Int) := by omega
      have g1 : (k : Int) < (mr : Int) := by omega
      have g2 : (ix : Int) < (q : Int) := by omega
      have hsz2 : fm ≤ 127 := by omega
      have hm2m : m2 < m := by omega
      have Hm := Lib.hid hmn
      clear hq hst1 hst2 hs hlook hq' hix hk hzz hm2 hkl hfm
      go_wp2_with fail
      go_loopw [10] (fun s10 wr2 => ∃ j : Nat, j ≤ k ∧ s10 = .int .i64 (j : Int) ∧ Hid (PtI w d wr2)) (fun s10 _ => k - (intOf s10).toNat)
      case atStart => exact ⟨0, Nat.zero_le _, rfl, HP⟩
      case round =>
        obtain ⟨j, hj, rfl, hq2⟩ := hrel
        obtain ⟨p, hp1, hp2, hp3⟩ := hshl.out j hj
        by_cases hjk : j < k
        · have dj : decide (p < z) = true := decide_eq_true (hp2 hjk)
          clear hp2 hp3
          go_wp2_with fail
          go_roundw
          case rel => exact ⟨j + 1, hjk, by go_num, hq2⟩
          case measure => simp [intOf]; omega
        · obtain rfl : k = j := by omega
          obtain rfl := hp3 rfl
          have dj : decide (p < p) = false := decide_eq_false (by omega)
          have HP := hq2
          clear hp2 hq2
          go_wp2_with fail
          have hsd := HP.out.stable (below_drewN (Below.refl _ _) 1)
          refine wp_region_noPanic ?_
          refine wp_region_moves 14 (fun u => PtI w d u) (fun u u' => u = u') (fun u => rfl) (fun h k => h.trans k) (by kernel_rfl) (by kernel_rfl) hsd (fun _ _ _ _ _ h => h) ?_
          simp only [List.take_succ_cons, List.take_zero, List.drop_succ_cons, List.drop_zero]
          refine wpMH_moveW (fun u => rfl) (by rfl) _ rfl _ rfl ?_
          simp only [Act.put, List.setIfInBounds_toArray, List.set_cons_zero, List.set_cons_succ]
          refine wpMH_pureW (fun u => rfl) (by rfl) (.pointer (some ⟨g, 0, none⟩)) (fun u hu => by go_simp) ?_
          simp only [Act.put, List.setIfInBounds_toArray, List.set_cons_zero, List.set_cons_succ]
          refine wpMH_pureW (fun u => rfl) (by rfl) (.pointer (some ⟨g, 0, none⟩)) (fun u hu => by go_simp) ?_
          simp only [Act.put, List.setIfInBounds_toArray, List.set_cons_zero, List.set_cons_succ]
          refine wpMH_pureW (fun u => rfl) (by rfl) (.slice (some ⟨vb, 0, none⟩) mr cV) (fun u hu => by have hc := (HLK.out u hu.below).1; go_simp) ?_
          simp only [Act.put, List.setIfInBounds_toArray, List.set_cons_zero, List.set_cons_succ]
          refine wpMH_moveW (fun u => rfl) (by rfl) _ rfl _ rfl ?_
          simp only [Act.put, List.setIfInBounds_toArray, List.set_cons_zero, List.set_cons_succ]
          refine wpMH_pureW (fun u => rfl) (by rfl) (.pointer (some ⟨vb, k, none⟩)) (fun u hu => by go_simp) ?_
          simp only [Act.put, List.setIfInBounds_toArray, List.set_cons_zero, List.set_cons_succ]
          refine wpMH_pureW (fun u => rfl) (by rfl) (.slice (some ⟨rb, 0, none⟩) q cx) (fun u hu => by have hc := (HLK.out u hu.below).2.1; go_simp) ?_
          simp only [Act.put, List.setIfInBounds_toArray, List.set_cons_zero, List.set_cons_succ]
          refine wpMH_moveW (fun u => rfl) (by rfl) _ rfl _ rfl ?_
          simp only [Act.put, List.setIfInBounds_toArray, List.set_cons_zero, List.set_cons_succ]
          refine wpMH_moveW (fun u => rfl) (by rfl) _ rfl _ rfl ?_
          simp only [Act.put, List.setIfInBounds_toArray, List.set_cons_zero, List.set_cons_succ]
          refine wpMH_pureW (fun u => rfl) (by rfl) (.int .i64 (fm : Int)) (fun u hu => by go_simp; rw [IntWalk.i64_in _ ⟨by omega, by omega⟩]) ?_
          simp only [Act.put, List.setIfInBounds_toArray, List.set_cons_zero, List.set_cons_succ]
          refine wpMH_moveW (fun u => rfl) (by rfl) _ rfl _ rfl ?_
          simp only [Act.put, List.setIfInBounds_toArray, List.set_cons_zero, List.set_cons_succ]
          refine wpMH_pureW (fun u => rfl) (by rfl) (.int .i64 (ix : Int)) (fun u hu => by go_simp) ?_
          simp only [Act.put, List.setIfInBounds_toArray, List.set_cons_zero, List.set_cons_succ]
          refine wpMH_pureW (fun u => rfl) (by rfl) (.pointer (some ⟨rb, ix * 32, none⟩)) (fun u hu => by go_simp) ?_
          simp only [Act.put, List.setIfInBounds_toArray, List.set_cons_zero, List.set_cons_succ]
          refine wpMH_loadW (fun u => rfl) (by rfl) _ _ rfl rb (ix * 32) rfl (s.map B8) _ (fun u h => (HLK.out u h.below).2.2) Try.underlying26 rfl hi_s ?_
          simp only [Act.put, List.setIfInBounds_toArray, List.set_cons_zero, List.set_cons_succ]
          refine wpMH_nil ?_
          obtain ⟨wd, hwd⟩ : ∃ wd, wd = wr.drew := ⟨_, rfl⟩
          have hsd6 : PtI w d wd := by rw [hwd]; exact hsd
          rw [← hwd]
          clear hwd hsd
          refine wpMT_cons ?_
          rintro u1 - rfl
          go_wp2_with fail
          rw [zeros_lit]
          have hal : Below wd.heap.size wd (wd.alloc (.cells (List.replicate 32 (.int .u8 0)).toArray 26)) := (Below.refl _ _).alloc (Nat.le_refl _) _
          have hsa := hsd6.stable hal
          have htn : (wd.alloc (.cells (List.replicate 32 (.int .u8 0)).toArray 26)).there wd.heap.size 0 (s.map B8).toArray.size := sz_there hs32 (there_blk (heap_alloc_at _ _ _ rfl) (by decide))
          have hbb : w.heap.size + 2 ≤ wd.heap.size := by have := there_lt hsd6.t1 (by decide); omega
          refine ⟨hsa, ?_⟩
          obtain ⟨ua, hua⟩ : ∃ ua, ua = wd.alloc (.cells (List.replicate 32 (.int .u8 0)).toArray 26) := ⟨_, rfl⟩
          obtain ⟨ub, hub⟩ : ∃ ub, ub = wd.heap.size := ⟨_, rfl⟩
          rw [← hua, ← hub] at htn
          rw [← hua] at hsa
          rw [← hub] at hbb
          rw [← hua, ← hub]
          have Hsa := Lib.hid hsa
          clear hua hub hal hsd6 hsa
          refine wpMT_cons ?_
          rintro u2 - rfl
          go_wp2_with ((with_reducible show wpList _ _ _ (⟨_, Op.store 26 (.tmp 11) _, _, _, _, _⟩ :: _) _ _); refine wpList_store_row rfl _ _ _ rfl ub 0 (s.map B8).toArray rfl rfl htn hi_s' (b8_all s) ?_; intro w5 hg5 hs5 ht5 hth5; rw [List.toList_toArray] at ht5; have H5 := Lib.hid (And.intro (Hsa.out.off hbb hg5) ht5); clear hg5 hs5 ht5 hth5 htn)
          refine ⟨H5.out.1, ?_⟩
          refine wpMT_nil ?_
          rintro u4 - rfl
          refine NoPanic.normal ?_
          cases b with
          | true =>
            have hmn' : m = n := by rcases Hm.out with h | h; exact h.2; cases h.1
            have HPI := Lib.hid (HST.out.1 hmn')
            have hr5 := H5.out.2
            have ht5 := sz_there hs32 H5.out.1.t1
            clear Hm
            go_wp2_with (first
              | ((with_reducible show wpList _ _ _ (⟨_, Op.load 26 (.tmp 11), _, _, _, _⟩ :: _) _ _); refine wpList_load_mid rfl _ _ rfl ub 0 rfl (s.map B8) _ hr5 Try.underlying26 rfl hi_s ?_; simp only [Act.put, List.setIfInBounds_toArray, List.set_cons_zero, List.set_cons_succ])
              | ((with_reducible show wpList _ _ _ (⟨_, Op.store 26 (.tmp 7) _, _, _, _, _⟩ :: _) _ _); refine wpList_store_row rfl _ _ _ rfl (w.heap.size + 1) 0 (s.map B8).toArray rfl rfl ht5 hi_s' (b8_all s) ?_; intro w9 hg9 hs9 ht9 hth9; rw [List.toList_toArray] at ht9; have H9 := Lib.hid (H5.out.1.put hg9 ht9 (there_sz hs32 hth9) hs32); clear hg9 hs9 ht9 hth9))
            have HN : Hid (PartI F ls fr n m2 s ∧ PtI w s w9) := Lib.hid ⟨HPI.out, H9.out⟩
            have hm2n : m2 < n := by omega
            clear ht5 hr5
            first
              | go_roundw
              | (refine ⟨?_, ?measure⟩; repeat apply Exists.intro
                 refine ⟨?rel, rfl⟩)
            case rel => exact ⟨m2, false, s, by go_num, rfl, .inr ⟨rfl, hm2n⟩, HN⟩
            case measure => simp [intOf]; omega
          | false =>
            have hmn' : m < n := by
              rcases Hm.out with h | h
              · cases h.1
              · exact h.2
            obtain ⟨dn, hdn⟩ : ∃ dn, dn = nodeF F s d := ⟨_, rfl⟩
            have hdn32 : dn.length = 32 := by rw [hdn]; exact HF32.out _
            have HPI := Lib.hid (HST.out.2 hmn')
            rw [← hdn] at HPI
            have hr5 := H5.out.2
            have hr6 := H5.out.1.r1
            have hid := info_of d H5.out.1.d32
            have hidn' := info_of' dn hdn32
            have hc := HNd.out w5 s d hs32 H5.out.1.d32
            rw [← hdn] at hc
            unfold SumV at hc
            have HC := Lib.hid hc
            clear Hm hc hdn
            go_wp2_with (first
              | ((with_reducible show wpList _ _ _ (⟨_, Op.load 26 (.tmp 11), _, _, _, _⟩ :: _) _ _); refine wpList_load_mid rfl _ _ rfl ub 0 rfl (s.map B8) _ hr5 Try.underlying26 rfl hi_s ?_; simp only [Act.put, List.setIfInBounds_toArray, List.set_cons_zero, List.set_cons_succ])
              | ((with_reducible show wpList _ _ _ (⟨_, Op.load 26 (.tmp 7), _, _, _, _⟩ :: _) _ _); refine wpList_load_mid rfl _ _ rfl (w.heap.size + 1) 0 rfl (d.map B8) _ hr6 Try.underlying26 rfl hid ?_; simp only [Act.put, List.setIfInBounds_toArray, List.set_cons_zero, List.set_cons_succ]))
            refine HC.out.mono ?_
            rintro e w7 ⟨rfl, hb7⟩
            have H7 := Lib.hid (H5.out.1.stable hb7)
            have ht7 := sz_there hdn32 H7.out.t1
            clear hb7 hr5 hr6
            go_wp2_with ((with_reducible show wpList _ _ _ (⟨_, Op.store 26 (.tmp 7) _, _, _, _, _⟩ :: _) _ _); refine wpList_store_row rfl _ _ _ rfl (w.heap.size + 1) 0 (dn.map B8).toArray rfl rfl ht7 hidn' (b8_all dn) ?_; intro w9 hg9 hs9 ht9 hth9; rw [List.toList_toArray] at ht9; have H9 := Lib.hid (H7.out.put hg9 ht9 (there_sz hdn32 hth9) hdn32); clear hg9 hs9 ht9 hth9)
            have HN : Hid (PartI F ls fr n m2 dn ∧ PtI w dn w9) := Lib.hid ⟨HPI.out, H9.out⟩
            have hm2n : m2 < n := by omega
            clear ht7
            first
              | go_roundw
              | (refine ⟨?_, ?measure⟩; repeat apply Exists.intro
                 refine ⟨?rel, rfl⟩)
            case rel => exact ⟨m2, false, dn, by go_num, rfl, .inr ⟨rfl, hm2n⟩, HN⟩
            case measure => simp [intOf]; omega
end
end Go.Proofs.Ytkcmacglomdfcaa

/-
  THE WALKS of the tree's Root, Leaf, Find, and of the document's Root and Find.
-/
namespace Go.Proofs.Ytkcmacglomdfcaa
open Go.RowKit

section
variable {F : Dg → Dg} {B g : Nat} {ls : List Dg} {K : List Nat}
set_option maxRecDepth 100000 in
theorem troot_bad (w : World) (h : TS F B g ls K w) (n : Int) (hn : n < 0 ∨ (ls.length : Int) < n) :
    Calls Try.prog 44 #[.pointer (some ⟨g, 0, none⟩), .int .i64 n] w fun e w' => e = .returned (.tuple #[SumV zero32, errV 2]) ∧ Below w.heap.size w w' := by
  have HL : Hid (∀ o, Calls Try.prog 48 #[.pointer (some ⟨g, 0, none⟩)] (w.alloc o) fun e w' => e = .returned (.int .i64 (ls.length : Nat)) ∧ w.alloc o = w') := Lib.hid fun o => ts_len (h.stable ((Below.refl _ _).alloc (Nat.le_refl _) _))
  clear h
  obtain ⟨m, hm⟩ : ∃ m, m = ls.length := ⟨_, rfl⟩
  rw [← hm] at hn HL
  clear hm
  by_cases h0 : n < 0
  · have d0 : decide (n < 0) = true := decide_eq_true h0
    go_enter Try.func44, Try.ntmps44
    go_wp2_with ((with_reducible show wpList _ _ _ (⟨_, Op.store 26 (.tmp 4) _, _, _, _, _⟩ :: _) _ _); refine wpList_store_row rfl _ _ _ rfl w.heap.size 0 (zero32.map B8).toArray rfl rfl (there_blk (heap_alloc_at _ _ _ rfl) (by decide)) (by kernel_rfl) (b8_all zero32) ?_; intro w5 hg5 hs5 ht5 hth5; rw [List.toList_toArray] at ht5; skip)
    refine bodyPost_ret (v := .tuple #[SumV zero32, errV 2]) ?_ rfl ⟨rfl, ((Below.refl _ _).alloc (Nat.le_refl _) _).grown hg5 (by simp <;> omega) (by intro k hk; cases hk; omega)⟩
    exact results_cell_tmp (s := 4) (s2 := 5) rfl _ _ _ w.heap.size 0 rfl _ rfl (zero32.map B8) _ ht5 Try.underlying26 rfl (by kernel_rfl)
  · have d0 : decide (n < 0) = false := decide_eq_false h0
    have d1 : decide ((m : Int) < n) = true := decide_eq_true (by omega)
    go_enter Try.func44, Try.ntmps44
    go_wp2_with (first
      | (go_at_call 48; refine (HL.out _).mono ?_; rintro e w1 ⟨rfl, rfl⟩)
      | ((with_reducible show wpList _ _ _ (⟨_, Op.store 26 (.tmp 4) _, _, _, _, _⟩ :: _) _ _); refine wpList_store_row rfl _ _ _ rfl w.heap.size 0 (zero32.map B8).toArray rfl rfl (there_blk (heap_alloc_at _ _ _ rfl) (by decide)) (by kernel_rfl) (b8_all zero32) ?_; intro w5 hg5 hs5 ht5 hth5; rw [List.toList_toArray] at ht5; skip))
    refine bodyPost_ret (v := .tuple #[SumV zero32, errV 2]) ?_ rfl ⟨rfl, ((Below.refl _ _).alloc (Nat.le_refl _) _).grown hg5 (by simp <;> omega) (by intro k hk; cases hk; omega)⟩
    exact results_cell_tmp (s := 4) (s2 := 5) rfl _ _ _ w.heap.size 0 rfl _ rfl (zero32.map B8) _ ht5 Try.underlying26 rfl (by kernel_rfl)
end
section
variable {F : List UInt8 → List UInt8} (HF : Dig F)
include HF
set_option maxRecDepth 100000 in
theorem troot_ok (w : World) {B g : Nat} {ls : List Dg} {K : List Nat} (h : TS F B g ls K w) (n : Nat) (hn : n ≤ ls.length) (h127 : ls.length ≤ 127) :
    Calls Try.prog 44 #[.pointer (some ⟨g, 0, none⟩), .int .i64 (n : Int)] w fun e w' => e = .returned (.tuple #[SumV (rootF F (ls.take n)), .nilIface]) ∧ Below w.heap.size w w' := by
  have HL : Hid (∀ o, Calls Try.prog 48 #[.pointer (some ⟨g, 0, none⟩)] (w.alloc o) fun e w' => e = .returned (.int .i64 (ls.length : Nat)) ∧ w.alloc o = w') := Lib.hid fun o => ts_len (h.stable ((Below.refl _ _).alloc (Nat.le_refl _) _))
  obtain ⟨d, hd⟩ : ∃ d, d = rootF F (ls.take n) := ⟨_, rfl⟩
  have hd32 : d.length = 32 := by rw [hd]; exact rootF_len HF.len _ _ rfl (fun x hx => h.l32 x (List.mem_of_mem_take hx))
  have hi := info_of d hd32
  have hi' := info_of' d hd32
  rw [← hd]
  by_cases h0 : n = 0
  · have hE := fun u => empty_any HF u
    have e : d = F [] := by rw [hd, h0]; rfl
    rw [← e] at hE
    unfold SumV at hE
    have HE := Lib.hid hE
    obtain ⟨m, hm⟩ : ∃ m, m = ls.length := ⟨_, rfl⟩
    rw [← hm] at HL
    subst h0
    have hm0 : (0 : Int) ≤ (m : Int) := by omega
    clear h hn h127 hE e hd hm
    go_enter Try.func44, Try.ntmps44
    go_wp2_with (go_at_call 48; refine (HL.out _).mono ?_; rintro e w1 ⟨rfl, rfl⟩)
    refine (HE.out _).mono ?_
    rintro e w2 ⟨rfl, hb2⟩
    obtain ⟨W, hW⟩ : ∃ W, W = w.alloc (.cells (List.replicate 32 (.int .u8 0)).toArray 26) := ⟨_, rfl⟩
    rw [zeros_lit, ← hW] at hb2
    have hWb : Below w.heap.size w W ∧ W.there w.heap.size 0 32 := by rw [hW]; exact ⟨(Below.refl _ _).alloc (Nat.le_refl _) _, there_blk (heap_alloc_at _ _ _ rfl) (by decide)⟩
    have hb02 := hWb.1.trans (hb2.mono hWb.1.size)
    have hth2 := sz_there hd32 (there_same hWb.2 (hb2.block _ (there_lt hWb.2 (by decide))))
    have HB := Lib.hid hb02
    clear hW hWb hb2 hb02 HL
    go_wp2_with ((with_reducible show wpList _ _ _ (⟨_, Op.store 26 (.tmp 4) _, _, _, _, _⟩ :: _) _ _); refine wpList_store_row rfl _ _ _ rfl w.heap.size 0 (d.map B8).toArray rfl rfl hth2 hi' (b8_all d) ?_; intro w5 hg5 hs5 ht5 hth5; rw [List.toList_toArray] at ht5; skip)
    refine bodyPost_ret (v := .tuple #[SumV d, .nilIface]) ?_ rfl ⟨rfl, HB.out.grown hg5 HB.out.size (by intro k hk; cases hk; omega)⟩
    exact results_cell_tmp (s := 4) (s2 := 5) rfl _ _ _ w.heap.size 0 rfl _ rfl (d.map B8) _ ht5 Try.underlying26 rfl hi
  · have hP := fun u (hu : TS F B g ls K u) => part_any HF u hu 0 n (PartAt.zero n) (by omega) (by omega) h127
    simp only [List.drop_zero] at hP
    rw [← hd] at hP
    unfold SumV at hP
    have HP := Lib.hid hP
    obtain ⟨m, hm⟩ : ∃ m, m = ls.length := ⟨_, rfl⟩
    rw [← hm] at HL h127 hn
    have Hh := Lib.hid h
    have d0 : decide ((n : Int) < 0) = false := decide_eq_false (by omega)
    have d1 : decide (m < n) = false := decide_eq_false (by omega)
    have d2 : decide ((m : Int) < (n : Int)) = false := decide_eq_false (by omega)
    have d3 : ((n : Int) == 0) = false := by rw [beq_eq_false_iff_ne]; omega
    clear h hd hm hP
    go_enter Try.func44, Try.ntmps44
    go_wp2_with (go_at_call 48; refine (HL.out _).mono ?_; rintro e w1 ⟨rfl, rfl⟩)
    obtain ⟨W, hW⟩ : ∃ W, W = w.alloc (.cells (List.replicate 32 (.int .u8 0)).toArray 26) := ⟨_, rfl⟩
    rw [zeros_lit, ← hW]
    have hWb : Below w.heap.size w W ∧ W.there w.heap.size 0 32 := by rw [hW]; exact ⟨(Below.refl _ _).alloc (Nat.le_refl _) _, there_blk (heap_alloc_at _ _ _ rfl) (by decide)⟩
    refine (HP.out W (Hh.out.stable hWb.1)).mono ?_
    rintro e w2 ⟨rfl, hb2⟩
    have hb02 := hWb.1.trans (hb2.mono hWb.1.size)
    have hth2 := sz_there hd32 (there_same hWb.2 (hb2.block _ (there_lt hWb.2 (by decide))))
    have HB := Lib.hid hb02
    clear hW hWb hb2 hb02 HL
    go_wp2_with ((with_reducible show wpList _ _ _ (⟨_, Op.store 26 (.tmp 4) _, _, _, _, _⟩ :: _) _ _); refine wpList_store_row rfl _ _ _ rfl w.heap.size 0 (d.map B8).toArray rfl rfl hth2 hi' (b8_all d) ?_; intro w5 hg5 hs5 ht5 hth5; rw [List.toList_toArray] at ht5; skip)
    refine bodyPost_ret (v := .tuple #[SumV d, .nilIface]) ?_ rfl ⟨rfl, HB.out.grown hg5 HB.out.size (by intro k hk; cases hk; omega)⟩
    exact results_cell_tmp (s := 4) (s2 := 5) rfl _ _ _ w.heap.size 0 rfl _ rfl (d.map B8) _ ht5 Try.underlying26 rfl hi
end
set_option maxRecDepth 100000 in
theorem rroot_bad (w : World) (A : Option Addr) (m c : Nat) (n : Int) (hn : n < 0 ∨ (m : Int) < n) :
    Calls Try.prog 45 #[.slice A m c, .int .i64 n] w fun e w' => e = .returned (.tuple #[SumV zero32, .bool false]) ∧ Below w.heap.size w w' := by
  by_cases h0 : n < 0
  · have d0 : decide (n < 0) = true := decide_eq_true h0
    go_enter Try.func45, Try.ntmps45
    go_wp2_with ((with_reducible show wpList _ _ _ (⟨_, Op.store 26 (.tmp 4) _, _, _, _, _⟩ :: _) _ _); refine wpList_store_row rfl _ _ _ rfl w.heap.size 0 (zero32.map B8).toArray rfl rfl (there_blk (heap_alloc_at _ _ _ rfl) (by decide)) (by kernel_rfl) (b8_all zero32) ?_; intro w5 hg5 hs5 ht5 hth5; rw [List.toList_toArray] at ht5; skip)
    refine bodyPost_ret (v := .tuple #[SumV zero32, .bool false]) ?_ rfl ⟨rfl, ((Below.refl _ _).alloc (Nat.le_refl _) _).grown hg5 (by simp <;> omega) (by intro k hk; cases hk; omega)⟩
    exact results_cell_tmp (s := 4) (s2 := 5) rfl _ _ _ w.heap.size 0 rfl _ rfl (zero32.map B8) _ ht5 Try.underlying26 rfl (by kernel_rfl)
  · have d0 : decide (n < 0) = false := decide_eq_false h0
    have d1 : decide ((m : Int) < n) = true := decide_eq_true (by omega)
    clear hn
    go_enter Try.func45, Try.ntmps45
    go_wp2_with ((with_reducible show wpList _ _ _ (⟨_, Op.store 26 (.tmp 4) _, _, _, _, _⟩ :: _) _ _); refine wpList_store_row rfl _ _ _ rfl w.heap.size 0 (zero32.map B8).toArray rfl rfl (there_blk (heap_alloc_at _ _ _ rfl) (by decide)) (by kernel_rfl) (b8_all zero32) ?_; intro w5 hg5 hs5 ht5 hth5; rw [List.toList_toArray] at ht5; skip)
    refine bodyPost_ret (v := .tuple #[SumV zero32, .bool false]) ?_ rfl ⟨rfl, ((Below.refl _ _).alloc (Nat.le_refl _) _).grown hg5 (by simp <;> omega) (by intro k hk; cases hk; omega)⟩
    exact results_cell_tmp (s := 4) (s2 := 5) rfl _ _ _ w.heap.size 0 rfl _ rfl (zero32.map B8) _ ht5 Try.underlying26 rfl (by kernel_rfl)
section
variable {F : List UInt8 → List UInt8} (HF : Dig F)
include HF
set_option maxRecDepth 100000 in
theorem rroot_ok (w : World) (A : Option Addr) (m c : Nat) (ls : List Dg) (hr : RS w A m ls) (hmc : m ≤ c) (hcm : c ≤ maxLen) (hm : m ≤ 1048576) (n : Nat) (hn : n ≤ m) :
    Calls Try.prog 45 #[.slice A m c, .int .i64 (n : Int)] w fun e w' => e = .returned (.tuple #[SumV (rootF F (ls.take n)), .bool true]) ∧ Below w.heap.size w w' := by
  obtain ⟨d, hd⟩ : ∃ d, d = rootF F (ls.take n) := ⟨_, rfl⟩
  have hd32 : d.length = 32 := by rw [hd]; exact rootF_len HF.len _ _ rfl (fun x hx => hr.2.1 x (List.mem_of_mem_take hx))
  have hi := info_of d hd32
  have hi' := info_of' d hd32
  rw [← hd]
  have hR : ∀ u, Below w.heap.size w u → Calls Try.prog 39 #[.slice A n c] u fun e w' => e = .returned (.agg (d.map B8).toArray) ∧ Below u.heap.size u w' := fun u hu => by
    have h := refroot_any HF n n (Nat.le_refl _) u A c (ls.take n) ((hr.below hu).take hn) (by omega) hcm (by omega)
    rwa [← hd] at h
  have HR := Lib.hid hR
  have d0 : decide ((n : Int) < 0) = false := decide_eq_false (by omega)
  have d1 : decide (m < n) = false := decide_eq_false (by omega)
  have d2 : decide ((m : Int) < (n : Int)) = false := decide_eq_false (by omega)
  unfold maxLen at hcm
  clear hr hd hR
  go_enter Try.func45, Try.ntmps45
  go_wp2_with fail
  obtain ⟨W, hW⟩ : ∃ W, W = w.alloc (.cells (List.replicate 32 (.int .u8 0)).toArray 26) := ⟨_, rfl⟩
  rw [zeros_lit, ← hW]
  have hWb : Below w.heap.size w W ∧ W.there w.heap.size 0 32 := by rw [hW]; exact ⟨(Below.refl _ _).alloc (Nat.le_refl _) _, there_blk (heap_alloc_at _ _ _ rfl) (by decide)⟩
  refine (HR.out W hWb.1).mono ?_
  rintro e w2 ⟨rfl, hb2⟩
  have hb02 := hWb.1.trans (hb2.mono hWb.1.size)
  have hth2 := sz_there hd32 (there_same hWb.2 (hb2.block _ (there_lt hWb.2 (by decide))))
  have HB := Lib.hid hb02
  clear hW hWb hb2 hb02
  go_wp2_with ((with_reducible show wpList _ _ _ (⟨_, Op.store 26 (.tmp 4) _, _, _, _, _⟩ :: _) _ _); refine wpList_store_row rfl _ _ _ rfl w.heap.size 0 (d.map B8).toArray rfl rfl hth2 hi' (b8_all d) ?_; intro w5 hg5 hs5 ht5 hth5; rw [List.toList_toArray] at ht5; skip)
  refine bodyPost_ret (v := .tuple #[SumV d, .bool true]) ?_ rfl ⟨rfl, HB.out.grown hg5 HB.out.size (by intro k hk; cases hk; omega)⟩
  exact results_cell_tmp (s := 4) (s2 := 5) rfl _ _ _ w.heap.size 0 rfl _ rfl (d.map B8) _ ht5 Try.underlying26 rfl hi
end
end Go.Proofs.Ytkcmacglomdfcaa
