/-
  slices.Reverse at digests: the row stays the call's own.
-/
import Derived.Test.YtkcmacglomdfcaaRevS
import Derived.Test.YtkcmacglomdfcaaTrA
import Derived.Test.YtkcmacglomdfcaaTrIJ
namespace Go.Proofs.Ytkcmacglomdfcaa
open Go.RowKit Go.Sort

theorem own_put_all {w : World} {B : Nat} {e : TypeId} {s g n cap q : Nat} {xs ys : List Value} (h : w.ownsRow B e s (.slice (some ⟨g, 0, none⟩) n cap) n xs) (hy : ys.length = xs.length) :
    (putRow id (Sort.ahead w q) g 0 ys.toArray).ownsRow B e s (.slice (some ⟨g, 0, none⟩) n cap) n ys := by
  have hl := h.1
  rcases h.2 with ⟨e0, _⟩ | ⟨g', cap', cur, e0, hb, hg, hn, hm, hs, ht⟩
  · cases e0
  · injection e0 with e1 _ e3
    injection e1 with e1
    injection e1 with e1
    subst e1; subst e3
    have hcs : n * s ≤ cur.size := by rw [hs]; exact Nat.mul_le_mul_right _ hn
    refine ⟨by omega, .inr ⟨g, cap, putCells id 0 ys.toArray cur, rfl, hb, ?_, by omega, hm, by simpa [putCells] using hs, ?_⟩⟩
    · simp [putRow, mapBlock, Sort.ahead, Array.getElem?_modify, hg, onCells]
    · apply List.ext_getElem?
      intro j
      rw [List.getElem?_take, Array.getElem?_toList]
      by_cases hj : j < n * s
      · have hjc : j < cur.size := by omega
        simp only [if_pos hj, putCells, Array.getElem?_mapIdx, Array.getElem?_eq_getElem hjc, Option.map_some]
        rw [if_pos (by simp; omega), List.getElem?_eq_getElem (by omega)]
        simp [getElem!_pos, show j < ys.length by omega]
      · rw [if_neg hj, List.getElem?_eq_none (by omega)]
theorem flatK_eq (w : World) {ls : List (List UInt8)} (hl : ∀ x ∈ ls, x.length = 32) : flatK encS 32 ls.toArray = (ls.flatten.map B8).toArray := by
  have hfl := flat_len ls hl
  apply Array.ext
  · rw [size_flatK, List.size_toArray, List.size_toArray, List.length_map, hfl]
  · intro j h1 h2
    have hj : j < ls.length * 32 := by simpa using h1
    obtain ⟨x, c, hx, hc, he⟩ := flat_at hl hj
    have e1 : (flatK encS 32 ls.toArray)[j] = B8 c := by rw [← he, getElem!_pos (flatK encS 32 ls.toArray) j h1]
    rw [e1]
    have h3 := rangeAt_part (w := w.alloc (.cells (ls.flatten.map B8).toArray 0)) (b := w.heap.size) ls 0 hl (rangeAt_at _ _ _ _ _ rfl) _ _ hx (j % 32) (B8 c) (by rw [List.getElem?_map, hc]; rfl)
    rw [show 0 + j / 32 * 32 + j % 32 = j by omega, cell_of_row _ _ _ _ _ _ (heap_alloc_new _ _)] at h3
    have h4 := (Array.getElem?_eq_some_iff.1 h3).2
    exact h4.symm
theorem rev_own (W wr : World) (A : Option Addr) (m c : Nat) (outl : List Dg) (hown : wr.ownsRow W.heap.size 26 32 (.slice A m c) m (outl.flatten.map B8)) (h32 : ∀ x ∈ outl, x.length = 32) (hl : outl.length = m) (hm : m ≤ 1048576) (hb : Below W.heap.size W wr) :
    Calls Try.prog 89 #[.slice A m c] wr fun e w' => e = .returned (.tuple #[]) ∧ w'.ownsRow W.heap.size 26 32 (.slice A m c) m (outl.reverse.flatten.map B8) ∧ Below W.heap.size W w' := by
  obtain ⟨A0, c0, e0, hmc, -, hg0⟩ := own_formK hown
  cases e0
  by_cases hm0 : m = 0
  · subst hm0
    have hol : outl = [] := List.eq_nil_of_length_eq_zero hl
    refine (rev_none wr A c).mono ?_
    rintro e w' ⟨he, rfl⟩
    exact ⟨he, by rw [hol] at hown ⊢; exact hown, hb⟩
  · obtain ⟨g, rfl, hBg, hr, -⟩ := hg0 (by omega)
    subst hl
    obtain ⟨cs, hh⟩ := own_obj hown (b := g) rfl
    have hpart := rangeAt_part outl 0 h32 hr
    have hH : HoldsK encS 32 wr g 0 outl.toArray := by
      intro j hj
      have hj' : j < outl.length * 32 := by simpa using hj
      obtain ⟨x, ch, hx, hc, he⟩ := flat_at h32 hj'
      refine ⟨?_, frozen_blk hh _⟩
      rw [he, Nat.zero_add]
      have h1 := hpart _ _ hx (j % 32) (B8 ch) (by rw [List.getElem?_map, hc]; rfl)
      rw [show 0 + j / 32 * 32 + j % 32 = j by omega] at h1
      exact h1
    have h := AnyQ.slices_Reverse revSum 32 Try.isAgg26 Try.sizeOf26 encS encS_len encS_one g 0 c outl.toArray wr hH (by simp; omega)
    rw [List.size_toArray] at h
    refine h.mono fun e w' ⟨he, q, hw⟩ => ⟨he, ?_, ?_⟩
    · have hl' : ∀ x ∈ outl.reverse, x.length = 32 := fun x hx => h32 x (by simpa using hx)
      rw [hw, putRowK, show outl.toArray.reverse = outl.reverse.toArray by simp, flatK_eq wr hl']
      refine own_put_all hown ?_
      rw [List.length_map, List.length_map, flat_len _ hl', flat_len _ h32, List.length_reverse]
    · rw [hw]
      exact Lib.below_putRow hb (hown.lt g rfl).1
end Go.Proofs.Ytkcmacglomdfcaa

/-
  THE WALKS of the tree's Path and Begins.
-/
namespace Go.Proofs.Ytkcmacglomdfcaa
open Go.RowKit

theorem PartAt.left {fr n : Nat} (h : PartAt fr n) (h2 : 2 ≤ n) : PartAt (fr + cutN n) (n - cutN n) := by
  obtain ⟨p, hp, hnp⟩ := h
  obtain ⟨k, hk, hk1, hk2⟩ := cutN_spec h2
  have hkp : k ≤ p := (Nat.pow_le_pow_iff_right (a := 2) (by decide)).1 (by omega)
  exact ⟨k, by rw [hk]; exact Nat.dvd_add (Nat.dvd_trans (Nat.pow_dvd_pow 2 hkp) hp) (Nat.dvd_refl _), by rw [hk]; omega⟩
theorem PartAt.keep {fr n : Nat} (h : PartAt fr n) (h2 : 2 ≤ n) : PartAt fr (cutN n) := by
  obtain ⟨p, hp, hnp⟩ := h
  exact ⟨p, hp, by have := cutN_lt h2; omega⟩
/-- A row of the call's own, and no error. -/
def RowErr (w : World) (ps : List Dg) (e : Ending) (w' : World) : Prop := ∃ A c, e = .returned (.tuple #[.slice A ps.length c, .nilIface]) ∧ w'.ownsRow w.heap.size 26 32 (.slice A ps.length c) ps.length (ps.flatten.map B8) ∧ Below w.heap.size w w'
section
variable {F : List UInt8 → List UInt8} (HF : Dig F)
include HF
set_option maxRecDepth 100000 in
set_option maxHeartbeats 4000000 in
theorem tpath_any (w : World) {B g : Nat} {ls : List Dg} {K : List Nat} (h : TS F B g ls K w) (h127 : ls.length ≤ 127) (i n : Nat) (hi : i < n) (hn : n ≤ ls.length) :
    Calls Try.prog 55 #[.pointer (some ⟨g, 0, none⟩), .int .i64 (i : Int), .int .i64 (n : Int)] w (RowErr w (pathF F (ls.take n) i)) := by
  have hP := fun (u : World) (hu : Below w.heap.size w u) => part_any HF u (h.stable hu)
  have h32 := pathF_32 HF.len _ (ls.take n) i rfl (fun x hx => h.l32 x (List.mem_of_mem_take hx))
  have hL := ts_len h
  have h32l := h.l32
  have hFl := fun l => rootF_len HF.len _ l rfl
  obtain ⟨N, hN⟩ : ∃ N, N = ls.length := ⟨_, rfl⟩
  rw [← hN] at hL h127 hn
  have HP := Lib.hid hP
  have H32 := Lib.hid h32
  have H32l := Lib.hid h32l
  have HFl := Lib.hid hFl
  have HL := Lib.hid hL
  have HN := Lib.hid hN
  have d1 : decide ((n : Int) < 0) = false := decide_eq_false (by omega)
  have d2 : decide (N < n) = false := decide_eq_false (by omega)
  have d2' : decide ((N : Int) < (n : Int)) = false := decide_eq_false (by omega)
  have d3 : decide ((i : Int) < 0) = false := decide_eq_false (by omega)
  have d4 : decide (n ≤ i) = false := decide_eq_false (by omega)
  have d4' : decide ((n : Int) ≤ (i : Int)) = false := decide_eq_false (by omega)
  clear hP h32 h32l hL hN hFl h HF
  go_enter Try.func55, Try.ntmps55
  go_wp2_with (go_at_call 48; refine HL.out.mono ?_; rintro e w1 ⟨rfl, rfl⟩)
  go_loopw [1, 2, 8, 9] (fun s1 s2 s8 s9 wr => ∃ (i' n' fr m : Nat) (outl : List Dg) (Av : Option Addr) (cv : Nat), s1 = .int .i64 (i' : Int) ∧ s2 = .int .i64 (n' : Int) ∧ s8 = .slice Av m cv ∧ s9 = .int .i64 (fr : Int) ∧ i' < n' ∧ m + n' ≤ n ∧ fr + n' ≤ n ∧ PartAt fr n' ∧
      Hid (pathF F (ls.take n) i = pathF F ((ls.drop fr).take n') i' ++ outl.reverse ∧ outl.length = m ∧ (∀ x ∈ outl, x.length = 32) ∧ wr.ownsRow w.heap.size 26 32 (.slice Av m cv) m (outl.flatten.map B8) ∧ Below w.heap.size w wr)) (fun _ s2 _ _ _ => (intOf s2).toNat)
  case atStart => exact ⟨i, n, 0, 0, [], none, 0, rfl, rfl, rfl, rfl, hi, by omega, by omega, PartAt.zero n, Lib.hid ⟨by simp, rfl, fun x hx => by simp at hx, World.ownsRow_nil _ _ _ _, Below.refl _ _⟩⟩
  case round =>
    obtain ⟨i', n', fr, m, outl, Av, cv, rfl, rfl, rfl, rfl, hi', hmn, hfn, hpa, hq⟩ := hrel
    by_cases h1 : n' ≤ 1
    · have d5 : decide (1 < (n' : Int)) = false := decide_eq_false (by omega)
      obtain ⟨q2, q3, q4, q5, q6⟩ := hq.out
      have hll : ((ls.drop fr).take n').length = n' := by rw [List.length_take, List.length_drop, ← HN.out]; omega
      rw [pathF_one (F := F) (l := (ls.drop fr).take n') (i := i') (by omega), List.nil_append] at q2
      have hrv := rev_own w wr Av m cv outl q5 q4 q3 (by omega) q6
      have hq2 := q2
      rw [← q2] at hrv
      have hps : (pathF F (ls.take n) i).length = m := by rw [q2, List.length_reverse, q3]
      clear hq q2 q3 q4 q5 q6 hll
      go_wp2_with fail
      have Hrv := Lib.hid hrv
      have Hps := Lib.hid hps
      clear hrv hps hq2
      refine Hrv.out.mono ?_
      rintro e w9 ⟨rfl, hr9, hb9⟩
      have H9 := Lib.hid (And.intro hr9 hb9)
      clear hr9 hb9
      go_wp2_with fail
      go_ret2
      exact ⟨Av, cv, by rw [Hps.out]; rfl, by rw [Hps.out]; exact H9.out.1, H9.out.2⟩
    · have d5 : decide (1 < n') = true := decide_eq_true (by omega)
      have d5' : decide (1 < (n' : Int)) = true := decide_eq_true (by omega)
      have hn2 : 2 ≤ n' := by omega
      have hk1 := cutN_lt hn2
      have hk2 := cutN_pos hn2
      have hpl := hpa.left hn2
      have hpk := hpa.keep hn2
      have hll : ((ls.drop fr).take n').length = n' := by rw [List.length_take, List.length_drop, ← HN.out]; omega
      have hcutc := fun w => cut_any w (n' : Int) (by omega) (by omega)
      rw [Int.toNat_natCast] at hcutc
      obtain ⟨k, hk⟩ : ∃ k, cutN n' = k := ⟨_, rfl⟩
      rw [hk] at hk1 hk2 hpl hpk hcutc
      have hcut := hk
      obtain ⟨fk, hfk⟩ : ∃ fk, fr + k = fk := ⟨_, rfl⟩
      obtain ⟨nk, hnk⟩ : ∃ nk, n' - k = nk := ⟨_, rfl⟩
      rw [hfk, hnk] at hpl
      have ef : (fr : Int) + (k : Int) = (fk : Int) := by omega
      have en : (n' : Int) - (k : Int) = (nk : Int) := by omega
      have hfkb : fk ≤ 127 := by omega
      have hnkb : nk ≤ 127 := by omega
      have Hcut := Lib.hid hcutc
      clear hcutc hk
      by_cases hik : i' < k
      · have dk : decide (i' < k) = true := decide_eq_true hik
        have dk' : decide ((i' : Int) < (k : Int)) = true := decide_eq_true (by omega)
        obtain ⟨d, hd⟩ : ∃ d, d = rootF F ((ls.drop fk).take nk) := ⟨_, rfl⟩
        have hsub : ((ls.drop fr).take n').drop k = (ls.drop fk).take nk := by rw [List.drop_take, List.drop_drop, hfk, hnk]
        have hsub2 : ((ls.drop fr).take n').take k = (ls.drop fr).take k := by rw [List.take_take, Nat.min_eq_left (by omega)]
        have e := pathF_left (F := F) (l := (ls.drop fr).take n') (i := i') (by omega) (by rw [hll, hcut]; exact hik)
        rw [hll, hcut, hsub, hsub2, ← hd] at e
        have hd32 : d.length = 32 := by rw [hd]; exact HFl.out _ (fun x hx => H32l.out x (List.mem_of_mem_drop (List.mem_of_mem_take hx)))
        have hml : (d.map B8).length = 32 := by rw [List.length_map, hd32]
        obtain ⟨q2, q3, q4, q5, q6⟩ := hq.out
        have hC := HP.out wr q6 fk nk hpl (by omega) (by rw [← HN.out]; omega) (by rw [← HN.out]; omega)
        rw [← hd] at hC
        rw [e] at q2
        unfold SumV at hC
        obtain ⟨xs, hxs⟩ : ∃ xs, xs = outl.flatten.map B8 := ⟨_, rfl⟩
        rw [← hxs] at q5
        have HC := Lib.hid hC
        have HQ := Lib.hid (And.intro q2 (And.intro q3 (And.intro q4 (And.intro q5 (And.intro q6 hxs)))))
        have b1 : m + 1 + k ≤ n := by omega
        have b2 : fr + k ≤ n := by omega
        have b3 : k < n' := by omega
        have Hcs := Lib.hid hpl
        have Hcc := Lib.hid hcut
        clear hq q2 q3 q4 q5 q6 e hd hC hxs hsub hsub2 hll hfk hnk hcut 
        go_wp2_with (go_at_call 36; refine (Hcut.out _).mono ?_; rintro e w' ⟨rfl, rfl⟩)
        refine HC.out.mono ?_
        rintro e w3 ⟨rfl, hb3⟩
        have H3 := Lib.hid (And.intro (ownsRow_below HQ.out.2.2.2.1 hb3) (HQ.out.2.2.2.2.1.trans (hb3.mono HQ.out.2.2.2.2.1.size)))
        clear hb3
        go_wp2_with (at_builtin; refine wpList_append_keep rfl (.tmp 36) (.tmp 45) 42 rfl w (H3.out.2.alloc H3.out.2.size _) Try.underlying42 info_sum3 rfl (by decide) (.slice Av m cv) m xs rfl (H3.out.1.alloc _) (some ⟨w3.heap.size, 0, none⟩) 1 1 (d.map B8) rfl (rc_new w3 _ _ _) (by rw [hml]) (b8_oneCell d) (by unfold maxLen; omega) (by omega) ?_; intro v8 w8 hown8 hb8 _ hg8 _; obtain ⟨A8, c8, rfl, -, -, -⟩ := own_formK hown8; have H8 := Lib.hid (And.intro hown8 hb8); clear hown8 hb8 hg8)
        have HNn : Hid (pathF F (ls.take n) i = pathF F ((ls.drop fr).take k) i' ++ (outl ++ [d]).reverse ∧ (outl ++ [d]).length = m + 1 ∧ (∀ x ∈ outl ++ [d], x.length = 32) ∧ w8.ownsRow w.heap.size 26 32 (.slice A8 (m + 1) c8) (m + 1) ((outl ++ [d]).flatten.map B8) ∧ Below w.heap.size w w8) := Lib.hid (by
          refine ⟨by rw [HQ.out.1]; simp, by simp [HQ.out.2.1], fun x hx => ?_, ?_, H8.out.2⟩
          · rcases List.mem_append.1 hx with hx | hx
            · exact HQ.out.2.2.1 x hx
            · simp at hx; subst hx; exact hd32
          · rw [List.flatten_append, List.map_append, ← HQ.out.2.2.2.2.2]
            simpa using H8.out.1)
        clear HQ H8 H3 HC
        go_roundw
        case rel => exact ⟨i', k, fr, m + 1, outl ++ [d], A8, c8, rfl, rfl, rfl, rfl, hik, b1, b2, hpk, HNn⟩
        case measure => simp [intOf]; omega
      · have dk : decide (i' < k) = false := decide_eq_false hik
        have dk' : decide ((i' : Int) < (k : Int)) = false := decide_eq_false (by omega)
        obtain ⟨d, hd⟩ : ∃ d, d = rootF F ((ls.drop fr).take k) := ⟨_, rfl⟩
        have hsub : ((ls.drop fr).take n').drop k = (ls.drop fk).take nk := by rw [List.drop_take, List.drop_drop, hfk, hnk]
        have hsub2 : ((ls.drop fr).take n').take k = (ls.drop fr).take k := by rw [List.take_take, Nat.min_eq_left (by omega)]
        obtain ⟨i2, hi2⟩ : ∃ i2, i2 = i' - k := ⟨_, rfl⟩
        have ei : (i' : Int) - (k : Int) = (i2 : Int) := by omega
        have e := pathF_right (F := F) (l := (ls.drop fr).take n') (i := i') (by omega) (by rw [hll, hcut]; exact hik)
        rw [hll, hcut, hsub, hsub2, ← hd, ← hi2] at e
        have hd32 : d.length = 32 := by rw [hd]; exact HFl.out _ (fun x hx => H32l.out x (List.mem_of_mem_drop (List.mem_of_mem_take hx)))
        have hml : (d.map B8).length = 32 := by rw [List.length_map, hd32]
        obtain ⟨q2, q3, q4, q5, q6⟩ := hq.out
        have hC := HP.out wr q6 fr k hpk (by omega) (by rw [← HN.out]; omega) (by rw [← HN.out]; omega)
        rw [← hd] at hC
        rw [e] at q2
        unfold SumV at hC
        obtain ⟨xs, hxs⟩ : ∃ xs, xs = outl.flatten.map B8 := ⟨_, rfl⟩
        rw [← hxs] at q5
        have HC := Lib.hid hC
        have HQ := Lib.hid (And.intro q2 (And.intro q3 (And.intro q4 (And.intro q5 (And.intro q6 hxs)))))
        have b1 : m + 1 + nk ≤ n := by omega
        have b2 : fk + nk ≤ n := by omega
        have b3 : nk < n' := by omega
        have hi3 : i2 < nk := by omega
        have Hcs := Lib.hid hpl
        have Hcc := Lib.hid hcut
        clear hq q2 q3 q4 q5 q6 e hd hC hxs hsub hsub2 hll hfk hnk hcut hi2
        go_wp2_with (go_at_call 36; refine (Hcut.out _).mono ?_; rintro e w' ⟨rfl, rfl⟩)
        refine HC.out.mono ?_
        rintro e w3 ⟨rfl, hb3⟩
        have H3 := Lib.hid (And.intro (ownsRow_below HQ.out.2.2.2.1 hb3) (HQ.out.2.2.2.2.1.trans (hb3.mono HQ.out.2.2.2.2.1.size)))
        clear hb3
        go_wp2_with (at_builtin; refine wpList_append_keep rfl (.tmp 48) (.tmp 53) 42 rfl w (H3.out.2.alloc H3.out.2.size _) Try.underlying42 info_sum3 rfl (by decide) (.slice Av m cv) m xs rfl (H3.out.1.alloc _) (some ⟨w3.heap.size, 0, none⟩) 1 1 (d.map B8) rfl (rc_new w3 _ _ _) (by rw [hml]) (b8_oneCell d) (by unfold maxLen; omega) (by omega) ?_; intro v8 w8 hown8 hb8 _ hg8 _; obtain ⟨A8, c8, rfl, -, -, -⟩ := own_formK hown8; have H8 := Lib.hid (And.intro hown8 hb8); clear hown8 hb8 hg8)
        have HNn : Hid (pathF F (ls.take n) i = pathF F ((ls.drop fk).take nk) i2 ++ (outl ++ [d]).reverse ∧ (outl ++ [d]).length = m + 1 ∧ (∀ x ∈ outl ++ [d], x.length = 32) ∧ w8.ownsRow w.heap.size 26 32 (.slice A8 (m + 1) c8) (m + 1) ((outl ++ [d]).flatten.map B8) ∧ Below w.heap.size w w8) := Lib.hid (by
          refine ⟨by rw [HQ.out.1]; simp, by simp [HQ.out.2.1], fun x hx => ?_, ?_, H8.out.2⟩
          · rcases List.mem_append.1 hx with hx | hx
            · exact HQ.out.2.2.1 x hx
            · simp at hx; subst hx; exact hd32
          · rw [List.flatten_append, List.map_append, ← HQ.out.2.2.2.2.2]
            simpa using H8.out.1)
        clear HQ H8 H3 HC
        go_roundw
        case rel => exact ⟨i2, nk, fk, m + 1, outl ++ [d], A8, c8, rfl, rfl, rfl, rfl, hi3, b1, b2, Hcs.out, HNn⟩
        case measure => simp [intOf]; omega
set_option maxRecDepth 100000 in
set_option maxHeartbeats 4000000 in
theorem tbegins_any (w : World) {B g : Nat} {ls : List Dg} {K : List Nat} (h : TS F B g ls K w) (h127 : ls.length ≤ 127) (i n : Nat) (hi0 : 1 ≤ i) (hi : i ≤ n) (hn : n ≤ ls.length) :
    Calls Try.prog 70 #[.pointer (some ⟨g, 0, none⟩), .int .i64 (i : Int), .int .i64 (n : Int)] w (RowErr w (proveF F (ls.take n) i true)) := by
  have hP := fun (u : World) (hu : Below w.heap.size w u) => part_any HF u (h.stable hu)
  have h32 := proveF_32 HF.len _ (ls.take n) i true rfl hi0 (by rw [List.length_take]; omega) (fun x hx => h.l32 x (List.mem_of_mem_take hx))
  have hL := ts_len h
  have h32l := h.l32
  have hFl := fun l => rootF_len HF.len _ l rfl
  obtain ⟨N, hN⟩ : ∃ N, N = ls.length := ⟨_, rfl⟩
  rw [← hN] at hL h127 hn
  have HP := Lib.hid hP
  have H32 := Lib.hid h32
  have H32l := Lib.hid h32l
  have HFl := Lib.hid hFl
  have HL := Lib.hid hL
  have HN := Lib.hid hN
  have d1 : decide ((n : Int) < 0) = false := decide_eq_false (by omega)
  have d2 : decide (N < n) = false := decide_eq_false (by omega)
  have d2' : decide ((N : Int) < (n : Int)) = false := decide_eq_false (by omega)
  have d3 : decide ((i : Int) < 1) = false := decide_eq_false (by omega)
  have d4 : decide (n < i) = false := decide_eq_false (by omega)
  have d4' : decide ((n : Int) < (i : Int)) = false := decide_eq_false (by omega)
  clear hP h32 h32l hL hN hFl h HF
  go_enter Try.func70, Try.ntmps70
  go_wp2_with (go_at_call 48; refine HL.out.mono ?_; rintro e w1 ⟨rfl, rfl⟩)
  go_loopw [1, 2, 8, 9] (fun s1 s2 s8 s9 wr => ∃ (i' n' fr m : Nat) (al : Bool) (outl : List Dg) (Av : Option Addr) (cv : Nat), s1 = .int .i64 (i' : Int) ∧ s2 = .int .i64 (n' : Int) ∧ s8 = .slice Av m cv ∧ s9 = .int .i64 (fr : Int) ∧ i' ≤ n' ∧ m + n' ≤ n ∧ fr + n' ≤ n ∧ 1 ≤ i' ∧ (al = true ↔ fr = 0) ∧ PartAt fr n' ∧
      Hid (proveF F (ls.take n) i true = proveF F ((ls.drop fr).take n') i' al ++ outl.reverse ∧ outl.length = m ∧ (∀ x ∈ outl, x.length = 32) ∧ wr.ownsRow w.heap.size 26 32 (.slice Av m cv) m (outl.flatten.map B8) ∧ Below w.heap.size w wr)) (fun _ s2 _ _ _ => (intOf s2).toNat)
  case atStart => exact ⟨i, n, 0, 0, true, [], none, 0, rfl, rfl, rfl, rfl, hi, by omega, by omega, hi0, by simp, PartAt.zero n, Lib.hid ⟨by simp, rfl, fun x hx => by simp at hx, World.ownsRow_nil _ _ _ _, Below.refl _ _⟩⟩
  case round =>
    obtain ⟨i', n', fr, m, al, outl, Av, cv, rfl, rfl, rfl, rfl, hi', hmn, hfn, hi0', hal, hpa, hq⟩ := hrel
    by_cases h1 : n' ≤ i'
    · obtain rfl : i' = n' := by omega
      have d5 : decide (i' < i') = false := decide_eq_false (by omega)
      obtain ⟨q2, q3, q4, q5, q6⟩ := hq.out
      have hll : ((ls.drop fr).take i').length = i' := by rw [List.length_take, List.length_drop, ← HN.out]; omega
      rw [proveF_end al hi0' hll] at q2
      by_cases hfr : fr = 0
      · have hal' : al = true := hal.2 hfr
        subst hal'
        subst hfr
        simp only [if_true, List.nil_append] at q2
        have hrv := rev_own w wr Av m cv outl q5 q4 q3 (by omega) q6
        have hq2 := q2
        rw [← q2] at hrv
        have hps : (proveF F (ls.take n) i true).length = m := by rw [q2, List.length_reverse, q3]
        clear hq q2 q3 q4 q5 q6 hll
        go_wp2_with fail
        have Hrv := Lib.hid hrv
        have Hps := Lib.hid hps
        clear hrv hps hq2
        refine Hrv.out.mono ?_
        rintro e w9 ⟨rfl, hr9, hb9⟩
        have H9 := Lib.hid (And.intro hr9 hb9)
        clear hr9 hb9
        go_wp2_with fail
        go_ret2
        exact ⟨Av, cv, by rw [Hps.out]; rfl, by rw [Hps.out]; exact H9.out.1, H9.out.2⟩
      · have hal' : al = false := by cases al with | false => rfl | true => exact absurd (hal.1 rfl) hfr
        subst hal'
        have d6 : decide ((0 : Int) < (fr : Int)) = true := decide_eq_true (by omega)
        have d6' : decide (0 < fr) = true := decide_eq_true (by omega)
        simp only [Bool.false_eq_true, if_false] at q2
        obtain ⟨d, hd⟩ : ∃ d, d = rootF F ((ls.drop fr).take i') := ⟨_, rfl⟩
        have hd32 : d.length = 32 := by rw [hd]; exact HFl.out _ (fun x hx => H32l.out x (List.mem_of_mem_drop (List.mem_of_mem_take hx)))
        have hml : (d.map B8).length = 32 := by rw [List.length_map, hd32]
        have hC := HP.out wr q6 fr i' hpa (by omega) (by rw [← HN.out]; omega) (by rw [← HN.out]; omega)
        rw [← hd] at hC q2
        unfold SumV at hC
        obtain ⟨xs, hxs⟩ : ∃ xs, xs = outl.flatten.map B8 := ⟨_, rfl⟩
        rw [← hxs] at q5
        have HC := Lib.hid hC
        have HQ := Lib.hid (And.intro q2 (And.intro q3 (And.intro q4 (And.intro q5 (And.intro q6 hxs)))))
        clear hq q2 q3 q4 q5 q6 hll hd hC hxs
        go_wp2_with fail
        refine HC.out.mono ?_
        rintro e w3 ⟨rfl, hb3⟩
        have H3 := Lib.hid (And.intro (ownsRow_below HQ.out.2.2.2.1 hb3) (HQ.out.2.2.2.2.1.trans (hb3.mono HQ.out.2.2.2.2.1.size)))
        clear hb3
        go_wp2_with (at_builtin; refine wpList_append_keep rfl (.tmp 67) (.tmp 72) 42 rfl w (H3.out.2.alloc H3.out.2.size _) Try.underlying42 info_sum3 rfl (by decide) (.slice Av m cv) m xs rfl (H3.out.1.alloc _) (some ⟨w3.heap.size, 0, none⟩) 1 1 (d.map B8) rfl (rc_new w3 _ _ _) (by rw [hml]) (b8_oneCell d) (by unfold maxLen; omega) (by omega) ?_; intro v8 w8 hown8 hb8 _ hg8 _; obtain ⟨A8, c8, rfl, -, -, -⟩ := own_formK hown8; have H8 := Lib.hid (And.intro hown8 hb8); clear hown8 hb8 hg8)
        have hrv := rev_own w w8 A8 (m + 1) c8 (outl ++ [d]) (by rw [List.flatten_append, List.map_append, ← HQ.out.2.2.2.2.2]; simpa using H8.out.1) (fun x hx => by
          rcases List.mem_append.1 hx with hx | hx
          · exact HQ.out.2.2.1 x hx
          · simp at hx; subst hx; exact hd32) (by simp [HQ.out.2.1]) (by omega) H8.out.2
        have hq2 : (outl ++ [d]).reverse = proveF F (ls.take n) i true := by rw [HQ.out.1]; simp
        rw [hq2] at hrv
        have hps : (proveF F (ls.take n) i true).length = m + 1 := by rw [← hq2]; simp [HQ.out.2.1]
        clear HQ
        have Hrv := Lib.hid hrv
        have Hps := Lib.hid hps
        clear hrv hps hq2
        refine Hrv.out.mono ?_
        rintro e w9 ⟨rfl, hr9, hb9⟩
        have H9 := Lib.hid (And.intro hr9 hb9)
        clear hr9 hb9
        go_wp2_with fail
        go_ret2
        exact ⟨A8, c8, by rw [Hps.out]; rfl, by rw [Hps.out]; exact H9.out.1, H9.out.2⟩
    · have d5 : decide (i' < n') = true := decide_eq_true (by omega)
      have d5' : decide ((i' : Int) < (n' : Int)) = true := decide_eq_true (by omega)
      have hn2 : 2 ≤ n' := by omega
      have hk1 := cutN_lt hn2
      have hk2 := cutN_pos hn2
      have hpl := hpa.left hn2
      have hpk := hpa.keep hn2
      have hll : ((ls.drop fr).take n').length = n' := by rw [List.length_take, List.length_drop, ← HN.out]; omega
      have hcutc := fun w => cut_any w (n' : Int) (by omega) (by omega)
      rw [Int.toNat_natCast] at hcutc
      obtain ⟨k, hk⟩ : ∃ k, cutN n' = k := ⟨_, rfl⟩
      rw [hk] at hk1 hk2 hpl hpk hcutc
      have hcut := hk
      obtain ⟨fk, hfk⟩ : ∃ fk, fr + k = fk := ⟨_, rfl⟩
      obtain ⟨nk, hnk⟩ : ∃ nk, n' - k = nk := ⟨_, rfl⟩
      rw [hfk, hnk] at hpl
      have ef : (fr : Int) + (k : Int) = (fk : Int) := by omega
      have en : (n' : Int) - (k : Int) = (nk : Int) := by omega
      have hfkb : fk ≤ 127 := by omega
      have hnkb : nk ≤ 127 := by omega
      have Hcut := Lib.hid hcutc
      clear hcutc hk
      by_cases hik : i' ≤ k
      · have dk : decide (i' ≤ k) = true := decide_eq_true hik
        have dk' : decide ((i' : Int) ≤ (k : Int)) = true := decide_eq_true (by omega)
        obtain ⟨d, hd⟩ : ∃ d, d = rootF F ((ls.drop fk).take nk) := ⟨_, rfl⟩
        have hsub : ((ls.drop fr).take n').drop k = (ls.drop fk).take nk := by rw [List.drop_take, List.drop_drop, hfk, hnk]
        have hsub2 : ((ls.drop fr).take n').take k = (ls.drop fr).take k := by rw [List.take_take, Nat.min_eq_left (by omega)]
        have e := proveF_left (F := F) (l := (ls.drop fr).take n') (m := i') al hi0' (by omega) (by rw [hll, hcut]; exact hik)
        rw [hll, hcut, hsub, hsub2, ← hd] at e
        have hd32 : d.length = 32 := by rw [hd]; exact HFl.out _ (fun x hx => H32l.out x (List.mem_of_mem_drop (List.mem_of_mem_take hx)))
        have hml : (d.map B8).length = 32 := by rw [List.length_map, hd32]
        obtain ⟨q2, q3, q4, q5, q6⟩ := hq.out
        have hC := HP.out wr q6 fk nk hpl (by omega) (by rw [← HN.out]; omega) (by rw [← HN.out]; omega)
        rw [← hd] at hC
        rw [e] at q2
        unfold SumV at hC
        obtain ⟨xs, hxs⟩ : ∃ xs, xs = outl.flatten.map B8 := ⟨_, rfl⟩
        rw [← hxs] at q5
        have HC := Lib.hid hC
        have HQ := Lib.hid (And.intro q2 (And.intro q3 (And.intro q4 (And.intro q5 (And.intro q6 hxs)))))
        have b1 : m + 1 + k ≤ n := by omega
        have b2 : fr + k ≤ n := by omega
        have b3 : k < n' := by omega
        have Hcs := Lib.hid hpl
        have Hcc := Lib.hid hcut
        clear hq q2 q3 q4 q5 q6 e hd hC hxs hsub hsub2 hll hfk hnk hcut 
        go_wp2_with (go_at_call 36; refine (Hcut.out _).mono ?_; rintro e w' ⟨rfl, rfl⟩)
        refine HC.out.mono ?_
        rintro e w3 ⟨rfl, hb3⟩
        have H3 := Lib.hid (And.intro (ownsRow_below HQ.out.2.2.2.1 hb3) (HQ.out.2.2.2.2.1.trans (hb3.mono HQ.out.2.2.2.2.1.size)))
        clear hb3
        go_wp2_with (at_builtin; refine wpList_append_keep rfl (.tmp 37) (.tmp 46) 42 rfl w (H3.out.2.alloc H3.out.2.size _) Try.underlying42 info_sum3 rfl (by decide) (.slice Av m cv) m xs rfl (H3.out.1.alloc _) (some ⟨w3.heap.size, 0, none⟩) 1 1 (d.map B8) rfl (rc_new w3 _ _ _) (by rw [hml]) (b8_oneCell d) (by unfold maxLen; omega) (by omega) ?_; intro v8 w8 hown8 hb8 _ hg8 _; obtain ⟨A8, c8, rfl, -, -, -⟩ := own_formK hown8; have H8 := Lib.hid (And.intro hown8 hb8); clear hown8 hb8 hg8)
        have HNn : Hid (proveF F (ls.take n) i true = proveF F ((ls.drop fr).take k) i' al ++ (outl ++ [d]).reverse ∧ (outl ++ [d]).length = m + 1 ∧ (∀ x ∈ outl ++ [d], x.length = 32) ∧ w8.ownsRow w.heap.size 26 32 (.slice A8 (m + 1) c8) (m + 1) ((outl ++ [d]).flatten.map B8) ∧ Below w.heap.size w w8) := Lib.hid (by
          refine ⟨by rw [HQ.out.1]; simp, by simp [HQ.out.2.1], fun x hx => ?_, ?_, H8.out.2⟩
          · rcases List.mem_append.1 hx with hx | hx
            · exact HQ.out.2.2.1 x hx
            · simp at hx; subst hx; exact hd32
          · rw [List.flatten_append, List.map_append, ← HQ.out.2.2.2.2.2]
            simpa using H8.out.1)
        clear HQ H8 H3 HC
        go_roundw
        case rel => exact ⟨i', k, fr, m + 1, al, outl ++ [d], A8, c8, rfl, rfl, rfl, rfl, hik, b1, b2, hi0', hal, hpk, HNn⟩
        case measure => simp [intOf]; omega
      · have dk : decide (i' ≤ k) = false := decide_eq_false hik
        have dk' : decide ((i' : Int) ≤ (k : Int)) = false := decide_eq_false (by omega)
        obtain ⟨d, hd⟩ : ∃ d, d = rootF F ((ls.drop fr).take k) := ⟨_, rfl⟩
        have hsub : ((ls.drop fr).take n').drop k = (ls.drop fk).take nk := by rw [List.drop_take, List.drop_drop, hfk, hnk]
        have hsub2 : ((ls.drop fr).take n').take k = (ls.drop fr).take k := by rw [List.take_take, Nat.min_eq_left (by omega)]
        obtain ⟨i2, hi2⟩ : ∃ i2, i2 = i' - k := ⟨_, rfl⟩
        have ei : (i' : Int) - (k : Int) = (i2 : Int) := by omega
        have e := proveF_right (F := F) (l := (ls.drop fr).take n') (m := i') al hi0' (by omega) (by rw [hll, hcut]; exact hik)
        rw [hll, hcut, hsub, hsub2, ← hd, ← hi2] at e
        have hd32 : d.length = 32 := by rw [hd]; exact HFl.out _ (fun x hx => H32l.out x (List.mem_of_mem_drop (List.mem_of_mem_take hx)))
        have hml : (d.map B8).length = 32 := by rw [List.length_map, hd32]
        obtain ⟨q2, q3, q4, q5, q6⟩ := hq.out
        have hC := HP.out wr q6 fr k hpk (by omega) (by rw [← HN.out]; omega) (by rw [← HN.out]; omega)
        rw [← hd] at hC
        rw [e] at q2
        unfold SumV at hC
        obtain ⟨xs, hxs⟩ : ∃ xs, xs = outl.flatten.map B8 := ⟨_, rfl⟩
        rw [← hxs] at q5
        have HC := Lib.hid hC
        have HQ := Lib.hid (And.intro q2 (And.intro q3 (And.intro q4 (And.intro q5 (And.intro q6 hxs)))))
        have b1 : m + 1 + nk ≤ n := by omega
        have b2 : fk + nk ≤ n := by omega
        have b3 : nk < n' := by omega
        have hi3 : i2 ≤ nk := by omega
        have hi4 : 1 ≤ i2 := by omega
        have hal2 : (false = true ↔ fk = 0) := ⟨fun h => (by cases h), fun h => by omega⟩
        have Hcs := Lib.hid hpl
        have Hcc := Lib.hid hcut
        clear hq q2 q3 q4 q5 q6 e hd hC hxs hsub hsub2 hll hfk hnk hcut hi2
        go_wp2_with (go_at_call 36; refine (Hcut.out _).mono ?_; rintro e w' ⟨rfl, rfl⟩)
        refine HC.out.mono ?_
        rintro e w3 ⟨rfl, hb3⟩
        have H3 := Lib.hid (And.intro (ownsRow_below HQ.out.2.2.2.1 hb3) (HQ.out.2.2.2.2.1.trans (hb3.mono HQ.out.2.2.2.2.1.size)))
        clear hb3
        go_wp2_with (at_builtin; refine wpList_append_keep rfl (.tmp 49) (.tmp 54) 42 rfl w (H3.out.2.alloc H3.out.2.size _) Try.underlying42 info_sum3 rfl (by decide) (.slice Av m cv) m xs rfl (H3.out.1.alloc _) (some ⟨w3.heap.size, 0, none⟩) 1 1 (d.map B8) rfl (rc_new w3 _ _ _) (by rw [hml]) (b8_oneCell d) (by unfold maxLen; omega) (by omega) ?_; intro v8 w8 hown8 hb8 _ hg8 _; obtain ⟨A8, c8, rfl, -, -, -⟩ := own_formK hown8; have H8 := Lib.hid (And.intro hown8 hb8); clear hown8 hb8 hg8)
        have HNn : Hid (proveF F (ls.take n) i true = proveF F ((ls.drop fk).take nk) i2 false ++ (outl ++ [d]).reverse ∧ (outl ++ [d]).length = m + 1 ∧ (∀ x ∈ outl ++ [d], x.length = 32) ∧ w8.ownsRow w.heap.size 26 32 (.slice A8 (m + 1) c8) (m + 1) ((outl ++ [d]).flatten.map B8) ∧ Below w.heap.size w w8) := Lib.hid (by
          refine ⟨by rw [HQ.out.1]; simp, by simp [HQ.out.2.1], fun x hx => ?_, ?_, H8.out.2⟩
          · rcases List.mem_append.1 hx with hx | hx
            · exact HQ.out.2.2.1 x hx
            · simp at hx; subst hx; exact hd32
          · rw [List.flatten_append, List.map_append, ← HQ.out.2.2.2.2.2]
            simpa using H8.out.1)
        clear HQ H8 H3 HC
        go_roundw
        case rel => exact ⟨i2, nk, fk, m + 1, false, outl ++ [d], A8, c8, rfl, rfl, rfl, rfl, hi3, b1, b2, hi4, hal2, Hcs.out, HNn⟩
        case measure => simp [intOf]; omega
end
end Go.Proofs.Ytkcmacglomdfcaa
