/-
  THE WALK of cachetnum.Apart.
-/
import Derived.Test.YtdmiiageihbokaaApartP
import Derived.Deep.QuietTactic
import Derived.BigQuiet
import Derived.Deep.RegionHeld3
import Derived.WalkSmall
namespace Go.Proofs.Ytdmiiageihbokaa
open Go.RowKit

theorem info_row : (Try.prog.info? 22).map (fun i => (i.zero, i.size, i.bytes)) = some (some (.slice none 0 0), 1, 24) := by kernel_rfl

set_option maxRecDepth 100000 in
set_option maxHeartbeats 1600000 in
theorem apart_keep (w W : World) (hW : Below W.heap.size W w) (A : Option Addr) (N C : Nat) (hNC : N ≤ C) (hC : C ≤ maxLen) (hN : N ≤ 100) (us : List Value) (ns : Nat → Nat) (xs : Nat → List UInt8) (o : Nat → Nat)
    (hA : RV w A N us) (hL : Lot w W.heap.size o us ns xs) (hlen : ∀ i, i < N → ns i ≤ 140737488351232) (hoA : ∀ ad, A = some ad → o ad.block = 0 ∧ ad.block < w.heap.size) :
    Calls Try.prog 28 #[.slice A N C] w fun e w' => e = .returned (.bool true) ∧ Below W.heap.size W w' ∧ ∀ x, x < w.heap.size → o x = 0 → w'.heap[x]? = w.heap[x]? := by
  have hC2 := hC
  unfold maxLen at hC2
  go_enter Try.func28, Try.ntmps28
  go_wp2
  go_loopw [15] (fun i wr => ∃ k : Nat, k ≤ N ∧ i = .int .i64 k ∧ Lot wr W.heap.size o us ns (fun j => if j < k then marks j (ns j) else xs j) ∧ RV wr A N us ∧ Below W.heap.size W wr ∧ w.heap.size ≤ wr.heap.size ∧ Hid (∀ x, x < w.heap.size → o x = 0 → wr.heap[x]? = w.heap[x]?)) (fun i _ => N - (intOf i).toNat)
  case atStart => exact ⟨0, by omega, rfl, by simpa using hL, hA, hW, Nat.le_refl _, Lib.hid (fun _ _ _ => rfl)⟩
  case round =>
    obtain ⟨k, hk, rfl, hLk, hAk, hWk, hsk, hZ⟩ := hrel
    by_cases hlt : k < N
    · obtain ⟨b, off, u, rfl, hu, hc⟩ := hAk.at_ hlt
      have hown : wr.ownsRow W.heap.size 5 1 u (ns k) ((xs k).map B8) := by simpa using hLk.own k u hu
      obtain ⟨n, hn⟩ : ∃ n, n = ns k := ⟨_, rfl⟩
      obtain ⟨x, hx⟩ : ∃ x, x = xs k := ⟨_, rfl⟩
      rw [← hn, ← hx] at hown
      have hn2 : n ≤ 140737488351232 := hn ▸ hlen k hlt
      have hxl : x.length = n := by simpa using hown.1
      obtain ⟨Au, cu, rfl, hcu, hcm, -, -⟩ := own_form hown
      have Hn := Lib.hid hn
      have Hx := Lib.hid hx
      have Hxl := Lib.hid hxl
      have HL := Lib.hid hLk
      unfold maxLen at hcm
      clear hn hx hxl hLk hL hA hlen
      obtain ⟨w1, rfl⟩ : ∃ w1, w1 = wr := ⟨_, rfl⟩
      go_wp2
      go_loopw [22] (fun i wq => ∃ j : Nat, j ≤ n ∧ i = .int .i64 j ∧ wq.ownsRow W.heap.size 5 1 (.slice Au n cu) n ((mixed k x j).map B8) ∧ Stays o (k + 2) w1 wq ∧ Below W.heap.size W wq) (fun i _ => n - (intOf i).toNat)
      case atStart => exact ⟨0, by omega, rfl, by rw [mixed_zero]; exact hown, Stays.refl _ _ _, hWk⟩
      case round =>
        obtain ⟨j, hj, rfl, hownj, hst, hWq⟩ := hrel
        by_cases hjl : j < n
        · obtain ⟨g, cap, hv, hgb, hgl⟩ := hownj.form (by omega)
          injection hv with hv1 _ hv3
          subst hv1 hv3
          obtain ⟨d, hd⟩ : ∃ d, (mixed k x j)[j]? = some d := ⟨_, List.getElem?_eq_getElem (by rw [mixed_len _ _ _ (by rw [Hxl.out]; exact hj), Hxl.out]; omega)⟩
          have hcell : wr.cell? ⟨g, j, none⟩ = some (.int .u8 (d.toNat : Int)) := by
            rw [hownj.cellAt j (by omega), List.getElem?_map, hd]; rfl
          have hfr := hownj.frozenAt j
          have hm := markB_int k j
          have hstr := hownj.stored j (B8 (markB k j))
          have hset : ((mixed k x j).map B8).set j (B8 (markB k j)) = (mixed k x (j + 1)).map B8 := by
            rw [← List.map_set, mixed_set k x j (by rw [Hxl.out]; exact hjl)]
          rw [hset] at hstr
          obtain ⟨ho1, hgr⟩ := hstr
          have hlab := HL.out.lab k _ g hu rfl
          have hst1 := hst.grown hgr (by intro q hq _; cases hq; exact hlab)
          have hW1 := hWq.grown hgr hWq.size (by intro q hq; cases hq; exact hgb)
          have Ho := Lib.hid ho1
          have Hst := Lib.hid hst1
          have HW := Lib.hid hW1
          have Hd := Lib.hid hd
          clear hset hd hgr hownj ho1 hst1 hW1 hst hlab
          go_wp2
          go_roundw
          case rel => exact ⟨j + 1, by omega, by go_num, Ho.out, Hst.out, HW.out⟩
          case measure => simp [intOf]; omega
        · obtain rfl : j = n := by omega
          rw [mixed_all k x j Hxl.out] at hownj
          have hL2 : Lot wr W.heap.size o us ns (fun i => if i < k + 1 then marks i (ns i) else xs i) := by
            refine HL.out.set hst hu ?_ (fun i hi => ?_)
            · simp only [Nat.lt_succ_self, if_true]
              rw [← Hn.out]
              exact hownj
            · simp only [show (i < k + 1) = (i < k) from by simp; omega]
          have hA2 := hst.rv hAk (fun ad h => by rw [(hoA ad h).1]; omega)
          have hs2 := Nat.le_trans hsk hst.size
          have hZ2 := Lib.hid (show ∀ x, x < w.heap.size → o x = 0 → wr.heap[x]? = w.heap[x]? from fun x hx h0 => (hst.block x (Nat.lt_of_lt_of_le hx hsk) (by rw [h0]; omega)).trans (hZ.out x hx h0))
          clear hownj hst
          go_wp2
          go_roundw
          case rel => exact ⟨k + 1, by omega, by go_num, hL2, hA2, hWq, hs2, hZ2⟩
          case measure => simp [intOf]; omega
    · obtain rfl : k = N := by omega
      have hLm : Lot wr W.heap.size o us ns (fun j => marks j (ns j)) := by
        refine ⟨fun i u hu => ?_, hLk.lab⟩
        have := hLk.own i u hu
        rwa [if_pos (show i < k by have := (List.getElem?_eq_some_iff.1 hu).1; have := hAk.len; omega)] at this
      have hoA2 : ∀ ad, A = some ad → o ad.block = 0 ∧ ad.block < wr.heap.size := fun ad h => ⟨(hoA ad h).1, Nat.lt_of_lt_of_le (hoA ad h).2 hsk⟩
      obtain ⟨w1, rfl⟩ : ∃ w1, w1 = wr := ⟨_, rfl⟩
      clear hLk hL hA hoA
      go_wp2
      go_loopw [6, 40] (fun G i wq => ∃ (q : Nat) (o' : Nat → Nat) (vs : List Value), q ≤ k ∧ i = .int .i64 q ∧ vs.length = q ∧ wq.ownsRow W.heap.size 22 1 G q vs ∧ (∀ g, G.ownBlock = some g → o' g = 1) ∧ Lot wq W.heap.size o' us ns (fun j => marks j (ns j)) ∧
        Lot wq W.heap.size o' vs (fun j => ns j + 10) (fun j => marks j (ns j + 10)) ∧ RV wq A k us ∧ (∀ ad, A = some ad → o' ad.block = 0 ∧ ad.block < wq.heap.size) ∧ Below W.heap.size W wq ∧ w.heap.size ≤ wq.heap.size ∧ Hid (∀ x, x < w.heap.size → o x = 0 → o' x = 0 ∧ wq.heap[x]? = w.heap[x]?)) (fun _ i _ => k - (intOf i).toNat)
      case atStart =>
        refine ⟨0, relab o w1.heap.size 1, [], by omega, rfl, rfl, ownsRow_empty w1 _ _ hWk.size, fun g hg => ?_, ?_, ⟨fun i u hu => by simp at hu, fun i u g hu => by simp at hu⟩, hAk.below ((Below.refl _ _).alloc (Nat.le_refl _) _), fun ad h => ?_, hWk.alloc hWk.size _, by simp; omega, Lib.hid (fun x hx h0 => ⟨by rw [relab_lt (Nat.lt_of_lt_of_le hx hsk)]; exact h0, (Below.heap_alloc _ _ _ (Nat.lt_of_lt_of_le hx hsk)).trans (hZ.out x hx h0)⟩)⟩
        · cases hg
          exact relab_ge (Nat.le_refl _)
        · refine Lot.relabel (o := o) ?_ w1.heap.size (fun i u g hu hg => hLm.lt hu hg) (fun x hx => relab_lt hx)
          exact hLm.stays (l := 1) ((Stays.refl o 1 w1).alloc _) (fun i u _ => by omega)
        · have h2 := hoA2 ad h
          exact ⟨by rw [relab_lt h2.2]; exact h2.1, by simp; omega⟩
      case round =>
        obtain ⟨q, o', vs, hq, rfl, hvs, hG, hGl, hLu, hLv, hAq, hoq, hWq, hsq, hZq⟩ := hrel
        by_cases hql : q < k
        · obtain ⟨b, off, u, rfl, hu, hc⟩ := hAq.at_ hql
          have hown := hLu.own q u hu
          obtain ⟨n, hn⟩ : ∃ n, n = ns q := ⟨_, rfl⟩
          simp only [← hn] at hown
          have hn2 : n ≤ 140737488351232 := hn ▸ hlen q hql
          obtain ⟨Au, cu, rfl, hcu, hcm, -, -⟩ := own_form hown
          have hul : ∀ g, (Value.slice Au n cu).ownBlock = some g → g < wr.heap.size → o' g = q + 2 := fun g hg _ => hLu.lab q _ g hu hg
          have Hn := Lib.hid hn
          have HLu := Lib.hid hLu
          have HLv := Lib.hid hLv
          have HLm := Lib.hid hLm
          unfold maxLen at hcm
          obtain ⟨w2, rfl⟩ : ∃ w2, w2 = wr := ⟨_, rfl⟩
          clear hn hLu hLv hLm hlen hAk
          go_wp2
          go_loopw [8] (fun l wq => ∃ p : Nat, n ≤ p ∧ p ≤ n + 10 ∧ wq.ownsRow W.heap.size 5 1 l p ((marks q p).map B8) ∧ wq.ownsRow W.heap.size 5 1 (.slice Au n cu) n ((marks q n).map B8) ∧ Stays o' (q + 2) w2 wq ∧ (∀ g, l.ownBlock = some g → g < w2.heap.size → o' g = q + 2) ∧ Below W.heap.size W wq) (fun l _ => n + 10 - lenV l)
          case atStart => exact ⟨n, Nat.le_refl _, by omega, hown, hown, Stays.refl _ _ _, hul, hWq⟩
          case round =>
            obtain ⟨p, hp1, hp2, hlo, huo, hst, hll, hWp⟩ := hrel
            obtain ⟨Al, cl, rfl, hcl, hclm, -, -⟩ := own_form hlo
            unfold maxLen at hclm
            by_cases hpl : p < n + 10
            · have hm := markB_int q p
              go_wp2_with (at_builtin; refine wpList_append_keep rfl (.tmp 52) (.tmp 61) 22 rfl W (hWp.alloc hWp.size _) Try.underlying22 info_u8 rfl (by decide) (.slice Al p cl) p _ rfl (hlo.alloc _) (some ⟨wr.heap.size, 0, none⟩) 1 1 [B8 (markB q p)] rfl (rc_new wr _ _ _) rfl (b8_oneCell [markB q p]) (by unfold maxLen; omega) (by omega) ?_; intro v3 w3 hown3 hb3 hkeep hgr hor)
              obtain ⟨A3, c3, rfl, -, -, -, -⟩ := own_form hown3
              have hown4 : w3.ownsRow W.heap.size 5 1 (.slice A3 (p + 1) c3) (p + 1) ((marks q (p + 1)).map B8) := by rw [marks_succ, List.map_append]; exact hown3
              have huo3 : w3.ownsRow W.heap.size 5 1 (.slice Au n cu) n ((marks q n).map B8) := by
                by_cases e : (Value.slice Au n cu).ownBlock = (Value.slice Al p cl).ownBlock
                · exact own_prefix huo hlo hkeep (fun _ => e) (by rw [← List.map_take, marks_take q n p hp1]) hp1
                · exact (huo.alloc _).kept hgr (.inr e)
              have hst3 := (hst.alloc _).grown hgr hll
              have hll3 : ∀ g, (Value.slice A3 (p + 1) c3).ownBlock = some g → g < w2.heap.size → o' g = q + 2 := by
                intro g hg hlt
                rcases hor with h | h
                · rw [h] at hg; exact hll g hg hlt
                · rw [h] at hg
                  cases hg
                  have := hst.size
                  simp at hlt
                  omega
              go_roundw
              case rel => exact ⟨p + 1, by omega, by omega, hown4, huo3, hst3, hll3, hb3⟩
              case measure => simp [lenV]; omega
            · obtain rfl : p = n + 10 := by omega
              have hGr := hst.row hG (fun g hg => by rw [hGl g hg]; omega)
              have hLu2 : Lot wr W.heap.size o' us ns (fun j => marks j (ns j)) := HLu.out.set hst hu (by rw [← Hn.out]; exact huo) (fun _ _ => rfl)
              have hLv2 : Lot wr W.heap.size o' vs (fun j => ns j + 10) (fun j => marks j (ns j + 10)) := HLv.out.stays hst (fun i u hiu => by have := (List.getElem?_eq_some_iff.1 hiu).1; omega)
              have hLu3 := hLu2.relabel w2.heap.size (fun i u g hu hg => HLu.out.lt hu hg) (fun x hx => relab_lt (o := o') (l := q + 2) hx)
              have hLv3 := hLv2.relabel w2.heap.size (fun i u g hu hg => HLv.out.lt hu hg) (fun x hx => relab_lt (o := o') (l := q + 2) hx)
              have hll2 : ∀ g, (Value.slice Al (n + 10) cl).ownBlock = some g → relab o' w2.heap.size (q + 2) g = vs.length + 2 := by
                intro g hg
                rw [hvs]
                by_cases hlt : g < w2.heap.size
                · rw [relab_lt hlt]; exact hll g hg hlt
                · exact relab_ge (Nat.le_of_not_lt hlt)
              have hLv4 := hLv3.snoc (v := .slice Al (n + 10) cl) (by rw [hvs, ← Hn.out]; exact hlo) hll2
              have hGl2 : ∀ g, Value.ownBlock u6 = some g → relab o' w2.heap.size (q + 2) g = 1 := fun g hg => by rw [relab_lt (hG.lt g hg).2]; exact hGl g hg
              have hAq2 := hst.rv hAq (fun ad h => by rw [(hoq ad h).1]; omega)
              have hoq2 : ∀ ad, some (⟨b, off, none⟩ : Addr) = some ad → relab o' w2.heap.size (q + 2) ad.block = 0 ∧ ad.block < wr.heap.size := fun ad h => ⟨by rw [relab_lt (hoq ad h).2]; exact (hoq ad h).1, Nat.lt_of_lt_of_le (hoq ad h).2 hst.size⟩
              have hZ2 : ∀ x, x < w.heap.size → o x = 0 → relab o' w2.heap.size (q + 2) x = 0 ∧ wr.heap[x]? = w.heap[x]? := fun x hx h0 => by
                obtain ⟨z1, z2⟩ := hZq.out x hx h0
                exact ⟨by rw [relab_lt (Nat.lt_of_lt_of_le hx hsq)]; exact z1, (hst.block x (Nat.lt_of_lt_of_le hx hsq) (by rw [z1]; omega)).trans z2⟩
              have hsq2 := Nat.le_trans hsq hst.size
              generalize relab o' w2.heap.size (q + 2) = o2 at hLu3 hLv4 hll2 hGl2 hoq2 hZ2
              have HZ2 := Lib.hid hZ2
              clear hZ2
              clear hLu2 hLv2 hLv3 hst hll hll2 hlo huo hown hAq hoq hG hGl
              go_wp2_with (at_builtin; refine wpList_append_keep rfl (.tmp 63) (.tmp 65) 30 rfl W (hWp.alloc hWp.size _) Try.underlying30 info_row rfl (by decide) _ q vs rfl (hGr.alloc _) (some ⟨wr.heap.size, 0, none⟩) 1 1 [.slice Al (n + 10) cl] rfl (rc_new wr _ _ _) rfl (slice_one _ _ _) (by unfold maxLen; omega) (by omega) ?_; intro v3 w3 hown3 hb3 hkeep hgr hor)
              have hst3 := ((Stays.refl o2 1 wr).alloc _).grown hgr (fun g hg _ => hGl2 g hg)
              have f1 := (hLu3.stays hst3 (fun i u _ => by omega)).relabel wr.heap.size (fun i u g hu hg => hLu3.lt hu hg) (fun x hx => relab_lt (o := o2) (l := 1) hx)
              have f2 := (hLv4.stays hst3 (fun i u _ => by omega)).relabel wr.heap.size (fun i u g hu hg => hLv4.lt hu hg) (fun x hx => relab_lt (o := o2) (l := 1) hx)
              have f3 := hst3.rv hAq2 (fun ad h => by rw [(hoq2 ad h).1]; omega)
              have f4 : ∀ g, v3.ownBlock = some g → relab o2 wr.heap.size 1 g = 1 := by
                intro g hg
                by_cases hlt : g < wr.heap.size
                · rw [relab_lt hlt]
                  rcases hor with h | h
                  · rw [h] at hg; exact hGl2 g hg
                  · rw [h] at hg
                    cases hg
                    exact absurd hlt (by simp)
                · exact relab_ge (Nat.le_of_not_lt hlt)
              have f5 : ∀ ad, some (⟨b, off, none⟩ : Addr) = some ad → relab o2 wr.heap.size 1 ad.block = 0 ∧ ad.block < w3.heap.size := fun ad h => ⟨by rw [relab_lt (hoq2 ad h).2]; exact (hoq2 ad h).1, Nat.lt_of_lt_of_le (hoq2 ad h).2 hst3.size⟩
              have f7 : Hid (∀ x, x < w.heap.size → o x = 0 → relab o2 wr.heap.size 1 x = 0 ∧ w3.heap[x]? = w.heap[x]?) := Lib.hid (fun x hx h0 => by
                obtain ⟨z1, z2⟩ := HZ2.out x hx h0
                exact ⟨by rw [relab_lt (Nat.lt_of_lt_of_le hx hsq2)]; exact z1, (hst3.block x (Nat.lt_of_lt_of_le hx hsq2) (by rw [z1]; omega)).trans z2⟩)
              have f8 := Nat.le_trans hsq2 hst3.size
              have f6 : (vs ++ [Value.slice Al (n + 10) cl]).length = q + 1 := by simp [hvs]
              go_roundw
              case rel => exact ⟨q + 1, _, vs ++ [.slice Al (n + 10) cl], by omega, by go_num, f6, hown3, f4, f1, f2, f3, f5, hb3, f8, f7⟩
              case measure => simp [intOf]; omega
        · obtain rfl : q = k := by omega
          obtain ⟨AG, cG, rfl, hcG, hcGm, hrG, -⟩ := own_form hG
          unfold maxLen at hcGm
          have HLu := Lib.hid hLu
          have HLv := Lib.hid hLv
          have hlen2 := hlen
          clear hLu hLv hLm hAk hlen
          obtain ⟨w3, rfl⟩ : ∃ w3, w3 = wr := ⟨_, rfl⟩
          go_wp2
          go_loopw [70] (fun i wq => ∃ k : Nat, k ≤ q ∧ i = .int .i64 k ∧ Below w3.heap.size w3 wq) (fun i _ => q - (intOf i).toNat)
          case atStart => exact ⟨0, by omega, rfl, Below.refl _ _⟩
          case round =>
            obtain ⟨k, hk, rfl, hb⟩ := hrel
            by_cases hkq : k < q
            · obtain ⟨bG, oG, v, rfl, hv, hcv⟩ := (hrG.below hb).at_ hkq
              obtain ⟨bA, oA, u, rfl, hu, hcu⟩ := hAq.at_ hkq
              have hbA : bA < w3.heap.size := World.block_lt_of_cell? w3 _ hcu
              obtain ⟨n, hn⟩ : ∃ n, n = ns k := ⟨_, rfl⟩
              have hvo := HLv.out.own k v hv
              have huo := HLu.out.own k u hu
              simp only [← hn] at hvo huo
              have hn2 : n ≤ 140737488351232 := hn ▸ hlen2 k hkq
              obtain ⟨Av, cv, rfl, hcv1, hcv2, hrv, -⟩ := own_form hvo
              obtain ⟨Au, cu, rfl, hcu1, hcu2, hru, -⟩ := own_form huo
              unfold maxLen at hcv2 hcu2
              obtain ⟨N2, hN2⟩ : ∃ N2, N2 = n + 10 := ⟨_, rfl⟩
              rw [← hN2] at hrv hcv hcv1
              have Hrv := Lib.hid (show RB w3 Av N2 (marks k N2) by rw [hN2] at hrv ⊢; exact hrv)
              have Hru := Lib.hid (show RB w3 Au n (marks k n) from hru)
              have HN2 := Lib.hid hN2
              have HcA := Lib.hid hcu
              clear hvo huo hn hlen2 hrv hru hv hu hcu
              go_wp2
              go_loopw [77] (fun i wq => ∃ j : Nat, j ≤ N2 ∧ i = .int .i64 j ∧ Below w3.heap.size w3 wq) (fun i _ => N2 - (intOf i).toNat)
              case atStart => exact ⟨0, by omega, rfl, hb⟩
              case round =>
                obtain ⟨j, hj, rfl, hb2⟩ := hrel
                by_cases hjn : j < N2
                · obtain ⟨bv, ov, d, rfl, hd, hcd⟩ := (Hrv.out.below hb2).at_ hjn
                  rw [marks_at k N2 j hjn] at hd
                  cases hd
                  have hm := markB_int k j
                  have hcA : wr.cell? ⟨bA, oA + k, none⟩ = some (.slice Au n cu) := (hb2.cell (p := ⟨bA, oA + k, none⟩) hbA).trans HcA.out
                  by_cases hjl : j < n
                  · obtain ⟨bu, ou, d', rfl, hd', hcd'⟩ := (Hru.out.below hb2).at_ hjl
                    rw [marks_at k n j hjl] at hd'
                    cases hd'
                    have hdec : decide ((j : Int) < (n : Int)) = true := decide_eq_true (by omega)
                    go_wp2_with fail
                    go_quiet (fail)
                    go_wp2
                    go_roundw
                    case rel => exact ⟨j + 1, by omega, by go_num, below_drewN hb2 nq⟩
                    case measure => simp [intOf]; omega
                  · have hdec : decide ((j : Int) < (n : Int)) = false := decide_eq_false (by omega)
                    go_wp2_with fail
                    go_quiet (fail)
                    go_wp2
                    go_roundw
                    case rel => exact ⟨j + 1, by omega, by go_num, below_drewN hb2 nq⟩
                    case measure => simp [intOf]; omega
                · obtain rfl : j = N2 := by omega
                  go_wp2
                  go_roundw
                  case rel => exact ⟨k + 1, by omega, by go_num, hb2⟩
                  case measure => simp [intOf]; omega
            · obtain rfl : k = q := by omega
              go_wp2
              go_ret
              exact ⟨rfl, hWq.trans (hb.mono hWq.size), fun x hx h0 => (hb.block x (Nat.lt_of_lt_of_le hx hsq)).trans (hZq.out x hx h0).2⟩
theorem apart_any (w W : World) (hW : Below W.heap.size W w) (A : Option Addr) (N C : Nat) (hNC : N ≤ C) (hC : C ≤ maxLen) (hN : N ≤ 100) (us : List Value) (ns : Nat → Nat) (xs : Nat → List UInt8) (o : Nat → Nat)
    (hA : RV w A N us) (hL : Lot w W.heap.size o us ns xs) (hlen : ∀ i, i < N → ns i ≤ 140737488351232) (hoA : ∀ ad, A = some ad → o ad.block = 0 ∧ ad.block < w.heap.size) :
    Calls Try.prog 28 #[.slice A N C] w fun e w' => e = .returned (.bool true) ∧ Below W.heap.size W w' :=
  (apart_keep w W hW A N C hNC hC hN us ns xs o hA hL hlen hoA).mono fun _ _ ⟨h1, h2, _⟩ => ⟨h1, h2⟩
end Go.Proofs.Ytdmiiageihbokaa
