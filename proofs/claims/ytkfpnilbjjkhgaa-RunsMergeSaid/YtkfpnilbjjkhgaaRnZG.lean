/-
  THE WALK of the law RunsMerge.
-/
import Derived.Test.YtkfpnilbjjkhgaaRnZE
namespace Go.Proofs.Ytkfpnilbjjkhgaa
open Go.RowKit Go.Lib Go.Sort
/-- Between two rounds: all members so far; the runs so far. -/
structure MrI (w1 : World) (lss : List (List Po)) (k : Nat) (va vl : Value) (rs : List Value) (W : World) : Prop where
  below : Below w1.heap.size w1 W
  arow : W.ownsRow w1.heap.size 32 2 va (lss.take k).flatten.length (flatP (lss.take k).flatten)
  lrow : W.ownsRow w1.heap.size 28 1 vl k rs
  runs : ∀ (i : Nat) v l, rs[i]? = some v → lss[i]? = some l → W.ownsRow w1.heap.size 31 2 v (newF l).length (flatP (newF l))
  short : ∀ l ∈ lss.take k, l.length ≤ 61
  nine : k ≤ 9
theorem MrI.stable {w1 W W' : World} {lss : List (List Po)} {k : Nat} {va vl : Value} {rs : List Value} (h : MrI w1 lss k va vl rs W) (hb : Below W.heap.size W W') : MrI w1 lss k va vl rs W' :=
  ⟨h.below.trans (hb.mono h.below.size), ownsRow_below h.arow hb, ownsRow_below h.lrow hb, fun i v l h1 h2 => ownsRow_below (h.runs i v l h1 h2) hb, h.short, h.nine⟩
theorem flat_short : ∀ (l : List (List Po)), (∀ x ∈ l, x.length ≤ 61) → l.flatten.length ≤ l.length * 61
  | [], _ => Nat.le_refl _
  | x :: r, h => by
    rw [List.flatten_cons, List.length_append, List.length_cons]
    have h1 := h x (by simp)
    have h2 := flat_short r fun y hy => h y (by simp [hy])
    omega
theorem MrI.small {w1 W : World} {lss : List (List Po)} {k : Nat} {va vl : Value} {rs : List Value} (h : MrI w1 lss k va vl rs W) : (lss.take k).flatten.length ≤ 549 := by
  have h1 := flat_short _ h.short
  have h2 : (lss.take k).length ≤ k := by rw [List.length_take]; omega
  have h3 := h.nine
  have h4 : (lss.take k).length * 61 ≤ 9 * 61 := Nat.mul_le_mul_right _ (by omega)
  omega
theorem take_snoc' {lss : List (List Po)} {k : Nat} {l : List Po} (h : lss[k]? = some l) : lss.take (k + 1) = lss.take k ++ [l] := by
  obtain ⟨h1, h2⟩ := List.getElem?_eq_some_iff.1 h
  rw [List.take_succ_eq_append_getElem h1, h2]
theorem newF_maps (lss : List (List Po)) : newF (lss.map newF).flatten = newF lss.flatten := newF_ext fun z => by
  simp only [List.mem_flatten, List.mem_map]
  constructor
  · rintro ⟨l, ⟨x, hx, rfl⟩, hz⟩
    exact ⟨x, hx, ((newF_all x).2 z).1 hz⟩
  · rintro ⟨x, hx, hz⟩
    exact ⟨_, ⟨x, hx, rfl⟩, ((newF_all x).2 z).2 hz⟩
theorem maps_len (lss : List (List Po)) : (lss.map newF).flatten.length ≤ lss.flatten.length := by
  induction lss with
  | nil => exact Nat.le_refl _
  | cons x r ih =>
    rw [List.map_cons, List.flatten_cons, List.flatten_cons, List.length_append, List.length_append]
    have := newF_length x
    omega
theorem MrI.runsAt {w1 W : World} {lss : List (List Po)} {k : Nat} {va : Value} {A : Option Addr} {c : Nat} {rs : List Value} (h : MrI w1 lss k va (.slice A k c) rs W) (hk : lss.length = k) : RunsAt W A k rs (lss.map newF) := by
  refine ⟨own_rv h.lrow, by rw [List.length_map, hk], fun i v ls hv hl => ?_⟩
  rw [List.getElem?_map] at hl
  obtain ⟨l, hl2, rfl⟩ := Option.map_eq_some_iff.1 hl
  have h5 := h.runs i v l hv hl2
  obtain ⟨A9, c9, e9, h9, h9', -⟩ := own_formK h5
  subst e9
  exact ⟨A9, _, c9, rfl, RP.of_own h5, h9, h9'⟩
theorem is_slice {W : World} {B n : Nat} {e : TypeId} {s : Nat} {v : Value} {xs : List Value} (h : W.ownsRow B e s v n xs) : ∃ A c, v = .slice A n c := by
  obtain ⟨A, c, e9, -⟩ := own_formK h
  exact ⟨A, c, e9⟩
set_option maxRecDepth 100000 in
set_option maxHeartbeats 8000000 in
theorem runsMerge_law (w : World) (v0 : Value) (lss : List (List Po)) (h0 : SPs w v0 lss) :
    Calls Try.prog 5 #[v0] w fun e w' => e = .returned (.bool true) ∧ Below w.heap.size w w' := by
  obtain ⟨A, n, c, vs, rfl, hnc, hcm, hrv, hll, hsp⟩ := h0
  have HR := Lib.hid hrv
  have HSP := Lib.hid hsp
  have Hll := Lib.hid hll
  clear hrv hsp hll
  go_enter Try.func5, Try.ntmps5
  go_wp2_with fail
  refine (alive19_any w).mono ?_
  rintro e w1 ⟨rfl, hb1⟩
  have H1 := Lib.hid hb1
  clear hb1
  go_wp2_with fail
  have hI : MrI w1 lss 0 (.slice (some ⟨w1.heap.size, 0, none⟩) 0 0) (.slice (some ⟨w1.heap.size + 1, 0, none⟩) 0 0) [] ((w1.alloc (.cells #[] 32)).alloc (.cells #[] 28)) := by
    refine ⟨((Below.refl _ _).alloc (Nat.le_refl _) _).alloc (by simp) _, (ownsRow_empty w1 _ _ (Nat.le_refl _)).alloc _, ?_, fun i v l h => by simp at h, fun l h => by simp at h, by omega⟩
    have h5 := ownsRow_empty (w1.alloc (.cells #[] 32)) (base := w1.heap.size) 28 1 (by simp)
    simpa using h5
  have HI := Lib.hid hI
  clear hI
  go_loopw [3, 4, 15] (fun s3 s4 s15 wr => ∃ (k : Nat) (rs : List Value) (va vl : Value), k ≤ n ∧ va = s3 ∧ vl = s4 ∧ s15 = .int .i64 (k : Int) ∧ Hid (MrI w1 lss k va vl rs wr)) (fun _ _ s15 _ => n - (intOf s15).toNat)
  case atStart => exact ⟨0, [], _, _, Nat.zero_le _, rfl, rfl, rfl, HI⟩
  case round =>
    obtain ⟨k, rs, va, vl, hk, rfl, rfl, rfl, HK⟩ := hrel
    by_cases hlt : k < n
    · obtain ⟨b, o, v, rfl, hv, hcv⟩ := (HR.out.below (H1.out.trans (HK.out.below.mono H1.out.size))).at_ hlt
      obtain ⟨l, hl⟩ : ∃ l, lss[k]? = some l := ⟨_, List.getElem?_eq_getElem (by rw [Hll.out]; exact hlt)⟩
      obtain ⟨A1, m1, c1, rfl, hmc, hmm, hr1⟩ := HSP.out k v l hv hl
      have Hr1 := Lib.hid (hr1.below (H1.out.trans (HK.out.below.mono H1.out.size)))
      have Hl := Lib.hid hl
      have Hr0 := Lib.hid hr1
      clear hv hl hmc hmm hr1
      by_cases h8 : 8 < k
      · have HB := Lib.hid (H1.out.trans (HK.out.below.mono H1.out.size))
        go_wp2_with fail
        go_ret
        exact ⟨rfl, HB.out⟩
      · go_wp2_with fail
        refine (long_any wr A1 m1 c1 l Hr1.out).mono ?_
        rintro e w2 ⟨bl, rfl, hbl, hb2⟩
        have HK2 := Lib.hid (HK.out.stable hb2)
        have Hr2 := Lib.hid (Hr1.out.below hb2)
        have Hbl := Lib.hid hbl
        clear hbl hb2 hcv
        cases bl with
        | true =>
          have HB := Lib.hid (H1.out.trans (HK2.out.below.mono H1.out.size))
          go_wp2_with fail
          go_ret
          exact ⟨rfl, HB.out⟩
        | false =>
          obtain ⟨h61, -⟩ := Hbl.out rfl
          have h61' := h61
          rw [Hr1.out.1] at h61
          have H61 := Lib.hid h61'
          clear Hbl h61'
          obtain ⟨xs, hxs⟩ : ∃ xs, xs = (lss.take k).flatten := ⟨_, rfl⟩
          have hxl : xs.length ≤ 549 := by rw [hxs]; exact HK2.out.small
          have harow := HK2.out.arow
          rw [← hxs] at harow
          obtain ⟨nA, hnA⟩ : ∃ nA, nA = xs.length := ⟨_, rfl⟩
          rw [← hnA] at harow hxl
          have hlen : (flatP l).length = m1 * 2 := by rw [flatP_len, Hr1.out.1]
          have Hx := Lib.hid (And.intro hxs hnA)
          have Har := Lib.hid harow
          clear hxs hnA harow
          go_wp2_with ((with_reducible show wpList _ _ _ (⟨some 28, _, _, _, _, _⟩ :: _) _ _); refine wpList_append_keep rfl (.tmp 26) (.tmp 27) 22 rfl w1 HK2.out.below Try.underlying22 info_rpost3 rfl (by decide) va nA (flatP xs) rfl Har.out A1 m1 c1 (flatP l) rfl Hr2.out.rc hlen (flatP_one _) (by unfold maxLen; omega) (by omega) ?_; intro va' W2 hown hbW hkp hg hor; have HW2 := Lib.hid (And.intro hown (And.intro hbW (And.intro hkp hg))); clear hown hbW hkp hg hor)
          have hstep := take_snoc' Hl.out
          have hfl : (lss.take (k + 1)).flatten = xs ++ l := by rw [hstep, List.flatten_append, ← Hx.out.1]; simp
          have I1 : MrI w1 lss k va vl rs w2 := HK2.out
          have g := HW2.out.2.2.2
          have a1 : W2.ownsRow w1.heap.size 32 2 va' (lss.take (k + 1)).flatten.length (flatP (lss.take (k + 1)).flatten) := by
            have h5 := HW2.out.1
            rw [← flatP_app] at h5
            rw [hfl, List.length_append, ← Hx.out.2, Hr1.out.1]
            exact h5
          have l1 := own_kept_unlike HK2.out.lrow HK2.out.arow (by decide) g
          have r1 : ∀ (i : Nat) v y, rs[i]? = some v → lss[i]? = some y → W2.ownsRow w1.heap.size 31 2 v (newF y).length (flatP (newF y)) := fun i v y h1 h2 => own_kept_unlike (HK2.out.runs i v y h1 h2) HK2.out.arow (by decide) g
          have hrW : RP W2 A1 m1 l := Hr0.out.below (H1.out.trans (HW2.out.2.1.mono H1.out.size))
          have HA1 := Lib.hid (And.intro a1 (And.intro l1 (And.intro r1 hrW)))
          have HB2 := Lib.hid HW2.out.2.1
          clear hstep hfl I1 g a1 l1 r1 hrW HW2 HK2 Har hxl hlen
          go_wp2_with fail
          refine (posts_any W2 A1 m1 c1 l HA1.out.2.2.2 (by omega)).mono ?_
          rintro e w3 ⟨Ap, cp, rfl, hown, hb⟩
          rw [Hr1.out.1] at hown ⊢
          have hpc : m1 ≤ cp := by
            obtain ⟨A9, c9, e9, h9, -, -⟩ := own_formK hown
            cases e9
            exact h9
          have H3 := Lib.hid (And.intro hb (RP.of_own hown))
          clear hown hb
          go_wp2_with fail
          refine (new_run w3 Ap m1 cp l H3.out.2 (by omega) hpc).mono ?_
          rintro e w4 ⟨Ar, cr, rfl, hown, hb⟩
          have u4 := H3.out.1.trans (hb.mono H3.out.1.size)
          have hown5 := own_wide hown (Nat.le_trans HB2.out.size H3.out.1.size)
          obtain ⟨N, hN⟩ : ∃ N, N = (newF l).length := ⟨_, rfl⟩
          rw [← hN] at hown5 ⊢
          have hrn := hown5
          obtain ⟨Ae, ce, e5, hNc, hcx, -⟩ := own_formK hown5
          cases e5
          have H4 := Lib.hid (And.intro (HB2.out.trans (u4.mono HB2.out.size)) (And.intro (ownsRow_below HA1.out.1 u4) (And.intro (ownsRow_below HA1.out.2.1 u4) (And.intro (fun (i : Nat) v y (h1 : rs[i]? = some v) (h2 : lss[i]? = some y) => ownsRow_below (HA1.out.2.2.1 i v y h1 h2) u4) hown5))))
          have HN := Lib.hid hN
          clear hown hb u4 hown5 hN hrn hNc hcx H3 HA1 HB2 hpc
          have hk8 : k ≤ 8 := by omega
          go_wp2_with ((with_reducible show wpList _ _ _ (⟨some 34, _, _, _, _, _⟩ :: _) _ _); refine wpList_append_keep rfl (.tmp 29) (.tmp 33) 40 rfl w1 (H4.out.1.alloc H4.out.1.size _) Try.underlying40 info_run3 rfl (by decide) vl k rs rfl (H4.out.2.2.1.alloc _) (some ⟨w4.heap.size, 0, none⟩) 1 1 [.slice Ar N cr] rfl (rc_new w4 _ _ _) rfl (one_slice _ _ _) (by unfold maxLen; omega) (by omega) ?_; intro vl' W5 hown hbW hkp hg hor; have HW5 := Lib.hid (And.intro hown (And.intro hbW hg)); clear hown hbW hkp hg hor)
          have HNx : Hid (MrI w1 lss (k + 1) va' vl' (rs ++ [.slice Ar N cr]) W5) := Lib.hid (by
            have g := HW5.out.2.2
            have hl4 := H4.out.2.2.1.alloc (.cells #[.slice Ar N cr] 28)
            have hrl : rs.length = k := by
              obtain ⟨A9, c9, e9⟩ := is_slice H4.out.2.2.1
              subst e9
              exact (own_rv H4.out.2.2.1).1
            refine ⟨HW5.out.2.1, own_kept_unlike (H4.out.2.1.alloc _) hl4 (by decide) g, HW5.out.1, fun i v y h1 h2 => ?_, fun y hy => ?_, by omega⟩
            · by_cases hi : i < rs.length
              · rw [List.getElem?_append_left hi] at h1
                exact own_kept_unlike ((H4.out.2.2.2.1 i v y h1 h2).alloc _) hl4 (by decide) g
              · have hlt' := (List.getElem?_eq_some_iff.1 h1).1
                simp at hlt'
                obtain rfl : i = k := by omega
                rw [List.getElem?_append_right (by omega), hrl, Nat.sub_self] at h1
                cases h1
                rw [Hl.out] at h2
                cases h2
                rw [← HN.out]
                exact own_kept_unlike (H4.out.2.2.2.2.alloc _) hl4 (by decide) g
            · rw [take_snoc' Hl.out] at hy
              rcases List.mem_append.1 hy with hy | hy
              · exact HK.out.short y hy
              · simp at hy
                subst hy
                exact H61.out)
          clear HW5 H4
          go_wp2_with fail
          go_roundw
          case rel => exact ⟨k + 1, _, _, _, hlt, rfl, rfl, by go_num, HNx⟩
          case measure => simp [intOf]; omega
    · obtain rfl : k = n := by omega
      have hfull : lss.take k = lss := List.take_of_length_le (by rw [Hll.out]; exact Nat.le_refl _)
      have hsm := HK.out.small
      have har := HK.out.arow
      have hsh := HK.out.short
      rw [hfull] at hsm har hsh
      have Hsh := Lib.hid hsh
      clear hsh
      have hn9 := HK.out.nine
      obtain ⟨Aa, ca, rfl⟩ := is_slice har
      obtain ⟨Al, cl, rfl⟩ := is_slice HK.out.lrow
      have hra := HK.out.runsAt Hll.out
      have hrp : RP wr Aa lss.flatten.length lss.flatten := RP.of_own har
      have hml := maps_len lss
      have hmg := merge_any wr Al k cl rs (lss.map newF) hra (by intro l hl; obtain ⟨x, -, rfl⟩ := List.mem_map.1 hl; exact (newF_all x).1) (by omega) (by omega)
      rw [newF_maps] at hmg
      obtain ⟨all, hall⟩ : ∃ all, all = lss.flatten := ⟨_, rfl⟩
      rw [← hall] at hmg hrp har hsm ⊢
      have hLn := newF_length all
      obtain ⟨L, hL⟩ : ∃ L, L = newF all := ⟨_, rfl⟩
      rw [← hL] at hmg hLn
      have HL := Lib.hid hL
      have HMG := Lib.hid hmg
      have HRA := Lib.hid hra
      have HRP := Lib.hid hrp
      obtain ⟨N, hN⟩ : ∃ N, N = L.length := ⟨_, rfl⟩
      obtain ⟨nA, hnA⟩ : ∃ nA, nA = all.length := ⟨_, rfl⟩
      rw [← hnA] at hsm hLn HRP ⊢
      rw [← hN] at hLn
      have HN := Lib.hid hN
      have HB := Lib.hid (H1.out.trans (HK.out.below.mono H1.out.size))
      clear hfull har hra hrp hml hmg hall hL hN hnA HK HI
      go_wp2_with fail
      refine HMG.out.mono ?_
      intro e w5 hp
      obtain ⟨Am, cm, rfl, hrm, hcm5, hmm5, hb5⟩ := hp.rp
      rw [← HN.out] at hrm hcm5 ⊢
      have H5 := Lib.hid (And.intro hb5 (And.intro hrm (HRP.out.below hb5)))
      clear hp hrm hcm5 hmm5 hb5 HMG
      go_wp2_with fail
      have hrn := refNew_any w5 Aa nA ca all H5.out.2.2 (by omega)
      rw [← HL.out] at hrn
      have HRN := Lib.hid hrn
      clear hrn
      refine HRN.out.mono ?_
      rintro e w6 ⟨Ar, cr, rfl, hown, hb6⟩
      rw [← HN.out] at hown ⊢
      have H6 := Lib.hid (And.intro (H5.out.1.trans (hb6.mono H5.out.1.size)) (And.intro (H5.out.2.1.below hb6) (RP.of_own hown)))
      clear hown hb6 HRN H5
      go_wp2_with fail
      refine (is_yes w6 Am Ar N cm cr L H6.out.2.1 H6.out.2.2 (by omega)).mono ?_
      rintro e V ⟨rfl, hb7⟩
      have HV := Lib.hid (H6.out.1.trans (hb7.mono H6.out.1.size))
      have HRV := Lib.hid (HRA.out.below (H6.out.1.trans (hb7.mono H6.out.1.size)))
      have HVw := Lib.hid (HB.out.trans ((H6.out.1.trans (hb7.mono H6.out.1.size)).mono HB.out.size))
      clear hb7 H6 HRA HRP
      have HVV : Hid (Below V.heap.size V V) := Lib.hid (Below.refl _ _)
      clear HV HB
      go_wp2_with fail
      go_loopw [44] (fun s wr => ∃ j : Nat, j ≤ k ∧ s = .int .i64 (j : Int) ∧ Hid (Below V.heap.size V wr)) (fun s _ => k - (intOf s).toNat)
      case atStart => exact ⟨0, Nat.zero_le _, rfl, HVV⟩
      case round =>
        obtain ⟨j, hj, rfl, HK⟩ := hrel
        obtain ⟨W, rfl⟩ : ∃ W, W = wr := ⟨wr, rfl⟩
        by_cases hlj : j < k
        · obtain ⟨b, o, v, rfl, hv, hcv⟩ := (HR.out.below (HVw.out.trans (HK.out.mono HVw.out.size))).at_ hlj
          obtain ⟨l, hl⟩ : ∃ l, lss[j]? = some l := ⟨_, List.getElem?_eq_getElem (by rw [Hll.out]; exact hlj)⟩
          obtain ⟨A1, m1, c1, rfl, hmc, hmm, hr1⟩ := HSP.out j v l hv hl
          obtain ⟨b2, o2, u, rfl, hu, hcu⟩ := (HRV.out.below HK.out).row.at_ hlj
          obtain ⟨A2, m2, c2, rfl, hr2, hmc2, hmm2⟩ := (HRV.out.below HK.out).runs j u (newF l) hu (by rw [List.getElem?_map, hl]; rfl)
          have hl9 : l.length ≤ 1000000 := Nat.le_trans (Hsh.out l (List.mem_of_getElem? hl)) (by decide)
          have hm2 := hr2.1
          have hm3 := newF_length l
          have hm1 := hr1.1
          have Hr1 := Lib.hid (hr1.below (HVw.out.trans (HK.out.mono HVw.out.size)))
          have Hr2 := Lib.hid hr2
          have hrg : W.rangeAt b2 (o2 + j) [.slice A2 m2 c2] := fun i x hx => by
            cases i with
            | zero => cases hx; exact hcu
            | succ i => simp at hx
          have Hrg := Lib.hid hrg
          have hdj : decide (k ≤ j) = false := decide_eq_false (by omega)
          clear hv hl hmc hmm hr1 hu hr2 hmc2 hmm2 hrg
          go_wp2_with fail
          refine wp_region_noPanic ?_
          refine wp_region_movesJ [0, 1, 2, 3, 4] (fun u => Below W.heap.size W u) (fun u u' => Below u.heap.size u u') (fun u => Below.refl _ _) (fun h k => h.trans (k.mono h.size)) (by kernel_rfl) (by kernel_rfl) (by kernel_rfl) (below_drewN (Below.refl _ _) 1) (fun _ _ _ _ _ h => h) ?_
          simp only [List.filterMap, List.getElem?_cons_zero, List.getElem?_cons_succ]
          refine wpMH_moveW (fun u => Below.refl _ _) (by rfl) _ rfl _ rfl ?_
          simp only [Act.put, List.setIfInBounds_toArray, List.set_cons_zero, List.set_cons_succ]
          refine wpMH_moveW (fun u => Below.refl _ _) (by rfl) _ rfl _ rfl ?_
          simp only [Act.put, List.setIfInBounds_toArray, List.set_cons_zero, List.set_cons_succ]
          refine wpMH_pureW (fun u => Below.refl _ _) (by rfl) (.pointer (some ⟨b2, o2 + j, none⟩)) (fun u hu => by go_simp) ?_
          simp only [Act.put, List.setIfInBounds_toArray, List.set_cons_zero, List.set_cons_succ]
          refine wpMH_loadW (fun u => Below.refl _ _) (by rfl) _ _ rfl b2 (o2 + j) rfl [.slice A2 m2 c2] _ (fun u hu => rangeAt_below' Hrg.out hu) Try.underlying28 rfl (info_run _) ?_
          simp only [Act.put, List.setIfInBounds_toArray, List.set_cons_zero, List.set_cons_succ]
          refine wpMH_moveW (fun u => Below.refl _ _) (by rfl) _ rfl _ rfl ?_
          simp only [Act.put, List.setIfInBounds_toArray, List.set_cons_zero, List.set_cons_succ]
          refine wpMH_nil ?_
          clear hcv hcu
          refine wpAnyM_one 5 (by kernel_rfl) rfl ?_
          simp only [List.getElem_toArray, List.getElem_cons_succ, List.getElem_cons_zero]
          intro u1 hS1 hM1
          have hrn := refNew_any u1 A1 m1 c1 l (Hr1.out.below hS1) (by omega)
          have HRN := Lib.hid hrn
          have HS1 := Lib.hid hS1
          clear hrn hS1 hM1
          obtain ⟨ln, hln⟩ : ∃ ln, ln = (newF l).length := ⟨_, rfl⟩
          have Hln := Lib.hid hln
          rw [← hln] at hm2 hm3
          clear hln
          go_wp2_with fail
          refine HRN.out.mono ?_
          rintro e u2 ⟨Aw, cw, rfl, hown2, hb2⟩
          rw [← Hln.out] at hown2 ⊢
          have H2 := Lib.hid (And.intro (Below.trans HS1.out (hb2.mono HS1.out.size)) (RP.of_own hown2))
          clear hown2 hb2 HRN HS1
          go_wp2_with fail
          refine ⟨H2.out.1, ?_⟩
          refine wpAnyM_one 6 (by kernel_rfl) rfl ?_
          simp only [List.getElem_toArray, List.getElem_cons_succ, List.getElem_cons_zero]
          intro u3 hS3 hM3
          obtain rfl : m2 = ln := by omega
          have hiy := is_yes u3 A2 Aw m2 c2 cw (newF l) (Hr2.out.below hS3) (H2.out.2.below hM3) (by omega)
          have HIY := Lib.hid hiy
          have HS3 := Lib.hid hS3
          clear hiy hS3 hM3 H2
          go_wp2_with fail
          refine HIY.out.mono ?_
          rintro e u4 ⟨rfl, hb4⟩
          have H4 := Lib.hid (Below.trans HS3.out (hb4.mono HS3.out.size))
          clear hb4 HIY HS3
          go_wp2_with fail
          refine ⟨H4.out, ?_⟩
          refine wpAnyM_one 7 (by kernel_rfl) rfl ?_
          simp only [List.getElem_toArray, List.getElem_cons_succ, List.getElem_cons_zero]
          intro u5 hS5 hM5
          have H5 := Lib.hid hS5
          clear hM5 hS5 H4
          go_wp2_with fail
          refine ⟨H5.out, ?_⟩
          refine wpAnyM_nil (by kernel_rfl) ?_
          intro u8 hS8 hM8
          refine NoPanic.normal ?_
          have HN8 := Lib.hid (HK.out.trans (hS8.mono HK.out.size))
          clear hS8 hM8 H5 hdj
          go_wp2_with fail
          go_roundw
          case rel => exact ⟨j + 1, hlj, by go_num, HN8⟩
          case measure => simp [intOf]; omega
        · obtain rfl : j = k := by omega
          have HF := Lib.hid (HVw.out.trans (HK.out.mono HVw.out.size))
          go_wp2_with fail
          go_ret
          exact ⟨rfl, HF.out⟩
end Go.Proofs.Ytkfpnilbjjkhgaa
