/-
  THE LAW TreeStays.
-/
import Derived.Test.YtkcmacglomdfcaaTrKO
namespace Go.Proofs.Ytkcmacglomdfcaa
open Go.RowKit

/-- The tree, and the root's box, that is none of the tree's. -/
structure Ys (F : Dg → Dg) (B g : Nat) (ls : List Dg) (w : World) (b6 : Nat) (d : Dg) (u : World) : Prop where
  ts : TS F B g ls [b6] u
  below : Below w.heap.size w u
  r6 : u.rangeAt b6 0 (d.map B8)
  lt : b6 < u.heap.size
section
variable {F : Dg → Dg} {B g : Nat} {ls ls' : List Dg} {w u u1 u2 : World} {b6 : Nat} {d : Dg}
theorem Ys.stable (h : Ys F B g ls w b6 d u) (hb : Below u.heap.size u u1) : Ys F B g ls w b6 d u1 := ⟨h.ts.stable hb, h.below.trans (hb.mono h.below.size), rangeAt_below' h.r6 hb, Nat.lt_of_lt_of_le h.lt hb.size⟩
theorem Ys.store (h : Ys F B g ls w b6 d u) (hb : Below u.heap.size u u1) {b : Nat} (hg : u1.grownBy u2 (some b)) (h0 : u.heap.size ≤ b) (h1 : b < u1.heap.size) : Ys F B g ls w b6 d u2 :=
  ⟨h.ts.store hb hg h0 h1, (h.below.trans (hb.mono h.below.size)).grown hg (Nat.le_trans h.below.size hb.size) (by intro k hk; cases hk; exact Nat.le_trans h.below.size h0), range_grown (rangeAt_below' h.r6 hb) hg (fun e => by have := h.lt; cases e; omega), Nat.lt_of_lt_of_le h.lt (Nat.le_trans hb.size hg.size)⟩
theorem Ys.add (h : Ys F B g ls w b6 d u) (hB : w.heap.size ≤ B) (ht : TS F B g ls' [b6] u1) (hb : Below B u u1) (hk : ∀ b ∈ [b6], u1.heap[b]? = u.heap[b]?) : Ys F B g ls' w b6 d u1 :=
  ⟨ht, h.below.trans (hb.mono hB), rangeAt_same h.r6 (hk b6 (by simp)), Nat.lt_of_lt_of_le h.lt hb.size⟩
end
theorem rs_own {u : World} {B : Nat} {A : Option Addr} {n c : Nat} {ls : List Dg} (h : u.ownsRow B 26 32 (.slice A n c) n (ls.flatten.map B8)) (h32 : ∀ x ∈ ls, x.length = 32) : n ≤ maxLen ∧ (ls.length = n → RS u A n ls) := ⟨(by
  obtain ⟨A0, c0, e0, h1, h2, -⟩ := own_formK h
  cases e0
  omega), fun hl => by
  obtain ⟨A', n', c', e', -, -, hr⟩ := SS.of_own h h32 hl
  cases e'
  exact hr⟩
theorem own_cap {u : World} {B : Nat} {e : TypeId} {s n c : Nat} {A : Option Addr} {xs : List Value} (h : u.ownsRow B e s (.slice A n c) n xs) : n ≤ c ∧ c ≤ maxLen := by
  obtain ⟨A0, c0, e0, h1, h2, -⟩ := own_formK h
  cases e0
  exact ⟨h1, h2⟩
set_option maxRecDepth 100000 in
set_option maxHeartbeats 16000000 in
theorem treeStays_law (w : World) (v1 : Value) (la : List Dg) (hv1 : SS w v1 la) (v2 : Value) (lb : List Dg) (hv2 : SS w v2 lb) :
    Calls Try.prog 13 #[v1, v2] w fun e w' => e = .returned (.bool true) ∧ Below w.heap.size w w' := by
  obtain ⟨A, na, ca, rfl, hnca, hcma, hra⟩ := hv1
  obtain ⟨Bq, nb, cb, rfl, hncb, hcmb, hrb⟩ := hv2
  have hA := alive11_any dig
  have HA := Lib.hid hA
  by_cases hbig : 40 < na ∨ 40 < nb
  · by_cases ha : 40 < na
    · have da : decide ((40 : Int) < (na : Int)) = true := decide_eq_true (by omega)
      have da' : decide (40 < na) = true := decide_eq_true ha
      clear hA hra hrb
      go_enter Try.func13, Try.ntmps13
      go_wp2_with (go_at_call 42; refine (HA.out _).mono ?_; rintro e w1 ⟨rfl, hb1⟩)
      go_ret
      exact ⟨rfl, hb1⟩
    · have da : decide ((40 : Int) < (na : Int)) = false := decide_eq_false (by omega)
      have da' : decide (40 < na) = false := decide_eq_false ha
      have db : decide ((40 : Int) < (nb : Int)) = true := decide_eq_true (by omega)
      have db' : decide (40 < nb) = true := decide_eq_true (by omega)
      clear hA hra hrb hbig
      go_enter Try.func13, Try.ntmps13
      go_wp2_with (go_at_call 42; refine (HA.out _).mono ?_; rintro e w1 ⟨rfl, hb1⟩)
      go_ret
      exact ⟨rfl, hb1⟩
  · have da : decide ((40 : Int) < (na : Int)) = false := decide_eq_false (by omega)
    have da' : decide (40 < na) = false := decide_eq_false (by omega)
    have db : decide ((40 : Int) < (nb : Int)) = false := decide_eq_false (by omega)
    have db' : decide (40 < nb) = false := decide_eq_false (by omega)
    have hna : na ≤ 40 := by omega
    have hnb : nb ≤ 40 := by omega
    have hlla := hra.len
    have hllb := hrb.len
    have hG := fun (u : World) (hu : Below w.heap.size w u) => grown_any dig u A na ca la (hra.below hu) hnca (by omega)
    have hRt := fun (u : World) (B g : Nat) (K : List Nat) (h : TS (digest32 K32 H32) B g la K u) => troot_ok dig u h na (by omega) (by omega)
    have hRt2 := fun (u : World) (B g : Nat) (K : List Nat) (h : TS (digest32 K32 H32) B g (la ++ lb) K u) => troot_ok dig u h na (by rw [List.length_append]; omega) (by rw [List.length_append]; omega)
    have hPt := fun (u : World) (B g : Nat) (K : List Nat) (k : Nat) (hk : k < na) (h : TS (digest32 K32 H32) B g (la ++ lb) K u) => tpath_any dig u h (by rw [List.length_append]; omega) k na hk (by rw [List.length_append]; omega)
    have e1 : la.take na = la := List.take_of_length_le (by omega)
    have e2 : (la ++ lb).take na = la := by rw [List.take_append_of_le_length (by omega), e1]
    rw [e1] at hRt
    simp only [e2] at hRt2 hPt
    have hAd := fun (u : World) {B g : Nat} (ls : List Dg) {K : List Nat} (h : TS (digest32 K32 H32) B g ls K u) => ts_add dig h
    have hLn := fun (u : World) (k : Nat) (hk : k < na) => reflength_any na na (Nat.le_refl _) u k hk (by omega)
    have hCm := fun (u : World) (x : Dg) (k : Nat) (A : Option Addr) (m c : Nat) (ps : List Dg) (h32 : x.length = 32) (hk : k < na) (hr : RS u A m ps) (hmc : m ≤ c) (hcm : c ≤ maxLen) (hm : m = (turns k na).length) => refcome_any dig na na (Nat.le_refl _) u x k A m c ps h32 hk (by omega) hr hmc hcm hm
    have hp32 := fun k => pathF_32 dig.len na la k hlla hra.2.1
    have hpl := fun k => pathF_len (F := digest32 K32 H32) na la k hlla
    have hpc := fun k x (hx : la[k]? = some x) => path_holds (F := digest32 K32 H32) na la k x hlla hx
    have hr32 : (rootF (digest32 K32 H32) la).length = 32 := rootF_len dig.len _ _ rfl hra.2.1
    clear e1 e2 hlla hllb
    generalize digest32 K32 H32 = F at hG hRt hRt2 hPt hAd hLn hCm hp32 hpl hpc hr32
    obtain ⟨d, hd⟩ : ∃ d, d = rootF F la := ⟨_, rfl⟩
    rw [← hd] at hRt hRt2 hr32
    simp only [← hd] at hpc
    have hd32 := hr32
    unfold SumV at hRt hRt2
    have HG := Lib.hid hG
    have HRt := Lib.hid hRt
    have HRt20 := Lib.hid hRt2
    have HPt0 := Lib.hid hPt
    have HAd := Lib.hid @hAd
    have HLn := Lib.hid hLn
    have HCm := Lib.hid hCm
    have Hp32 := Lib.hid hp32
    have Hpl := Lib.hid hpl
    have Hpc := Lib.hid hpc
    have Hra := Lib.hid hra
    have Hrb := Lib.hid hrb
    have hi := info_of d hd32
    have hi' := info_of' d hd32
    have hneq := fun u => run_neq_sum u d d hd32 hd32
    simp only [bne_self_eq_false] at hneq
    clear hA hG hRt hRt2 hPt hAd hLn hCm hp32 hpl hpc hr32 hra hrb hd hbig
    go_enter Try.func13, Try.ntmps13
    go_wp2_with fail
    refine (HA.out w).mono ?_
    rintro e w1 ⟨rfl, hb1⟩
    go_wp2_with fail
    refine (HG.out w1 hb1).mono ?_
    rintro e w2 ⟨rfl, ht2⟩
    have H2 : Hid (TS F w1.heap.size (w1.heap.size + 1) la [] w2 ∧ Below w.heap.size w w2) := Lib.hid ⟨ht2.1, hb1.trans (ht2.2.mono hb1.size)⟩
    have HRt2 := Lib.hid (fun u K hu => HRt20.out u w1.heap.size (w1.heap.size + 1) K hu)
    have HPt := Lib.hid (fun u K k hk hu => HPt0.out u w1.heap.size (w1.heap.size + 1) K k hk hu)
    have hB1 := Lib.hid hb1.size
    clear ht2 hb1 HRt20 HPt0 HG
    go_wp2_with fail
    refine (HRt.out w2 _ _ _ H2.out.1).mono ?_
    rintro e w3 ⟨rfl, hb3⟩
    have H3 := Lib.hid (And.intro (H2.out.1.stable hb3) (H2.out.2.trans (hb3.mono H2.out.2.size)))
    clear hb3 H2
    go_wp2_with ((with_reducible show wpList _ _ _ (⟨_, Op.store 26 (.tmp 6) _, _, _, _, _⟩ :: _) _ _); refine wpList_store_row rfl _ _ _ rfl w3.heap.size 0 (d.map B8).toArray rfl rfl (sz_there hd32 (there_blk (heap_alloc_at _ _ _ rfl) (by decide))) hi' (b8_all d) ?_; intro w4 hg5 hs5 ht5 hth5; rw [List.toList_toArray] at ht5; have hal : Below w3.heap.size w3 (w3.alloc (.cells (List.replicate 32 (.int .u8 0)).toArray 26)) := (Below.refl _ _).alloc (Nat.le_refl _) _; have H4 : Hid (Ys F w1.heap.size (w1.heap.size + 1) la w w3.heap.size d w4) := Lib.hid ⟨(H3.out.1.fresh hal (Nat.le_refl _) (by simp)).put (List.mem_cons_self ..) hg5, (H3.out.2.trans (hal.mono H3.out.2.size)).grown hg5 (Nat.le_trans H3.out.2.size hal.size) (by intro k hk; cases hk; exact H3.out.2.size), ht5, Nat.lt_of_lt_of_le (by simp) hg5.size⟩; clear hal hg5 hs5 ht5 hth5; skip)
    obtain ⟨b6, hb6⟩ : ∃ b6, b6 = w3.heap.size := ⟨_, rfl⟩
    rw [← hb6] at H4 ⊢
    have HY0 : Hid (Ys F w1.heap.size (w1.heap.size + 1) (la ++ lb.take 0) w b6 d w4) := Lib.hid (by have h := H4.out; simpa using h)
    clear hb6 H4 H3
    go_loopw [44] (fun iv wr => ∃ k : Nat, k ≤ nb ∧ iv = .int .i64 (k : Int) ∧ Hid (Ys F w1.heap.size (w1.heap.size + 1) (la ++ lb.take k) w b6 d wr)) (fun iv _ => nb - (intOf iv).toNat)
    case atStart => exact ⟨0, by omega, rfl, HY0⟩
    case round =>
      obtain ⟨k, hk, rfl, hq⟩ := hrel
      by_cases hkl : k < nb
      · have dl : decide (k < nb) = true := decide_eq_true hkl
        have dl' : decide ((k : Int) < (nb : Int)) = true := decide_eq_true (by omega)
        have kn : (k : Int) < (nb : Int) := by omega
        obtain ⟨b, o, x, hBq, hx, hx32, hrx⟩ := (Hrb.out.below hq.out.below).at_ (i := k) hkl
        subst hBq
        have hix := info_of x hx32
        have hix' := info_of' x hx32
        have Hx := Lib.hid hx
        have Hq := hq
        clear hx hq
        go_wp2_with (first
          | ((with_reducible show wpList _ _ _ (⟨_, Op.load 26 (.tmp 46), _, _, _, _⟩ :: _) _ _); refine wpList_load_mid rfl _ _ rfl b (o + k * 32) rfl (x.map B8) _ hrx Try.underlying26 rfl hix ?_; simp only [Act.put, List.setIfInBounds_toArray, List.set_cons_zero, List.set_cons_succ])
          | ((with_reducible show wpList _ _ _ (⟨_, Op.store 26 (.tmp 9) _, _, _, _, _⟩ :: _) _ _); refine wpList_store_row rfl _ _ _ rfl wr.heap.size 0 (x.map B8).toArray rfl rfl (sz_there hx32 (there_blk (heap_alloc_at _ _ _ rfl) (by decide))) hix' (b8_all x) ?_; intro w5 hg5 hs5 ht5 hth5; rw [List.toList_toArray] at ht5; have H5 := Lib.hid (And.intro (Hq.out.store ((Below.refl _ _).alloc (Nat.le_refl _) _) hg5 (Nat.le_refl _) (by simp)) ht5); clear hg5 hs5 ht5 hth5; have hr5 := H5.out.2; skip)
          | ((with_reducible show wpList _ _ _ (⟨_, Op.load 26 (.tmp 9), _, _, _, _⟩ :: _) _ _); refine wpList_load_mid rfl _ _ rfl wr.heap.size 0 rfl (x.map B8) _ hr5 Try.underlying26 rfl hix ?_; simp only [Act.put, List.setIfInBounds_toArray, List.set_cons_zero, List.set_cons_succ]))
        have hAd := HAd.out w5 (la ++ lb.take k) H5.out.1.ts (by rw [List.length_append, List.length_take, Hra.out.len]; omega) x hx32
        unfold SumV at hAd
        have HAd1 := Lib.hid hAd
        clear hAd hr5
        refine HAd1.out.mono ?_
        rintro e w6 ⟨rfl, ht6, hb6, hk6⟩
        have H6 : Hid (Ys F w1.heap.size (w1.heap.size + 1) (la ++ lb.take (k + 1)) w b6 d w6) := Lib.hid (H5.out.1.add hB1.out (by rw [take_snoc Hx.out, ← List.append_assoc]; exact ht6) hb6 hk6)
        clear ht6 hb6 hk6 HAd1 hrx H5 Hq
        go_wp2_with fail
        go_roundw
        case rel => exact ⟨k + 1, by omega, by go_num, H6⟩
        case measure => simp [intOf]; omega
      · have dl : decide (k < nb) = false := decide_eq_false hkl
        have dl' : decide ((k : Int) < (nb : Int)) = false := decide_eq_false (by omega)
        have HY : Hid (Ys F w1.heap.size (w1.heap.size + 1) (la ++ lb) w b6 d wr) := by
          have h := hq
          rw [List.take_of_length_le (by have := Hrb.out.len; omega)] at h
          exact h
        clear hq hk
        go_wp2_with fail
        refine (HRt2.out wr _ HY.out.ts).mono ?_
        rintro e w7 ⟨rfl, hb7⟩
        have H7 := Lib.hid (HY.out.stable hb7)
        have hlt7 := range_lt H7.out.r6 hd32
        clear hb7 HY
        go_wp2_with (first
          | ((with_reducible show wpList _ _ _ (⟨_, Op.store 26 (.tmp 12) _, _, _, _, _⟩ :: _) _ _); refine wpList_store_row rfl _ _ _ rfl w7.heap.size 0 (d.map B8).toArray rfl rfl (sz_there hd32 (there_blk (heap_alloc_at _ _ _ rfl) (by decide))) hi' (b8_all d) ?_; intro w8 hg5 hs5 ht5 hth5; rw [List.toList_toArray] at ht5; have H8 := Lib.hid (And.intro (H7.out.store ((Below.refl _ _).alloc (Nat.le_refl _) _) hg5 (Nat.le_refl _) (by simp)) ht5); clear hg5 hs5 ht5 hth5; have hr8 := H8.out.2; have hr86 := H8.out.1.r6; skip)
          | ((with_reducible show wpList _ _ _ (⟨_, Op.load 26 (.tmp 12), _, _, _, _⟩ :: _) _ _); refine wpList_load_midW rfl _ _ rfl w7.heap.size 0 rfl (d.map B8) _ hr8 Try.underlying26 rfl hi ?_; simp only [Act.put, List.setIfInBounds_toArray, List.set_cons_zero, List.set_cons_succ])
          | ((with_reducible show wpList _ _ _ (⟨_, Op.load 26 (.tmp 6), _, _, _, _⟩ :: _) _ _); refine wpList_load_midW rfl _ _ rfl b6 0 rfl (d.map B8) _ hr86 Try.underlying26 rfl hi ?_; simp only [Act.put, List.setIfInBounds_toArray, List.set_cons_zero, List.set_cons_succ]))
        have HY : Hid (Ys F w1.heap.size (w1.heap.size + 1) (la ++ lb) w b6 d w8) := Lib.hid H8.out.1
        clear H8 H7 hr8 hr86 hlt7
        go_loopw [73] (fun iv wr => ∃ k : Nat, k ≤ na ∧ iv = .int .i64 (k : Int) ∧ Hid (Ys F w1.heap.size (w1.heap.size + 1) (la ++ lb) w b6 d wr)) (fun iv _ => na - (intOf iv).toNat)
        case atStart => exact ⟨0, by omega, rfl, HY⟩
        case round =>
          obtain ⟨k, hk, rfl, hq⟩ := hrel
          by_cases hkl : k < na
          · have dl : decide (k < na) = true := decide_eq_true hkl
            have dl' : decide ((k : Int) < (na : Int)) = true := decide_eq_true (by omega)
            have kn : (k : Int) < (na : Int) := by omega
            obtain ⟨b, o, x, hAq, hx, hx32, hrx⟩ := (Hra.out.below hq.out.below).at_ (i := k) hkl
            subst hAq
            have hix := info_of x hx32
            have hix' := info_of' x hx32
            have Hx := Lib.hid hx
            have Hq := hq
            clear hx hq
            go_wp2_with (first
              | ((with_reducible show wpList _ _ _ (⟨_, Op.load 26 (.tmp 76), _, _, _, _⟩ :: _) _ _); refine wpList_load_mid rfl _ _ rfl b (o + k * 32) rfl (x.map B8) _ hrx Try.underlying26 rfl hix ?_; simp only [Act.put, List.setIfInBounds_toArray, List.set_cons_zero, List.set_cons_succ])
              | ((with_reducible show wpList _ _ _ (⟨_, Op.store 26 (.tmp 14) _, _, _, _, _⟩ :: _) _ _); refine wpList_store_row rfl _ _ _ rfl wr.heap.size 0 (x.map B8).toArray rfl rfl (sz_there hx32 (there_blk (heap_alloc_at _ _ _ rfl) (by decide))) hix' (b8_all x) ?_; intro w9 hg5 hs5 ht5 hth5; rw [List.toList_toArray] at ht5; have H9 := Lib.hid (And.intro (Hq.out.store ((Below.refl _ _).alloc (Nat.le_refl _) _) hg5 (Nat.le_refl _) (by simp)) ht5); clear hg5 hs5 ht5 hth5; skip))
            refine (HPt.out w9 _ k hkl H9.out.1.ts).mono ?_
            rintro e w10 ⟨Ap, cp, rfl, ho10, hb10⟩
            obtain ⟨ps, hps⟩ : ∃ ps, ps = pathF F la k := ⟨_, rfl⟩
            have hp32 : ∀ y ∈ ps, y.length = 32 := by rw [hps]; exact Hp32.out k
            have hpl : ps.length = (turns k na).length := by rw [hps]; exact Hpl.out k
            have hpc : comeF F x (turns k na).reverse ps = d := by rw [hps]; exact Hpc.out k x Hx.out
            rw [← hps] at ho10
            rw [← hps]
            have hrs := (rs_own ho10 hp32)
            have hcp := own_cap ho10
            obtain ⟨np, hnp⟩ : ∃ np, np = ps.length := ⟨_, rfl⟩
            rw [← hnp] at hrs hpl hcp ⊢
            have H10 := Lib.hid (And.intro (H9.out.1.stable hb10) (And.intro (rangeAt_below' H9.out.2 hb10) (And.intro (hrs.2 rfl) hpc)))
            have hl10 := range_lt H10.out.2.1 hx32
            have hLn := fun u => HLn.out u k hkl
            rw [← hpl] at hLn
            have HLn1 := Lib.hid hLn
            have Hpl1 := Lib.hid hpl
            have hcp2 := hcp.2
            unfold maxLen at hcp2
            clear ho10 hb10 hps hp32 hpc hnp hrs H9 hLn hpl
            have dnn : ((np : Int) != (np : Int)) = false := by simp
            go_wp2_with fail
            refine (HLn1.out w10).mono ?_
            rintro e w11 ⟨rfl, rfl⟩
            have H11 := H10
            have hr11 := H11.out.2.1
            clear H10
            go_wp2_with ((with_reducible show wpList _ _ _ (⟨_, Op.load 26 (.tmp 14), _, _, _, _⟩ :: _) _ _); refine wpList_load_mid rfl _ _ rfl wr.heap.size 0 rfl (x.map B8) _ hr11 Try.underlying26 rfl hix ?_; simp only [Act.put, List.setIfInBounds_toArray, List.set_cons_zero, List.set_cons_succ])
            refine (HCm.out w10 x k Ap np cp ps hx32 hkl H11.out.2.2.1 hcp.1 hcp.2 Hpl1.out).mono ?_
            rintro e w12 ⟨A12, c12, us12, rfl, -, -, hb12⟩
            rw [H11.out.2.2.2]
            have H12 := Lib.hid (H11.out.1.stable hb12)
            clear hb12 H11 hr11
            go_wp2_with (first
              | ((with_reducible show wpList _ _ _ (⟨_, Op.store 26 (.tmp 17) _, _, _, _, _⟩ :: _) _ _); refine wpList_store_row rfl _ _ _ rfl w12.heap.size 0 (d.map B8).toArray rfl rfl (sz_there hd32 (there_blk (heap_alloc_at _ _ _ rfl) (by decide))) hi' (b8_all d) ?_; intro w13 hg5 hs5 ht5 hth5; rw [List.toList_toArray] at ht5; have H13 := Lib.hid (And.intro (H12.out.store ((Below.refl _ _).alloc (Nat.le_refl _) _) hg5 (Nat.le_refl _) (by simp)) ht5); clear hg5 hs5 ht5 hth5; have hr13 := H13.out.2; have hr136 := H13.out.1.r6; skip)
              | ((with_reducible show wpList _ _ _ (⟨_, Op.load 26 (.tmp 17), _, _, _, _⟩ :: _) _ _); refine wpList_load_midW rfl _ _ rfl w12.heap.size 0 rfl (d.map B8) _ hr13 Try.underlying26 rfl hi ?_; simp only [Act.put, List.setIfInBounds_toArray, List.set_cons_zero, List.set_cons_succ])
              | ((with_reducible show wpList _ _ _ (⟨_, Op.load 26 (.tmp 6), _, _, _, _⟩ :: _) _ _); refine wpList_load_midW rfl _ _ rfl b6 0 rfl (d.map B8) _ hr136 Try.underlying26 rfl hi ?_; simp only [Act.put, List.setIfInBounds_toArray, List.set_cons_zero, List.set_cons_succ]))
            have HN := Lib.hid H13.out.1
            clear H13 hr13 hr136 H12 hrx
            go_roundw
            case rel => exact ⟨k + 1, by omega, by go_num, HN⟩
            case measure => simp [intOf]; omega
          · have dl : decide (k < na) = false := decide_eq_false hkl
            have dl' : decide ((k : Int) < (na : Int)) = false := decide_eq_false (by omega)
            have hL := ts_len hq.out.ts
            have hln : (la ++ lb).length = na + nb := by rw [List.length_append, Hra.out.len, Hrb.out.len]
            rw [hln] at hL
            have HL := Lib.hid hL
            have HY := hq
            clear hL hln hq
            go_wp2_with (go_at_call 48; refine (HL.out).mono ?_; rintro e w1 ⟨rfl, rfl⟩)
            go_ret
            exact ⟨by go_num, HY.out.below⟩
end Go.Proofs.Ytkcmacglomdfcaa
