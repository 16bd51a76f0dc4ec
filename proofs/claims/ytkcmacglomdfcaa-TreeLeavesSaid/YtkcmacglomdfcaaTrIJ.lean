/-
  THE LAW TreeRoots.
-/
import Derived.Test.YtkcmacglomdfcaaTrFG
namespace Go.Proofs.Ytkcmacglomdfcaa
open Go.RowKit

section
variable {F : Dg → Dg} {B g : Nat} {ls : List Dg} {K : List Nat} {u u' u1 u2 w : World}
theorem TS.less {b : Nat} (h : TS F B g ls (b :: K) u) : TS F B g ls K u := by
  obtain ⟨mb, V, us, n, D, h1, h2, h3, h4, h5⟩ := h
  exact ⟨mb, V, us, n, D, h1, h2, h3, h4, fun c hc => h5 c (List.mem_cons_of_mem _ hc)⟩
theorem TS.store (h : TS F B g ls K u) (hb : Below u.heap.size u u1) {b : Nat} (hg : u1.grownBy u2 (some b)) (h0 : u.heap.size ≤ b) (h1 : b < u1.heap.size) : TS F B g ls K u2 :=
  ((h.fresh hb h0 h1).put (List.mem_cons_self ..) hg).less
/-- The tree, and nothing of the caller's turned. -/
def St (F : Dg → Dg) (B g : Nat) (ls : List Dg) (w u : World) : Prop := TS F B g ls [] u ∧ Below w.heap.size w u
theorem St.stable (h : St F B g ls w u) (hb : Below u.heap.size u u') : St F B g ls w u' := ⟨h.1.stable hb, h.2.trans (hb.mono h.2.size)⟩
theorem St.store (h : St F B g ls w u) (hb : Below u.heap.size u u1) {b : Nat} (hg : u1.grownBy u2 (some b)) (h0 : u.heap.size ≤ b) (h1 : b < u1.heap.size) : St F B g ls w u2 :=
  ⟨h.1.store hb hg h0 h1, (h.2.trans (hb.mono h.2.size)).grown hg (Nat.le_trans h.2.size hb.size) (by intro k hk; cases hk; exact Nat.le_trans h.2.size h0)⟩
theorem range_lt {b : Nat} {d : Dg} (h : u.rangeAt b 0 (d.map B8)) (hd : d.length = 32) : b < u.heap.size :=
  World.block_lt_of_cell? u ⟨b, 0 + 0, none⟩ (h 0 _ (List.getElem?_eq_getElem (by rw [List.length_map, hd]; decide)))
end
set_option maxRecDepth 100000 in
set_option maxHeartbeats 8000000 in
theorem treeRoots_law (w : World) (v : Value) (ls : List Dg) (hv : SS w v ls) :
    Calls Try.prog 11 #[v] w fun e w' => e = .returned (.bool true) ∧ Below w.heap.size w w' := by
  obtain ⟨A, n, c, rfl, hnc, hcm, hr⟩ := hv
  have hA := alive11_any dig
  have hRt := fun (u : World) {B g : Nat} {ls : List Dg} {K : List Nat} (h : TS (digest32 K32 H32) B g ls K u) => troot_ok dig u h
  have hRr := rroot_ok dig
  have hAd := fun (u : World) {B g : Nat} (ls : List Dg) {K : List Nat} (h : TS (digest32 K32 H32) B g ls K u) => ts_add dig h
  have hF32 := dig.len
  generalize digest32 K32 H32 = F at hRt hRr hAd hF32
  have HA := Lib.hid hA
  have HRt := Lib.hid @hRt
  have HRr := Lib.hid hRr
  have HAd := Lib.hid @hAd
  have HF32 := Lib.hid hF32
  have Hr := Lib.hid hr
  clear hA hRt hRr hAd hF32 hr
  by_cases hbig : 40 < n
  · have db : decide ((40 : Int) < (n : Int)) = true := decide_eq_true (by omega)
    have db' : decide (40 < n) = true := decide_eq_true hbig
    go_enter Try.func11, Try.ntmps11
    go_wp2_with (go_at_call 42; refine (HA.out _).mono ?_; rintro e w1 ⟨rfl, hb1⟩)
    go_ret
    exact ⟨rfl, hb1⟩
  · have db : decide ((40 : Int) < (n : Int)) = false := decide_eq_false (by omega)
    have db' : decide (40 < n) = false := decide_eq_false hbig
    go_enter Try.func11, Try.ntmps11
    go_wp2_with fail
    refine (HA.out w).mono ?_
    rintro e w1 ⟨rfl, hb1⟩
    go_wp2_with fail
    refine (ts_new F w1).mono ?_
    rintro e w2 ⟨rfl, hb2, ht2⟩
    have H1 := Lib.hid (And.intro hb1 hb2)
    have H2 : Hid (St F w1.heap.size (w1.heap.size + 1) (ls.take 0) w w2) := Lib.hid ⟨ht2, hb1.trans (hb2.mono hb1.size)⟩
    clear ht2 hb1 hb2
    go_wp2_with fail
    go_loopw [4] (fun iv wr => ∃ k : Nat, k ≤ n + 1 ∧ iv = .int .i64 (k : Int) ∧ Hid (St F w1.heap.size (w1.heap.size + 1) (ls.take k) w wr)) (fun iv _ => n + 1 - (intOf iv).toNat)
    case atStart => exact ⟨0, by omega, rfl, H2⟩
    case round =>
      obtain ⟨k, hk, rfl, hq⟩ := hrel
      by_cases hkn : k ≤ n
      · have dk : decide ((k : Int) ≤ (n : Int)) = true := decide_eq_true (by omega)
        have dk' : decide (k ≤ n) = true := decide_eq_true hkn
        go_wp2_with fail
        go_loopw [5] (fun iv wr2 => ∃ m : Int, -1 ≤ m ∧ m ≤ (k : Int) + 2 ∧ iv = .int .i64 m ∧ Hid (St F w1.heap.size (w1.heap.size + 1) (ls.take k) w wr2)) (fun iv _ => ((k : Int) + 2 - (intOf iv)).toNat)
        case atStart => exact ⟨-1, by omega, by omega, rfl, hq⟩
        case round =>
          obtain ⟨m, hm0, hm1, rfl, hq2⟩ := hrel
          by_cases hmk : m ≤ (k : Int) + 1
          · have dm : decide (m ≤ (k : Int) + 1) = true := decide_eq_true hmk
            by_cases hg : 0 ≤ m ∧ m ≤ (k : Int)
            · obtain ⟨j, rfl⟩ : ∃ j : Nat, m = (j : Int) := ⟨m.toNat, by omega⟩
              have hjk : j ≤ k := by omega
              obtain ⟨d, hd⟩ : ∃ d, d = rootF F ((ls.take k).take j) := ⟨_, rfl⟩
              have hd32 : d.length = 32 := by rw [hd]; exact rootF_len HF32.out _ _ rfl (fun x hx => Hr.out.2.1 x (List.mem_of_mem_take (List.mem_of_mem_take hx)))
              have HT : Hid (∀ u, St F w1.heap.size (w1.heap.size + 1) (ls.take k) w u → Calls Try.prog 44 #[.pointer (some ⟨w1.heap.size + 1, 0, none⟩), .int .i64 (j : Int)] u fun e w' => e = .returned (.tuple #[.agg (d.map B8).toArray, .nilIface]) ∧ Below u.heap.size u w') := Lib.hid fun u hu => by rw [hd]; exact HRt.out u hu.1 j (by rw [List.length_take, Hr.out.len]; omega) (by rw [List.length_take]; omega)
              have HR : Hid (∀ u, Below w.heap.size w u → Calls Try.prog 45 #[.slice A k c, .int .i64 (j : Int)] u fun e w' => e = .returned (.tuple #[.agg (d.map B8).toArray, .bool true]) ∧ Below u.heap.size u w') := Lib.hid fun u hu => by rw [hd]; exact HRr.out u A k c (ls.take k) ((Hr.out.below hu).take hkn) (by omega) hcm (by omega) j (by omega)
              have hi := info_of d hd32
              have hi' := info_of' d hd32
              have hsg := hd
              clear hd
              clear hsg
              go_wp2_with fail
              refine (HT.out _ hq2.out).mono ?_
              rintro e w2 ⟨rfl, hb2⟩
              have H2 := Lib.hid (hq2.out.stable hb2)
              clear hb2
              go_wp2_with ((with_reducible show wpList _ _ _ (⟨_, Op.store 26 (.tmp 6) _, _, _, _, _⟩ :: _) _ _); refine wpList_store_row rfl _ _ _ rfl w2.heap.size 0 (d.map B8).toArray rfl rfl (sz_there hd32 (there_blk (heap_alloc_at _ _ _ rfl) (by decide))) hi' (b8_all d) ?_; intro w3 hg5 hs5 ht5 hth5; rw [List.toList_toArray] at ht5; have H3 := Lib.hid (And.intro (H2.out.store ((Below.refl _ _).alloc (Nat.le_refl _) _) hg5 (Nat.le_refl _) (by simp)) ht5); clear hg5 hs5 ht5 hth5; skip)
              refine (HR.out w3 H3.out.1.2).mono ?_
              rintro e w4 ⟨rfl, hb4⟩
              have H4 := Lib.hid (And.intro (H3.out.1.stable hb4) (rangeAt_below' H3.out.2 hb4))
              have hlt4 := range_lt H4.out.2 hd32
              clear hb4 H3
              have hneq := fun u => run_neq_sum u d d hd32 hd32
              simp only [bne_self_eq_false] at hneq
              go_wp2_with (first
                | ((with_reducible show wpList _ _ _ (⟨_, Op.store 26 (.tmp 8) _, _, _, _, _⟩ :: _) _ _); refine wpList_store_row rfl _ _ _ rfl w4.heap.size 0 (d.map B8).toArray rfl rfl (sz_there hd32 (there_blk (heap_alloc_at _ _ _ rfl) (by decide))) hi' (b8_all d) ?_; intro w5 hg5 hs5 ht5 hth5; rw [List.toList_toArray] at ht5; have H5 := Lib.hid (And.intro (H4.out.1.store ((Below.refl _ _).alloc (Nat.le_refl _) _) hg5 (Nat.le_refl _) (by simp)) (And.intro (range_grown (rangeAt_below' H4.out.2 ((Below.refl _ _).alloc (Nat.le_refl _) _)) hg5 (by simp; omega)) ht5)); clear hg5 hs5 ht5 hth5; have hr5 := H5.out.2.1; have hr6 := H5.out.2.2; skip)
                | ((with_reducible show wpList _ _ _ (⟨_, Op.load 26 (.tmp 6), _, _, _, _⟩ :: _) _ _); refine wpList_load_mid rfl _ _ rfl w2.heap.size 0 rfl (d.map B8) _ hr5 Try.underlying26 rfl hi ?_; simp only [Act.put, List.setIfInBounds_toArray, List.set_cons_zero, List.set_cons_succ])
                | ((with_reducible show wpList _ _ _ (⟨_, Op.load 26 (.tmp 8), _, _, _, _⟩ :: _) _ _); refine wpList_load_mid rfl _ _ rfl w4.heap.size 0 rfl (d.map B8) _ hr6 Try.underlying26 rfl hi ?_; simp only [Act.put, List.setIfInBounds_toArray, List.set_cons_zero, List.set_cons_succ])
                | (go_at_call 46; refine (is_err _ _ _ (by decide)).mono ?_; rintro e w9 ⟨rfl, rfl⟩))
              have H6 := Lib.hid H5.out.1
              clear hr5 hr6 H5 hlt4
              go_roundw
              case rel => exact ⟨(j : Int) + 1, by omega, by omega, by go_num, H6⟩
              case measure => simp [intOf]; omega
            · obtain ⟨d, hd⟩ : ∃ d, d = zero32 := ⟨_, rfl⟩
              have hd32 : d.length = 32 := by rw [hd]; rfl
              have HT : Hid (∀ u, St F w1.heap.size (w1.heap.size + 1) (ls.take k) w u → Calls Try.prog 44 #[.pointer (some ⟨w1.heap.size + 1, 0, none⟩), .int .i64 m] u fun e w' => e = .returned (.tuple #[.agg (d.map B8).toArray, errV 2]) ∧ Below u.heap.size u w') := Lib.hid fun u hu => by rw [hd]; exact troot_bad u hu.1 m (by rw [List.length_take, Hr.out.len]; omega)
              have HR : Hid (∀ u, Below w.heap.size w u → Calls Try.prog 45 #[.slice A k c, .int .i64 m] u fun e w' => e = .returned (.tuple #[.agg (d.map B8).toArray, .bool false]) ∧ Below u.heap.size u w') := Lib.hid fun u hu => by rw [hd]; exact rroot_bad u A k c m (by omega)
              have hi := info_of d hd32
              have hi' := info_of' d hd32
              have hsg := hd
              clear hd
              clear hsg
              go_wp2_with fail
              refine (HT.out _ hq2.out).mono ?_
              rintro e w2 ⟨rfl, hb2⟩
              have H2 := Lib.hid (hq2.out.stable hb2)
              clear hb2
              go_wp2_with ((with_reducible show wpList _ _ _ (⟨_, Op.store 26 (.tmp 6) _, _, _, _, _⟩ :: _) _ _); refine wpList_store_row rfl _ _ _ rfl w2.heap.size 0 (d.map B8).toArray rfl rfl (sz_there hd32 (there_blk (heap_alloc_at _ _ _ rfl) (by decide))) hi' (b8_all d) ?_; intro w3 hg5 hs5 ht5 hth5; rw [List.toList_toArray] at ht5; have H3 := Lib.hid (And.intro (H2.out.store ((Below.refl _ _).alloc (Nat.le_refl _) _) hg5 (Nat.le_refl _) (by simp)) ht5); clear hg5 hs5 ht5 hth5; skip)
              refine (HR.out w3 H3.out.1.2).mono ?_
              rintro e w4 ⟨rfl, hb4⟩
              have H4 := Lib.hid (And.intro (H3.out.1.stable hb4) (rangeAt_below' H3.out.2 hb4))
              have hlt4 := range_lt H4.out.2 hd32
              clear hb4 H3
              have hneq := fun u => run_neq_sum u d d hd32 hd32
              simp only [bne_self_eq_false] at hneq
              go_wp2_with (first
                | ((with_reducible show wpList _ _ _ (⟨_, Op.store 26 (.tmp 8) _, _, _, _, _⟩ :: _) _ _); refine wpList_store_row rfl _ _ _ rfl w4.heap.size 0 (d.map B8).toArray rfl rfl (sz_there hd32 (there_blk (heap_alloc_at _ _ _ rfl) (by decide))) hi' (b8_all d) ?_; intro w5 hg5 hs5 ht5 hth5; rw [List.toList_toArray] at ht5; have H5 := Lib.hid (And.intro (H4.out.1.store ((Below.refl _ _).alloc (Nat.le_refl _) _) hg5 (Nat.le_refl _) (by simp)) (And.intro (range_grown (rangeAt_below' H4.out.2 ((Below.refl _ _).alloc (Nat.le_refl _) _)) hg5 (by simp; omega)) ht5)); clear hg5 hs5 ht5 hth5; have hr5 := H5.out.2.1; have hr6 := H5.out.2.2; skip)
                | ((with_reducible show wpList _ _ _ (⟨_, Op.load 26 (.tmp 6), _, _, _, _⟩ :: _) _ _); refine wpList_load_mid rfl _ _ rfl w2.heap.size 0 rfl (d.map B8) _ hr5 Try.underlying26 rfl hi ?_; simp only [Act.put, List.setIfInBounds_toArray, List.set_cons_zero, List.set_cons_succ])
                | ((with_reducible show wpList _ _ _ (⟨_, Op.load 26 (.tmp 8), _, _, _, _⟩ :: _) _ _); refine wpList_load_mid rfl _ _ rfl w4.heap.size 0 rfl (d.map B8) _ hr6 Try.underlying26 rfl hi ?_; simp only [Act.put, List.setIfInBounds_toArray, List.set_cons_zero, List.set_cons_succ])
                | (go_at_call 46; refine (is_err _ _ _ (by decide)).mono ?_; rintro e w9 ⟨rfl, rfl⟩))
              have H6 := Lib.hid H5.out.1
              clear hr5 hr6 H5 hlt4
              go_roundw
              case rel => exact ⟨m + 1, by omega, by omega, by go_num, H6⟩
              case measure => simp [intOf]; omega
          · have dm : decide (m ≤ (k : Int) + 1) = false := decide_eq_false hmk
            have H2 := hq2
            clear hq hq2
            by_cases hkl : k < n
            · have dl : decide (k < n) = true := decide_eq_true hkl
              have dl' : decide ((k : Int) < (n : Int)) = true := decide_eq_true (by omega)
              obtain ⟨b, o, x, hA, hx, hx32, hrx⟩ := (Hr.out.below H2.out.2).at_ (i := k) hkl
              subst hA
              have hAd := HAd.out wr (ls.take k) H2.out.1 (by rw [List.length_take]; omega) x hx32
              rw [List.length_take, Nat.min_eq_left (by have := Hr.out.len; omega), ← take_snoc hx] at hAd
              unfold SumV at hAd
              have HAd1 := Lib.hid hAd
              have hix := info_of x hx32
              clear hAd hx
              go_wp2_with ((with_reducible show wpList _ _ _ (⟨_, Op.load 26 (.tmp 70), _, _, _, _⟩ :: _) _ _); refine wpList_load_mid rfl _ _ rfl b (o + k * 32) rfl (x.map B8) _ hrx Try.underlying26 rfl hix ?_; simp only [Act.put, List.setIfInBounds_toArray, List.set_cons_zero, List.set_cons_succ])
              refine HAd1.out.mono ?_
              rintro e w4 ⟨rfl, ht4, hb4, -⟩
              have H4 : Hid (St F w1.heap.size (w1.heap.size + 1) (ls.take (k + 1)) w w4) := Lib.hid ⟨ht4, H2.out.2.trans (hb4.mono H1.out.1.size)⟩
              clear ht4 hb4
              go_wp2_with fail
              go_roundw
              case rel => exact ⟨k + 1, by omega, by go_num, H4⟩
              case measure => simp [intOf]; omega
            · have dl : decide (k < n) = false := decide_eq_false hkl
              have dl' : decide ((k : Int) < (n : Int)) = false := decide_eq_false (by omega)
              have H4 : Hid (St F w1.heap.size (w1.heap.size + 1) (ls.take (k + 1)) w wr) := by
                have h := H2
                rw [List.take_of_length_le (by have := Hr.out.len; omega)] at h ⊢
                exact h
              go_wp2_with fail
              go_roundw
              case rel => exact ⟨k + 1, by omega, by go_num, H4⟩
              case measure => simp [intOf]; omega
      · have dk : decide ((k : Int) ≤ (n : Int)) = false := decide_eq_false (by omega)
        have dk' : decide (k ≤ n) = false := decide_eq_false hkn
        have hL := ts_len hq.out.1
        have hln : (ls.take k).length = n := by have := Hr.out.len; rw [List.length_take]; omega
        rw [hln] at hL
        have HL := Lib.hid hL
        clear hL hln
        go_wp2_with (go_at_call 48; refine (HL.out).mono ?_; rintro e w1 ⟨rfl, rfl⟩)
        go_ret
        exact ⟨rfl, hq.out.2⟩
end Go.Proofs.Ytkcmacglomdfcaa

/-
  THE WALK of grown in cachetlaw11.
-/
namespace Go.Proofs.Ytkcmacglomdfcaa
open Go.RowKit

section
variable {F : List UInt8 → List UInt8} (HF : Dig F)
include HF
set_option maxRecDepth 100000 in
set_option maxHeartbeats 4000000 in
theorem grown_any (w : World) (A : Option Addr) (n c : Nat) (ls : List Dg) (hr : RS w A n ls) (hnc : n ≤ c) (hn : n ≤ 1000) :
    Calls Try.prog 49 #[.slice A n c] w fun e w' => e = .returned (.pointer (some ⟨w.heap.size + 1, 0, none⟩)) ∧ St F w.heap.size (w.heap.size + 1) ls w w' := by
  have hAd := fun (u : World) {B g : Nat} (ls : List Dg) {K : List Nat} (h : TS F B g ls K u) => ts_add HF h
  have HAd := Lib.hid @hAd
  have Hr := Lib.hid hr
  clear hAd hr HF
  go_enter Try.func49, Try.ntmps49
  go_wp2_with fail
  refine (ts_new F w).mono ?_
  rintro e w2 ⟨rfl, hb2, ht2⟩
  have H2 : Hid (St F w.heap.size (w.heap.size + 1) (ls.take 0) w w2) := Lib.hid ⟨ht2, hb2⟩
  clear ht2 hb2
  go_wp2_with fail
  go_loopw [11] (fun iv wr => ∃ k : Nat, k ≤ n ∧ iv = .int .i64 (k : Int) ∧ Hid (St F w.heap.size (w.heap.size + 1) (ls.take k) w wr)) (fun iv _ => n - (intOf iv).toNat)
  case atStart => exact ⟨0, by omega, rfl, H2⟩
  case round =>
    obtain ⟨k, hk, rfl, hq⟩ := hrel
    by_cases hkl : k < n
    · have dl : decide (k < n) = true := decide_eq_true hkl
      have dl' : decide ((k : Int) < (n : Int)) = true := decide_eq_true (by omega)
      obtain ⟨b, o, x, hA, hx, hx32, hrx⟩ := (Hr.out.below hq.out.2).at_ (i := k) hkl
      subst hA
      have hix := info_of x hx32
      have hix' := info_of' x hx32
      have Hx := Lib.hid hx
      have Hq := hq
      have kn : (k : Int) < (n : Int) := by omega
      clear hx hq
      go_wp2_with (first
        | ((with_reducible show wpList _ _ _ (⟨_, Op.load 26 (.tmp 14), _, _, _, _⟩ :: _) _ _); refine wpList_load_mid rfl _ _ rfl b (o + k * 32) rfl (x.map B8) _ hrx Try.underlying26 rfl hix ?_; simp only [Act.put, List.setIfInBounds_toArray, List.set_cons_zero, List.set_cons_succ])
        | ((with_reducible show wpList _ _ _ (⟨_, Op.store 26 (.tmp 5) _, _, _, _, _⟩ :: _) _ _); refine wpList_store_row rfl _ _ _ rfl wr.heap.size 0 (x.map B8).toArray rfl rfl (sz_there hx32 (there_blk (heap_alloc_at _ _ _ rfl) (by decide))) hix' (b8_all x) ?_; intro w3 hg5 hs5 ht5 hth5; rw [List.toList_toArray] at ht5; have H3 := Lib.hid (And.intro (Hq.out.store ((Below.refl _ _).alloc (Nat.le_refl _) _) hg5 (Nat.le_refl _) (by simp)) ht5); clear hg5 hs5 ht5 hth5; have hr3 := H3.out.2; skip)
        | ((with_reducible show wpList _ _ _ (⟨_, Op.load 26 (.tmp 5), _, _, _, _⟩ :: _) _ _); refine wpList_load_mid rfl _ _ rfl wr.heap.size 0 rfl (x.map B8) _ hr3 Try.underlying26 rfl hix ?_; simp only [Act.put, List.setIfInBounds_toArray, List.set_cons_zero, List.set_cons_succ]))
      have hAd := HAd.out w3 (ls.take k) H3.out.1.1 (by rw [List.length_take]; omega) x hx32
      rw [List.length_take, Nat.min_eq_left (by have := Hr.out.len; omega), ← take_snoc Hx.out] at hAd
      unfold SumV at hAd
      have HAd1 := Lib.hid hAd
      clear hAd hr3
      refine HAd1.out.mono ?_
      rintro e w4 ⟨rfl, ht4, hb4, -⟩
      have H4 : Hid (St F w.heap.size (w.heap.size + 1) (ls.take (k + 1)) w w4) := Lib.hid ⟨ht4, H3.out.1.2.trans hb4⟩
      clear ht4 hb4 hrx HAd1
      go_wp2_with fail
      go_roundw
      case rel => exact ⟨k + 1, by omega, by go_num, H4⟩
      case measure => simp [intOf]; omega
    · have dl : decide (k < n) = false := decide_eq_false hkl
      have dl' : decide ((k : Int) < (n : Int)) = false := decide_eq_false (by omega)
      have H4 : Hid (St F w.heap.size (w.heap.size + 1) ls w wr) := by
        have h := hq
        rw [List.take_of_length_le (by have := Hr.out.len; omega)] at h
        exact h
      go_wp2_with fail
      go_ret
      exact ⟨rfl, H4.out⟩
end
end Go.Proofs.Ytkcmacglomdfcaa
