/-
  THE WALKS of the document's Root, of Sums, and of alive in cachetlaw09.
-/
import Derived.Test.YtkcmacglomdfcaaLfD
import Derived.Test.YtkcmacglomdfcaaLfB2
import Derived.Outline
namespace Go.Proofs.Ytkcmacglomdfcaa
open Go.RowKit

theorem below_res {w w' w8 : World} {cs : Array Value} {t : TypeId} (h : w'.heap[w.heap.size]? = some (.cells cs t (0, 0))) (hb : Below w.heap.size w w') (hg : w'.grownBy w8 (some w.heap.size)) : Below w.heap.size w w8 :=
  hb.grown hg (Nat.le_of_lt (Array.getElem?_eq_some_iff.1 h).1) (by intro k hk; cases hk; exact Nat.le_refl _)
/-- In the document's Root: the row, and the result's block. -/
structure RefR (w : World) (A : Option Addr) (n : Nat) (ls : List (List UInt8)) (u : World) : Prop where
  below : Below w.heap.size w u
  res : u.heap[w.heap.size]? = some (.cells (List.replicate 32 (.int .u8 0)).toArray 26 (0, 0))
  row : RS u A n ls
theorem RefR.stable {w u u' : World} {A : Option Addr} {n : Nat} {ls : List (List UInt8)} (h : RefR w A n ls u) (hb : Below u.heap.size u u') : RefR w A n ls u' :=
  ⟨h.below.trans (hb.mono h.below.size), heap_below h.res hb, h.row.below hb⟩
section
variable {F : List UInt8 → List UInt8} (HF : Dig F)
include HF
theorem refroot_zero (w : World) (A : Option Addr) (c : Nat) : Calls Try.prog 39 #[.slice A 0 c] w fun e w' => e = .returned (SumV (rootF F [])) ∧ Below w.heap.size w w' := by
  have hD := HF.len []
  have hS := fun w => HF.ref w none 0 0 [] (RB.nil _ _) (by omega)
  rw [rootF_nil]
  generalize F [] = D at hS hD ⊢
  go_enter Try.func39, Try.ntmps39
  go_wp2_with fail
  refine (hS _).mono ?_
  rintro e w1 ⟨rfl, hb⟩
  have hres := res1 hb
  have hb1 := bel1 hb
  have hth := there32 hres D hD rfl
  have hi := info_of' D hD
  have hi2 := info_of D hD
  have HB := Lib.hid (And.intro hres hb1)
  clear hb hb1 hS hres hD
  go_wp2_with ((with_reducible show wpList _ _ _ (⟨_, Op.store 26 _ _, _, _, _, _⟩ :: _) _ _); refine wpList_store_row rfl _ _ _ rfl w.heap.size 0 (D.map B8).toArray rfl rfl hth hi (b8_all D) ?_; intro w8 hg8 hs8 ht8 hth8)
  refine bodyPost_ret (v := SumV D) ?_ rfl ⟨rfl, below_res HB.out.1 HB.out.2 hg8⟩
  exact results_cell (s := 2) rfl _ _ _ w.heap.size 0 rfl (D.map B8) _ (by simpa using ht8) Try.underlying26 rfl hi2
set_option maxRecDepth 100000 in
set_option maxHeartbeats 2000000 in
theorem refroot_any : ∀ (f n : Nat), n ≤ f → ∀ (w : World) (A : Option Addr) (c : Nat) (ls : List (List UInt8)), RS w A n ls → n ≤ c → c ≤ maxLen → n ≤ 1048576 →
    Calls Try.prog 39 #[.slice A n c] w fun e w' => e = .returned (SumV (rootF F ls)) ∧ Below w.heap.size w w' := by
  intro f
  induction f with
  | zero =>
    intro n hf w A c ls hr hc hm hn
    have hls : ls = [] := List.eq_nil_of_length_eq_zero (by have := hr.len; omega)
    subst hls
    obtain rfl : n = 0 := by have := hr.len; simpa using this.symm
    exact refroot_zero HF w A c
  | succ f ih =>
    intro n hf w A c ls hr hc hm hn
    have hrl : (rootF F ls).length = 32 := rootF_len HF.len _ ls rfl hr.2.1
    have hlen := hr.len
    have hm' := hm
    unfold maxLen at hm
    by_cases h0 : n = 0
    · have hls : ls = [] := List.eq_nil_of_length_eq_zero (by have := hr.len; omega)
      subst hls
      obtain rfl : n = 0 := by have := hr.len; simpa using this.symm
      exact refroot_zero HF w A c
    · by_cases h1 : n = 1
      · subst h1
        obtain ⟨b, o, x, rfl, hx, hx32, hrx⟩ := hr.at_ (i := 0) (by omega)
        have hls : ls = [x] := by
          match ls, hlen, hx with
          | [y], _, hx => simp at hx; rw [hx]
        subst hls
        rw [rootF_one]
        have hi := info_of x hx32
        have hi' := info_of' x hx32
        have HX : Hid (∀ z : Array Value, (w.alloc (.cells z 26)).rangeAt b o (x.map B8)) := Lib.hid (fun z => World.rangeAt_alloc (by simpa using hrx) _)
        clear hr ih hrl hlen hm' hrx hx h0
        go_enter Try.func39, Try.ntmps39
        go_wp2_with (first
          | ((with_reducible show wpList _ _ _ (⟨_, Op.load 26 (.tmp 12), _, _, _, _⟩ :: _) _ _); refine wpList_load_mid rfl _ _ rfl b o rfl (x.map B8) _ (HX.out _) Try.underlying26 rfl hi ?_)
          | ((with_reducible show wpList _ _ _ (⟨_, Op.store 26 _ _, _, _, _, _⟩ :: _) _ _); refine wpList_store_row rfl _ _ _ rfl w.heap.size 0 (x.map B8).toArray rfl rfl (there_new' _ _ _ (by simp [hx32])) hi' (b8_all x) ?_; intro w8 hg8 hs8 ht8 hth8))
        refine bodyPost_ret (v := SumV x) ?_ rfl ⟨rfl, ?_⟩
        · exact results_cell (s := 2) rfl _ _ _ w.heap.size 0 rfl (x.map B8) _ (by simpa using ht8) Try.underlying26 rfl hi
        · exact ((Below.refl _ _).alloc (Nat.le_refl _) _).grown hg8 (by simp) (by intro k hk; cases hk; exact Nat.le_refl _)
      · have h2 : 2 ≤ ls.length := by omega
        have hk1 := cutN_lt h2
        have hk2 := cutN_pos h2
        obtain ⟨k, hk⟩ : ∃ k, k = cutN ls.length := ⟨_, rfl⟩
        have hcut : cutN n = k := by rw [hk, hlen]
        rw [← hk] at hk1 hk2
        obtain ⟨l1, hl1⟩ : ∃ l1, l1 = rootF F (ls.take k) := ⟨_, rfl⟩
        obtain ⟨l2, hl2⟩ : ∃ l2, l2 = rootF F (ls.drop k) := ⟨_, rfl⟩
        have hl1l : l1.length = 32 := by rw [hl1]; exact rootF_len HF.len _ _ rfl (fun x hx => hr.2.1 x (List.mem_of_mem_take hx))
        have hl2l : l2.length = 32 := by rw [hl2]; exact rootF_len HF.len _ _ rfl (fun x hx => hr.2.1 x (List.mem_of_mem_drop hx))
        have hD : rootF F ls = nodeF F l1 l2 := by rw [rootF_two h2, hl1, hl2, hk]
        have hnode := fun w => refnode_any HF w l1 l2 hl1l hl2l
        rw [hD] at hrl ⊢
        generalize nodeF F l1 l2 = D at hrl hnode ⊢
        obtain ⟨b, o, hA, -⟩ := hr.2.2 (by omega)
        subst hA
        have Hr := Lib.hid hr
        have Hnode := Lib.hid hnode
        have HI := Lib.hid ih
        have Hl1 := Lib.hid hl1
        have Hl2 := Lib.hid hl2
        have hkn : k < n := by omega
        have hkc : k ≤ c := by omega
        have hc63 : c ≤ 9223372036854775807 := hm
        have hcutc := fun w => refcut_any w (n : Int) (by omega) (by omega)
        rw [Int.toNat_natCast, hcut] at hcutc
        have Hcut := Lib.hid hcutc
        clear hr hnode ih hl1 hl2 hD hcut hk hlen hm hk1 h2 hcutc
        have h0' : ((n : Int) == 0) = false := by simp; omega
        have h1' : ((n : Int) == 1) = false := by simp; omega
        go_enter Try.func39, Try.ntmps39
        go_wp2_with (go_at_call 37; refine (Hcut.out _).mono ?_; rintro e w' ⟨rfl, rfl⟩)
        have hSz : ∀ z : Array Value, z = (List.replicate 32 (.int .u8 0)).toArray → RefR w (some ⟨b, o, none⟩) n ls (w.alloc (.cells z 26)).drew := fun z hz => by
          subst hz
          exact RefR.stable (u := w.alloc (.cells (List.replicate 32 (.int .u8 0)).toArray 26)) ⟨(Below.refl _ _).alloc (Nat.le_refl _) _, heap_alloc_new _ _, Hr.out.below ((Below.refl _ _).alloc (Nat.le_refl _) _)⟩ (below_drewN (Below.refl _ _) 1)
        obtain ⟨S, hS⟩ : ∃ S : World → Prop, S = fun u => RefR w (some ⟨b, o, none⟩) n ls u := ⟨_, rfl⟩
        have Sx : ∀ u, S u → RefR w (some ⟨b, o, none⟩) n ls u := by rw [hS]; exact fun _ h => h
        have Sb : ∀ u u', S u → Below u.heap.size u u' → S u' := by rw [hS]; exact fun u u' h hb => h.stable hb
        have Sz : ∀ z : Array Value, z = (List.replicate 32 (.int .u8 0)).toArray → S (w.alloc (.cells z 26)).drew := by rw [hS]; exact hSz
        have hne : Nonempty (InC S) := ⟨⟨_, Sz _ rfl⟩⟩
        have HC1 : Hid (∀ y : InC S, Calls Try.prog 39 #[.slice (some ⟨b, o, none⟩) k c] y.w fun e w' => e = .returned (.agg (l1.map B8).toArray) ∧ ∃ z : InC S, w' = z.w) := Lib.hid fun y => by
          have h := HI.out k (by omega) y.w (some ⟨b, o, none⟩) c (ls.take k) ((Sx _ y.ok).row.take (by omega)) (by omega) hm' (by omega)
          rw [← Hl1.out] at h
          exact h.mono fun e w' ⟨h1, h2⟩ => ⟨h1, ⟨w', Sb _ _ y.ok h2⟩, rfl⟩
        have HC2 : Hid (∀ y : InC S, Calls Try.prog 39 #[.slice (some ⟨b, o + k * 32, none⟩) (n - k) (c - k)] y.w fun e w' => e = .returned (.agg (l2.map B8).toArray) ∧ ∃ z : InC S, w' = z.w) := Lib.hid fun y => by
          have hcut := (Sx _ y.ok).row.cut (k := k) (cap := c) (by omega) hc
          rw [if_neg (by omega), Option.map_some, Addr.add_mid] at hcut
          have h := HI.out (n - k) (by omega) y.w (some ⟨b, o + k * 32, none⟩) (c - k) (ls.drop k) hcut (by omega) (by omega) (by omega)
          rw [← Hl2.out] at h
          exact h.mono fun e w' ⟨h1, h2⟩ => ⟨h1, ⟨w', Sb _ _ y.ok h2⟩, rfl⟩
        have HC3 : Hid (∀ y : InC S, Calls Try.prog 34 #[.agg (l1.map B8).toArray, .agg (l2.map B8).toArray] y.w fun e w' => e = .returned (.agg (D.map B8).toArray) ∧ ∃ z : InC S, w' = z.w) := Lib.hid fun y =>
          (Hnode.out y.w).mono fun e w' ⟨h1, h2⟩ => ⟨h1, ⟨w', Sb _ _ y.ok h2⟩, rfl⟩
        have HSx := Lib.hid Sx
        have HSz := Lib.hid Sz
        have hi := info_of D hrl
        have hi' := info_of' D hrl
        clear hS Sx Sb Sz hSz hm'
        refine wp_region_quietTailIn 9 S (by kernel_rfl) (by kernel_rfl) (HSz.out _ rfl) ?_
        simp only [List.take_succ_cons, List.take_zero, List.drop_succ_cons, List.drop_zero]
        repeat (go_big_quiet_step (first
          | (go_at_call 39; with_reducible exact HC1.out _)
          | (go_at_call 39; with_reducible exact HC2.out _)
          | (go_at_call 34; with_reducible exact HC3.out _)))
        refine wpQuiet_nil ?_
        rintro _ ⟨y1, rfl⟩
        have hY := HSx.out _ y1.ok
        have hth := there32 hY.res D hrl rfl
        have HY := Lib.hid hY
        clear hne hY
        go_wp2_with ((with_reducible show wpList _ _ _ (⟨_, Op.store 26 _ _, _, _, _, _⟩ :: _) _ _); refine wpList_store_row rfl _ _ _ rfl w.heap.size 0 (D.map B8).toArray rfl rfl hth hi' (b8_all D) ?_; intro w8 hg8 hs8 ht8 hth8)
        refine bodyPost_ret (v := SumV D) ?_ rfl ⟨rfl, below_res HY.out.res HY.out.below hg8⟩
        exact results_cell (s := 2) rfl _ _ _ w.heap.size 0 rfl (D.map B8) _ (by simpa using ht8) Try.underlying26 rfl hi
end
theorem run_neq_sum (w : World) (xs ys : List UInt8) (hx : xs.length = 32) (hy : ys.length = 32) : (binOp .neq 26 (.agg (xs.map B8).toArray) (.agg (ys.map B8).toArray)).run Try.prog w = .ok (.bool (xs != ys)) w := by
  have h : (Op.equalIn 10000 26 (.agg (xs.map B8).toArray) (.agg (ys.map B8).toArray)).run Try.prog w = .ok (xs == ys) w :=
    run_equalIn_bytes (P := Try.prog) w 9998 26 5 32 Try.underlying26 Try.underlying5 (fun w => by kernel_rfl) xs ys hx hy
  rw [run_neq_struct, h]
  rfl
set_option maxHeartbeats 1000000 in
theorem sums_any (w : World) (A B : Option Addr) (n m c d : Nat) (a b : List (List UInt8)) (ha : RS w A n a) (hb : RS w B m b) (hn : n ≤ maxLen) :
    Calls Try.prog 40 #[.slice A n c, .slice B m d] w fun e w' => e = .returned (.bool (a == b)) ∧ Below w.heap.size w w' := by
  unfold maxLen at hn
  have hla := ha.len
  have hlb := hb.len
  by_cases hnm : n = m
  · subst hnm
    have Hla := Lib.hid hla
    have Hlb := Lib.hid hlb
    obtain ⟨r, hr⟩ : ∃ r, r = (a == b) := ⟨_, rfl⟩
    rw [← hr]
    have Hr := Lib.hid hr
    have hnn : ((n : Int) != (n : Int)) = false := by simp
    clear hla hlb hr
    go_enter Try.func40, Try.ntmps40
    go_wp2_with fail
    go_loopw [13] (fun i wr => ∃ k : Nat, k ≤ n ∧ i = .int .i64 k ∧ Hid (a.take k = b.take k) ∧ Below w.heap.size w wr) (fun i _ => n - (intOf i).toNat)
    case atStart => exact ⟨0, Nat.zero_le _, rfl, Lib.hid rfl, Below.refl _ _⟩
    case round =>
      obtain ⟨k, hk, rfl, hq, hbw⟩ := hrel
      by_cases hkl : k < n
      · obtain ⟨b1, o1, x, rfl, hx, hx32, hrx⟩ := (ha.below hbw).at_ hkl
        obtain ⟨b2, o2, y, rfl, hy, hy32, hry⟩ := (hb.below hbw).at_ hkl
        have hi1 := info_of x hx32
        have hi2 := info_of y hy32
        have hne := fun w => run_neq_sum w x y hx32 hy32
        obtain ⟨t, ht⟩ : ∃ t, t = (x != y) := ⟨_, rfl⟩
        rw [← ht] at hne
        have Hx := Lib.hid hx
        have Hy := Lib.hid hy
        have Ht := Lib.hid ht
        obtain ⟨S, hS⟩ : ∃ S : World → Prop, S = fun u => Below wr.heap.size wr u := ⟨_, rfl⟩
        have Sx : ∀ u, S u → Below wr.heap.size wr u := by rw [hS]; exact fun _ h => h
        have Sd : S wr.drew := by rw [hS]; exact below_drewN (Below.refl _ _) 1
        have hnon : Nonempty (InC S) := ⟨⟨_, Sd⟩⟩
        have FA : ∀ z : InC S, z.w.rangeAt b1 (o1 + k * 32) (x.map B8) := fun z => rangeAt_below' hrx (Sx _ z.ok)
        have FB : ∀ z : InC S, z.w.rangeAt b2 (o2 + k * 32) (y.map B8) := fun z => rangeAt_below' hry (Sx _ z.ok)
        have HSx := Lib.hid Sx
        have HSd := Lib.hid Sd
        have dk : decide ((k : Int) < (n : Int)) = true := decide_eq_true (by omega)
        clear hS Sx Sd hx hy ht
        go_wp2_with fail
        refine wp_region_quietIn S (by kernel_rfl) (by kernel_rfl) HSd.out ?_
        repeat (first
          | ((with_reducible show wpQuiet _ _ _ _ (⟨_, Op.load 26 (.tmp 18), _, _, _, _⟩ :: _) _); refine wpQuiet_load_mid rfl _ _ rfl b1 (o1 + k * 32) rfl (x.map B8) _ FA Try.underlying26 rfl hi1 ?_; simp only [Act.put, List.setIfInBounds_toArray, List.set_cons_zero, List.set_cons_succ])
          | ((with_reducible show wpQuiet _ _ _ _ (⟨_, Op.load 26 (.tmp 22), _, _, _, _⟩ :: _) _); refine wpQuiet_load_mid rfl _ _ rfl b2 (o2 + k * 32) rfl (y.map B8) _ FB Try.underlying26 rfl hi2 ?_; simp only [Act.put, List.setIfInBounds_toArray, List.set_cons_zero, List.set_cons_succ])
          | go_big_quiet_step (fail))
        refine wpQuiet_nil ?_
        rintro _ ⟨z, rfl⟩
        have hbz := hbw.trans ((HSx.out _ z.ok).mono hbw.size)
        clear FA FB hnon hne hrx hry
        cases t with
        | true =>
          have hrf : r = false := by
            have h := Ht.out
            rw [Hr.out]
            rw [beq_eq_false_iff_ne]
            intro e
            have := Hx.out
            rw [e, Hy.out] at this
            cases this
            simp at h
          subst hrf
          go_wp2_with fail
          go_ret
          exact ⟨rfl, hbz⟩
        | false =>
          have hxy : x = y := by
            have h := Ht.out
            simpa using h
          have hq2 : Hid (a.take (k + 1) = b.take (k + 1)) := Lib.hid (by rw [take_snoc Hx.out, take_snoc Hy.out, hq.out, hxy])
          clear hxy
          go_wp2_with fail
          go_roundw
          case rel => exact ⟨k + 1, hkl, by go_num, hq2, hbz⟩
          case measure => simp [intOf]; omega
      · obtain rfl : k = n := by omega
        have hrt : r = true := by
          have h := hq.out
          rw [List.take_of_length_le (by rw [Hla.out]; exact Nat.le_refl _), List.take_of_length_le (by rw [Hlb.out]; exact Nat.le_refl _)] at h
          rw [Hr.out, h]
          simp
        subst hrt
        clear hq
        go_wp2_with fail
        go_ret
        exact ⟨rfl, hbw⟩
  · have hab : (a == b) = false := by
      rw [beq_eq_false_iff_ne]
      intro e
      rw [e, hlb] at hla
      exact hnm hla.symm
    rw [hab]
    have hne : ((n : Int) != (m : Int)) = true := by simp; omega
    clear hab hla hlb hnm
    go_enter Try.func40, Try.ntmps40
    go_wp2_with fail
    go_ret
    exact ⟨rfl, Below.refl _ _⟩
section
variable {F : List UInt8 → List UInt8} (HF : Dig F)
include HF
set_option maxHeartbeats 1000000 in
theorem alive9_any (w : World) : Calls Try.prog 30 #[] w fun e w' => e = .returned (.bool true) ∧ Below w.heap.size w w' := by
  have h1 := fun w => leaf_any HF w none 0 0 [] (RB.nil _ _) (Nat.le_refl _) (by unfold maxLen; omega) (by omega)
  have h2 := fun w => cut_any w 5 (by omega) (by omega)
  have h3 := fun w => root_any HF w none 0 0 [] (RS.nil _ _) (by omega)
  have h4 := fun w => HF.ref w none 0 0 [] (RB.nil _ _) (by omega)
  have hex := HF.ex
  have hl0 := HF.len [0]
  have hl1 := HF.len []
  rw [rootF_nil] at h3
  rw [show ((cutN (5 : Int).toNat : Nat) : Int) = 4 by decide] at h2
  generalize F [0] = D0 at h1 hex hl0
  generalize F [] = D1 at h3 h4 hl1
  unfold SumV at h1 h3
  have he := fun w => run_eql_sum w D1 D1 hl1 hl1
  rw [beq_self_eq_true] at he
  have hi := info_of' D0 hl0
  have H1 := Lib.hid h1
  have H2 := Lib.hid h2
  have H3 := Lib.hid h3
  have H4 := Lib.hid h4
  have Hex := Lib.hid hex
  have Hl0 := Lib.hid hl0
  clear h1 h2 h3 h4 hex hl0 hl1
  go_enter Try.func30, Try.ntmps30
  go_wp2_with fail
  refine (H1.out _).mono ?_
  rintro e w1 ⟨rfl, hb1⟩
  go_wp2_with (first
    | ((with_reducible show wpList _ _ _ (⟨_, Op.store 26 _ _, _, _, _, _⟩ :: _) _ _); refine wpList_store_row rfl _ _ _ rfl w1.heap.size 0 (D0.map B8).toArray rfl rfl (there_new' _ _ _ (by simp [Hl0.out])) hi (b8_all D0) ?_; intro w8 hg8 hs8 ht8 hth8; rw [List.toList_toArray] at ht8; have c0 := b8_at 110 ht8 (i := 0) (by rw [Hl0.out]; decide) Hex.out.1 rfl; have c1 := b8_at 52 ht8 (i := 1) (by rw [Hl0.out]; decide) Hex.out.2 rfl; have hb8 := Lib.hid ((hb1.alloc hb1.size _).grown hg8 (by have := hb1.size; simp; omega) (by intro k hk; cases hk; exact hb1.size)); clear ht8 hth8 hg8 hs8)
    | (go_at_call 36; refine (H2.out _).mono ?_; rintro e w' ⟨rfl, rfl⟩))
  refine (H3.out _).mono ?_
  rintro e w3 ⟨rfl, hb3⟩
  go_wp2_with fail
  refine (H4.out _).mono ?_
  rintro e w4 ⟨rfl, hb4⟩
  clear c0 c1
  go_wp2_with fail
  go_ret
  have h38 := hb8.out.trans (hb3.mono hb8.out.size)
  exact ⟨rfl, h38.trans (hb4.mono h38.size)⟩
end
end Go.Proofs.Ytkcmacglomdfcaa
