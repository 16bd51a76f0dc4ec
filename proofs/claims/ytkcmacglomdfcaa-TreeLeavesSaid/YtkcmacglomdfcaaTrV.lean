/-
  THE LAW TreeLeaves.
-/
import Derived.Test.YtkcmacglomdfcaaTrU
namespace Go.Proofs.Ytkcmacglomdfcaa
open Go.RowKit

/-- The block of a slice. -/
def blk : Option Addr → List Nat
  | some a => [a.block]
  | none => []
section
variable {F : Dg → Dg} {B g : Nat} {ls : List Dg} {K : List Nat} {u u' w : World}
theorem TS.own (h : TS F B g ls K u) (hb : Below u.heap.size u u') {e : TypeId} {s n c : Nat} {A : Option Addr} {xs : List Value} (ho : u'.ownsRow u.heap.size e s (.slice A n c) n xs) : TS F B g ls (blk A ++ K) u' := by
  cases A with
  | none => exact h.stable hb
  | some a =>
    obtain ⟨h1, h2⟩ := ho.lt a.block rfl
    exact h.fresh hb h1 h2
end
/-- A row that may be written. -/
def Wr (A : Option Addr) (n : Nat) (u : World) : Prop := 0 < n → ∃ b, A = some ⟨b, 0, none⟩ ∧ u.there b 0 (n * 32)
theorem Wr.of_own {u : World} {B : Nat} {e : TypeId} {A : Option Addr} {n c : Nat} {xs : List Value} (h : u.ownsRow B e 32 (.slice A n c) n xs) : Wr A n u := fun h0 => by
  rcases h.2 with ⟨e1, h2⟩ | ⟨g, cap, cur, e1, hB, hh, hnc, hcm, hcs, _⟩
  · cases e1; omega
  · cases e1
    exact ⟨g, rfl, there_blk hh (by rw [hcs]; exact Nat.mul_le_mul_right _ hnc)⟩
theorem Wr.stable {u u' : World} {A : Option Addr} {n : Nat} (h : Wr A n u) (hb : Below u.heap.size u u') : Wr A n u' := fun h0 => by
  obtain ⟨b, h1, h2⟩ := h h0
  exact ⟨b, h1, there_same h2 (hb.block _ (there_lt h2 (by omega)))⟩
theorem Wr.set {u : World} {A : Option Addr} {n : Nat} (h : Wr A n u) (b o : Nat) (vs : List Value) : Wr A n (u.setCells b o vs) := fun h0 => by
  obtain ⟨b', h1, h2⟩ := h h0
  exact ⟨b', h1, World.there_setCells h2 _ _ _⟩
theorem there_mid {u : World} {b n k : Nat} (h : u.there b 0 (n * 32)) (hk : k < n) : u.there b (k * 32) 32 := fun j hj => by
  have := h (k * 32 + j) (by omega)
  rwa [Nat.zero_add] at this
theorem RS.grownBy {u u' : World} {A : Option Addr} {n : Nat} {ls : List Dg} (h : RS u A n ls) {b : Nat} (hg : u.grownBy u' (some b)) (hne : b ∉ blk A) : RS u' A n ls :=
  ⟨h.1, h.2.1, fun h0 => by
    obtain ⟨b', o, hA, hx⟩ := h.2.2 h0
    subst hA
    exact ⟨b', o, rfl, fun i x hi => range_grown (hx i x hi) hg (fun e => hne (by cases e; simp [blk]))⟩⟩
theorem own_far {u : World} {B : Nat} {e : TypeId} {s n c : Nat} {A : Option Addr} {xs : List Value} (h : u.ownsRow B e s (.slice A n c) n xs) : ∀ b ∈ blk A, B ≤ b ∧ b < u.heap.size := fun b hb => by
  cases A with
  | none => simp [blk] at hb
  | some a =>
    simp [blk] at hb
    subst hb
    exact h.lt a.block rfl
theorem rs_own {u : World} {B : Nat} {A : Option Addr} {n c : Nat} {ls : List Dg} (h : u.ownsRow B 26 32 (.slice A n c) n (ls.flatten.map B8)) (h32 : ∀ x ∈ ls, x.length = 32) : n ≤ maxLen ∧ (ls.length = n → RS u A n ls) := ⟨(by
  obtain ⟨A0, c0, e0, h1, h2, -⟩ := own_formK h
  cases e0
  omega), fun hl => by
  obtain ⟨A', n', c', e', -, -, hr⟩ := SS.of_own h h32 hl
  cases e'
  exact hr⟩
theorem or64 (i : Int) : bits .or .i64 i 64 < 0 ∨ 64 ≤ bits .or .i64 i 64 := by
  unfold bits
  simp only [BitVec.toNat_or]
  have h1 : 64 ≤ (BitVec.ofInt IntKind.i64.bits i).toNat ||| (BitVec.ofInt IntKind.i64.bits 64).toNat := by
    have e : (BitVec.ofInt IntKind.i64.bits 64).toNat = 64 := by decide
    rw [e]
    exact Nat.right_le_or
  have h2 : (BitVec.ofInt IntKind.i64.bits i).toNat ||| (BitVec.ofInt IntKind.i64.bits 64).toNat < 2 ^ 64 := Nat.or_lt_two_pow (BitVec.isLt _) (BitVec.isLt _)
  generalize (BitVec.ofInt IntKind.i64.bits i).toNat ||| (BitVec.ofInt IntKind.i64.bits 64).toNat = r at h1 h2
  unfold IntKind.wrap
  have e1 : (2 ^ IntKind.i64.bits : Int) = 18446744073709551616 := by decide
  have e2 : (2 ^ (IntKind.i64.bits - 1) : Int) = 9223372036854775808 := by decide
  have e3 : IntKind.i64.signed = true := rfl
  rw [e1, e2, e3]
  simp only [Bool.true_and]
  by_cases h : (r : Int) % 18446744073709551616 ≥ 9223372036854775808
  · rw [if_pos (by simpa using h)]
    omega
  · rw [if_neg (by simpa using h)]
    omega
theorem zero_neq (w : World) : (binOp .neq 26 (.agg (zero32.map B8).toArray) (.agg #[.int .u8 0, .int .u8 0, .int .u8 0, .int .u8 0, .int .u8 0, .int .u8 0, .int .u8 0, .int .u8 0, .int .u8 0, .int .u8 0, .int .u8 0, .int .u8 0, .int .u8 0, .int .u8 0, .int .u8 0, .int .u8 0, .int .u8 0, .int .u8 0, .int .u8 0, .int .u8 0, .int .u8 0, .int .u8 0, .int .u8 0, .int .u8 0, .int .u8 0, .int .u8 0, .int .u8 0, .int .u8 0, .int .u8 0, .int .u8 0, .int .u8 0, .int .u8 0])).run Try.prog w = .ok (.bool false) w := by
  have h := run_neq_sum w zero32 zero32 rfl rfl
  rw [bne_self_eq_false] at h
  exact h
def z123 : Dg := [1, 2, 3] ++ List.replicate 29 0
section
variable {F : Dg → Dg} {B g : Nat} {ls : List Dg} {K : List Nat} {u u' w : World}
theorem TS.none (h : TS F B g ls K u) : TS F B g ls [] u := by
  obtain ⟨mb, V, us, n, D, h1, h2, h3, h4, h5⟩ := h
  exact ⟨mb, V, us, n, D, h1, h2, h3, h4, fun c hc => by simp at hc⟩
/-- The tree; a row that is written. -/
structure Zl (F : Dg → Dg) (B g : Nat) (ls : List Dg) (w : World) (A : Option Addr) (n : Nat) (u : World) : Prop where
  ts : TS F B g ls (blk A ++ []) u
  below : Below w.heap.size w u
  wr : Wr A n u
  far : ∀ b ∈ blk A, w.heap.size ≤ b
theorem Zl.stable {A : Option Addr} {n : Nat} (h : Zl F B g ls w A n u) (hb : Below u.heap.size u u') : Zl F B g ls w A n u' := ⟨h.ts.stable hb, h.below.trans (hb.mono h.below.size), h.wr.stable hb, h.far⟩
theorem Zl.set {A : Option Addr} {n : Nat} (h : Zl F B g ls w A n u) {b o : Nat} {vs : List Value} (hb : b ∈ blk A) : Zl F B g ls w A n (u.setCells b o vs) := by
  have hg : u.grownBy (u.setCells b o vs) (some b) := grownBy_setCells u b _ _ u (grownBy_refl u _)
  exact ⟨h.ts.put (by simpa using hb) hg, h.below.grown hg h.below.size (by intro k hk; cases hk; exact h.far b hb), h.wr.set _ _ _, h.far⟩
end
theorem atF_facts (ls : List Dg) (x : Dg) : decide ((0 : Int) ≤ atF ls x) = decide (x ∈ ls) ∧ (if atF ls x < 0 then 0 else atF ls x) = (posF ls x : Int) ∧ max (atF ls x) 0 = (posF ls x : Int) ∧ posF ls x ≤ ls.length ∧ -1 ≤ atF ls x ∧ atF ls x ≤ ls.length := by
  by_cases h : x ∈ ls
  · have hl := List.idxOf_lt_length_of_mem h
    rw [atF, if_pos h, posF, if_pos h]
    refine ⟨by rw [decide_eq_true h]; exact decide_eq_true (by omega), by rw [if_neg (by omega)], by omega, by omega, by omega, by omega⟩
  · rw [atF, if_neg h, posF, if_neg h]
    refine ⟨by rw [decide_eq_false h]; rfl, rfl, rfl, by omega, by omega, by omega⟩
section
variable {F : List UInt8 → List UInt8} (HF : Dig F)
include HF
theorem level_both (w : World) (A : Option Addr) (n c : Nat) (ls : List Dg) (hr : RS w A n ls) (hnc : n ≤ c) (hcm : c ≤ maxLen) (h100 : n ≤ 100) (m : Int) (hm : -1 ≤ m) (hm9 : m ≤ 9) :
    ∃ rows : List Dg, (∀ x ∈ rows, x.length = 32) ∧
      (∀ (u : World) (B g : Nat) (K : List Nat), TS F B g ls K u → Calls Try.prog 53 #[.pointer (some ⟨g, 0, none⟩), .int .i64 m] u (RowPost u rows)) ∧
      (∀ u : World, Below w.heap.size w u → Calls Try.prog 54 #[.slice A n c, .int .i64 m] u (RowPost u rows)) := by
  have hlen := hr.len
  by_cases h0 : m < 0
  · refine ⟨[], fun x hx => by simp at hx, fun u B g K hu => ?_, fun u hu => ?_⟩
    · exact (ts_level_out hu m (.inl h0)).mono fun e w' ⟨h1, h2⟩ => ⟨none, 0, h1, World.ownsRow_nil _ _ _ _, by rw [← h2]; exact Below.refl _ _⟩
    · exact (rlevel_out u A n c m h0).mono fun e w' ⟨h1, h2⟩ => ⟨none, 0, h1, World.ownsRow_nil _ _ _ _, by rw [← h2]; exact Below.refl _ _⟩
  · obtain ⟨k, rfl⟩ : ∃ k : Nat, m = (k : Int) := ⟨m.toNat, by omega⟩
    refine ⟨lev F k ls, fun x hx => ?_, fun u B g K hu => tlevel_any u hu (by omega) k, fun u hu => rlevel_any HF u A n c ls (hr.below hu) hnc hcm (by omega) k (by omega)⟩
    obtain ⟨j, hj, rfl⟩ := List.mem_map.1 hx
    exact rootF_len HF.len _ _ rfl (fun y hy => hr.2.1 y (List.mem_of_mem_drop (List.mem_of_mem_take hy)))
end
set_option maxRecDepth 100000 in
set_option maxHeartbeats 16000000 in
theorem treeLeaves_law (w : World) (v : Value) (ls : List Dg) (hv : SS w v ls) (x : Dg) (hx : x.length = 32) (i : Int) (_ : (Lit.int .i64 i).wf = true) :
    Calls Try.prog 12 #[v, .agg (x.map B8).toArray, .int .i64 i] w fun e w' => e = .returned (.bool true) ∧ Below w.heap.size w w' := by
  obtain ⟨A, n, c, rfl, hnc, hcm, hr⟩ := hv
  have hA := alive11_any dig
  have HA := Lib.hid hA
  have hix := info_of x hx
  have HWe : Hid (∀ W, W = w.alloc (.cells (x.map B8).toArray 26) → Below w.heap.size w W ∧ W.rangeAt w.heap.size 0 (x.map B8)) := Lib.hid fun W hW => by rw [hW]; exact ⟨(Below.refl _ _).alloc (Nat.le_refl _) _, rangeAt_at _ _ _ _ _ rfl⟩
  by_cases hbig : 100 < n
  · have db : decide ((100 : Int) < (n : Int)) = true := decide_eq_true (by omega)
    have db' : decide (100 < n) = true := decide_eq_true hbig
    clear hA hr
    go_enter Try.func12, Try.ntmps12
    go_wp2_with (go_at_call 42; refine (HA.out _).mono ?_; rintro e w1 ⟨rfl, hb1⟩)
    go_ret
    exact ⟨rfl, (HWe.out _ rfl).1.trans (hb1.mono (HWe.out _ rfl).1.size)⟩
  · have db : decide ((100 : Int) < (n : Int)) = false := decide_eq_false (by omega)
    have db' : decide (100 < n) = false := decide_eq_false hbig
    have hG := fun (u : World) (hu : Below w.heap.size w u) => grown_any dig u A n c ls (hr.below hu) hnc (by omega)
    have hRt := fun (u : World) (B g : Nat) (K : List Nat) (h : TS (digest32 K32 H32) B g ls K u) => troot_ok dig u h n (by have := hr.len; omega) (by have := hr.len; omega)
    have hR9 := fun (u : World) (hu : Below w.heap.size w u) => refroot_any dig n n (Nat.le_refl _) u A c ls (hr.below hu) hnc hcm (by omega)
    have hTf := fun (u : World) (B g : Nat) (K : List Nat) (h : TS (digest32 K32 H32) B g ls K u) => tfind_any u h x hx
    have hRf := fun (u : World) (hu : Below w.heap.size w u) => rfind_any u A n c ls (hr.below hu) (by omega) x hx
    have hLev := level_both dig w A n c ls hr hnc hcm (by omega)
    have hat := atF_facts ls x
    rw [List.take_of_length_le (by have := hr.len; omega)] at hRt
    have hrt32 : (rootF (digest32 K32 H32) ls).length = 32 := rootF_len dig.len _ _ rfl hr.2.1
    generalize digest32 K32 H32 = F at hG hRt hR9 hTf hLev hrt32
    obtain ⟨rt, hrt⟩ : ∃ rt, rt = rootF F ls := ⟨_, rfl⟩
    rw [← hrt] at hRt hR9 hrt32
    have hln := hr.len
    obtain ⟨pp, hpp⟩ : ∃ pp, pp = posF ls x := ⟨_, rfl⟩
    obtain ⟨qq, hqq⟩ : ∃ qq, qq = decide (x ∈ ls) := ⟨_, rfl⟩
    obtain ⟨aa, haa⟩ : ∃ aa, aa = atF ls x := ⟨_, rfl⟩
    simp only [← hpp, ← hqq] at hTf
    simp only [← haa] at hRf
    rw [← hpp, ← hqq, ← haa, hln] at hat
    obtain ⟨hat1, hat2, hat3, hat4, hat5, hat6⟩ := hat
    have Hat := Lib.hid (And.intro hat4 (And.intro hat5 hat6))
    unfold SumV at hRt hR9 hTf hRf
    have HG := Lib.hid hG
    have HRt := Lib.hid hRt
    have HR9 := Lib.hid hR9
    have HTf := Lib.hid hTf
    have HRf := Lib.hid hRf
    have HLev := Lib.hid hLev
    have Hr := Lib.hid hr
    have hirt := info_of rt hrt32
    have hirt' := info_of' rt hrt32
    have heql := fun w => run_eql_sum w rt rt hrt32 hrt32
    simp only [beq_self_eq_true] at heql
    have eg2 := enters_of Try.func39 (by kernel_rfl) rfl
    have eg3 := enters_of Try.func53 (by kernel_rfl) rfl
    obtain ⟨v64, hv64⟩ : ∃ v64, v64 = bits .or .i64 i 64 := ⟨_, rfl⟩
    have ho64 := or64 i
    rw [← hv64] at ho64
    have HLo : Hid (∀ u B g, TS F B g ls [] u → Calls Try.prog 53 #[.pointer (some ⟨g, 0, none⟩), .int .i64 v64] u fun e w' => e = .returned (.slice none 0 0) ∧ u = w') := Lib.hid fun u B g hu => ts_level_out hu v64 (ho64.imp id fun h => ⟨v64.toNat, by omega, Nat.lt_of_lt_of_le (by omega : ls.length < 2 ^ 64) (Nat.pow_le_pow_right (by decide) (by omega))⟩)
    have Hv64 := Lib.hid hv64
    clear hA hG hRt hR9 hTf hRf hLev hr hrt hpp hqq haa hln hv64 ho64 hat4 hat5 hat6
    go_enter Try.func12, Try.ntmps12
    go_wp2_with fail
    obtain ⟨W, hW⟩ : ∃ W, W = w.alloc (.cells (x.map B8).toArray 26) := ⟨_, rfl⟩
    have HW := Lib.hid (HWe.out W hW)
    rw [← hW]
    clear hW
    refine (HA.out W).mono ?_
    rintro e w1 ⟨rfl, hb1⟩
    have H1 := Lib.hid (And.intro (HW.out.1.trans (hb1.mono HW.out.1.size)) (rangeAt_below' HW.out.2 hb1))
    clear hb1 HW
    go_wp2_with fail
    refine (HG.out w1 H1.out.1).mono ?_
    rintro e w2 ⟨rfl, ht2⟩
    have H2 : Hid (St F w1.heap.size (w1.heap.size + 1) ls w w2 ∧ w2.rangeAt w.heap.size 0 (x.map B8)) := Lib.hid ⟨⟨ht2.1, H1.out.1.trans (ht2.2.mono H1.out.1.size)⟩, rangeAt_below' H1.out.2 ht2.2⟩
    have hr2 := H2.out.2
    have HRx := HR9
    clear ht2 HG
    go_wp2_with ((with_reducible show wpList _ _ _ (⟨_, Op.load 26 (.tmp 4), _, _, _, _⟩ :: _) _ _); refine wpList_load_mid rfl _ _ rfl w.heap.size 0 rfl (x.map B8) _ hr2 Try.underlying26 rfl hix ?_; simp only [Act.put, List.setIfInBounds_toArray, List.set_cons_zero, List.set_cons_succ])
    refine (HTf.out w2 _ _ _ H2.out.1.1).mono ?_
    rintro e w3 ⟨rfl, hb3⟩
    have H3 := Lib.hid (And.intro (H2.out.1.stable hb3) (rangeAt_below' H2.out.2 hb3))
    have hr3 := H3.out.2
    clear hb3 H2 hr2
    go_wp2_with ((with_reducible show wpList _ _ _ (⟨_, Op.load 26 (.tmp 4), _, _, _, _⟩ :: _) _ _); refine wpList_load_mid rfl _ _ rfl w.heap.size 0 rfl (x.map B8) _ hr3 Try.underlying26 rfl hix ?_; simp only [Act.put, List.setIfInBounds_toArray, List.set_cons_zero, List.set_cons_succ])
    refine (HRf.out w3 H3.out.1.2).mono ?_
    rintro e w5 ⟨rfl, hb5⟩
    have H5 := Lib.hid (And.intro (H3.out.1.stable hb5) (rangeAt_below' H3.out.2 hb5))
    clear hb5 H3 hr3
    go_wp2_with fail
    by_cases hg : 0 ≤ i ∧ i < (n : Int)
    · obtain ⟨k, rfl⟩ : ∃ k : Nat, i = (k : Int) := ⟨i.toNat, by omega⟩
      have hkn : k < n := by omega
      obtain ⟨b, o, d, hA, hd, hd32, hrd⟩ := Hr.out.at_ (i := k) hkn
      have hLf := fun u (hu : TS F w1.heap.size (w1.heap.size + 1) ls [] u) => tleaf_ok u hu (by have := Hr.out.len; omega) k d hd
      unfold SumV at hLf
      have HLf := Lib.hid hLf
      have hid := info_of d hd32
      have hid' := info_of' d hd32
      have hneq := fun u => run_neq_sum u d d hd32 hd32
      simp only [bne_self_eq_false] at hneq
      have Hd := Lib.hid hrd
      clear hLf hd hrd
      refine (HLf.out w5 H5.out.1.1).mono ?_
      rintro e w6 ⟨rfl, hb6⟩
      have H6 := Lib.hid (H5.out.1.stable hb6)
      clear hb6 H5
      have d0 : decide ((k : Int) < 0) = false := decide_eq_false (by omega)
      have d1 : decide (n ≤ k) = false := decide_eq_false (by omega)
      have d1' : decide ((n : Int) ≤ (k : Int)) = false := decide_eq_false (by omega)
      subst hA
      go_wp2_with ((with_reducible show wpList _ _ _ (⟨_, Op.store 26 (.tmp 11) _, _, _, _, _⟩ :: _) _ _); refine wpList_store_row rfl _ _ _ rfl w6.heap.size 0 (d.map B8).toArray rfl rfl (sz_there hd32 (there_blk (heap_alloc_at _ _ _ rfl) (by decide))) hid' (b8_all d) ?_; intro w7 hg5 hs5 ht5 hth5; rw [List.toList_toArray] at ht5; have H7 := Lib.hid (And.intro (H6.out.store ((Below.refl _ _).alloc (Nat.le_refl _) _) hg5 (Nat.le_refl _) (by simp)) ht5); clear hg5 hs5 ht5 hth5; have hr7 := H7.out.2; skip)
      have hsd : St F w1.heap.size (w1.heap.size + 1) ls w w7.drew ∧ w7.drew.rangeAt w6.heap.size 0 (d.map B8) := ⟨H7.out.1.stable (below_drewN (Below.refl _ _) 1), rangeAt_below' H7.out.2 (below_drewN (Below.refl _ _) 1)⟩
      have HS := Lib.hid hsd.1
      refine wp_region_noPanic ?_
      refine wp_region_moves 10 (fun u => St F w1.heap.size (w1.heap.size + 1) ls w u ∧ u.rangeAt w6.heap.size 0 (d.map B8)) (fun u u' => u = u') (fun u => rfl) (fun h k => h.trans k) (by kernel_rfl) (by kernel_rfl) hsd (fun _ _ _ _ _ h => h) ?_
      simp only [List.take_succ_cons, List.take_zero, List.drop_succ_cons, List.drop_zero]
      refine wpMH_moveW (fun u => rfl) (by rfl) _ rfl _ rfl ?_
      simp only [Act.put, List.setIfInBounds_toArray, List.set_cons_zero, List.set_cons_succ]
      refine wpMH_pureW (fun u => rfl) (by rfl) (.bool false) (fun u hu => by rfl) ?_
      simp only [Act.put, List.setIfInBounds_toArray, List.set_cons_zero, List.set_cons_succ]
      refine wpMH_moveW (fun u => rfl) (by rfl) _ rfl _ rfl ?_
      simp only [Act.put, List.setIfInBounds_toArray, List.set_cons_zero, List.set_cons_succ]
      refine wpMH_loadW (fun u => rfl) (by rfl) _ _ rfl w6.heap.size 0 rfl (d.map B8) _ (fun u h => h.2) Try.underlying26 rfl hid ?_
      simp only [Act.put, List.setIfInBounds_toArray, List.set_cons_zero, List.set_cons_succ]
      refine wpMH_moveW (fun u => rfl) (by rfl) _ rfl _ rfl ?_
      simp only [Act.put, List.setIfInBounds_toArray, List.set_cons_zero, List.set_cons_succ]
      refine wpMH_moveW (fun u => rfl) (by rfl) _ rfl _ rfl ?_
      simp only [Act.put, List.setIfInBounds_toArray, List.set_cons_zero, List.set_cons_succ]
      refine wpMH_pureW (fun u => rfl) (by rfl) (.pointer (some ⟨b, o + k * 32, none⟩)) (fun u hu => by go_simp) ?_
      simp only [Act.put, List.setIfInBounds_toArray, List.set_cons_zero, List.set_cons_succ]
      refine wpMH_loadW (fun u => rfl) (by rfl) _ _ rfl b (o + k * 32) rfl (d.map B8) _ (fun u h => rangeAt_below' Hd.out h.1.2) Try.underlying26 rfl hid ?_
      simp only [Act.put, List.setIfInBounds_toArray, List.set_cons_zero, List.set_cons_succ]
      refine wpMH_pureW (fun u => rfl) (by rfl) (.bool false) (fun u hu => by have hq := hneq u; go_simp) ?_
      simp only [Act.put, List.setIfInBounds_toArray, List.set_cons_zero, List.set_cons_succ]
      refine wpMH_pureW (fun u => rfl) (by rfl) (.bool false) (fun u hu => by rfl) ?_
      simp only [Act.put, List.setIfInBounds_toArray, List.set_cons_zero, List.set_cons_succ]
      refine wpMH_nil ?_
      refine wpMT_nil ?_
      rintro u1 - rfl
      refine NoPanic.normal ?_
      clear hsd H7 hr7 H6
      have HZ0 := HS
      clear HS
      go_wp2_with fail
      go_loopw [13] (fun iv wr => ∃ m : Int, -1 ≤ m ∧ m ≤ 9 ∧ iv = .int .i64 m ∧ Hid (St F w1.heap.size (w1.heap.size + 1) ls w wr)) (fun iv _ => (9 - intOf iv).toNat)
      case atStart => exact ⟨-1, by omega, by omega, rfl, HZ0⟩
      case round =>
        obtain ⟨m, hm0, hm1, rfl, hq⟩ := hrel
        by_cases hm9 : m < 9
        · have dm : decide (m < 9) = true := decide_eq_true hm9
          obtain ⟨rows, hr32, hTL, hRL⟩ := HLev.out m hm0 (by omega)
          have HTL := Lib.hid hTL
          have HRL := Lib.hid hRL
          have Hq := hq
          clear hq hTL hRL
          go_wp2_with fail
          refine (HTL.out wr _ _ _ Hq.out.1).mono ?_
          rintro e w20 ⟨Al, cl, rfl, ho20, hb20⟩
          have H20 := Lib.hid (And.intro ho20 (And.intro hb20 (Hq.out.stable hb20)))
          clear ho20 hb20
          go_wp2_with fail
          refine (HRL.out w20 H20.out.2.2.2).mono ?_
          rintro e w21 ⟨Ar, cr, rfl, ho21, hb21⟩
          obtain ⟨hs1, hs2⟩ := rs_own H20.out.1 hr32
          obtain ⟨hs3, hs4⟩ := rs_own ho21 hr32
          have hnl := hs1
          unfold maxLen at hnl
          have HZ : Hid (Zl F w1.heap.size (w1.heap.size + 1) ls w Al rows.length w21) := Lib.hid ⟨(Hq.out.1.own H20.out.2.1 H20.out.1).stable hb21, (H20.out.2.2.stable hb21).2, (Wr.of_own H20.out.1).stable hb21, fun b hb => Nat.le_trans Hq.out.2.size (own_far H20.out.1 b hb).1⟩
          have HRs : Hid (RS w21 Al rows.length rows ∧ RS w21 Ar rows.length rows) := Lib.hid ⟨(hs2 rfl).below hb21, hs4 rfl⟩
          clear ho21 hb21 H20 hs1 hs2 hs3 hs4
          obtain ⟨nl, hnle⟩ : ∃ nl, nl = rows.length := ⟨_, rfl⟩
          rw [← hnle] at HZ HRs hnl ⊢
          clear hnle
          go_wp2_with fail
          refine (sums_any w21 Al Ar nl nl cl cr rows rows HRs.out.1 HRs.out.2 (by unfold maxLen; omega)).mono ?_
          rintro e w22 ⟨rfl, hb22⟩
          rw [beq_self_eq_true]
          have HZ2 := Lib.hid (HZ.out.stable hb22)
          clear hb22 HZ HRs HTL HRL
          go_wp2_with fail
          go_loopw [92] (fun iv wr => ∃ k : Nat, k ≤ nl ∧ iv = .int .i64 (k : Int) ∧ Hid (Zl F w1.heap.size (w1.heap.size + 1) ls w Al nl wr)) (fun iv _ => nl - (intOf iv).toNat)
          case atStart => exact ⟨0, by omega, rfl, HZ2⟩
          case round =>
            obtain ⟨k, hk, rfl, hq⟩ := hrel
            by_cases hkl : k < nl
            · have dl : decide (k < nl) = true := decide_eq_true hkl
              have dl' : decide ((k : Int) < (nl : Int)) = true := decide_eq_true (by omega)
              have kn : (k : Int) < (nl : Int) := by omega
              obtain ⟨bw, hAw, htw⟩ := hq.out.wr (by omega)
              subst hAw
              have hth : wr.there bw (k * 32) (z123.map B8).toArray.size := there_mid htw hkl
              have hset : Hid (∀ wn, wn = wr.setCells bw (k * 32) (z123.map B8) → Zl F w1.heap.size (w1.heap.size + 1) ls w (some ⟨bw, 0, none⟩) nl wn) := Lib.hid fun wn h => by rw [h]; exact hq.out.set (by simp [blk])
              clear hq htw
              go_wp2_with ((with_reducible show wpList _ _ _ (⟨_, Op.store 26 (.tmp 98) _, _, _, _, _⟩ :: _) _ _); refine wpList_store_mid rfl _ _ _ rfl bw (k * 32) (z123.map B8).toArray rfl rfl hth (by kernel_rfl) (b8_all z123) ?_; rw [List.toList_toArray]; obtain ⟨wn, hwn⟩ : ∃ wn, wn = wr.setCells bw (k * 32) (z123.map B8) := ⟨_, rfl⟩; have HN := Lib.hid (hset.out wn hwn); rw [← hwn]; clear hwn)
              go_roundw
              case rel => exact ⟨k + 1, by omega, by go_num, HN⟩
              case measure => simp [intOf]; omega
            · have dl : decide (k < nl) = false := decide_eq_false hkl
              have dl' : decide ((k : Int) < (nl : Int)) = false := decide_eq_false (by omega)
              have HN : Hid (St F w1.heap.size (w1.heap.size + 1) ls w wr) := Lib.hid ⟨hq.out.ts.none, hq.out.below⟩
              clear hq
              go_wp2_with fail
              first
                | (refine ⟨?_, ?measure⟩; repeat apply Exists.intro
                   refine ⟨?rel, rfl⟩)
                | go_roundw
              case rel => exact ⟨m + 1, by omega, by omega, by go_num, HN⟩
              case measure => simp [intOf]; omega
        · have dm : decide (m < 9) = false := decide_eq_false hm9
          have Hq := hq
          clear hq
          go_wp2_with fail
          refine (HRt.out wr _ _ _ Hq.out.1).mono ?_
          rintro e w30 ⟨rfl, hb30⟩
          have H30 := Lib.hid (Hq.out.stable hb30)
          clear hb30 Hq
          go_wp2_with ((with_reducible show wpList _ _ _ (⟨_, Op.store 26 (.tmp 16) _, _, _, _, _⟩ :: _) _ _); refine wpList_store_row rfl _ _ _ rfl w30.heap.size 0 (rt.map B8).toArray rfl rfl (sz_there hrt32 (there_blk (heap_alloc_at _ _ _ rfl) (by decide))) hirt' (b8_all rt) ?_; intro w31 hg5 hs5 ht5 hth5; rw [List.toList_toArray] at ht5; have H31 := Lib.hid (And.intro (H30.out.store ((Below.refl _ _).alloc (Nat.le_refl _) _) hg5 (Nat.le_refl _) (by simp)) ht5); clear hg5 hs5 ht5 hth5; skip)
          obtain ⟨bx, hbx⟩ : ∃ bx, bx = w30.heap.size := ⟨_, rfl⟩
          rw [← hbx] at H31 ⊢
          clear hbx H30
          have hsd : St F w1.heap.size (w1.heap.size + 1) ls w w31.drew ∧ w31.drew.rangeAt bx 0 (rt.map B8) := ⟨H31.out.1.stable (below_drewN (Below.refl _ _) 1), rangeAt_below' H31.out.2 (below_drewN (Below.refl _ _) 1)⟩
          refine wp_region_noPanic ?_
          refine wp_region_moves 17 (fun u => St F w1.heap.size (w1.heap.size + 1) ls w u ∧ u.rangeAt bx 0 (rt.map B8)) (fun u u' => Below u.heap.size u u') (fun u => Below.refl _ _) (fun h k => h.trans (k.mono h.size)) (by kernel_rfl) (by kernel_rfl) hsd (fun _ _ _ _ _ h => h) ?_
          simp only [List.take_succ_cons, List.take_zero, List.drop_succ_cons, List.drop_zero]
          refine wpMH_moveW (fun u => Below.refl _ _) (by rfl) _ rfl _ rfl ?_
          simp only [Act.put, List.setIfInBounds_toArray, List.set_cons_zero, List.set_cons_succ]
          refine wpMH_pureW (fun u => Below.refl _ _) (by rfl) (.bool true) (fun u hu => by rfl) ?_
          simp only [Act.put, List.setIfInBounds_toArray, List.set_cons_zero, List.set_cons_succ]
          refine wpMH_moveW (fun u => Below.refl _ _) (by rfl) _ rfl _ rfl ?_
          simp only [Act.put, List.setIfInBounds_toArray, List.set_cons_zero, List.set_cons_succ]
          refine wpMH_loadW (fun u => Below.refl _ _) (by rfl) _ _ rfl bx 0 rfl (rt.map B8) _ (fun u h => h.2) Try.underlying26 rfl hirt ?_
          simp only [Act.put, List.setIfInBounds_toArray, List.set_cons_zero, List.set_cons_succ]
          refine wpMH_moveW (fun u => Below.refl _ _) (by rfl) _ rfl _ rfl ?_
          simp only [Act.put, List.setIfInBounds_toArray, List.set_cons_zero, List.set_cons_succ]
          refine wpMH_callW (by rfl) 39 _ _ rfl eg2 [.slice (some ⟨b, o, none⟩) n c] rfl (.agg (rt.map B8).toArray) (fun u h => (HRx.out u h.1.2).mono fun e w' ⟨h1, h2⟩ => ⟨h1, ⟨h.1.stable h2, rangeAt_below' h.2 h2⟩, h2⟩) ?_
          simp only [Act.put, List.setIfInBounds_toArray, List.set_cons_zero, List.set_cons_succ]
          refine wpMH_pureW (fun u => Below.refl _ _) (by rfl) (.bool true) (fun u hu => by have hq := heql u; go_simp) ?_
          simp only [Act.put, List.setIfInBounds_toArray, List.set_cons_zero, List.set_cons_succ]
          refine wpMH_pureW (fun u => Below.refl _ _) (by rfl) (.bool true) (fun u hu => by rfl) ?_
          simp only [Act.put, List.setIfInBounds_toArray, List.set_cons_zero, List.set_cons_succ]
          refine wpMH_moveW (fun u => Below.refl _ _) (by rfl) _ rfl _ rfl ?_
          simp only [Act.put, List.setIfInBounds_toArray, List.set_cons_zero, List.set_cons_succ]
          refine wpMH_moveW (fun u => Below.refl _ _) (by rfl) _ rfl _ rfl ?_
          simp only [Act.put, List.setIfInBounds_toArray, List.set_cons_zero, List.set_cons_succ]
          refine wpMH_moveW (fun u => Below.refl _ _) (by rfl) _ rfl _ rfl ?_
          simp only [Act.put, List.setIfInBounds_toArray, List.set_cons_zero, List.set_cons_succ]
          refine wpMH_pureW (fun u => Below.refl _ _) (by rfl) (.int .i64 v64) (fun u hu => by rw [Hv64.out]; go_simp) ?_
          simp only [Act.put, List.setIfInBounds_toArray, List.set_cons_zero, List.set_cons_succ]
          refine wpMH_callW (by rfl) 53 _ _ rfl eg3 [.pointer (some ⟨w1.heap.size + 1, 0, none⟩), .int .i64 v64] rfl (.slice none 0 0) (fun u h => (HLo.out u _ _ h.1.1).mono fun e w' ⟨h1, h2⟩ => ⟨h1, h2 ▸ h, h2 ▸ Below.refl _ _⟩) ?_
          simp only [Act.put, List.setIfInBounds_toArray, List.set_cons_zero, List.set_cons_succ]
          refine wpMH_pureW (fun u => Below.refl _ _) (by rfl) (.int .i64 0) (fun u hu => by go_simp) ?_
          simp only [Act.put, List.setIfInBounds_toArray, List.set_cons_zero, List.set_cons_succ]
          refine wpMH_pureW (fun u => Below.refl _ _) (by rfl) (.bool true) (fun u hu => by go_simp) ?_
          simp only [Act.put, List.setIfInBounds_toArray, List.set_cons_zero, List.set_cons_succ]
          refine wpMH_pureW (fun u => Below.refl _ _) (by rfl) (.bool true) (fun u hu => by rfl) ?_
          simp only [Act.put, List.setIfInBounds_toArray, List.set_cons_zero, List.set_cons_succ]
          refine wpMH_pureW (fun u => Below.refl _ _) (by rfl) (.bool true) (fun u hu => by rfl) ?_
          simp only [Act.put, List.setIfInBounds_toArray, List.set_cons_zero, List.set_cons_succ]
          refine wpMH_nil ?_
          refine wpMT_nil ?_
          intro u1 hu1 hM1
          refine NoPanic.normal ?_
          go_wp2_with fail
          go_ret
          exact ⟨rfl, hu1.1.2⟩
    · by_cases h0 : i < 0
      · have hLf := fun u (hu : TS F w1.heap.size (w1.heap.size + 1) ls [] u) => tleaf_bad u hu i (by have := Hr.out.len; omega)
        unfold SumV at hLf
        have HLf := Lib.hid hLf
        have hd32 : zero32.length = 32 := rfl
        have hid := info_of zero32 hd32
        have hid' := info_of' zero32 hd32
        have hzn := zero_neq
        clear hLf
        refine (HLf.out w5 H5.out.1.1).mono ?_
        rintro e w6 ⟨rfl, hb6⟩
        have H6 := Lib.hid (H5.out.1.stable hb6)
        clear hb6 H5
        have d0 : decide (i < 0) = true := decide_eq_true h0
        go_wp2_with (first
          | ((with_reducible show wpList _ _ _ (⟨_, Op.store 26 (.tmp 11) _, _, _, _, _⟩ :: _) _ _); refine wpList_store_row rfl _ _ _ rfl w6.heap.size 0 (zero32.map B8).toArray rfl rfl (sz_there hd32 (there_blk (heap_alloc_at _ _ _ rfl) (by decide))) hid' (b8_all zero32) ?_; intro w7 hg5 hs5 ht5 hth5; rw [List.toList_toArray] at ht5; have H7 := Lib.hid (And.intro (H6.out.store ((Below.refl _ _).alloc (Nat.le_refl _) _) hg5 (Nat.le_refl _) (by simp)) ht5); clear hg5 hs5 ht5 hth5; have hr7 := H7.out.2; skip)
          | (go_at_call 46; refine (is_err _ _ _ (by decide)).mono ?_; rintro e w9 ⟨rfl, rfl⟩)
          | ((with_reducible show wpList _ _ _ (⟨_, Op.load 26 (.tmp 11), _, _, _, _⟩ :: _) _ _); refine wpList_load_midW rfl _ _ rfl w6.heap.size 0 rfl (zero32.map B8) _ hr7 Try.underlying26 rfl hid ?_; simp only [Act.put, List.setIfInBounds_toArray, List.set_cons_zero, List.set_cons_succ]))
        have HS := Lib.hid H7.out.1
        clear H7 hr7 H6
        have HZ0 := HS
        clear HS
        go_wp2_with fail
        go_loopw [13] (fun iv wr => ∃ m : Int, -1 ≤ m ∧ m ≤ 9 ∧ iv = .int .i64 m ∧ Hid (St F w1.heap.size (w1.heap.size + 1) ls w wr)) (fun iv _ => (9 - intOf iv).toNat)
        case atStart => exact ⟨-1, by omega, by omega, rfl, HZ0⟩
        case round =>
          obtain ⟨m, hm0, hm1, rfl, hq⟩ := hrel
          by_cases hm9 : m < 9
          · have dm : decide (m < 9) = true := decide_eq_true hm9
            obtain ⟨rows, hr32, hTL, hRL⟩ := HLev.out m hm0 (by omega)
            have HTL := Lib.hid hTL
            have HRL := Lib.hid hRL
            have Hq := hq
            clear hq hTL hRL
            go_wp2_with fail
            refine (HTL.out wr _ _ _ Hq.out.1).mono ?_
            rintro e w20 ⟨Al, cl, rfl, ho20, hb20⟩
            have H20 := Lib.hid (And.intro ho20 (And.intro hb20 (Hq.out.stable hb20)))
            clear ho20 hb20
            go_wp2_with fail
            refine (HRL.out w20 H20.out.2.2.2).mono ?_
            rintro e w21 ⟨Ar, cr, rfl, ho21, hb21⟩
            obtain ⟨hs1, hs2⟩ := rs_own H20.out.1 hr32
            obtain ⟨hs3, hs4⟩ := rs_own ho21 hr32
            have hnl := hs1
            unfold maxLen at hnl
            have HZ : Hid (Zl F w1.heap.size (w1.heap.size + 1) ls w Al rows.length w21) := Lib.hid ⟨(Hq.out.1.own H20.out.2.1 H20.out.1).stable hb21, (H20.out.2.2.stable hb21).2, (Wr.of_own H20.out.1).stable hb21, fun b hb => Nat.le_trans Hq.out.2.size (own_far H20.out.1 b hb).1⟩
            have HRs : Hid (RS w21 Al rows.length rows ∧ RS w21 Ar rows.length rows) := Lib.hid ⟨(hs2 rfl).below hb21, hs4 rfl⟩
            clear ho21 hb21 H20 hs1 hs2 hs3 hs4
            obtain ⟨nl, hnle⟩ : ∃ nl, nl = rows.length := ⟨_, rfl⟩
            rw [← hnle] at HZ HRs hnl ⊢
            clear hnle
            go_wp2_with fail
            refine (sums_any w21 Al Ar nl nl cl cr rows rows HRs.out.1 HRs.out.2 (by unfold maxLen; omega)).mono ?_
            rintro e w22 ⟨rfl, hb22⟩
            rw [beq_self_eq_true]
            have HZ2 := Lib.hid (HZ.out.stable hb22)
            clear hb22 HZ HRs HTL HRL
            go_wp2_with fail
            go_loopw [92] (fun iv wr => ∃ k : Nat, k ≤ nl ∧ iv = .int .i64 (k : Int) ∧ Hid (Zl F w1.heap.size (w1.heap.size + 1) ls w Al nl wr)) (fun iv _ => nl - (intOf iv).toNat)
            case atStart => exact ⟨0, by omega, rfl, HZ2⟩
            case round =>
              obtain ⟨k, hk, rfl, hq⟩ := hrel
              by_cases hkl : k < nl
              · have dl : decide (k < nl) = true := decide_eq_true hkl
                have dl' : decide ((k : Int) < (nl : Int)) = true := decide_eq_true (by omega)
                have kn : (k : Int) < (nl : Int) := by omega
                obtain ⟨bw, hAw, htw⟩ := hq.out.wr (by omega)
                subst hAw
                have hth : wr.there bw (k * 32) (z123.map B8).toArray.size := there_mid htw hkl
                have hset : Hid (∀ wn, wn = wr.setCells bw (k * 32) (z123.map B8) → Zl F w1.heap.size (w1.heap.size + 1) ls w (some ⟨bw, 0, none⟩) nl wn) := Lib.hid fun wn h => by rw [h]; exact hq.out.set (by simp [blk])
                clear hq htw
                go_wp2_with ((with_reducible show wpList _ _ _ (⟨_, Op.store 26 (.tmp 98) _, _, _, _, _⟩ :: _) _ _); refine wpList_store_mid rfl _ _ _ rfl bw (k * 32) (z123.map B8).toArray rfl rfl hth (by kernel_rfl) (b8_all z123) ?_; rw [List.toList_toArray]; obtain ⟨wn, hwn⟩ : ∃ wn, wn = wr.setCells bw (k * 32) (z123.map B8) := ⟨_, rfl⟩; have HN := Lib.hid (hset.out wn hwn); rw [← hwn]; clear hwn)
                go_roundw
                case rel => exact ⟨k + 1, by omega, by go_num, HN⟩
                case measure => simp [intOf]; omega
              · have dl : decide (k < nl) = false := decide_eq_false hkl
                have dl' : decide ((k : Int) < (nl : Int)) = false := decide_eq_false (by omega)
                have HN : Hid (St F w1.heap.size (w1.heap.size + 1) ls w wr) := Lib.hid ⟨hq.out.ts.none, hq.out.below⟩
                clear hq
                go_wp2_with fail
                first
                  | (refine ⟨?_, ?measure⟩; repeat apply Exists.intro
                     refine ⟨?rel, rfl⟩)
                  | go_roundw
                case rel => exact ⟨m + 1, by omega, by omega, by go_num, HN⟩
                case measure => simp [intOf]; omega
          · have dm : decide (m < 9) = false := decide_eq_false hm9
            have Hq := hq
            clear hq
            go_wp2_with fail
            refine (HRt.out wr _ _ _ Hq.out.1).mono ?_
            rintro e w30 ⟨rfl, hb30⟩
            have H30 := Lib.hid (Hq.out.stable hb30)
            clear hb30 Hq
            go_wp2_with ((with_reducible show wpList _ _ _ (⟨_, Op.store 26 (.tmp 16) _, _, _, _, _⟩ :: _) _ _); refine wpList_store_row rfl _ _ _ rfl w30.heap.size 0 (rt.map B8).toArray rfl rfl (sz_there hrt32 (there_blk (heap_alloc_at _ _ _ rfl) (by decide))) hirt' (b8_all rt) ?_; intro w31 hg5 hs5 ht5 hth5; rw [List.toList_toArray] at ht5; have H31 := Lib.hid (And.intro (H30.out.store ((Below.refl _ _).alloc (Nat.le_refl _) _) hg5 (Nat.le_refl _) (by simp)) ht5); clear hg5 hs5 ht5 hth5; skip)
            obtain ⟨bx, hbx⟩ : ∃ bx, bx = w30.heap.size := ⟨_, rfl⟩
            rw [← hbx] at H31 ⊢
            clear hbx H30
            have hsd : St F w1.heap.size (w1.heap.size + 1) ls w w31.drew ∧ w31.drew.rangeAt bx 0 (rt.map B8) := ⟨H31.out.1.stable (below_drewN (Below.refl _ _) 1), rangeAt_below' H31.out.2 (below_drewN (Below.refl _ _) 1)⟩
            refine wp_region_noPanic ?_
            refine wp_region_moves 17 (fun u => St F w1.heap.size (w1.heap.size + 1) ls w u ∧ u.rangeAt bx 0 (rt.map B8)) (fun u u' => Below u.heap.size u u') (fun u => Below.refl _ _) (fun h k => h.trans (k.mono h.size)) (by kernel_rfl) (by kernel_rfl) hsd (fun _ _ _ _ _ h => h) ?_
            simp only [List.take_succ_cons, List.take_zero, List.drop_succ_cons, List.drop_zero]
            refine wpMH_moveW (fun u => Below.refl _ _) (by rfl) _ rfl _ rfl ?_
            simp only [Act.put, List.setIfInBounds_toArray, List.set_cons_zero, List.set_cons_succ]
            refine wpMH_pureW (fun u => Below.refl _ _) (by rfl) (.bool true) (fun u hu => by rfl) ?_
            simp only [Act.put, List.setIfInBounds_toArray, List.set_cons_zero, List.set_cons_succ]
            refine wpMH_moveW (fun u => Below.refl _ _) (by rfl) _ rfl _ rfl ?_
            simp only [Act.put, List.setIfInBounds_toArray, List.set_cons_zero, List.set_cons_succ]
            refine wpMH_loadW (fun u => Below.refl _ _) (by rfl) _ _ rfl bx 0 rfl (rt.map B8) _ (fun u h => h.2) Try.underlying26 rfl hirt ?_
            simp only [Act.put, List.setIfInBounds_toArray, List.set_cons_zero, List.set_cons_succ]
            refine wpMH_moveW (fun u => Below.refl _ _) (by rfl) _ rfl _ rfl ?_
            simp only [Act.put, List.setIfInBounds_toArray, List.set_cons_zero, List.set_cons_succ]
            refine wpMH_callW (by rfl) 39 _ _ rfl eg2 [.slice A n c] rfl (.agg (rt.map B8).toArray) (fun u h => (HRx.out u h.1.2).mono fun e w' ⟨h1, h2⟩ => ⟨h1, ⟨h.1.stable h2, rangeAt_below' h.2 h2⟩, h2⟩) ?_
            simp only [Act.put, List.setIfInBounds_toArray, List.set_cons_zero, List.set_cons_succ]
            refine wpMH_pureW (fun u => Below.refl _ _) (by rfl) (.bool true) (fun u hu => by have hq := heql u; go_simp) ?_
            simp only [Act.put, List.setIfInBounds_toArray, List.set_cons_zero, List.set_cons_succ]
            refine wpMH_pureW (fun u => Below.refl _ _) (by rfl) (.bool true) (fun u hu => by rfl) ?_
            simp only [Act.put, List.setIfInBounds_toArray, List.set_cons_zero, List.set_cons_succ]
            refine wpMH_moveW (fun u => Below.refl _ _) (by rfl) _ rfl _ rfl ?_
            simp only [Act.put, List.setIfInBounds_toArray, List.set_cons_zero, List.set_cons_succ]
            refine wpMH_moveW (fun u => Below.refl _ _) (by rfl) _ rfl _ rfl ?_
            simp only [Act.put, List.setIfInBounds_toArray, List.set_cons_zero, List.set_cons_succ]
            refine wpMH_moveW (fun u => Below.refl _ _) (by rfl) _ rfl _ rfl ?_
            simp only [Act.put, List.setIfInBounds_toArray, List.set_cons_zero, List.set_cons_succ]
            refine wpMH_pureW (fun u => Below.refl _ _) (by rfl) (.int .i64 v64) (fun u hu => by rw [Hv64.out]; go_simp) ?_
            simp only [Act.put, List.setIfInBounds_toArray, List.set_cons_zero, List.set_cons_succ]
            refine wpMH_callW (by rfl) 53 _ _ rfl eg3 [.pointer (some ⟨w1.heap.size + 1, 0, none⟩), .int .i64 v64] rfl (.slice none 0 0) (fun u h => (HLo.out u _ _ h.1.1).mono fun e w' ⟨h1, h2⟩ => ⟨h1, h2 ▸ h, h2 ▸ Below.refl _ _⟩) ?_
            simp only [Act.put, List.setIfInBounds_toArray, List.set_cons_zero, List.set_cons_succ]
            refine wpMH_pureW (fun u => Below.refl _ _) (by rfl) (.int .i64 0) (fun u hu => by go_simp) ?_
            simp only [Act.put, List.setIfInBounds_toArray, List.set_cons_zero, List.set_cons_succ]
            refine wpMH_pureW (fun u => Below.refl _ _) (by rfl) (.bool true) (fun u hu => by go_simp) ?_
            simp only [Act.put, List.setIfInBounds_toArray, List.set_cons_zero, List.set_cons_succ]
            refine wpMH_pureW (fun u => Below.refl _ _) (by rfl) (.bool true) (fun u hu => by rfl) ?_
            simp only [Act.put, List.setIfInBounds_toArray, List.set_cons_zero, List.set_cons_succ]
            refine wpMH_pureW (fun u => Below.refl _ _) (by rfl) (.bool true) (fun u hu => by rfl) ?_
            simp only [Act.put, List.setIfInBounds_toArray, List.set_cons_zero, List.set_cons_succ]
            refine wpMH_nil ?_
            refine wpMT_nil ?_
            intro u1 hu1 hM1
            refine NoPanic.normal ?_
            go_wp2_with fail
            go_ret
            exact ⟨rfl, hu1.1.2⟩
      · have hLf := fun u (hu : TS F w1.heap.size (w1.heap.size + 1) ls [] u) => tleaf_bad u hu i (by have := Hr.out.len; omega)
        unfold SumV at hLf
        have HLf := Lib.hid hLf
        have hd32 : zero32.length = 32 := rfl
        have hid := info_of zero32 hd32
        have hid' := info_of' zero32 hd32
        have hzn := zero_neq
        clear hLf
        refine (HLf.out w5 H5.out.1.1).mono ?_
        rintro e w6 ⟨rfl, hb6⟩
        have H6 := Lib.hid (H5.out.1.stable hb6)
        clear hb6 H5
        have d0 : decide (i < 0) = false := decide_eq_false h0
        have d1 : decide ((n : Int) ≤ i) = true := decide_eq_true (by omega)
        go_wp2_with (first
          | ((with_reducible show wpList _ _ _ (⟨_, Op.store 26 (.tmp 11) _, _, _, _, _⟩ :: _) _ _); refine wpList_store_row rfl _ _ _ rfl w6.heap.size 0 (zero32.map B8).toArray rfl rfl (sz_there hd32 (there_blk (heap_alloc_at _ _ _ rfl) (by decide))) hid' (b8_all zero32) ?_; intro w7 hg5 hs5 ht5 hth5; rw [List.toList_toArray] at ht5; have H7 := Lib.hid (And.intro (H6.out.store ((Below.refl _ _).alloc (Nat.le_refl _) _) hg5 (Nat.le_refl _) (by simp)) ht5); clear hg5 hs5 ht5 hth5; have hr7 := H7.out.2; skip)
          | (go_at_call 46; refine (is_err _ _ _ (by decide)).mono ?_; rintro e w9 ⟨rfl, rfl⟩)
          | ((with_reducible show wpList _ _ _ (⟨_, Op.load 26 (.tmp 11), _, _, _, _⟩ :: _) _ _); refine wpList_load_midW rfl _ _ rfl w6.heap.size 0 rfl (zero32.map B8) _ hr7 Try.underlying26 rfl hid ?_; simp only [Act.put, List.setIfInBounds_toArray, List.set_cons_zero, List.set_cons_succ]))
        have HS := Lib.hid H7.out.1
        clear H7 hr7 H6
        have HZ0 := HS
        clear HS
        go_wp2_with fail
        go_loopw [13] (fun iv wr => ∃ m : Int, -1 ≤ m ∧ m ≤ 9 ∧ iv = .int .i64 m ∧ Hid (St F w1.heap.size (w1.heap.size + 1) ls w wr)) (fun iv _ => (9 - intOf iv).toNat)
        case atStart => exact ⟨-1, by omega, by omega, rfl, HZ0⟩
        case round =>
          obtain ⟨m, hm0, hm1, rfl, hq⟩ := hrel
          by_cases hm9 : m < 9
          · have dm : decide (m < 9) = true := decide_eq_true hm9
            obtain ⟨rows, hr32, hTL, hRL⟩ := HLev.out m hm0 (by omega)
            have HTL := Lib.hid hTL
            have HRL := Lib.hid hRL
            have Hq := hq
            clear hq hTL hRL
            go_wp2_with fail
            refine (HTL.out wr _ _ _ Hq.out.1).mono ?_
            rintro e w20 ⟨Al, cl, rfl, ho20, hb20⟩
            have H20 := Lib.hid (And.intro ho20 (And.intro hb20 (Hq.out.stable hb20)))
            clear ho20 hb20
            go_wp2_with fail
            refine (HRL.out w20 H20.out.2.2.2).mono ?_
            rintro e w21 ⟨Ar, cr, rfl, ho21, hb21⟩
            obtain ⟨hs1, hs2⟩ := rs_own H20.out.1 hr32
            obtain ⟨hs3, hs4⟩ := rs_own ho21 hr32
            have hnl := hs1
            unfold maxLen at hnl
            have HZ : Hid (Zl F w1.heap.size (w1.heap.size + 1) ls w Al rows.length w21) := Lib.hid ⟨(Hq.out.1.own H20.out.2.1 H20.out.1).stable hb21, (H20.out.2.2.stable hb21).2, (Wr.of_own H20.out.1).stable hb21, fun b hb => Nat.le_trans Hq.out.2.size (own_far H20.out.1 b hb).1⟩
            have HRs : Hid (RS w21 Al rows.length rows ∧ RS w21 Ar rows.length rows) := Lib.hid ⟨(hs2 rfl).below hb21, hs4 rfl⟩
            clear ho21 hb21 H20 hs1 hs2 hs3 hs4
            obtain ⟨nl, hnle⟩ : ∃ nl, nl = rows.length := ⟨_, rfl⟩
            rw [← hnle] at HZ HRs hnl ⊢
            clear hnle
            go_wp2_with fail
            refine (sums_any w21 Al Ar nl nl cl cr rows rows HRs.out.1 HRs.out.2 (by unfold maxLen; omega)).mono ?_
            rintro e w22 ⟨rfl, hb22⟩
            rw [beq_self_eq_true]
            have HZ2 := Lib.hid (HZ.out.stable hb22)
            clear hb22 HZ HRs HTL HRL
            go_wp2_with fail
            go_loopw [92] (fun iv wr => ∃ k : Nat, k ≤ nl ∧ iv = .int .i64 (k : Int) ∧ Hid (Zl F w1.heap.size (w1.heap.size + 1) ls w Al nl wr)) (fun iv _ => nl - (intOf iv).toNat)
            case atStart => exact ⟨0, by omega, rfl, HZ2⟩
            case round =>
              obtain ⟨k, hk, rfl, hq⟩ := hrel
              by_cases hkl : k < nl
              · have dl : decide (k < nl) = true := decide_eq_true hkl
                have dl' : decide ((k : Int) < (nl : Int)) = true := decide_eq_true (by omega)
                have kn : (k : Int) < (nl : Int) := by omega
                obtain ⟨bw, hAw, htw⟩ := hq.out.wr (by omega)
                subst hAw
                have hth : wr.there bw (k * 32) (z123.map B8).toArray.size := there_mid htw hkl
                have hset : Hid (∀ wn, wn = wr.setCells bw (k * 32) (z123.map B8) → Zl F w1.heap.size (w1.heap.size + 1) ls w (some ⟨bw, 0, none⟩) nl wn) := Lib.hid fun wn h => by rw [h]; exact hq.out.set (by simp [blk])
                clear hq htw
                go_wp2_with ((with_reducible show wpList _ _ _ (⟨_, Op.store 26 (.tmp 98) _, _, _, _, _⟩ :: _) _ _); refine wpList_store_mid rfl _ _ _ rfl bw (k * 32) (z123.map B8).toArray rfl rfl hth (by kernel_rfl) (b8_all z123) ?_; rw [List.toList_toArray]; obtain ⟨wn, hwn⟩ : ∃ wn, wn = wr.setCells bw (k * 32) (z123.map B8) := ⟨_, rfl⟩; have HN := Lib.hid (hset.out wn hwn); rw [← hwn]; clear hwn)
                go_roundw
                case rel => exact ⟨k + 1, by omega, by go_num, HN⟩
                case measure => simp [intOf]; omega
              · have dl : decide (k < nl) = false := decide_eq_false hkl
                have dl' : decide ((k : Int) < (nl : Int)) = false := decide_eq_false (by omega)
                have HN : Hid (St F w1.heap.size (w1.heap.size + 1) ls w wr) := Lib.hid ⟨hq.out.ts.none, hq.out.below⟩
                clear hq
                go_wp2_with fail
                first
                  | (refine ⟨?_, ?measure⟩; repeat apply Exists.intro
                     refine ⟨?rel, rfl⟩)
                  | go_roundw
                case rel => exact ⟨m + 1, by omega, by omega, by go_num, HN⟩
                case measure => simp [intOf]; omega
          · have dm : decide (m < 9) = false := decide_eq_false hm9
            have Hq := hq
            clear hq
            go_wp2_with fail
            refine (HRt.out wr _ _ _ Hq.out.1).mono ?_
            rintro e w30 ⟨rfl, hb30⟩
            have H30 := Lib.hid (Hq.out.stable hb30)
            clear hb30 Hq
            go_wp2_with ((with_reducible show wpList _ _ _ (⟨_, Op.store 26 (.tmp 16) _, _, _, _, _⟩ :: _) _ _); refine wpList_store_row rfl _ _ _ rfl w30.heap.size 0 (rt.map B8).toArray rfl rfl (sz_there hrt32 (there_blk (heap_alloc_at _ _ _ rfl) (by decide))) hirt' (b8_all rt) ?_; intro w31 hg5 hs5 ht5 hth5; rw [List.toList_toArray] at ht5; have H31 := Lib.hid (And.intro (H30.out.store ((Below.refl _ _).alloc (Nat.le_refl _) _) hg5 (Nat.le_refl _) (by simp)) ht5); clear hg5 hs5 ht5 hth5; skip)
            obtain ⟨bx, hbx⟩ : ∃ bx, bx = w30.heap.size := ⟨_, rfl⟩
            rw [← hbx] at H31 ⊢
            clear hbx H30
            have hsd : St F w1.heap.size (w1.heap.size + 1) ls w w31.drew ∧ w31.drew.rangeAt bx 0 (rt.map B8) := ⟨H31.out.1.stable (below_drewN (Below.refl _ _) 1), rangeAt_below' H31.out.2 (below_drewN (Below.refl _ _) 1)⟩
            refine wp_region_noPanic ?_
            refine wp_region_moves 17 (fun u => St F w1.heap.size (w1.heap.size + 1) ls w u ∧ u.rangeAt bx 0 (rt.map B8)) (fun u u' => Below u.heap.size u u') (fun u => Below.refl _ _) (fun h k => h.trans (k.mono h.size)) (by kernel_rfl) (by kernel_rfl) hsd (fun _ _ _ _ _ h => h) ?_
            simp only [List.take_succ_cons, List.take_zero, List.drop_succ_cons, List.drop_zero]
            refine wpMH_moveW (fun u => Below.refl _ _) (by rfl) _ rfl _ rfl ?_
            simp only [Act.put, List.setIfInBounds_toArray, List.set_cons_zero, List.set_cons_succ]
            refine wpMH_pureW (fun u => Below.refl _ _) (by rfl) (.bool true) (fun u hu => by rfl) ?_
            simp only [Act.put, List.setIfInBounds_toArray, List.set_cons_zero, List.set_cons_succ]
            refine wpMH_moveW (fun u => Below.refl _ _) (by rfl) _ rfl _ rfl ?_
            simp only [Act.put, List.setIfInBounds_toArray, List.set_cons_zero, List.set_cons_succ]
            refine wpMH_loadW (fun u => Below.refl _ _) (by rfl) _ _ rfl bx 0 rfl (rt.map B8) _ (fun u h => h.2) Try.underlying26 rfl hirt ?_
            simp only [Act.put, List.setIfInBounds_toArray, List.set_cons_zero, List.set_cons_succ]
            refine wpMH_moveW (fun u => Below.refl _ _) (by rfl) _ rfl _ rfl ?_
            simp only [Act.put, List.setIfInBounds_toArray, List.set_cons_zero, List.set_cons_succ]
            refine wpMH_callW (by rfl) 39 _ _ rfl eg2 [.slice A n c] rfl (.agg (rt.map B8).toArray) (fun u h => (HRx.out u h.1.2).mono fun e w' ⟨h1, h2⟩ => ⟨h1, ⟨h.1.stable h2, rangeAt_below' h.2 h2⟩, h2⟩) ?_
            simp only [Act.put, List.setIfInBounds_toArray, List.set_cons_zero, List.set_cons_succ]
            refine wpMH_pureW (fun u => Below.refl _ _) (by rfl) (.bool true) (fun u hu => by have hq := heql u; go_simp) ?_
            simp only [Act.put, List.setIfInBounds_toArray, List.set_cons_zero, List.set_cons_succ]
            refine wpMH_pureW (fun u => Below.refl _ _) (by rfl) (.bool true) (fun u hu => by rfl) ?_
            simp only [Act.put, List.setIfInBounds_toArray, List.set_cons_zero, List.set_cons_succ]
            refine wpMH_moveW (fun u => Below.refl _ _) (by rfl) _ rfl _ rfl ?_
            simp only [Act.put, List.setIfInBounds_toArray, List.set_cons_zero, List.set_cons_succ]
            refine wpMH_moveW (fun u => Below.refl _ _) (by rfl) _ rfl _ rfl ?_
            simp only [Act.put, List.setIfInBounds_toArray, List.set_cons_zero, List.set_cons_succ]
            refine wpMH_moveW (fun u => Below.refl _ _) (by rfl) _ rfl _ rfl ?_
            simp only [Act.put, List.setIfInBounds_toArray, List.set_cons_zero, List.set_cons_succ]
            refine wpMH_pureW (fun u => Below.refl _ _) (by rfl) (.int .i64 v64) (fun u hu => by rw [Hv64.out]; go_simp) ?_
            simp only [Act.put, List.setIfInBounds_toArray, List.set_cons_zero, List.set_cons_succ]
            refine wpMH_callW (by rfl) 53 _ _ rfl eg3 [.pointer (some ⟨w1.heap.size + 1, 0, none⟩), .int .i64 v64] rfl (.slice none 0 0) (fun u h => (HLo.out u _ _ h.1.1).mono fun e w' ⟨h1, h2⟩ => ⟨h1, h2 ▸ h, h2 ▸ Below.refl _ _⟩) ?_
            simp only [Act.put, List.setIfInBounds_toArray, List.set_cons_zero, List.set_cons_succ]
            refine wpMH_pureW (fun u => Below.refl _ _) (by rfl) (.int .i64 0) (fun u hu => by go_simp) ?_
            simp only [Act.put, List.setIfInBounds_toArray, List.set_cons_zero, List.set_cons_succ]
            refine wpMH_pureW (fun u => Below.refl _ _) (by rfl) (.bool true) (fun u hu => by go_simp) ?_
            simp only [Act.put, List.setIfInBounds_toArray, List.set_cons_zero, List.set_cons_succ]
            refine wpMH_pureW (fun u => Below.refl _ _) (by rfl) (.bool true) (fun u hu => by rfl) ?_
            simp only [Act.put, List.setIfInBounds_toArray, List.set_cons_zero, List.set_cons_succ]
            refine wpMH_pureW (fun u => Below.refl _ _) (by rfl) (.bool true) (fun u hu => by rfl) ?_
            simp only [Act.put, List.setIfInBounds_toArray, List.set_cons_zero, List.set_cons_succ]
            refine wpMH_nil ?_
            refine wpMT_nil ?_
            intro u1 hu1 hM1
            refine NoPanic.normal ?_
            go_wp2_with fail
            go_ret
            exact ⟨rfl, hu1.1.2⟩
end Go.Proofs.Ytkcmacglomdfcaa
