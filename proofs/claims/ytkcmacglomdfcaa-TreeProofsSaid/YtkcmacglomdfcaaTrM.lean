/-
  THE LAW TreeProofs.
-/
import Derived.Test.YtkcmacglomdfcaaTrL
namespace Go.Proofs.Ytkcmacglomdfcaa
open Go.RowKit

/-- A row of the call's own, and v. -/
def RowV (w : World) (ps : List Dg) (v : Value) (e : Ending) (w' : World) : Prop := ∃ A c, e = .returned (.tuple #[.slice A ps.length c, v]) ∧ w'.ownsRow w.heap.size 26 32 (.slice A ps.length c) ps.length (ps.flatten.map B8) ∧ Below w.heap.size w w'
/-- The block of a slice. -/
def blk : Option Addr → List Nat
  | some a => [a.block]
  | none => []
section
variable {F : Dg → Dg} {B g : Nat} {ls : List Dg} {K : List Nat} {u u' w : World}
theorem TS.own (h : TS F B g ls K u) (hb : Below u.heap.size u u') {e : TypeId} {s n c : Nat} {A : Option Addr} {xs : List Value} (ho : u'.ownsRow u.heap.size e s (.slice A n c) n xs) : TS F B g ls (blk A ++ K) u' := by
  cases A with
  | none => exact h.stable hb
  | some a =>
    obtain ⟨h1, h2⟩ := ho.lt a.block rfl
    exact h.fresh hb h1 h2
end
/-- A row that may be written. -/
def Wr (A : Option Addr) (n : Nat) (u : World) : Prop := 0 < n → ∃ b, A = some ⟨b, 0, none⟩ ∧ u.there b 0 (n * 32)
theorem Wr.of_own {u : World} {B : Nat} {e : TypeId} {A : Option Addr} {n c : Nat} {xs : List Value} (h : u.ownsRow B e 32 (.slice A n c) n xs) : Wr A n u := fun h0 => by
  rcases h.2 with ⟨e1, h2⟩ | ⟨g, cap, cur, e1, hB, hh, hnc, hcm, hcs, _⟩
  · cases e1; omega
  · cases e1
    exact ⟨g, rfl, there_blk hh (by rw [hcs]; exact Nat.mul_le_mul_right _ hnc)⟩
theorem Wr.stable {u u' : World} {A : Option Addr} {n : Nat} (h : Wr A n u) (hb : Below u.heap.size u u') : Wr A n u' := fun h0 => by
  obtain ⟨b, h1, h2⟩ := h h0
  exact ⟨b, h1, there_same h2 (hb.block _ (there_lt h2 (by omega)))⟩
theorem Wr.set {u : World} {A : Option Addr} {n : Nat} (h : Wr A n u) (b o : Nat) (vs : List Value) : Wr A n (u.setCells b o vs) := fun h0 => by
  obtain ⟨b', h1, h2⟩ := h h0
  exact ⟨b', h1, World.there_setCells h2 _ _ _⟩
theorem there_mid {u : World} {b n k : Nat} (h : u.there b 0 (n * 32)) (hk : k < n) : u.there b (k * 32) 32 := fun j hj => by
  have := h (k * 32 + j) (by omega)
  rwa [Nat.zero_add] at this
theorem RS.grownBy {u u' : World} {A : Option Addr} {n : Nat} {ls : List Dg} (h : RS u A n ls) {b : Nat} (hg : u.grownBy u' (some b)) (hne : b ∉ blk A) : RS u' A n ls :=
  ⟨h.1, h.2.1, fun h0 => by
    obtain ⟨b', o, hA, hx⟩ := h.2.2 h0
    subst hA
    exact ⟨b', o, rfl, fun i x hi => range_grown (hx i x hi) hg (fun e => hne (by cases e; simp [blk]))⟩⟩
section
variable {F : List UInt8 → List UInt8} (HF : Dig F)
include HF
theorem tpath_both (w : World) (A : Option Addr) (nl c : Nat) (ls : List Dg) (hr : RS w A nl ls) (hnc : nl ≤ c) (hcm : c ≤ maxLen) (h100 : nl ≤ 100) (i n : Int) :
    ∃ (ps : List Dg) (ev : Value) (b : Bool), (b = true ∧ ev = .nilIface ∨ b = false ∧ ev = errV 2) ∧ (∀ x ∈ ps, x.length = 32) ∧
      (∀ (u : World) (B g : Nat) (K : List Nat), TS F B g ls K u → Calls Try.prog 55 #[.pointer (some ⟨g, 0, none⟩), .int .i64 i, .int .i64 n] u (RowV u ps ev)) ∧
      (∀ u : World, Below w.heap.size w u → Calls Try.prog 69 #[.slice A nl c, .int .i64 i, .int .i64 n] u (RowV u ps (.bool b))) := by
  have hlen := hr.len
  by_cases hg : 0 ≤ i ∧ i < n ∧ n ≤ (nl : Int)
  · obtain ⟨j, rfl⟩ : ∃ j : Nat, i = (j : Int) := ⟨i.toNat, by omega⟩
    obtain ⟨m, rfl⟩ : ∃ m : Nat, n = (m : Int) := ⟨n.toNat, by omega⟩
    refine ⟨pathF F (ls.take m) j, .nilIface, true, .inl ⟨rfl, rfl⟩, pathF_32 HF.len _ _ j rfl (fun x hx => hr.2.1 x (List.mem_of_mem_take hx)), fun u B g K hu => ?_, fun u hu => ?_⟩
    · exact (tpath_any HF u hu (by omega) j m (by omega) (by omega)).mono fun e w' ⟨A', c', h1, h2, h3⟩ => ⟨A', c', h1, h2, h3⟩
    · exact (rpath_ok HF u A nl c ls (hr.below hu) hnc hcm (by omega) j m (by omega) (by omega)).mono fun e w' ⟨A', c', h1, h2, h3⟩ => ⟨A', c', h1, h2, h3⟩
  · refine ⟨[], errV 2, false, .inr ⟨rfl, rfl⟩, fun x hx => by simp at hx, fun u B g K hu => ?_, fun u hu => ?_⟩
    · exact (tpath_bad u hu i n (by omega)).mono fun e w' ⟨h1, h2⟩ => ⟨none, 0, h1, World.ownsRow_nil _ _ _ _, by rw [← h2]; exact Below.refl _ _⟩
    · exact (rpath_bad u A nl c i n (by omega)).mono fun e w' ⟨h1, h2⟩ => ⟨none, 0, h1, World.ownsRow_nil _ _ _ _, by rw [← h2]; exact Below.refl _ _⟩
theorem tbegins_both (w : World) (A : Option Addr) (nl c : Nat) (ls : List Dg) (hr : RS w A nl ls) (hnc : nl ≤ c) (hcm : c ≤ maxLen) (h100 : nl ≤ 100) (i n : Int) :
    ∃ (ps : List Dg) (ev : Value) (b : Bool), (b = true ∧ ev = .nilIface ∨ b = false ∧ ev = errV 2) ∧ (∀ x ∈ ps, x.length = 32) ∧
      (∀ (u : World) (B g : Nat) (K : List Nat), TS F B g ls K u → Calls Try.prog 70 #[.pointer (some ⟨g, 0, none⟩), .int .i64 i, .int .i64 n] u (RowV u ps ev)) ∧
      (∀ u : World, Below w.heap.size w u → Calls Try.prog 71 #[.slice A nl c, .int .i64 i, .int .i64 n] u (RowV u ps (.bool b))) := by
  have hlen := hr.len
  by_cases hg : 1 ≤ i ∧ i ≤ n ∧ n ≤ (nl : Int)
  · obtain ⟨j, rfl⟩ : ∃ j : Nat, i = (j : Int) := ⟨i.toNat, by omega⟩
    obtain ⟨m, rfl⟩ : ∃ m : Nat, n = (m : Int) := ⟨n.toNat, by omega⟩
    refine ⟨proveF F (ls.take m) j true, .nilIface, true, .inl ⟨rfl, rfl⟩, proveF_32 HF.len _ _ j true rfl (by omega) (by rw [List.length_take]; omega) (fun x hx => hr.2.1 x (List.mem_of_mem_take hx)), fun u B g K hu => ?_, fun u hu => ?_⟩
    · exact (tbegins_any HF u hu (by omega) j m (by omega) (by omega) (by omega)).mono fun e w' ⟨A', c', h1, h2, h3⟩ => ⟨A', c', h1, h2, h3⟩
    · exact (rbegins_ok HF u A nl c ls (hr.below hu) hnc hcm (by omega) j m (by omega) (by omega) (by omega)).mono fun e w' ⟨A', c', h1, h2, h3⟩ => ⟨A', c', h1, h2, h3⟩
  · refine ⟨[], errV 2, false, .inr ⟨rfl, rfl⟩, fun x hx => by simp at hx, fun u B g K hu => ?_, fun u hu => ?_⟩
    · exact (tbegins_bad u hu i n (by omega)).mono fun e w' ⟨h1, h2⟩ => ⟨none, 0, h1, World.ownsRow_nil _ _ _ _, by rw [← h2]; exact Below.refl _ _⟩
    · exact (rbegins_bad u A nl c i n (by omega)).mono fun e w' ⟨h1, h2⟩ => ⟨none, 0, h1, World.ownsRow_nil _ _ _ _, by rw [← h2]; exact Below.refl _ _⟩
end
/-- The tree; the two rows that are written; the row that ought to come again. -/
structure ZZ (F : Dg → Dg) (B g : Nat) (ls : List Dg) (w : World) (Ap : Option Addr) (np : Nat) (Aq : Option Addr) (nq : Nat) (Aw : Option Addr) (ps : List Dg) (u : World) : Prop where
  ts : TS F B g ls (blk Aq ++ blk Ap) u
  below : Below w.heap.size w u
  wp : Wr Ap np u
  wq : Wr Aq nq u
  rs : RS u Aw ps.length ps
  far : ∀ b ∈ blk Aq ++ blk Ap, w.heap.size ≤ b ∧ b ∉ blk Aw
theorem ZZ.stable {F : Dg → Dg} {B g : Nat} {ls : List Dg} {w u u' : World} {Ap Aq Aw : Option Addr} {np nq : Nat} {ps : List Dg} (h : ZZ F B g ls w Ap np Aq nq Aw ps u) (hb : Below u.heap.size u u') : ZZ F B g ls w Ap np Aq nq Aw ps u' :=
  ⟨h.ts.stable hb, h.below.trans (hb.mono h.below.size), h.wp.stable hb, h.wq.stable hb, h.rs.below hb, h.far⟩
theorem ZZ.set {F : Dg → Dg} {B g : Nat} {ls : List Dg} {w u : World} {Ap Aq Aw : Option Addr} {np nq : Nat} {ps : List Dg} (h : ZZ F B g ls w Ap np Aq nq Aw ps u) {b o : Nat} {vs : List Value} (hb : b ∈ blk Aq ++ blk Ap) : ZZ F B g ls w Ap np Aq nq Aw ps (u.setCells b o vs) := by
  have hg : u.grownBy (u.setCells b o vs) (some b) := grownBy_setCells u b _ _ u (grownBy_refl u _)
  exact ⟨h.ts.put hb hg, h.below.grown hg h.below.size (by intro k hk; cases hk; exact (h.far b hb).1), h.wp.set _ _ _, h.wq.set _ _ _, h.rs.grownBy hg (h.far b hb).2, h.far⟩
theorem own_far {u : World} {B : Nat} {e : TypeId} {s n c : Nat} {A : Option Addr} {xs : List Value} (h : u.ownsRow B e s (.slice A n c) n xs) : ∀ b ∈ blk A, B ≤ b ∧ b < u.heap.size := fun b hb => by
  cases A with
  | none => simp [blk] at hb
  | some a =>
    simp [blk] at hb
    subst hb
    exact h.lt a.block rfl
theorem rs_own {u : World} {B : Nat} {A : Option Addr} {n c : Nat} {ls : List Dg} (h : u.ownsRow B 26 32 (.slice A n c) n (ls.flatten.map B8)) (h32 : ∀ x ∈ ls, x.length = 32) : n ≤ maxLen ∧ (ls.length = n → RS u A n ls) := ⟨(by
  obtain ⟨A0, c0, e0, h1, h2, -⟩ := own_formK h
  cases e0
  omega), fun hl => by
  obtain ⟨A', n', c', e', -, -, hr⟩ := SS.of_own h h32 hl
  cases e'
  exact hr⟩
set_option maxRecDepth 100000 in
set_option maxHeartbeats 16000000 in
theorem treeProofs_law (w : World) (v : Value) (ls : List Dg) (hv : SS w v ls) (i : Int) (_ : (Lit.int .i64 i).wf = true) (n : Int) (_ : (Lit.int .i64 n).wf = true) :
    Calls Try.prog 19 #[v, .int .i64 i, .int .i64 n] w fun e w' => e = .returned (.bool true) ∧ Below w.heap.size w w' := by
  obtain ⟨A, nl, c, rfl, hnc, hcm, hr⟩ := hv
  have hA := alive11_any dig
  have HA := Lib.hid hA
  by_cases hbig : 100 < nl
  · have db : decide ((100 : Int) < (nl : Int)) = true := decide_eq_true (by omega)
    have db' : decide (100 < nl) = true := decide_eq_true hbig
    clear hA hr
    go_enter Try.func19, Try.ntmps19
    go_wp2_with (go_at_call 42; refine (HA.out _).mono ?_; rintro e w1 ⟨rfl, hb1⟩)
    go_ret
    exact ⟨rfl, hb1⟩
  · have db : decide ((100 : Int) < (nl : Int)) = false := decide_eq_false (by omega)
    have db' : decide (100 < nl) = false := decide_eq_false hbig
    have hG := fun (u : World) (hu : Below w.heap.size w u) => grown_any dig u A nl c ls (hr.below hu) hnc (by omega)
    obtain ⟨ps, ev1, b1, hv1, hp32, hP, hRP⟩ := tpath_both dig w A nl c ls hr hnc hcm (by omega) i n
    obtain ⟨qs, ev2, b2, hv2, hq32, hQ, hRQ⟩ := tbegins_both dig w A nl c ls hr hnc hcm (by omega) i n
    have hRt := fun (u : World) (B g : Nat) (K : List Nat) (h : TS (digest32 K32 H32) B g ls K u) => troot_ok dig u h nl (by have := hr.len; omega) (by have := hr.len; omega)
    have hR9 := fun (u : World) (hu : Below w.heap.size w u) => refroot_any dig nl nl (Nat.le_refl _) u A c ls (hr.below hu) hnc hcm (by omega)
    rw [List.take_of_length_le (by have := hr.len; omega)] at hRt
    have hr32 : (rootF (digest32 K32 H32) ls).length = 32 := rootF_len dig.len _ _ rfl hr.2.1
    generalize digest32 K32 H32 = F at hG hP hQ hRt hR9 hr32
    obtain ⟨rt, hrt⟩ : ∃ rt, rt = rootF F ls := ⟨_, rfl⟩
    rw [← hrt] at hRt hR9 hr32
    unfold SumV at hRt hR9
    have HG := Lib.hid hG
    have HP0 := Lib.hid hP
    have HRP := Lib.hid hRP
    have HQ0 := Lib.hid hQ
    have HRQ := Lib.hid hRQ
    have HRt0 := Lib.hid hRt
    have HR9 := Lib.hid hR9
    have eg1 := enters_of Try.func40 (by kernel_rfl) rfl
    have eg2 := enters_of Try.func39 (by kernel_rfl) rfl
    have Hps := Lib.hid (And.intro hp32 hq32)
    clear hA hG hP hRP hQ hRQ hRt hR9 hr hp32 hq32 hrt
    go_enter Try.func19, Try.ntmps19
    go_wp2_with fail
    refine (HA.out w).mono ?_
    rintro e w1 ⟨rfl, hb1⟩
    go_wp2_with fail
    refine (HG.out w1 hb1).mono ?_
    rintro e w2 ⟨rfl, ht2⟩
    have H2 : Hid (TS F w1.heap.size (w1.heap.size + 1) ls [] w2 ∧ Below w.heap.size w w2) := Lib.hid ⟨ht2.1, hb1.trans (ht2.2.mono hb1.size)⟩
    have HP := Lib.hid (fun u (hu : TS F w1.heap.size (w1.heap.size + 1) ls [] u ∧ Below w.heap.size w u) => HP0.out u _ _ _ hu.1)
    have HPz := Lib.hid (fun u K hu => HP0.out u w1.heap.size (w1.heap.size + 1) K hu)
    have HQ := Lib.hid (fun u K hu => HQ0.out u w1.heap.size (w1.heap.size + 1) K hu)
    have HRt := Lib.hid (fun u K hu => HRt0.out u w1.heap.size (w1.heap.size + 1) K hu)
    clear ht2 hb1 HP0 HQ0 HRt0 HG
    go_wp2_with fail
    refine (HP.out w2 H2.out).mono ?_
    rintro e w3 ⟨Ap, cp, rfl, ho3, hb3⟩
    have H3 := Lib.hid (And.intro ho3 hb3)
    clear ho3 hb3
    go_wp2_with fail
    refine (HRP.out w3 (H2.out.2.trans (H3.out.2.mono H2.out.2.size))).mono ?_
    rintro e w4 ⟨Aw, cw, rfl, ho4, hb4⟩
    have H4 := Lib.hid (And.intro ho4 hb4)
    clear ho4 hb4
    have H24 : Hid (Below w2.heap.size w2 w4) := Lib.hid (H3.out.2.trans (H4.out.2.mono H3.out.2.size))
    have Ht4 : Hid (TS F w1.heap.size (w1.heap.size + 1) ls (blk Ap) w4) := Lib.hid (by have h := (H2.out.1.own H3.out.2 H3.out.1).stable H4.out.2; rwa [List.append_nil] at h)
    go_wp2_with fail
    refine (HQ.out w4 _ Ht4.out).mono ?_
    rintro e w5 ⟨Aq, cq, rfl, ho5, hb5⟩
    have H5 := Lib.hid (And.intro ho5 hb5)
    clear ho5 hb5
    have H25 : Hid (Below w2.heap.size w2 w5) := Lib.hid (H24.out.trans (H5.out.2.mono H24.out.size))
    go_wp2_with fail
    refine (HRQ.out w5 (H2.out.2.trans (H25.out.mono H2.out.2.size))).mono ?_
    rintro e w6 ⟨Ao, co, rfl, ho6, hb6⟩
    have H6 := Lib.hid (And.intro ho6 hb6)
    clear ho6 hb6
    have hsp := rs_own H3.out.1 Hps.out.1
    have hsw := rs_own H4.out.1 Hps.out.1
    have hsq := rs_own H5.out.1 Hps.out.2
    have hso := rs_own H6.out.1 Hps.out.2
    have hb36 : Below w3.heap.size w3 w6 := H4.out.2.trans ((H5.out.2.trans (H6.out.2.mono H5.out.2.size)).mono H4.out.2.size)
    have HZ6 : Hid (ZZ F w1.heap.size (w1.heap.size + 1) ls w Ap ps.length Aq qs.length Aw ps w6) := Lib.hid
      ⟨(Ht4.out.own H5.out.2 H5.out.1).stable H6.out.2, (H2.out.2.trans (H25.out.mono H2.out.2.size)).trans (H6.out.2.mono (by have := H2.out.2.size; have := H25.out.size; omega)), (Wr.of_own H3.out.1).stable hb36, (Wr.of_own H5.out.1).stable H6.out.2, ((hsw.2 rfl).below H5.out.2).below H6.out.2, fun b hb => by
        have hz2 := H2.out.2.size
        have hz3 := H3.out.2.size
        have hz4 := H4.out.2.size
        rcases List.mem_append.1 hb with hb | hb
        · have h1 := own_far H5.out.1 b hb
          exact ⟨by omega, fun h => by have := own_far H4.out.1 b h; omega⟩
        · have h1 := own_far H3.out.1 b hb
          exact ⟨by omega, fun h => by have := own_far H4.out.1 b h; omega⟩⟩
    have HSp : Hid (RS w6 Ap ps.length ps ∧ RS w6 Aw ps.length ps ∧ RS w6 Aq qs.length qs ∧ RS w6 Ao qs.length qs) := Lib.hid ⟨(hsp.2 rfl).below hb36, ((hsw.2 rfl).below H5.out.2).below H6.out.2, (hsq.2 rfl).below H6.out.2, hso.2 rfl⟩
    have hlp := hsp.1
    have hlq := hsq.1
    unfold maxLen at hlp hlq
    clear hsp hsw hsq hso hb36 Ht4 H24 H25 H3 H4 H5 H6
    obtain ⟨np, hnp⟩ : ∃ np, np = ps.length := ⟨_, rfl⟩
    obtain ⟨nq, hnq⟩ : ∃ nq, nq = qs.length := ⟨_, rfl⟩
    have Hnp := Lib.hid hnp
    have Hnq := Lib.hid hnq
    rw [← hnp] at HSp HZ6 hlp ⊢
    rw [← hnq] at HSp HZ6 hlq ⊢
    clear hnp hnq
    rcases hv1 with ⟨rfl, rfl⟩ | ⟨rfl, rfl⟩ <;> rcases hv2 with ⟨rfl, rfl⟩ | ⟨rfl, rfl⟩
    all_goals
      go_wp2_with fail
      refine (sums_any w6 Ap Aw np np cp cw ps ps HSp.out.1 HSp.out.2.1 (by unfold maxLen; omega)).mono ?_
      rintro e w7 ⟨rfl, hb7⟩
      rw [beq_self_eq_true]
      have HS7 := Lib.hid (And.intro (HSp.out.2.2.1.below hb7) (HSp.out.2.2.2.below hb7))
      have HZ7 := Lib.hid (HZ6.out.stable hb7)
      clear hb7
      go_wp2_with fail
      refine (sums_any w7 Aq Ao nq nq cq co qs qs HS7.out.1 HS7.out.2 (by unfold maxLen; omega)).mono ?_
      rintro e w8 ⟨rfl, hb8⟩
      rw [beq_self_eq_true]
      have HZ := Lib.hid (HZ7.out.stable hb8)
      clear hb8 HZ7 HS7 HSp HZ6
      go_wp2_with (go_at_call 46; refine (is_err _ _ _ (by decide)).mono ?_; rintro e w9 ⟨rfl, rfl⟩)
      go_loopw [101] (fun iv wr => ∃ k : Nat, k ≤ np ∧ iv = .int .i64 (k : Int) ∧ Hid (ZZ F w1.heap.size (w1.heap.size + 1) ls w Ap np Aq nq Aw ps wr)) (fun iv _ => np - (intOf iv).toNat)
      case atStart => exact ⟨0, by omega, rfl, HZ⟩
      case round =>
        obtain ⟨k, hk, rfl, hq⟩ := hrel
        by_cases hkl : k < np
        · have dl : decide (k < np) = true := decide_eq_true hkl
          have dl' : decide ((k : Int) < (np : Int)) = true := decide_eq_true (by omega)
          have kn : (k : Int) < (np : Int) := by omega
          obtain ⟨bw, hAw, htw⟩ := hq.out.wp (by omega)
          have HAw := Lib.hid hAw
          subst hAw
          have hth : wr.there bw (k * 32) (zero32.map B8).toArray.size := there_mid htw hkl
          have hset : Hid (∀ wn, wn = wr.setCells bw (k * 32) (zero32.map B8) → ZZ F w1.heap.size (w1.heap.size + 1) ls w (some ⟨bw, 0, none⟩) np Aq nq Aw ps wn) := Lib.hid fun wn h => by rw [h]; exact hq.out.set (by simp [blk])
          clear hq htw
          go_wp2_with ((with_reducible show wpList _ _ _ (⟨_, Op.store 26 (.tmp 107) _, _, _, _, _⟩ :: _) _ _); refine wpList_store_mid rfl _ _ _ rfl bw (k * 32) (zero32.map B8).toArray rfl rfl hth (by kernel_rfl) (b8_all zero32) ?_; rw [List.toList_toArray]; obtain ⟨wn, hwn⟩ : ∃ wn, wn = wr.setCells bw (k * 32) (zero32.map B8) := ⟨_, rfl⟩; have HN := Lib.hid (hset.out wn hwn); rw [← hwn]; clear hwn)
          go_roundw
          case rel => exact ⟨k + 1, by omega, by go_num, HN⟩
          case measure => simp [intOf]; omega
        · have dl : decide (k < np) = false := decide_eq_false hkl
          have dl' : decide ((k : Int) < (np : Int)) = false := decide_eq_false (by omega)
          have HZ := hq
          go_wp2_with fail
          go_loopw [111] (fun iv wr => ∃ k : Nat, k ≤ nq ∧ iv = .int .i64 (k : Int) ∧ Hid (ZZ F w1.heap.size (w1.heap.size + 1) ls w Ap np Aq nq Aw ps wr)) (fun iv _ => nq - (intOf iv).toNat)
          case atStart => exact ⟨0, by omega, rfl, HZ⟩
          case round =>
            obtain ⟨k, hk, rfl, hq⟩ := hrel
            by_cases hkl : k < nq
            · have dl : decide (k < nq) = true := decide_eq_true hkl
              have dl' : decide ((k : Int) < (nq : Int)) = true := decide_eq_true (by omega)
              have kn : (k : Int) < (nq : Int) := by omega
              obtain ⟨bw, hAw, htw⟩ := hq.out.wq (by omega)
              have HAw := Lib.hid hAw
              subst hAw
              have hth : wr.there bw (k * 32) (zero32.map B8).toArray.size := there_mid htw hkl
              have hset : Hid (∀ wn, wn = wr.setCells bw (k * 32) (zero32.map B8) → ZZ F w1.heap.size (w1.heap.size + 1) ls w Ap np (some ⟨bw, 0, none⟩) nq Aw ps wn) := Lib.hid fun wn h => by rw [h]; exact hq.out.set (by simp [blk])
              clear hq htw
              go_wp2_with ((with_reducible show wpList _ _ _ (⟨_, Op.store 26 (.tmp 117) _, _, _, _, _⟩ :: _) _ _); refine wpList_store_mid rfl _ _ _ rfl bw (k * 32) (zero32.map B8).toArray rfl rfl hth (by kernel_rfl) (b8_all zero32) ?_; rw [List.toList_toArray]; obtain ⟨wn, hwn⟩ : ∃ wn, wn = wr.setCells bw (k * 32) (zero32.map B8) := ⟨_, rfl⟩; have HN := Lib.hid (hset.out wn hwn); rw [← hwn]; clear hwn)
              go_roundw
              case rel => exact ⟨k + 1, by omega, by go_num, HN⟩
              case measure => simp [intOf]; omega
            · have dl : decide (k < nq) = false := decide_eq_false hkl
              have dl' : decide ((k : Int) < (nq : Int)) = false := decide_eq_false (by omega)
              have HZ := hq
              go_wp2_with fail
              refine (HPz.out wr _ HZ.out.ts).mono ?_
              rintro e w12 ⟨Ag, cg, rfl, ho12, hb12⟩
              have hsg := (rs_own ho12 Hps.out.1).2 rfl
              rw [← Hnp.out] at hsg ⊢
              have HZ12 := Lib.hid (And.intro (HZ.out.stable hb12) hsg)
              clear ho12 hb12 HZ hsg
              go_wp2_with fail
              refine (HRt.out w12 _ HZ12.out.1.ts).mono ?_
              rintro e w13 ⟨rfl, hb13⟩
              have HZ13 := Lib.hid (And.intro (HZ12.out.1.stable hb13) (HZ12.out.2.below hb13))
              have hirt := info_of rt hr32
              have hirt' := info_of' rt hr32
              clear hb13 HZ12
              go_wp2_with ((with_reducible show wpList _ _ _ (⟨_, Op.store 26 (.tmp 20) _, _, _, _, _⟩ :: _) _ _); refine wpList_store_row rfl _ _ _ rfl w13.heap.size 0 (rt.map B8).toArray rfl rfl (sz_there hr32 (there_blk (heap_alloc_at _ _ _ rfl) (by decide))) hirt' (b8_all rt) ?_; intro w14 hg5 hs5 ht5 hth5; rw [List.toList_toArray] at ht5; have hal : Below w13.heap.size w13 (w13.alloc (.cells (List.replicate 32 (.int .u8 0)).toArray 26)) := (Below.refl _ _).alloc (Nat.le_refl _) _; have hbt : Below w13.heap.size w13 w14 := hal.grown hg5 (by simp) (by intro k hk; cases hk; exact Nat.le_refl _); have H14 := Lib.hid (And.intro (HZ13.out.1.below.trans (hbt.mono HZ13.out.1.below.size)) (And.intro (HZ13.out.2.below hbt) (And.intro (HZ13.out.1.rs.below hbt) ht5))); clear hal hbt hg5 hs5 ht5 hth5; skip)
              clear HZ13
              obtain ⟨bx, hbx⟩ : ∃ bx, bx = w13.heap.size := ⟨_, rfl⟩
              rw [← hbx] at H14 ⊢
              clear hbx
              have hsd : Below w14.heap.size w14 w14.drew ∧ w14.drew.rangeAt bx 0 (rt.map B8) := ⟨below_drewN (Below.refl _ _) 1, rangeAt_below' H14.out.2.2.2 (below_drewN (Below.refl _ _) 1)⟩
              have HSm : Hid (∀ u, Below w14.heap.size w14 u → Calls Try.prog 40 #[.slice Ag np cg, .slice Aw np cw] u fun e w' => e = .returned (.bool true) ∧ Below u.heap.size u w') := Lib.hid fun u hu => by
                have h3 := H14.out.2.2.1.below hu
                have h2 := H14.out.2.1.below hu
                rw [← Hnp.out] at h3
                have h := sums_any u Ag Aw np np cg cw ps ps h2 h3 (by unfold maxLen; omega)
                rwa [beq_self_eq_true] at h
              have HRx : Hid (∀ u, Below w14.heap.size w14 u → Calls Try.prog 39 #[.slice A nl c] u fun e w' => e = .returned (.agg (rt.map B8).toArray) ∧ Below u.heap.size u w') := Lib.hid fun u hu => HR9.out u (H14.out.1.trans (hu.mono H14.out.1.size))
              have heql := fun w => run_eql_sum w rt rt hr32 hr32
              simp only [beq_self_eq_true] at heql
              refine wp_region_noPanic ?_
              refine wp_region_moves 10 (fun u => Below w14.heap.size w14 u ∧ u.rangeAt bx 0 (rt.map B8)) (fun u u' => Below u.heap.size u u') (fun u => Below.refl _ _) (fun h k => h.trans (k.mono h.size)) (by kernel_rfl) (by kernel_rfl) hsd (fun _ _ _ _ _ h => h) ?_
              simp only [List.take_succ_cons, List.take_zero, List.drop_succ_cons, List.drop_zero]
              refine wpMH_moveW (fun u => Below.refl _ _) (by rfl) _ rfl _ rfl ?_
              simp only [Act.put, List.setIfInBounds_toArray, List.set_cons_zero, List.set_cons_succ]
              refine wpMH_moveW (fun u => Below.refl _ _) (by rfl) _ rfl _ rfl ?_
              simp only [Act.put, List.setIfInBounds_toArray, List.set_cons_zero, List.set_cons_succ]
              refine wpMH_callW (by rfl) 40 _ _ rfl eg1 [.slice Ag np cg, .slice Aw np cw] rfl (.bool true) (fun u h => (HSm.out u h.1).mono fun e w' ⟨h1, h2⟩ => ⟨h1, ⟨h.1.trans (h2.mono h.1.size), rangeAt_below' h.2 h2⟩, h2⟩) ?_
              simp only [Act.put, List.setIfInBounds_toArray, List.set_cons_zero, List.set_cons_succ]
              refine wpMH_moveW (fun u => Below.refl _ _) (by rfl) _ rfl _ rfl ?_
              simp only [Act.put, List.setIfInBounds_toArray, List.set_cons_zero, List.set_cons_succ]
              refine wpMH_loadW (fun u => Below.refl _ _) (by rfl) _ _ rfl bx 0 rfl (rt.map B8) _ (fun u h => h.2) Try.underlying26 rfl hirt ?_
              simp only [Act.put, List.setIfInBounds_toArray, List.set_cons_zero, List.set_cons_succ]
              refine wpMH_moveW (fun u => Below.refl _ _) (by rfl) _ rfl _ rfl ?_
              simp only [Act.put, List.setIfInBounds_toArray, List.set_cons_zero, List.set_cons_succ]
              refine wpMH_callW (by rfl) 39 _ _ rfl eg2 [.slice A nl c] rfl (.agg (rt.map B8).toArray) (fun u h => (HRx.out u h.1).mono fun e w' ⟨h1, h2⟩ => ⟨h1, ⟨h.1.trans (h2.mono h.1.size), rangeAt_below' h.2 h2⟩, h2⟩) ?_
              simp only [Act.put, List.setIfInBounds_toArray, List.set_cons_zero, List.set_cons_succ]
              refine wpMH_pureW (fun u => Below.refl _ _) (by rfl) (.bool true) (fun u hu => by have hq := heql u; go_simp) ?_
              simp only [Act.put, List.setIfInBounds_toArray, List.set_cons_zero, List.set_cons_succ]
              refine wpMH_pureW (fun u => Below.refl _ _) (by rfl) (.bool true) (fun u hu => by rfl) ?_
              simp only [Act.put, List.setIfInBounds_toArray, List.set_cons_zero, List.set_cons_succ]
              refine wpMH_pureW (fun u => Below.refl _ _) (by rfl) (.bool true) (fun u hu => by rfl) ?_
              simp only [Act.put, List.setIfInBounds_toArray, List.set_cons_zero, List.set_cons_succ]
              refine wpMH_nil ?_
              refine wpMT_nil ?_
              intro u1 hu1 hM1
              refine NoPanic.normal ?_
              go_wp2_with fail
              go_ret
              exact ⟨rfl, H14.out.1.trans (hu1.1.mono H14.out.1.size)⟩
end Go.Proofs.Ytkcmacglomdfcaa
