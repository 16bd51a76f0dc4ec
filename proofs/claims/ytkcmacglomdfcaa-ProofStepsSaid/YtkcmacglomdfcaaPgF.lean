/-
  THE WALK of the law ProofSteps.
-/
import Derived.Test.YtkcmacglomdfcaaPgE
import Derived.Deep.QuietTactic
import Derived.Laws.Shifts
import Derived.BigQuiet
namespace Go.Proofs.Ytkcmacglomdfcaa
open Go.RowKit

theorem u64_mod (a : Int) (n : Nat) (h : 0 < n) : ∃ k : Nat, (IntKind.u64.wrap a).tmod (n : Int) = (k : Int) ∧ k < n := by
  have h0 : 0 ≤ IntKind.u64.wrap a := wrap_u64_nonneg a
  rw [Int.tmod_eq_emod_of_nonneg h0]
  have h3 := Int.emod_nonneg (IntKind.u64.wrap a) (b := (n : Int)) (by omega)
  have h4 := Int.emod_lt_of_pos (IntKind.u64.wrap a) (b := (n : Int)) (by omega)
  exact ⟨(IntKind.u64.wrap a % (n : Int)).toNat, by omega, by omega⟩
/-- In ProofSteps: the row in its variable. -/
structure StF (w : World) (V : Value) (u : World) : Prop where
  below : Below w.heap.size w u
  cell : u.cell? ⟨w.heap.size, 0, none⟩ = some V
  sz : w.heap.size < u.heap.size
theorem StF.stable {w u u' : World} {V : Value} (h : StF w V u) (hb : Below u.heap.size u u') : StF w V u' :=
  ⟨h.below.trans (hb.mono h.below.size), by rw [World.cell?_of_block (w := u) (a := ⟨w.heap.size, 0, none⟩) (hb.block _ h.sz)]; exact h.cell, Nat.lt_of_lt_of_le h.sz hb.size⟩
theorem st_box (w : World) (V : Value) (t : TypeId) : StF w V (w.alloc (.cells #[V] t)) := ⟨(Below.refl _ _).alloc (Nat.le_refl _) _, by rw [cell_of_row _ _ _ _ _ _ (heap_alloc_new w (.cells #[V] t))]; rfl, by simp⟩
section
variable {F : List UInt8 → List UInt8} (HF : Dig F)
include HF
set_option maxRecDepth 100000 in
set_option maxHeartbeats 1000000 in
theorem steps1_any (u : World) (g0 g o n c k : Nat) (ls : List Dg) (hc : u.cell? ⟨g0, 0, none⟩ = some (.slice (some ⟨g, o, none⟩) n c)) (hr : RS u (some ⟨g, o, none⟩) n ls) (hk : k ≤ n) (hnc : n ≤ c) (hcm : c ≤ maxLen) (hn : n ≤ 1000000) :
    Calls Try.prog 74 #[.int .i64 (k : Int), .pointer (some ⟨g0, 0, none⟩)] u fun e w' => e = .returned (.agg ((rootF F (ls.take k)).map B8).toArray) ∧ Below u.heap.size u w' := by
  obtain ⟨d, hd⟩ : ∃ d, d = rootF F (ls.take k) := ⟨_, rfl⟩
  have hd32 : d.length = 32 := by rw [hd]; exact rootF_len HF.len _ _ rfl (fun x hx => hr.2.1 x (List.mem_of_mem_take hx))
  rw [← hd]
  have HR : Hid (∀ W, Below u.heap.size u W → Calls Try.prog 39 #[.slice (some ⟨g, o, none⟩) k c] W fun e w' => e = .returned (.agg (d.map B8).toArray) ∧ Below W.heap.size W w') := Lib.hid fun W hW => by
    have h := refroot_any HF k k (Nat.le_refl _) W (some ⟨g, o, none⟩) c (ls.take k) ((hr.below hW).take hk) (by omega) hcm (by omega)
    rw [← hd] at h
    exact h
  have hX : Hid (∀ (z : Array Value) W, W = u.alloc (.cells z 26) → z.size = 32 → Below u.heap.size u W ∧ W.there u.heap.size 0 32 ∧ u.heap.size < W.heap.size ∧ W.cell? ⟨g0, 0, none⟩ = some (.slice (some ⟨g, o, none⟩) n c)) := Lib.hid (by
    rintro z W rfl hz
    have hb : Below u.heap.size u (u.alloc (.cells z 26)) := (Below.refl _ _).alloc (Nat.le_refl _) _
    exact ⟨hb, there_new' _ _ _ hz, by simp, by rw [World.cell?_of_block (w := u) (a := ⟨g0, 0, none⟩) (hb.block _ (World.block_lt_of_cell? u _ hc))]; exact hc⟩)
  have hi := info_of d hd32
  have hi' := info_of' d hd32
  have q1 : (0 : Int) ≤ (k : Int) := by omega
  have q3 : (k : Int) ≤ (c : Int) := by omega
  have q2 : (k : Int) ≤ (n : Int) := by omega
  have H32 := Lib.hid hd32
  clear hd hd32 hr hc
  go_enter Try.func74, Try.ntmps74
  go_wp2_with ((with_reducible show wpList _ _ _ (⟨_, Op.load 42 (.tmp 1), _, _, _, _⟩ :: _) _ _); obtain ⟨W, hW⟩ : ∃ W, W = u.alloc (.cells #[.int .u8 0, .int .u8 0, .int .u8 0, .int .u8 0, .int .u8 0, .int .u8 0, .int .u8 0, .int .u8 0, .int .u8 0, .int .u8 0, .int .u8 0, .int .u8 0, .int .u8 0, .int .u8 0, .int .u8 0, .int .u8 0, .int .u8 0, .int .u8 0, .int .u8 0, .int .u8 0, .int .u8 0, .int .u8 0, .int .u8 0, .int .u8 0, .int .u8 0, .int .u8 0, .int .u8 0, .int .u8 0, .int .u8 0, .int .u8 0, .int .u8 0, .int .u8 0] 26) := ⟨_, rfl⟩; have hx := hX.out _ W hW rfl; have hcell := hx.2.2.2; have Hx := Lib.hid hx; rw [← hW]; clear hW hx)
  refine (HR.out _ Hx.out.1).mono ?_
  rintro e w2 ⟨rfl, hb2⟩
  have hth : w2.there u.heap.size 0 (d.map B8).toArray.size := sz_there H32.out (there_same Hx.out.2.1 (hb2.block _ Hx.out.2.2.1))
  have H2 := Lib.hid (Hx.out.1.trans (hb2.mono Hx.out.1.size))
  clear hcell hb2
  go_wp2_with ((with_reducible show wpList _ _ _ (⟨_, Op.store 26 _ _, _, _, _, _⟩ :: _) _ _); refine wpList_store_row rfl _ _ _ rfl u.heap.size 0 (d.map B8).toArray rfl rfl hth hi' (b8_all d) ?_; intro w3 hg3 hs3 ht3 hth3; rw [List.toList_toArray] at ht3)
  refine bodyPost_ret (v := .agg (d.map B8).toArray) ?_ rfl ⟨rfl, H2.out.grown hg3 H2.out.size (by intro k hk; cases hk; exact Nat.le_refl _)⟩
  exact results_cell (s := 3) rfl _ _ _ u.heap.size 0 rfl (d.map B8) _ ht3 Try.underlying26 rfl hi
end
set_option maxRecDepth 100000 in
set_option maxHeartbeats 4000000 in
theorem proofSteps_law (w : World) (v : Value) (ls : List Dg) (hv : SS w v ls) (a : Int) (_ha : (Lit.int .i64 a).wf = true) (b : Int) (_hb : (Lit.int .i64 b).wf = true) : Calls Try.prog 22 #[v, .int .i64 a, .int .i64 b] w fun e w' => e = .returned (.bool true) ∧ Below w.heap.size w w' := by
  obtain ⟨A, n, c, rfl, hnc, hcm, hr⟩ := hv
  have hcm' := hcm
  unfold maxLen at hcm
  have hA := alive10_any
  have HA := Lib.hid hA
  clear hA
  have hlen := hr.len
  have hl32 := hr.2.1
  by_cases h1 : n < 1
  · have d1 : decide ((n : Int) < 1) = true := decide_eq_true (by omega)
    clear hr hlen hl32
    go_enter Try.func22, Try.ntmps22
    go_wp2_with fail
    refine (HA.out _).mono ?_
    rintro e w1 ⟨rfl, hb1⟩
    have h1 := (st_box w (.slice A n c) 42).stable hb1
    have c1 := h1.cell
    clear hb1
    go_wp2_with fail
    go_ret
    exact ⟨rfl, h1.below⟩
  · have d1 : decide ((n : Int) < 1) = false := decide_eq_false (by omega)
    by_cases h60 : 60 < n
    · have d2 : decide ((60 : Int) < (n : Int)) = true := decide_eq_true (by omega)
      clear hr hlen hl32
      go_enter Try.func22, Try.ntmps22
      go_wp2_with fail
      refine (HA.out _).mono ?_
      rintro e w1 ⟨rfl, hb1⟩
      have h1 := (st_box w (.slice A n c) 42).stable hb1
      have c1 := h1.cell
      clear hb1
      go_wp2_with fail
      go_ret
      exact ⟨rfl, h1.below⟩
    · have d2 : decide ((60 : Int) < (n : Int)) = false := decide_eq_false (by omega)
      have dn0 : ((n : Int) == 0) = false := by rw [beq_eq_false_iff_ne]; omega
      obtain ⟨ka, hka, hkan⟩ := u64_mod a n (by omega)
      obtain ⟨kb, hkb, hkbn⟩ := u64_mod b n (by omega)
      obtain ⟨p, hp⟩ : ∃ p : Nat, p = 1 + min ka kb := ⟨_, rfl⟩
      obtain ⟨q, hq⟩ : ∃ q : Nat, q = 1 + max ka kb := ⟨_, rfl⟩
      have e1 : 1 + min (ka : Int) (kb : Int) = (p : Int) := by omega
      have e2 : 1 + max (ka : Int) (kb : Int) = (q : Int) := by omega
      have hp1 : 1 ≤ p := by omega
      have hpq : p ≤ q := by omega
      have hqn : q ≤ n := by omega
      clear hp hq
      obtain ⟨g, o, hAb, -⟩ := hr.2.2 (by omega)
      subst hAb
      have q1 : (0 : Int) ≤ (q : Int) := by omega
      have q2 : (q : Int) ≤ (n : Int) := by omega
      have q3 : (q : Int) ≤ (c : Int) := by omega
      have hlq : (ls.take q).length = q := by rw [List.length_take, hlen]; omega
      have hlp : (ls.take p).length = p := by rw [List.length_take, hlen]; omega
      have hq32 : ∀ x ∈ ls.take q, x.length = 32 := fun x hx => hl32 x (List.mem_of_mem_take hx)
      have htt : (ls.take q).take p = ls.take p := by rw [List.take_take, Nat.min_eq_left hpq]
      have hB := begins_any dig
      have hP := path_any dig
      have hRR := refroot_any dig
      have hEx := extends_yes dig
      have hCl := steps1_any dig
      have hBB := begins_both (F := digest32 K32 H32)
      have hvl := proveF_len (F := digest32 K32 H32)
      have hpl := pathF_len (F := digest32 K32 H32)
      have hr32 := rootF_len dig.len
      generalize digest32 K32 H32 = F at hB hP hRR hEx hCl hBB hvl hpl hr32
      obtain ⟨P1, hP1⟩ : ∃ P, P = proveF F (ls.take q) p true := ⟨_, rfl⟩
      obtain ⟨P2, hP2⟩ : ∃ P, P = proveF F ls q true := ⟨_, rfl⟩
      obtain ⟨P3, hP3⟩ : ∃ P, P = proveF F ls p true := ⟨_, rfl⟩
      obtain ⟨m1, hm1⟩ : ∃ m, m = P1.length := ⟨_, rfl⟩
      obtain ⟨m2, hm2⟩ : ∃ m, m = P2.length := ⟨_, rfl⟩
      obtain ⟨m3, hm3⟩ : ∃ m, m = P3.length := ⟨_, rfl⟩
      obtain ⟨X, hX⟩ : ∃ X, X = pathF F (ls.take q) (p - 1) := ⟨_, rfl⟩
      obtain ⟨mx, hmx⟩ : ∃ m, m = X.length := ⟨_, rfl⟩
      have hmt : mx = (turns (p - 1) q).length := by rw [hmx, hX]; exact hpl q _ (p - 1) hlq
      have hmx6 : mx ≤ 6 := by rw [hmt]; exact turns_log 6 q (p - 1) (by omega)
      have n1 : m1 = needsF p q true := by rw [hm1, hP1]; exact hvl q _ p true hlq hp1 hpq
      have n2 : m2 = needsF q n true := by rw [hm2, hP2]; exact hvl n _ q true hlen (by omega) hqn
      have n3 : m3 = needsF p n true := by rw [hm3, hP3]; exact hvl n _ p true hlen hp1 (by omega)
      obtain ⟨Rp, hRp⟩ : ∃ R, R = rootF F (ls.take p) := ⟨_, rfl⟩
      obtain ⟨Rq, hRq⟩ : ∃ R, R = rootF F (ls.take q) := ⟨_, rfl⟩
      obtain ⟨Rn, hRn⟩ : ∃ R, R = rootF F ls := ⟨_, rfl⟩
      have rp32 : Rp.length = 32 := by rw [hRp]; exact hr32 p _ hlp (fun x hx => hl32 x (List.mem_of_mem_take hx))
      have rq32 : Rq.length = 32 := by rw [hRq]; exact hr32 q _ hlq hq32
      have rn32 : Rn.length = 32 := by rw [hRn]; exact hr32 n _ hlen hl32
      have b1 : bothF F p q true Rp P1 = (Rp, Rq) := by rw [hP1, hRp, hRq, ← htt]; exact hBB q _ p true _ hlq hp1 hpq (fun _ => rfl)
      have b2 : bothF F q n true Rq P2 = (Rq, Rn) := by rw [hP2, hRq, hRn]; exact hBB n _ q true _ hlen (by omega) hqn (fun _ => rfl)
      have b3 : bothF F p n true Rp P3 = (Rp, Rn) := by rw [hP3, hRp, hRn]; exact hBB n _ p true _ hlen hp1 (by omega) (fun _ => rfl)
      have hSt : ∀ {u u' : World}, StF w (.slice (some ⟨g, o, none⟩) n c) u → Below u.heap.size u u' → StF w (.slice (some ⟨g, o, none⟩) n c) u' := fun h k => h.stable k
      have post : ∀ {u : World} {m : Nat} {P : List Dg} {e : Ending} {w' : World}, m = P.length → PathPost u P e w' → ∃ A c, e = .returned (.tuple #[.slice A m c, .nilIface]) ∧ m ≤ c ∧ RS w' A m P ∧ Below u.heap.size u w' := fun hm h => by
        subst hm
        exact h
      have HB1 : Hid (∀ u, StF w (.slice (some ⟨g, o, none⟩) n c) u → Calls Try.prog 72 #[.slice (some ⟨g, o, none⟩) q c, .int .i64 (p : Int)] u fun e w' => ∃ A c, e = .returned (.tuple #[.slice A m1 c, .nilIface]) ∧ m1 ≤ c ∧ RS w' A m1 P1 ∧ Below u.heap.size u w') := Lib.hid fun u hu =>
        (hB u (some ⟨g, o, none⟩) q c (ls.take q) ((hr.below hu.below).take hqn) (by omega) hcm' (by omega) p hp1 hpq).mono fun e w' h => post hm1 (by rw [hP1]; exact h)
      have HB2 : Hid (∀ u, StF w (.slice (some ⟨g, o, none⟩) n c) u → Calls Try.prog 72 #[.slice (some ⟨g, o, none⟩) n c, .int .i64 (q : Int)] u fun e w' => ∃ A c, e = .returned (.tuple #[.slice A m2 c, .nilIface]) ∧ m2 ≤ c ∧ RS w' A m2 P2 ∧ Below u.heap.size u w') := Lib.hid fun u hu =>
        (hB u (some ⟨g, o, none⟩) n c ls (hr.below hu.below) hnc hcm' (by omega) q (by omega) hqn).mono fun e w' h => post hm2 (by rw [hP2]; exact h)
      have HB3 : Hid (∀ u, StF w (.slice (some ⟨g, o, none⟩) n c) u → Calls Try.prog 72 #[.slice (some ⟨g, o, none⟩) n c, .int .i64 (p : Int)] u fun e w' => ∃ A c, e = .returned (.tuple #[.slice A m3 c, .nilIface]) ∧ m3 ≤ c ∧ RS w' A m3 P3 ∧ Below u.heap.size u w') := Lib.hid fun u hu =>
        (hB u (some ⟨g, o, none⟩) n c ls (hr.below hu.below) hnc hcm' (by omega) p hp1 (by omega)).mono fun e w' h => post hm3 (by rw [hP3]; exact h)
      have ep : (p : Int) - 1 = ((p - 1 : Nat) : Int) := by omega
      obtain ⟨p1, hp1e⟩ : ∃ p1, p1 = p - 1 := ⟨_, rfl⟩
      rw [← hp1e] at ep hX hmt
      have HPx : Hid (∀ u, StF w (.slice (some ⟨g, o, none⟩) n c) u → Calls Try.prog 59 #[.slice (some ⟨g, o, none⟩) q c, .int .i64 (p1 : Int)] u fun e w' => ∃ A c, e = .returned (.tuple #[.slice A mx c, .nilIface]) ∧ mx ≤ c ∧ RS w' A mx X ∧ Below u.heap.size u w') := Lib.hid fun u hu =>
        (hP u (some ⟨g, o, none⟩) q c (ls.take q) ((hr.below hu.below).take hqn) (by omega) hcm' (by omega) p1 (by omega)).mono fun e w' h => post hmx (by rw [hX]; exact h)
      have HLe : Hid (∀ u, Calls Try.prog 63 #[.int .i64 (p1 : Int), .int .i64 (q : Int)] u fun e w' => e = .returned (.int .i64 (mx : Int)) ∧ Below u.heap.size u w') := Lib.hid fun u => by
        have h := length_yes u p1 q (by omega) (by omega)
        rw [← hmt] at h
        exact h
      have HE1 : Hid (∀ u A4 c4, RS u A4 m1 P1 → m1 ≤ c4 → Calls Try.prog 66 #[.int .i64 (p : Int), .int .i64 (q : Int), .agg (Rp.map B8).toArray, .agg (Rq.map B8).toArray, .slice A4 m1 c4] u fun e w' => e = .returned (.bool true) ∧ Below u.heap.size u w') := Lib.hid fun u A4 c4 h1 h2 => by
        have h := hEx u p q hp1 hpq (by omega) Rp Rq rp32 rq32 A4 m1 c4 P1 h1 h2 n1
        rw [b1] at h
        simp only [beq_self_eq_true, Bool.and_self] at h
        exact h
      have HE2 : Hid (∀ u A4 c4, RS u A4 m2 P2 → m2 ≤ c4 → Calls Try.prog 66 #[.int .i64 (q : Int), .int .i64 (n : Int), .agg (Rq.map B8).toArray, .agg (Rn.map B8).toArray, .slice A4 m2 c4] u fun e w' => e = .returned (.bool true) ∧ Below u.heap.size u w') := Lib.hid fun u A4 c4 h1 h2 => by
        have h := hEx u q n (by omega) hqn (by omega) Rq Rn rq32 rn32 A4 m2 c4 P2 h1 h2 n2
        rw [b2] at h
        simp only [beq_self_eq_true, Bool.and_self] at h
        exact h
      have HE3 : Hid (∀ u A4 c4, RS u A4 m3 P3 → m3 ≤ c4 → Calls Try.prog 66 #[.int .i64 (p : Int), .int .i64 (n : Int), .agg (Rp.map B8).toArray, .agg (Rn.map B8).toArray, .slice A4 m3 c4] u fun e w' => e = .returned (.bool true) ∧ Below u.heap.size u w') := Lib.hid fun u A4 c4 h1 h2 => by
        have h := hEx u p n hp1 (by omega) (by omega) Rp Rn rp32 rn32 A4 m3 c4 P3 h1 h2 n3
        rw [b3] at h
        simp only [beq_self_eq_true, Bool.and_self] at h
        exact h
      have hCk : ∀ (k : Nat) (R : Dg), k ≤ n → R = rootF F (ls.take k) → ∀ u, StF w (.slice (some ⟨g, o, none⟩) n c) u → Calls Try.prog 74 #[.int .i64 (k : Int), .pointer (some ⟨w.heap.size, 0, none⟩)] u fun e w' => e = .returned (.agg (R.map B8).toArray) ∧ Below u.heap.size u w' := fun k R hk hR u hu => by
        rw [hR]
        exact hCl u w.heap.size g o n c k ls hu.cell (hr.below hu.below) hk hnc hcm' (by omega)
      have HCp := Lib.hid (hCk p Rp (by omega) hRp)
      have HCq := Lib.hid (hCk q Rq hqn hRq)
      have HCn := Lib.hid (hCk n Rn (Nat.le_refl _) (by rw [hRn, List.take_of_length_le (by omega)]))
      have l20 : decide ((mx : Int) ≤ 20) = true := decide_eq_true (by omega)
      have lmx : ((mx : Int) == (mx : Int)) = true := by simp
      have lp1 : (1 : Int) ≤ (p : Int) := by omega
      clear hCk hB hP hRR hEx hCl hBB hvl hpl hr32 hP1 hP2 hP3 hm1 hm2 hm3 hX hmx hmt n1 n2 n3 hRp hRq hRn rp32 rq32 rn32 b1 b2 b3 hlq hlp hq32 htt hlen hl32 hp1e post hr
      go_enter Try.func22, Try.ntmps22
      go_wp2_with fail
      refine (HA.out _).mono ?_
      rintro e w1 ⟨rfl, hb1⟩
      have h1 := (st_box w (.slice (some ⟨g, o, none⟩) n c) 42).stable hb1
      have c1 := h1.cell
      clear hb1
      go_wp2_with fail
      go_quiet (fail)
      go_wp2_with fail
      have h2 := h1.stable (below_drewN (Below.refl _ w1) nq)
      refine (HB1.out _ h2).mono ?_
      rintro e w3 ⟨A3, c3, rfl, hc3, hr3, hb3⟩
      have h3 := h2.stable hb3
      have k3 := h3.cell
      clear h1 c1 h2 hb3
      go_wp2_with fail
      refine (HB2.out _ h3).mono ?_
      rintro e w4 ⟨A4, c4, rfl, hc4, hr4, hb4⟩
      have h4 := h3.stable hb4
      have k4 := h4.cell
      have r34 := hr3.below hb4
      clear h3 k3 hr3 hb4
      go_wp2_with fail
      refine (HB3.out _ h4).mono ?_
      rintro e w5 ⟨A5, c5, rfl, hc5, hr5, hb5⟩
      have h5 := h4.stable hb5
      have k5 := h5.cell
      have r35 := r34.below hb5
      have r45 := hr4.below hb5
      clear h4 k4 r34 hr4 hb5
      go_wp2_with fail
      refine (HPx.out _ h5).mono ?_
      rintro e w6 ⟨A6, c6, rfl, hc6, hr6, hb6⟩
      have h6 := h5.stable hb6
      have k6 := h6.cell
      have r36 := r35.below hb6
      have r46 := r45.below hb6
      have r56 := hr5.below hb6
      clear h5 k5 r35 r45 hr5 hb6 hr6
      go_wp2_with fail
      refine (HLe.out _).mono ?_
      rintro e w7 ⟨rfl, hb7⟩
      have h7 := h6.stable hb7
      have k7 := h7.cell
      have r37 := r36.below hb7
      have r47 := r46.below hb7
      have r57 := r56.below hb7
      clear h6 k6 r36 r46 r56 hb7
      go_wp2_with fail
      refine (HCp.out _ h7).mono ?_
      rintro e w8 ⟨rfl, hb8⟩
      have h8 := h7.stable hb8
      have k8 := h8.cell
      have r38 := r37.below hb8
      have r48 := r47.below hb8
      have r58 := r57.below hb8
      clear h7 k7 hb8 r37 r47 r57
      go_wp2_with fail
      refine (HCq.out _ h8).mono ?_
      rintro e w9 ⟨rfl, hb9⟩
      have h9 := h8.stable hb9
      have k9 := h9.cell
      have r39 := r38.below hb9
      have r49 := r48.below hb9
      have r59 := r58.below hb9
      clear h8 k8 hb9 r38 r48 r58
      go_wp2_with fail
      refine (HE1.out _ _ _ r39 hc3).mono ?_
      rintro e w10 ⟨rfl, hb10⟩
      have h10 := h9.stable hb10
      have k10 := h10.cell
      have r310 := r39.below hb10
      have r410 := r49.below hb10
      have r510 := r59.below hb10
      clear h9 k9 hb10 r39 r49 r59
      go_wp2_with fail
      refine (HCq.out _ h10).mono ?_
      rintro e w11 ⟨rfl, hb11⟩
      have h11 := h10.stable hb11
      have k11 := h11.cell
      have r311 := r310.below hb11
      have r411 := r410.below hb11
      have r511 := r510.below hb11
      clear h10 k10 hb11 r310 r410 r510
      go_wp2_with fail
      refine (HCn.out _ h11).mono ?_
      rintro e w12 ⟨rfl, hb12⟩
      have h12 := h11.stable hb12
      have k12 := h12.cell
      have r312 := r311.below hb12
      have r412 := r411.below hb12
      have r512 := r511.below hb12
      clear h11 k11 hb12 r311 r411 r511
      go_wp2_with fail
      refine (HE2.out _ _ _ r412 hc4).mono ?_
      rintro e w13 ⟨rfl, hb13⟩
      have h13 := h12.stable hb13
      have k13 := h13.cell
      have r313 := r312.below hb13
      have r413 := r412.below hb13
      have r513 := r512.below hb13
      clear h12 k12 hb13 r312 r412 r512
      go_wp2_with fail
      refine (HCp.out _ h13).mono ?_
      rintro e w14 ⟨rfl, hb14⟩
      have h14 := h13.stable hb14
      have k14 := h14.cell
      have r314 := r313.below hb14
      have r414 := r413.below hb14
      have r514 := r513.below hb14
      clear h13 k13 hb14 r313 r413 r513
      go_wp2_with fail
      refine (HCn.out _ h14).mono ?_
      rintro e w15 ⟨rfl, hb15⟩
      have h15 := h14.stable hb15
      have k15 := h15.cell
      have r315 := r314.below hb15
      have r415 := r414.below hb15
      have r515 := r514.below hb15
      clear h14 k14 hb15 r314 r414 r514
      go_wp2_with fail
      refine (HE3.out _ _ _ r515 hc5).mono ?_
      rintro e w16 ⟨rfl, hb16⟩
      have h16 := h15.stable hb16
      have k16 := h16.cell
      have r316 := r315.below hb16
      have r416 := r415.below hb16
      have r516 := r515.below hb16
      clear h15 k15 hb16 r315 r415 r515
      go_wp2_with fail
      go_ret
      exact ⟨rfl, h16.below⟩
end Go.Proofs.Ytkcmacglomdfcaa
