/-
  THE WALK of the law FramePuts.
-/
import Derived.Test.YtdmiiageihbokaaFrE
import Derived.Test.YtdmiiageihbokaaApart
import Derived.Test.YtdmiiageihbokaaSame
import Derived.Test.YtdmiiageihbokaaErr
import Derived.Test.YtdmiiageihbokaaOpen
namespace Go.Proofs.Ytdmiiageihbokaa
open Go.RowKit Go.ChangeShapes Go.WideShapes Go.ChangeAt

theorem own_ne {g b n c : Nat} (h : g < b) : Value.ownBlock (.slice (some ⟨g, 0, none⟩) n c) ≠ some b := fun e => by
  have e' : g = b := by simpa [Value.ownBlock] using e
  omega
/-- A copy, as a row of the call's own. -/
theorem copy_own {w w' : World} {g n : Nat} {bs : List UInt8} (h : w'.heap[g]? = some (.cells (bs.map B8 ++ [B8 165, B8 90]).toArray 5 (0, 0))) (hn : bs.length = n) (hm : n ≤ 140737488351232) (hg : w.heap.size ≤ g) :
    w'.ownsRow w.heap.size 5 1 (.slice (some ⟨g, 0, none⟩) n (n + 2)) n (bs.map B8) := by
  refine ⟨by simp [hn], .inr ⟨g, n + 2, _, rfl, hg, h, by omega, by unfold maxLen; omega, by simp [hn], ?_⟩⟩
  rw [List.take_append_of_le_length (by simp [hn]), List.take_of_length_le (by simp [hn])]

/-- Apart, of two rows. -/
theorem apart_two (w W : World) (hW : Below W.heap.size W w) (b : Nat) (hb : W.heap.size ≤ b) (hbw : b < w.heap.size) (u v : Value) (n m : Nat) (xs ys : List UInt8) (hr : RV w (some ⟨b, 0, none⟩) 2 [u, v])
    (hu : w.ownsRow W.heap.size 5 1 u n (xs.map B8)) (hv : w.ownsRow W.heap.size 5 1 v m (ys.map B8)) (hn : n ≤ 140737488351232) (hm : m ≤ 140737488351232)
    (h1 : u.ownBlock ≠ some b) (h2 : v.ownBlock ≠ some b) (h3 : ∀ g, u.ownBlock = some g → v.ownBlock ≠ some g) :
    Calls Try.prog 28 #[.slice (some ⟨b, 0, none⟩) 2 2] w fun e w' => e = .returned (.bool true) ∧ Below W.heap.size W w' := by
  refine apart_any w W hW _ 2 2 (Nat.le_refl _) (by decide) (by decide) [u, v] (fun i => if i = 0 then n else m) (fun i => if i = 0 then xs else ys) (fun x => if x = b then 0 else if some x = u.ownBlock then 2 else 3) hr ⟨?_, ?_⟩ ?_ ?_
  · intro i x hi
    match i, hi with
    | 0, hi => cases hi; exact hu
    | 1, hi => cases hi; exact hv
  · intro i x g hi hg
    match i, hi with
    | 0, hi =>
      cases hi
      rw [if_neg (fun e => h1 (by rw [hg, e])), if_pos hg.symm]
    | 1, hi =>
      cases hi
      rw [if_neg (fun e => h2 (by rw [hg, e])), if_neg (fun e => h3 g e.symm hg)]
  · intro i hi
    split
    · exact hn
    · exact hm
  · intro ad h
    cases h
    exact ⟨by simp, hbw⟩

theorem framePuts_mid (w : World) (A : Option Addr) (n c : Nat) (a : Int) (h1 : 5000 < n) (h2 : n ≤ 65536) :
    Calls Try.prog 8 #[.slice A n c, .int .i64 a] w fun e w' => e = .returned (.bool true) ∧ Below w.heap.size w w' := by
  go_enter Try.func8, Try.ntmps8
  go_wp2_with fail
  refine (alive7_any w).mono ?_
  rintro e w1 ⟨rfl, hb1⟩
  go_wp2
  go_ret
  exact ⟨rfl, hb1⟩

theorem framePuts_short (w : World) (A : Option Addr) (n c : Nat) (p : List UInt8) (hr : RB w A n p) (hc : n ≤ c) (hcm : c ≤ maxLen) (h1 : n ≤ 5000) (a : Int) (ha : (Lit.int .i64 a).wf = true) :
    Calls Try.prog 8 #[.slice A n c, .int .i64 a] w fun e w' => e = .returned (.bool true) ∧ Below w.heap.size w w' := by
  obtain ⟨ha1, ha2⟩ := bounds_i64 ha
  have hpl := hr.len
  have Hpl := Lib.hid hpl
  have hS : SB w (.slice A n c) p := ⟨A, n, c, rfl, hc, hcm, hr⟩
  clear hpl hr hc hcm
  go_enter Try.func8, Try.ntmps8
  go_wp2_with fail
  refine (alive7_any w).mono ?_
  rintro e w1 ⟨rfl, hb1⟩
  have hS1 := hS.below hb1
  obtain ⟨A', n', c', e, hc, hcm, hr1⟩ := id hS1
  injection e with e1 e2 e3
  subst e1 e2 e3
  go_wp2_with fail
  refine (copy_any w1 A n c p hr1 (by omega)).mono ?_
  rintro e w2 ⟨g, rfl, hg, Hblk, hb2⟩
  have hb02 := hb1.trans (hb2.mono hb1.size)
  have hSc : SB w2 (.slice (some ⟨g, 0, none⟩) n (n + 2)) p := copyPost_sb Hblk.out Hpl.out (by omega)
  have hglt : g < w2.heap.size := (Array.getElem?_eq_some_iff.1 Hblk.out).1
  go_wp2_with fail
  refine (put_sb w2 _ p hSc (by rw [Hpl.out]; omega)).mono ?_
  rintro e w3 ⟨v3, rfl, hown3, hb3⟩
  have hb03 := hb02.trans (hb3.mono hb02.size)
  go_wp2_with fail
  refine (refPut_sb w3 _ p (hS.below hb03) (by rw [Hpl.out]; omega)).mono ?_
  rintro e w4 ⟨v4, rfl, hown4, hb4⟩
  have hb04 := hb03.trans (hb4.mono hb03.size)
  have hown34 := ownsRow_below hown3 hb4
  go_wp2_with fail
  refine (same_sb w4 v3 v4 _ _ (SB.of_own hown34) (SB.of_own hown4)).mono ?_
  rintro e w5 ⟨rfl, rfl⟩
  rw [decide_eq_true rfl]
  have hblk4 : w4.heap[g]? = some (.cells (p.map B8 ++ [B8 165, B8 90]).toArray 5 (0, 0)) := ((hb3.trans (hb4.mono hb3.size)).block g hglt).trans Hblk.out
  obtain ⟨A', n', c', e, _, _, hr4⟩ := hS.below hb04
  injection e with e1 e2 e3
  subst e1 e2 e3
  have hblk := Lib.hid hblk4
  clear hblk4
  go_wp2_with fail
  refine (kept_true w4 g A n c p hblk.out hr4 (by omega)).mono ?_
  rintro e w5 ⟨rfl, rfl⟩
  obtain ⟨A3, n3, c3, rfl, -⟩ := SB.of_own hown34
  have hvg : ∀ x, Value.ownBlock (.slice A3 n3 c3) = some x → Value.ownBlock (.slice (some ⟨g, 0, none⟩) n (n + 2)) ≠ some x := by
    intro x hx e
    have := (hown3.lt x hx).1
    have e' : g = x := by simpa [Value.ownBlock] using e
    omega
  have hbA : Below w.heap.size w (w4.alloc (.cells #[.slice A3 n3 c3, .slice (some ⟨g, 0, none⟩) n (n + 2)] 22)) := hb04.alloc hb04.size _
  have hap := apart_two (w4.alloc (.cells #[.slice A3 n3 c3, .slice (some ⟨g, 0, none⟩) n (n + 2)] 22)) w hbA w4.heap.size hb04.size (by simp) (.slice A3 n3 c3) (.slice (some ⟨g, 0, none⟩) n (n + 2)) _ n (recOf p) p
    (RV.of_rangeAt (rangeAt_at _ _ _ _ _ rfl) rfl) ((ownsRow_base hown34 hb02.size).alloc _) ((copy_own hblk.out Hpl.out (by omega) (Nat.le_trans hb1.size hg)).alloc _) (by rw [recOf_len, Hpl.out]; omega) (by omega)
    (fun e => by have := (hown34.lt _ e).2; omega) (own_ne (by have := hb3.size; have := hb4.size; omega)) hvg
  have Hap := Lib.hid hap
  clear hap hvg hbA hr4
  go_wp2_with fail
  all_goals
    refine (size_any w4 a (by omega) (by omega)).mono ?_
    rintro e w5 ⟨rfl, rfl⟩
    first | (rw [if_pos (by omega), Int.add_comm]) | (rw [if_neg (by omega)])
    go_wp2_with fail
    refine Hap.out.mono ?_
    rintro e w6 ⟨rfl, hb6⟩
    go_wp2_with fail
    go_ret
    exact ⟨rfl, hb6⟩
theorem framePuts_long (w : World) (A : Option Addr) (n c : Nat) (p : List UInt8) (hr : RB w A n p) (hc : n ≤ c) (hcm : c ≤ maxLen) (h1 : 65536 < n) (h2 : n ≤ 140737488351232) (a : Int) (ha : (Lit.int .i64 a).wf = true) :
    Calls Try.prog 8 #[.slice A n c, .int .i64 a] w fun e w' => e = .returned (.bool true) ∧ Below w.heap.size w w' := by
  obtain ⟨ha1, ha2⟩ := bounds_i64 ha
  have hpl := hr.len
  have Hpl := Lib.hid hpl
  have hS : SB w (.slice A n c) p := ⟨A, n, c, rfl, hc, hcm, hr⟩
  clear hpl hr hc hcm
  go_enter Try.func8, Try.ntmps8
  go_wp2_with fail
  refine (alive7_any w).mono ?_
  rintro e w1 ⟨rfl, hb1⟩
  have hS1 := hS.below hb1
  obtain ⟨A', n', c', e, hc, hcm, hr1⟩ := id hS1
  injection e with e1 e2 e3
  subst e1 e2 e3
  go_wp2_with fail
  refine (copy_any w1 A n c p hr1 (by omega)).mono ?_
  rintro e w2 ⟨g, rfl, hg, Hblk, hb2⟩
  have hb02 := hb1.trans (hb2.mono hb1.size)
  have hglt : g < w2.heap.size := (Array.getElem?_eq_some_iff.1 Hblk.out).1
  go_wp2_with fail
  refine (put_long w2 _ n (n + 2) h1 (by unfold maxLen; omega)).mono ?_
  rintro e w3 ⟨rfl, rfl⟩
  go_wp2_with fail
  refine (refPut_long w2 _ n c h1 (by unfold maxLen; omega)).mono ?_
  rintro e w3 ⟨rfl, rfl⟩
  have hN : SB w2 (.slice none 0 0) [] := ⟨none, 0, 0, rfl, Nat.le_refl _, Nat.zero_le _, RB.nil _ _⟩
  go_wp2_with fail
  refine (same_sb w2 _ _ _ _ hN hN).mono ?_
  rintro e w3 ⟨rfl, rfl⟩
  rw [decide_eq_true rfl]
  obtain ⟨A', n', c', e, _, _, hr4⟩ := hS.below hb02
  injection e with e1 e2 e3
  subst e1 e2 e3
  have hbA : Below w.heap.size w (w2.alloc (.cells #[.slice none 0 0, .slice (some ⟨g, 0, none⟩) n (n + 2)] 22)) := hb02.alloc hb02.size _
  have hap := apart_two (w2.alloc (.cells #[.slice none 0 0, .slice (some ⟨g, 0, none⟩) n (n + 2)] 22)) w hbA w2.heap.size hb02.size (by simp) (.slice none 0 0) (.slice (some ⟨g, 0, none⟩) n (n + 2)) 0 n [] p
    (RV.of_rangeAt (rangeAt_at _ _ _ _ _ rfl) rfl) (World.ownsRow_nil _ _ _ _) ((copy_own Hblk.out Hpl.out (by omega) (Nat.le_trans hb1.size hg)).alloc _) (by omega) (by omega)
    (fun e => by simp [Value.ownBlock] at e) (own_ne (by omega)) (fun x e => by simp [Value.ownBlock] at e)
  have Hap := Lib.hid hap
  clear hap hbA
  go_wp2_with fail
  refine (kept_true w2 g A n c p Hblk.out hr4 (by omega)).mono ?_
  rintro e w3 ⟨rfl, rfl⟩
  go_wp2_with fail
  refine (is_err w2 10 10 (by decide)).mono ?_
  rintro e w3 ⟨rfl, rfl⟩
  rw [show ((10 : Int) == 10) = true from rfl]
  go_wp2_with fail
  all_goals
    refine (size_any w2 a (by omega) (by omega)).mono ?_
    rintro e w5 ⟨rfl, rfl⟩
    first | (rw [if_pos (by omega), Int.add_comm]) | (rw [if_neg (by omega)])
    go_wp2_with fail
    refine Hap.out.mono ?_
    rintro e w6 ⟨rfl, hb6⟩
    go_wp2_with fail
    go_ret
    exact ⟨rfl, hb6⟩
theorem framePuts_law (w : World) (v0 : Value) (b0 : List UInt8) (h0 : SB w v0 b0) (hn : b0.length ≤ 140737488351232) (a : Int) (ha : (Lit.int .i64 a).wf = true) :
    Calls Try.prog 8 #[v0, .int .i64 a] w fun e w' => e = .returned (.bool true) ∧ Below w.heap.size w w' := by
  obtain ⟨A, n, c, rfl, hc, hcm, hA⟩ := h0
  have hl := hA.len
  by_cases h1 : n ≤ 5000
  · exact framePuts_short w A n c b0 hA hc hcm h1 a ha
  · by_cases h2 : n ≤ 65536
    · exact framePuts_mid w A n c a (by omega) h2
    · exact framePuts_long w A n c b0 hA hc hcm (by omega) (by omega) a ha
end Go.Proofs.Ytdmiiageihbokaa
