/-
  THE WALK of cachetref07.All.
-/
import Derived.Test.YtdmiiageihbokaaFrR
import Derived.Test.YtdmiiageihbokaaFrC
import Derived.Deep.QuietTactic
import Derived.BigQuiet
import Derived.WalkSmall
namespace Go.Proofs.Ytdmiiageihbokaa
open Go.RowKit

theorem info_rec : (Try.prog.info? 55).map (fun i => (i.zero, i.size, i.bytes)) = some (some (.agg #[.int .i64 0, .slice none 0 0]), 2, 32) := by kernel_rfl
theorem u8_ne_rec : 5 ≠ 55 := by decide
/-- What All leaves: a row of the call's own, with all records. -/
def AllPost (w : World) (row : List UInt8) (e : Ending) (w' : World) : Prop :=
  ∃ v zs, e = .returned v ∧ zs.length = (frames row).length ∧ w'.ownsRow w.heap.size 55 2 v zs.length (recCells zs) ∧ RecRow w' w.heap.size (frames row) zs ∧ Below w.heap.size w w'

set_option maxRecDepth 100000 in
set_option maxHeartbeats 4000000 in
theorem refAll_any (w : World) (A : Option Addr) (n c : Nat) (row : List UInt8) (hr : RB w A n row) (hn : n ≤ 10000) (hc : n ≤ c) (hcm : c ≤ maxLen) :
    Calls Try.prog 29 #[.slice A n c] w (AllPost w row) := by
  have hl := hr.len
  obtain ⟨s1, s2, s3⟩ := frames_spec row
  obtain ⟨fr, hfr⟩ : ∃ fr, fr = frames row := ⟨_, rfl⟩
  rw [← hfr] at s1 s2 s3
  have Hl := Lib.hid hl
  have Hfr := Lib.hid hfr
  have S1 := Lib.hid s1
  have S2 := Lib.hid s2
  have S3 := Lib.hid s3
  unfold maxLen at hcm
  have last : ∀ k, k ≤ fr.length → firstOf (row.drop (offs fr k)) = none → k = fr.length := by
    intro k hk h
    rcases Nat.lt_or_ge k fr.length with hlt | hge
    · have hx : fr[k]? = some fr[k] := List.getElem?_eq_getElem hlt
      rw [(S1.out k _ hx).2] at h
      cases h
    · omega
  have next : ∀ k p, k ≤ fr.length → firstOf (row.drop (offs fr k)) = some p → fr[k]? = some (offs fr k, p) ∧ k < fr.length := by
    intro k p hk h
    rcases Nat.lt_or_ge k fr.length with hlt | hge
    · have hx : fr[k]? = some fr[k] := List.getElem?_eq_getElem hlt
      obtain ⟨e1, e2⟩ := S1.out k _ hx
      rw [h] at e2
      injection e2 with e2
      rw [hx, e2, ← e1]
      exact ⟨rfl, hlt⟩
    · obtain rfl : k = fr.length := by omega
      rw [S2.out] at h
      cases h
  have Last := Lib.hid last
  have Next := Lib.hid next
  clear hl hfr s1 s2 s3 last next
  go_enter Try.func29, Try.ntmps29
  go_wp2
  go_loopw [3, 4] (fun out at_ wr => ∃ (k : Nat) (zs : List (Nat × Value)), k ≤ fr.length ∧ zs.length = k ∧ at_ = .int .i64 (offs fr k : Int) ∧ wr.ownsRow w.heap.size 55 2 out k (recCells zs) ∧ Hid (RecRow wr w.heap.size fr zs) ∧ Below w.heap.size w wr) (fun _ at_ _ => n - (intOf at_).toNat)
  case atStart => exact ⟨0, [], Nat.zero_le _, rfl, by rw [offs_zero]; rfl, World.ownsRow_nil _ _ _ _, Lib.hid (fun i z h => by simp at h), Below.refl _ _⟩
  case round =>
    obtain ⟨k, zs, hk, hzs, rfl, hown, hrec, hbw⟩ := hrel
    have hq := S3.out k
    obtain ⟨q, hqe⟩ : ∃ q, q = offs fr k := ⟨_, rfl⟩
    rw [← hqe] at hq ⊢
    rw [Hl.out] at hq
    have Hq := Lib.hid hqe
    have last := Last.out k hk
    have next := Next.out k
    rw [← hqe] at last next
    have hf8 := @firstOf_short (row.drop q)
    rw [List.length_drop, Hl.out] at hf8
    have hk8 := offs_ge fr k hk
    rw [← hqe] at hk8
    clear hqe
    have fin : firstOf (row.drop q) = none → ∀ v W', v = u3 → Below wr.heap.size wr W' → AllPost w row (.returned v) W' := by
      rintro h v W' rfl hb
      have e := last h
      refine ⟨_, zs, rfl, ?_, ?_, ?_, hbw.trans (hb.mono hbw.size)⟩
      · rw [hzs, e, ← Hfr.out]
      · rw [hzs]; exact ownsRow_below hown hb
      · rw [← Hfr.out]; exact hrec.out.below hb
    have Fin := Lib.hid fin
    clear fin last
    by_cases h8 : n < q + 8
    · have Hn := Lib.hid (hf8 (by omega))
      clear next hf8
      go_wp2
      go_ret
      exact Fin.out Hn.out _ _ rfl (Below.refl _ _)
    · obtain ⟨b0, b1, b2, b3, c0, c1, c2, c3, rest, hd⟩ := split8 (l := row.drop q) (by rw [List.length_drop, Hl.out]; omega)
      have hrl : rest.length + 8 + q = n := by
        have := congrArg List.length hd
        rw [List.length_drop, Hl.out] at this
        simp at this
        omega
      obtain ⟨b, o, rfl, _⟩ := hr.2 (by omega)
      have hrr := hr.below hbw
      have hat : ∀ i d, (row.drop q)[i]? = some d → wr.cell? ⟨b, o + (q + i), none⟩ = some (.int .u8 (d.toNat : Int)) := by
        intro i d hi
        rw [List.getElem?_drop] at hi
        obtain ⟨b', o', e, hcc⟩ := hrr.2 (by omega)
        cases e
        exact hcc (q + i) (B8 d) (by rw [List.getElem?_map, hi]; rfl)
      rw [hd] at hat
      have e0 := hat 0 b0 rfl
      have e1 := hat 1 b1 rfl
      have e2 := hat 2 b2 rfl
      have e3 := hat 3 b3 rfl
      rw [Nat.add_zero] at e0
      clear hat hf8
      have w4 := word4_int b0 b1 b2 b3
      obtain ⟨z, hz⟩ : ∃ z, z = (word4 b0 b1 b2 b3).toNat := ⟨_, rfl⟩
      have hz32 : z < 4294967296 := by rw [hz]; exact (word4 b0 b1 b2 b3).isLt
      rw [← hz] at w4
      have w4' : 256 * (256 * (256 * (b3.toNat : Int) + (b2.toNat : Int)) + (b1.toNat : Int)) + (b0.toNat : Int) = (z : Int) := by omega
      have Hz := Lib.hid hz
      have Hd := Lib.hid hd
      have d0 := b0.toNat_lt
      have d1 := b1.toNat_lt
      have d2 := b2.toNat_lt
      have d3 := b3.toNat_lt
      have Next2 := Lib.hid next
      clear hz hd w4 next
      have hlarge : (65536 < z ∨ rest.length < z) → firstOf (row.drop q) = none := fun h => by
        rw [Hd.out]
        exact firstOf_large _ _ _ _ _ _ _ _ _ (by rw [← Hz.out]; exact h)
      by_cases h1 : 65536 < z
      · have Hn := Lib.hid (hlarge (.inl h1))
        have hz' : (65536 : Int) < (z : Int) := by omega
        clear hlarge hrr Next2
        go_wp2
        refine wp_loop_rounds 5 ?_
        rw [rounds_succ]
        go_wp2
        iterate 4 (rw [rounds_succ]; go_wp2)
        go_ret
        exact Fin.out Hn.out _ _ rfl (Below.refl _ _)
      · by_cases h2 : n < q + 8 + z
        · have Hn := Lib.hid (hlarge (.inr (by omega)))
          have hz' : (n : Int) < (q : Int) + 8 + (z : Int) := by omega
          have hz1 : ¬ (65536 : Int) < (z : Int) := by omega
          clear hlarge hrr Next2
          go_wp2
          refine wp_loop_rounds 5 ?_
          rw [rounds_succ]
          go_wp2
          iterate 4 (rw [rounds_succ]; go_wp2)
          go_ret
          exact Fin.out Hn.out _ _ rfl (Below.refl _ _)
        · have hsame : firstOf (row.drop q) = if recOf (rest.take z) = (row.drop q).take (8 + z) then some (rest.take z) else none := by
            rw [Hd.out]
            exact firstOf_same _ _ _ _ _ _ _ _ _ _ Hz.out.symm (by omega) (by omega)
          obtain ⟨m, hm⟩ : ∃ m, m = q + 8 + z := ⟨_, rfl⟩
          have hmn : m ≤ n := by omega
          obtain ⟨q8, hq8⟩ : ∃ q8, q8 = q + 8 := ⟨_, rfl⟩
          have hq8' : (q : Int) + 8 = (q8 : Int) := by omega
          have hm' : (q8 : Int) + (z : Int) = (m : Int) := by omega
          obtain ⟨P, hP⟩ : ∃ P, P = rest.take z := ⟨_, rfl⟩
          have hPl : P.length = z := by rw [hP, List.length_take]; omega
          obtain ⟨R, hR⟩ : ∃ R, R = (row.drop q).take (8 + z) := ⟨_, rfl⟩
          have hPr : P = (row.drop q8).take z := by
            rw [hP, hq8, ← List.drop_drop, Hd.out]
            rfl
          rw [← hP, ← hR] at hsame
          have Hsame := Lib.hid hsame
          have HR := Lib.hid hR
          have HPl := Lib.hid hPl
          have hRl : R.length = m - q := by rw [hR, List.length_take, List.length_drop, Hl.out]; omega
          have S2 : ∀ W', Below wr.heap.size wr W' → RB W' (some ⟨b, o + q, none⟩) (m - q) R := by
            intro W' hb
            have h0 := ((hrr.below hb).cut (k := q) (cap := c) (by omega) hc).take (k := m - q) (by omega)
            rw [if_neg (by omega)] at h0
            rw [hR, show 8 + z = m - q by omega]
            simpa [Addr.add_mid] using h0
          have hpay : ∀ A' W', Below wr.heap.size wr W' → (c = q8 → A' = some ⟨b, o, none⟩) → (c ≠ q8 → A' = some ⟨b, o + q8, none⟩) → RB W' A' z P := by
            intro A' W' hb ha hb'
            have h0 := ((hrr.below hb).cut (k := q8) (cap := c) (by omega) hc).take (k := z) (by omega)
            rw [← hPr] at h0
            by_cases e : c = q8
            · rw [if_pos e] at h0; rw [ha e]; exact h0
            · rw [if_neg e] at h0; rw [hb' e]; simpa [Addr.add_mid] using h0
          have Hpay := Lib.hid hpay
          have HS2 := Lib.hid S2
          have HRl := Lib.hid hRl
          have hm2 := Lib.hid hm
          have hq82 : q8 ≤ m := by omega
          have hmz : m - q8 = z := by omega
          have hz5 : ¬ (65536 : Int) < (z : Int) := by omega
          have hz6 : ¬ (n : Int) < (m : Int) := by omega
          have hz7 : (m : Int) - (q8 : Int) = (z : Int) := by omega
          have hqm : q ≤ m := by omega
          have hqc : ¬ c = q := by omega
          clear hrr hsame hR hPl hpay S2 hlarge hPr hP hRl hm hq8
          by_cases e8 : c = q8
          · subst e8
            go_wp2
            refine wp_loop_rounds 5 ?_
            rw [rounds_succ]
            go_wp2
            iterate 3 (rw [rounds_succ]; go_wp2)
            rw [rounds_succ]
            go_wp2_with (at_builtin; refine wpList_append_row rfl (.tmp 40) (.tmp 48) 22 rfl wr ((Below.refl _ _).alloc (Nat.le_refl _) _) Try.underlying22 info_u8 rfl (by decide) (.slice (some ⟨wr.heap.size, 0, none⟩) 0 0) 0 [] rfl (ownsRow_empty wr _ _ (Nat.le_refl _)) (some ⟨b, o, none⟩) z _ (P.map B8) rfl ((Hpay.out _ _ ((Below.refl _ _).alloc (Nat.le_refl _) _) (fun _ => rfl) (fun h => absurd rfl h)).rc) (by rw [List.length_map, HPl.out]; omega) (b8_oneCell P) (by unfold maxLen; omega) (by omega) ?_; intro v2 w2 hown2 hb2; rw [List.nil_append, Nat.zero_add] at hown2)
            refine (refPut_sb w2 v2 P (SB.of_own hown2) (by rw [HPl.out]; omega)).mono ?_
            rintro e w3 ⟨v3, rfl, hown3, hb3⟩
            have hb23 := hb2.trans (hb3.mono hb2.size)
            have hownP := ownsRow_below hown2 hb3
            obtain ⟨A3, n3, c3, rfl, p1, p2, p3⟩ := SB.of_own hown3
            obtain ⟨A2, n2, c2, rfl, -⟩ := SB.of_own hownP
            have k1 : ∀ i, (convert 22 9 (.slice A3 n3 c3)).run Try.prog (w3.drewN i) = .ok (.string (strOf (recOf P))) (w3.drewN i) := fun i => run_string_of _ 22 9 5 Try.underlying22 Try.underlying5 Try.underlying9 _ n3 c3 _ (p3.below (below_drewN (Below.refl _ _) i))
            have k2 : ∀ i, (convert 22 9 (.slice (some ⟨b, o + q, none⟩) (m - q) (c - q))).run Try.prog (w3.drewN i) = .ok (.string (strOf R)) (w3.drewN i) := fun i => run_string_of _ 22 9 5 Try.underlying22 Try.underlying5 Try.underlying9 _ (m - q) (c - q) _ ((HS2.out w3 hb23).below (below_drewN (Below.refl _ _) i))
            clear e0 e1 e2 e3 hown2 hb2 hb3 p3 hown3
            by_cases e : recOf P = R
            · have hE : ((strOf (recOf P)).toList == (strOf R).toList) = true := by rw [e]; simp
              have hx := Next2.out P hk (by rw [Hsame.out, if_pos e])
              have Hx := Lib.hid hx
              clear hx
              go_wp2_with fail
              go_quiet (fail)
              have hb4 : Below wr.heap.size wr ((w3.drewN nq).alloc (.cells #[.int .i64 (q : Int), .slice A2 n2 c2] 55)) := (below_drewN hb23 nq).alloc (below_drewN hb23 nq).size _
              have hown4 := ownsRow_below hown hb4
              have hrec4 := hrec.out.below hb4
              have hP4 : ((w3.drewN nq).alloc (.cells #[.int .i64 (q : Int), .slice A2 n2 c2] 55)).ownsRow w.heap.size 5 1 (.slice A2 n2 c2) z (P.map B8) := ownsRow_base (ownsRow_below hownP ((below_drewN (Below.refl _ _) nq).alloc (Nat.le_refl _) _)) hbw.size
              have Hrec4 := Lib.hid hrec4
              have HP4 := Lib.hid hP4
              clear hrec4 hP4 hown hownP k1 k2
              go_wp2_with (at_builtin; refine wpList_append_keep rfl (.tmp 66) (.tmp 70) 49 rfl w (hbw.trans (hb4.mono hbw.size)) Try.underlying49 info_rec rfl (by decide) u3 k (recCells zs) rfl hown4 (some ⟨w3.heap.size, 0, none⟩) 1 1 [.int .i64 (q : Int), .slice A2 n2 c2] rfl (rc_new (w3.drewN nq) _ _ _) rfl (by simp; exact ⟨rfl, rfl⟩) (by unfold maxLen; omega) (by omega) ?_; intro v5 w5 hown5 hb5 hkeep hgr hor)
              have hrec5 := Hrec4.out.kept hown4 u8_ne_rec hgr
              have hP5 := own_kept_unlike HP4.out hown4 u8_ne_rec hgr
              rw [← recCells_snoc zs (q, .slice A2 n2 c2)] at hown5
              have hoff := offs_succ Hx.out.1
              rw [← Hq.out, HPl.out] at hoff
              have hsn := hrec5.snoc (x := (q, P)) (u := .slice A2 n2 c2) (by rw [hzs]; exact Hx.out.1) (by rw [HPl.out]; exact hP5)
              have Hsn := Lib.hid hsn
              have Hoff := Lib.hid hoff
              clear hsn hrec5 hP5 hgr hor hkeep hoff
              have hlt := Hx.out.2
              go_wp2
              go_roundw
              case rel => exact ⟨k + 1, zs ++ [(q, .slice A2 n2 c2)], hlt, by simp [hzs], by rw [Hoff.out]; go_num, hown5, Hsn, hb5⟩
              case measure => simp [intOf]; omega
            · have hE : ((strOf (recOf P)).toList == (strOf R).toList) = false := by rw [strOf_toList, strOf_toList]; simpa using e
              have Hn := Lib.hid (Hsame.out.trans (if_neg e))
              clear hown hownP
              go_wp2_with fail
              go_quiet (fail)
              go_wp2
              go_ret
              exact Fin.out Hn.out _ _ rfl (below_drewN hb23 nq)
          · have e8' : ¬ (c : Int) = (q8 : Int) := by omega
            go_wp2
            refine wp_loop_rounds 5 ?_
            rw [rounds_succ]
            go_wp2
            iterate 3 (rw [rounds_succ]; go_wp2)
            rw [rounds_succ]
            go_wp2_with (at_builtin; refine wpList_append_row rfl (.tmp 40) (.tmp 48) 22 rfl wr ((Below.refl _ _).alloc (Nat.le_refl _) _) Try.underlying22 info_u8 rfl (by decide) (.slice (some ⟨wr.heap.size, 0, none⟩) 0 0) 0 [] rfl (ownsRow_empty wr _ _ (Nat.le_refl _)) (some ⟨b, o + q8, none⟩) z _ (P.map B8) rfl ((Hpay.out _ _ ((Below.refl _ _).alloc (Nat.le_refl _) _) (fun h => absurd h e8) (fun _ => rfl)).rc) (by rw [List.length_map, HPl.out]; omega) (b8_oneCell P) (by unfold maxLen; omega) (by omega) ?_; intro v2 w2 hown2 hb2; rw [List.nil_append, Nat.zero_add] at hown2)
            refine (refPut_sb w2 v2 P (SB.of_own hown2) (by rw [HPl.out]; omega)).mono ?_
            rintro e w3 ⟨v3, rfl, hown3, hb3⟩
            have hb23 := hb2.trans (hb3.mono hb2.size)
            have hownP := ownsRow_below hown2 hb3
            obtain ⟨A3, n3, c3, rfl, p1, p2, p3⟩ := SB.of_own hown3
            obtain ⟨A2, n2, c2, rfl, -⟩ := SB.of_own hownP
            have k1 : ∀ i, (convert 22 9 (.slice A3 n3 c3)).run Try.prog (w3.drewN i) = .ok (.string (strOf (recOf P))) (w3.drewN i) := fun i => run_string_of _ 22 9 5 Try.underlying22 Try.underlying5 Try.underlying9 _ n3 c3 _ (p3.below (below_drewN (Below.refl _ _) i))
            have k2 : ∀ i, (convert 22 9 (.slice (some ⟨b, o + q, none⟩) (m - q) (c - q))).run Try.prog (w3.drewN i) = .ok (.string (strOf R)) (w3.drewN i) := fun i => run_string_of _ 22 9 5 Try.underlying22 Try.underlying5 Try.underlying9 _ (m - q) (c - q) _ ((HS2.out w3 hb23).below (below_drewN (Below.refl _ _) i))
            clear e0 e1 e2 e3 hown2 hb2 hb3 p3 hown3
            by_cases e : recOf P = R
            · have hE : ((strOf (recOf P)).toList == (strOf R).toList) = true := by rw [e]; simp
              have hx := Next2.out P hk (by rw [Hsame.out, if_pos e])
              have Hx := Lib.hid hx
              clear hx
              go_wp2_with fail
              go_quiet (fail)
              have hb4 : Below wr.heap.size wr ((w3.drewN nq).alloc (.cells #[.int .i64 (q : Int), .slice A2 n2 c2] 55)) := (below_drewN hb23 nq).alloc (below_drewN hb23 nq).size _
              have hown4 := ownsRow_below hown hb4
              have hrec4 := hrec.out.below hb4
              have hP4 : ((w3.drewN nq).alloc (.cells #[.int .i64 (q : Int), .slice A2 n2 c2] 55)).ownsRow w.heap.size 5 1 (.slice A2 n2 c2) z (P.map B8) := ownsRow_base (ownsRow_below hownP ((below_drewN (Below.refl _ _) nq).alloc (Nat.le_refl _) _)) hbw.size
              have Hrec4 := Lib.hid hrec4
              have HP4 := Lib.hid hP4
              clear hrec4 hP4 hown hownP k1 k2
              go_wp2_with (at_builtin; refine wpList_append_keep rfl (.tmp 66) (.tmp 70) 49 rfl w (hbw.trans (hb4.mono hbw.size)) Try.underlying49 info_rec rfl (by decide) u3 k (recCells zs) rfl hown4 (some ⟨w3.heap.size, 0, none⟩) 1 1 [.int .i64 (q : Int), .slice A2 n2 c2] rfl (rc_new (w3.drewN nq) _ _ _) rfl (by simp; exact ⟨rfl, rfl⟩) (by unfold maxLen; omega) (by omega) ?_; intro v5 w5 hown5 hb5 hkeep hgr hor)
              have hrec5 := Hrec4.out.kept hown4 u8_ne_rec hgr
              have hP5 := own_kept_unlike HP4.out hown4 u8_ne_rec hgr
              rw [← recCells_snoc zs (q, .slice A2 n2 c2)] at hown5
              have hoff := offs_succ Hx.out.1
              rw [← Hq.out, HPl.out] at hoff
              have hsn := hrec5.snoc (x := (q, P)) (u := .slice A2 n2 c2) (by rw [hzs]; exact Hx.out.1) (by rw [HPl.out]; exact hP5)
              have Hsn := Lib.hid hsn
              have Hoff := Lib.hid hoff
              clear hsn hrec5 hP5 hgr hor hkeep hoff
              have hlt := Hx.out.2
              go_wp2
              go_roundw
              case rel => exact ⟨k + 1, zs ++ [(q, .slice A2 n2 c2)], hlt, by simp [hzs], by rw [Hoff.out]; go_num, hown5, Hsn, hb5⟩
              case measure => simp [intOf]; omega
            · have hE : ((strOf (recOf P)).toList == (strOf R).toList) = false := by rw [strOf_toList, strOf_toList]; simpa using e
              have Hn := Lib.hid (Hsame.out.trans (if_neg e))
              clear hown hownP
              go_wp2_with fail
              go_quiet (fail)
              go_wp2
              go_ret
              exact Fin.out Hn.out _ _ rfl (below_drewN hb23 nq)
end Go.Proofs.Ytdmiiageihbokaa
