/-
  THE WALK of frame.All's iterator once more: what a round is handed is new.
-/
import Derived.Test.YtdmiiageihbokaaFrB
import Derived.Test.YtdmiiageihbokaaIterTwo
namespace Go.Proofs.Ytdmiiageihbokaa
open Go.RowKit Go.Shelf
attribute [local go_sem] Oper.semAt_some

/-- What round k of a range over All(row) is handed: where the record begins, and its payload, in a row made since the world W0. -/
def FrNew (row : List UInt8) (k : Nat) (args : Array Value) (W0 W : World) : Prop :=
  ∃ x v, (frames row)[k]? = some x ∧ args = #[.int .i64 (x.1 : Int), v] ∧ W.ownsRow W0.heap.size 5 1 v x.2.length (x.2.map B8)
theorem frNew_size {row : List UInt8} {k : Nat} {args : Array Value} {W0 W : World} (h : FrNew row k args W0 W) : args.size = 2 := by
  obtain ⟨x, v, _, rfl, _⟩ := h
  rfl
theorem ownsRow_putObj {W : World} {B : Nat} {e : TypeId} {s : Nat} {v : Value} {n : Nat} {xs : List Value} {l : Nat} {o : Obj} (h : W.ownsRow B e s v n xs) (o' : Obj) (hl : W.heap[l]? = some o) (ho : o.isCells = false) : (W.putObj l o').ownsRow B e s v n xs := by
  refine ⟨h.1, ?_⟩
  rcases h.2 with h2 | ⟨g, cap, cur, hv, hg, hh, r⟩
  · exact .inl h2
  · exact .inr ⟨g, cap, cur, hv, hg, heap_putObj hh o' hl ho, r⟩
theorem frNew_putObj {row : List UInt8} {k l : Nat} {args : Array Value} {W0 W : World} {o : Obj} (h : FrNew row k args W0 W) (o' : Obj) (hl : W.heap[l]? = some o) (ho : o.isCells = false) : FrNew row k args W0 (W.putObj l o') := by
  obtain ⟨x, v, h1, h2, h3⟩ := h
  exact ⟨x, v, h1, h2, ownsRow_putObj h3 o' hl ho⟩

set_option maxRecDepth 100000 in
theorem all1_two (b : Nat) (A : Option Addr) (n c : Nat) (row : List UInt8) (n₀ : Nat) (hn : n ≤ 140737488351232) (hc : n ≤ c) (hcm : c ≤ maxLen) :
    IterOf2 Try.prog 38 #[.pointer (some ⟨b, 0, none⟩)] (frames row).length (FrNew row) (FrKp n₀ b)
      (fun W => W.cell? ⟨b, 0, none⟩ = some (.slice A n c) ∧ RB W A n row ∧ ∀ ad, A = some ad → 0 < n → ad.block < n₀) := by
  intro m l J Jx W sJ sJx hpre hY h0
  obtain ⟨hb, hr, hbl⟩ := hpre
  obtain ⟨s1, s2, s3⟩ := frames_spec row
  refine callsIn_of_wp Try.func38 rfl trivial ?_ rfl
  simp only [Try.ntmps38, List.size_toArray, List.length_cons, List.length_nil, Nat.reduceAdd, Nat.reduceSub, Array.replicate_succ, Array.replicate_zero, List.push_toArray, List.append_toArray, List.nil_append, List.cons_append]
  have hcap : n ≤ 9223372036854775807 := by omega
  have hrow : row.length = n := hr.len
  have S0 : SB W (.slice A n c) row := ⟨A, n, c, rfl, hc, hcm, hr⟩
  have Hrow := Lib.hid hrow
  obtain ⟨fr, hfr⟩ : ∃ fr, fr = frames row := ⟨_, rfl⟩
  rw [← hfr] at s1 s2 s3
  have Hfr := Lib.hid hfr
  have S1 := Lib.hid s1
  have S2 := Lib.hid s2
  have S3 := Lib.hid s3
  clear s1 s2 s3 hfr hrow
  -- what the state says when the head of the loop is reached
  have head : ∀ (k : Nat) (w' : World) (pv : Value) (ok : Bool), k ≤ fr.length → ((∃ p, firstOf (row.drop (offs fr k)) = some p ∧ ok = true ∧ SB w' pv p) ∨ (firstOf (row.drop (offs fr k)) = none ∧ ok = false)) →
      (∃ x, fr[k]? = some x ∧ ok = true ∧ SB w' pv x.2) ∨ (k = fr.length ∧ ok = false) := by
    intro k w' pv ok hk h
    by_cases hlt : k < fr.length
    · have hx : fr[k]? = some fr[k] := List.getElem?_eq_getElem hlt
      have h2 := (S1.out k _ hx).2
      rcases h with ⟨p, h1, h3, h4⟩ | ⟨h1, _⟩
      · rw [h2] at h1
        cases h1
        exact .inl ⟨_, hx, h3, h4⟩
      · rw [h2] at h1
        cases h1
    · obtain rfl : k = fr.length := by omega
      rcases h with ⟨p, h1, _⟩ | ⟨_, h3⟩
      · rw [S2.out] at h1
        cases h1
      · exact .inr ⟨rfl, h3⟩
  have Head := Lib.hid head
  clear head
  gi_wp2_with fail
  refine ⟨trivial, fun h => by simp [Fence.wide] at h, callsIn_wide.2 ((first_sb W _ row S0).mono ?_)⟩
  rintro e w1 ⟨pv, ok, rfl, hb1, hcase⟩
  have hc1 := Head.out 0 w1 pv ok (Nat.zero_le _) (by rw [offs_zero]; exact hcase)
  have Hc1 := Lib.hid hc1
  have J1 := sJ _ _ _ h0 hb1
  have cb : b < W.heap.size := World.block_lt_of_cell? W _ hb
  have hcell1 : w1.cell? ⟨b, 0, none⟩ = some (.slice A n c) := (hb1.cell (p := ⟨b, 0, none⟩) cb).trans hb
  have hr1 := hr.below hb1
  clear hc1 hcase h0 hb hr S0
  gi_wp2_with fail
  gi_loopw [3, 4, 5] (fun at_ p ok wr => ∃ (k : Nat) (o : Bool), k ≤ fr.length ∧ at_ = .int .i64 (offs fr k : Int) ∧ ok = .bool o ∧ J k wr ∧ wr.cell? ⟨b, 0, none⟩ = some (.slice A n c) ∧ RB wr A n row ∧
      Hid ((∃ x, fr[k]? = some x ∧ o = true ∧ SB wr p x.2) ∨ (k = fr.length ∧ o = false))) (fun at_ _ _ _ => n - (intOf at_).toNat)
  case atStart => exact ⟨0, ok, Nat.zero_le _, by rw [offs_zero]; rfl, rfl, J1, hcell1, hr1, Hc1⟩
  case round =>
    obtain ⟨k, o, hk, rfl, rfl, hJ, hcell, hrr, hst⟩ := hrel
    rcases hst.out with ⟨x, hx, rfl, hS⟩ | ⟨rfl, rfl⟩
    · have hx' := S1.out k x hx
      have hkl : k < fr.length := (List.getElem?_eq_some_iff.1 hx).1
      obtain ⟨A', n', c', rfl, p1, p2, p3⟩ := id hS
      have hlx := p3.len
      have hx8 := (firstOf_len hx'.2).2
      obtain ⟨q, hq⟩ : ∃ q, q = offs fr k := ⟨_, rfl⟩
      have hq1 : offs fr (k + 1) = q + (8 + n') := by rw [offs_succ hx, ← hq, hlx]
      have hqn := S3.out (k + 1)
      rw [hq1, Hrow.out] at hqn
      have hxq : x.1 = q := by rw [hx'.1, hq]
      rw [← hq]
      have Hq := Lib.hid hq
      have Hq1 := Lib.hid hq1
      have Hx := Lib.hid hx
      have Hxq := Lib.hid hxq
      clear hq hq1 hx hxq hx' hst
      have p2' := p2
      unfold maxLen at p2'
      gi_wp2_with fail
      refine ⟨trivial, fun h => by simp [Fence.wide] at h, callsIn_wide.2 ((clone_sb wr _ x.2 hS (by omega)).mono ?_)⟩
      rintro e w2 ⟨v2, rfl, hown2, hb2⟩
      have cb2 : b < wr.heap.size := World.block_lt_of_cell? wr _ hcell
      have hcell2 : w2.cell? ⟨b, 0, none⟩ = some (.slice A n c) := (hb2.cell (p := ⟨b, 0, none⟩) cb2).trans hcell
      have hr2 := hrr.below hb2
      obtain ⟨fn, tmps, assign, body, hy, hR⟩ := hY k #[.int .i64 (q : Int), v2] wr w2 (by rw [← Hfr.out]; exact hkl) hJ hb2 ⟨x, v2, by rw [← Hfr.out]; exact Hx.out, by rw [Hxq.out], hown2⟩
      clear hJ hcell hrr hb2 hown2
      gi_wp2_with fail
      refine ⟨fun h => by simp [Fence.wide] at h, hR.mono ?_⟩
      rintro e w3 (⟨rfl, hJ3, hk3, hkc3⟩ | ⟨rfl, hJx3⟩)
      · have hr3 := hr2.belowB hk3 hbl
        have hcell3 : w3.cell? ⟨b, 0, none⟩ = some (.slice A n c) := hkc3.trans hcell2
        obtain ⟨p', hp'⟩ : ∃ p', p' = q + (8 + n') := ⟨_, rfl⟩
        have hcut := hr3.cut (k := p') (cap := c) (by omega) hc
        obtain ⟨ba, oa, rfl, _⟩ := hr3.2 (by omega)
        have hpp : (q : Int) + (8 + (n' : Int)) = (p' : Int) := by omega
        have hpn : p' ≤ n := by omega
        have Hp' := Lib.hid hp'
        clear hp' hcell2 hr2 hkc3 hk3
        by_cases e : c = p'
        · have hcn : n = p' := by omega
          have S4 : SB w3 (.slice (some ⟨ba, oa, none⟩) 0 0) (row.drop p') := by
            rw [if_pos e] at hcut
            refine ⟨_, 0, 0, rfl, Nat.le_refl _, Nat.zero_le _, ?_⟩
            rw [hcn, Nat.sub_self] at hcut
            exact hcut
          have Hcn := Lib.hid hcn
          clear hcn hcut
          subst e
          gi_wp2_with fail
          refine ⟨trivial, fun h => by simp [Fence.wide] at h, callsIn_wide.2 ((first_sb w3 _ _ S4).mono ?_)⟩
          rintro e w4 ⟨pv4, ok4, rfl, hb4, hcase⟩
          have hc4 := Lib.hid (Head.out (k + 1) w4 pv4 ok4 (by omega) (by rw [Hq1.out, ← Hp'.out]; exact hcase))
          have J4 := sJ _ _ _ hJ3 hb4
          have cb4 : b < w3.heap.size := World.block_lt_of_cell? w3 _ hcell3
          have hcell4 := (hb4.cell (p := ⟨b, 0, none⟩) cb4).trans hcell3
          have hr4 := hr3.below hb4
          clear hcase hJ3 hcell3 hr3 S4 hb4
          gi_wp2_with fail
          go_roundw
          case rel => exact ⟨k + 1, ok4, by omega, by rw [Hq1.out, ← Hp'.out], rfl, J4, hcell4, hr4, hc4⟩
          case measure => simp [intOf]; omega
        · have S4 : SB w3 (.slice (some ⟨ba, oa + p', none⟩) (n - p') (c - p')) (row.drop p') := by
            rw [if_neg e] at hcut
            refine ⟨_, n - p', c - p', rfl, by omega, by omega, ?_⟩
            simpa [Addr.add_mid] using hcut
          clear hcut
          gi_wp2_with fail
          refine ⟨trivial, fun h => by simp [Fence.wide] at h, callsIn_wide.2 ((first_sb w3 _ _ S4).mono ?_)⟩
          rintro e w4 ⟨pv4, ok4, rfl, hb4, hcase⟩
          have hc4 := Lib.hid (Head.out (k + 1) w4 pv4 ok4 (by omega) (by rw [Hq1.out, ← Hp'.out]; exact hcase))
          have J4 := sJ _ _ _ hJ3 hb4
          have cb4 : b < w3.heap.size := World.block_lt_of_cell? w3 _ hcell3
          have hcell4 := (hb4.cell (p := ⟨b, 0, none⟩) cb4).trans hcell3
          have hr4 := hr3.below hb4
          clear hcase hJ3 hcell3 hr3 S4 hb4
          gi_wp2_with fail
          go_roundw
          case rel => exact ⟨k + 1, ok4, by omega, by rw [Hq1.out, ← Hp'.out], rfl, J4, hcell4, hr4, hc4⟩
          case measure => simp [intOf]; omega
      · gi_wp2_with fail
        refine bodyPost_ret (results_none rfl _ _ _) rfl ?_
        exact ⟨⟨_, rfl⟩, .inr ⟨k, by rw [← Hfr.out]; exact hkl, hJx3⟩⟩
    · gi_wp2_with fail
      refine bodyPost_end (results_none rfl _ _ _) rfl ?_
      exact ⟨⟨_, rfl⟩, .inl (by rw [← Hfr.out]; exact hJ)⟩

end Go.Proofs.Ytdmiiageihbokaa
