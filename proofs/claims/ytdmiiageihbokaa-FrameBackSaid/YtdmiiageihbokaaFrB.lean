/-
  THE WALKS of frame.All's iterator, frame.Whole, frame.Count.
-/
import Derived.Test.YtdmiiageihbokaaFrA
import Derived.Test.YtdmiiageihbokaaIter
namespace Go.Proofs.Ytdmiiageihbokaa
open Go.RowKit Go.Shelf
attribute [local go_sem] Oper.semAt_some

/-- What round k of a range over All(row) is handed: where the record begins, and its payload, in a row that the iterator has made. -/
def FrOk (row : List UInt8) (k : Nat) (args : Array Value) (W : World) : Prop :=
  ∃ x v, (frames row)[k]? = some x ∧ args = #[.int .i64 (x.1 : Int), v] ∧ SB W v x.2

/-- What a round over All(row) keeps for the iterator. -/
def FrKp (n₀ b : Nat) (W W' : World) : Prop := Below n₀ W W' ∧ W'.cell? ⟨b, 0, none⟩ = W.cell? ⟨b, 0, none⟩
theorem frKp_t {n₀ b : Nat} {A B C : World} (h : FrKp n₀ b A B) (k : FrKp n₀ b B C) : FrKp n₀ b A C := ⟨h.1.trans k.1, k.2.trans h.2⟩
theorem frKp_b {n₀ b : Nat} {W : World} {l m : Nat} {o : Obj} (hn : n₀ ≤ m) (hb : b < m) (o' : Obj) (hl : m ≤ l) (h : W.heap[l]? = some o) : FrKp n₀ b W (W.putObj l o') := by
  have hlt := (Array.getElem?_eq_some_iff.1 h).1
  refine ⟨below_putObj W l o' (Below.refl _ _) (by omega) (by omega), ?_⟩
  exact World.cell?_of_block (w := W) (World.putObj_heap_other (by show b ≠ l; omega))

set_option maxRecDepth 100000 in
theorem all1_iter (b : Nat) (A : Option Addr) (n c : Nat) (row : List UInt8) (n₀ : Nat) (hn : n ≤ 140737488351232) (hc : n ≤ c) (hcm : c ≤ maxLen) :
    IterOf Try.prog 38 #[.pointer (some ⟨b, 0, none⟩)] (frames row).length (FrOk row) (FrKp n₀ b)
      (fun W => W.cell? ⟨b, 0, none⟩ = some (.slice A n c) ∧ RB W A n row ∧ ∀ ad, A = some ad → 0 < n → ad.block < n₀) := by
  intro m l J Jx W sJ sJx hpre hY h0
  obtain ⟨hb, hr, hbl⟩ := hpre
  obtain ⟨s1, s2, s3⟩ := frames_spec row
  refine callsIn_of_wp Try.func38 rfl trivial ?_ rfl
  simp only [Try.ntmps38, List.size_toArray, List.length_cons, List.length_nil, Nat.reduceAdd, Nat.reduceSub, Array.replicate_succ, Array.replicate_zero, List.push_toArray, List.append_toArray, List.nil_append, List.cons_append]
  have hcap : n ≤ 9223372036854775807 := by omega
  have hrow : row.length = n := hr.len
  have S0 : SB W (.slice A n c) row := ⟨A, n, c, rfl, hc, hcm, hr⟩
  have Hrow := Lib.hid hrow
  obtain ⟨fr, hfr⟩ : ∃ fr, fr = frames row := ⟨_, rfl⟩
  rw [← hfr] at s1 s2 s3
  have Hfr := Lib.hid hfr
  have S1 := Lib.hid s1
  have S2 := Lib.hid s2
  have S3 := Lib.hid s3
  clear s1 s2 s3 hfr hrow
  -- what the state says when the head of the loop is reached
  have head : ∀ (k : Nat) (w' : World) (pv : Value) (ok : Bool), k ≤ fr.length → ((∃ p, firstOf (row.drop (offs fr k)) = some p ∧ ok = true ∧ SB w' pv p) ∨ (firstOf (row.drop (offs fr k)) = none ∧ ok = false)) →
      (∃ x, fr[k]? = some x ∧ ok = true ∧ SB w' pv x.2) ∨ (k = fr.length ∧ ok = false) := by
    intro k w' pv ok hk h
    by_cases hlt : k < fr.length
    · have hx : fr[k]? = some fr[k] := List.getElem?_eq_getElem hlt
      have h2 := (S1.out k _ hx).2
      rcases h with ⟨p, h1, h3, h4⟩ | ⟨h1, _⟩
      · rw [h2] at h1
        cases h1
        exact .inl ⟨_, hx, h3, h4⟩
      · rw [h2] at h1
        cases h1
    · obtain rfl : k = fr.length := by omega
      rcases h with ⟨p, h1, _⟩ | ⟨_, h3⟩
      · rw [S2.out] at h1
        cases h1
      · exact .inr ⟨rfl, h3⟩
  have Head := Lib.hid head
  clear head
  gi_wp2_with fail
  refine ⟨trivial, fun h => by simp [Fence.wide] at h, callsIn_wide.2 ((first_sb W _ row S0).mono ?_)⟩
  rintro e w1 ⟨pv, ok, rfl, hb1, hcase⟩
  have hc1 := Head.out 0 w1 pv ok (Nat.zero_le _) (by rw [offs_zero]; exact hcase)
  have Hc1 := Lib.hid hc1
  have J1 := sJ _ _ _ h0 hb1
  have cb : b < W.heap.size := World.block_lt_of_cell? W _ hb
  have hcell1 : w1.cell? ⟨b, 0, none⟩ = some (.slice A n c) := (hb1.cell (p := ⟨b, 0, none⟩) cb).trans hb
  have hr1 := hr.below hb1
  clear hc1 hcase h0 hb hr S0
  gi_wp2_with fail
  gi_loopw [3, 4, 5] (fun at_ p ok wr => ∃ (k : Nat) (o : Bool), k ≤ fr.length ∧ at_ = .int .i64 (offs fr k : Int) ∧ ok = .bool o ∧ J k wr ∧ wr.cell? ⟨b, 0, none⟩ = some (.slice A n c) ∧ RB wr A n row ∧
      Hid ((∃ x, fr[k]? = some x ∧ o = true ∧ SB wr p x.2) ∨ (k = fr.length ∧ o = false))) (fun at_ _ _ _ => n - (intOf at_).toNat)
  case atStart => exact ⟨0, ok, Nat.zero_le _, by rw [offs_zero]; rfl, rfl, J1, hcell1, hr1, Hc1⟩
  case round =>
    obtain ⟨k, o, hk, rfl, rfl, hJ, hcell, hrr, hst⟩ := hrel
    rcases hst.out with ⟨x, hx, rfl, hS⟩ | ⟨rfl, rfl⟩
    · have hx' := S1.out k x hx
      have hkl : k < fr.length := (List.getElem?_eq_some_iff.1 hx).1
      obtain ⟨A', n', c', rfl, p1, p2, p3⟩ := id hS
      have hlx := p3.len
      have hx8 := (firstOf_len hx'.2).2
      obtain ⟨q, hq⟩ : ∃ q, q = offs fr k := ⟨_, rfl⟩
      have hq1 : offs fr (k + 1) = q + (8 + n') := by rw [offs_succ hx, ← hq, hlx]
      have hqn := S3.out (k + 1)
      rw [hq1, Hrow.out] at hqn
      have hxq : x.1 = q := by rw [hx'.1, hq]
      rw [← hq]
      have Hq := Lib.hid hq
      have Hq1 := Lib.hid hq1
      have Hx := Lib.hid hx
      have Hxq := Lib.hid hxq
      clear hq hq1 hx hxq hx' hst
      have p2' := p2
      unfold maxLen at p2'
      gi_wp2_with fail
      refine ⟨trivial, fun h => by simp [Fence.wide] at h, callsIn_wide.2 ((clone_sb wr _ x.2 hS (by omega)).mono ?_)⟩
      rintro e w2 ⟨v2, rfl, hown2, hb2⟩
      have cb2 : b < wr.heap.size := World.block_lt_of_cell? wr _ hcell
      have hcell2 : w2.cell? ⟨b, 0, none⟩ = some (.slice A n c) := (hb2.cell (p := ⟨b, 0, none⟩) cb2).trans hcell
      have hr2 := hrr.below hb2
      have hS2 : SB w2 v2 x.2 := SB.of_own hown2
      obtain ⟨fn, tmps, assign, body, hy, hR⟩ := hY k #[.int .i64 (q : Int), v2] w2 (by rw [← Hfr.out]; exact hkl) (sJ _ _ _ hJ hb2) ⟨x, v2, by rw [← Hfr.out]; exact Hx.out, by rw [Hxq.out], hS2⟩
      clear hJ hcell hrr hb2 hown2 hS2
      gi_wp2_with fail
      refine ⟨fun h => by simp [Fence.wide] at h, hR.mono ?_⟩
      rintro e w3 (⟨rfl, hJ3, hk3, hkc3⟩ | ⟨rfl, hJx3⟩)
      · have hr3 := hr2.belowB hk3 hbl
        have hcell3 : w3.cell? ⟨b, 0, none⟩ = some (.slice A n c) := hkc3.trans hcell2
        obtain ⟨p', hp'⟩ : ∃ p', p' = q + (8 + n') := ⟨_, rfl⟩
        have hcut := hr3.cut (k := p') (cap := c) (by omega) hc
        obtain ⟨ba, oa, rfl, _⟩ := hr3.2 (by omega)
        have hpp : (q : Int) + (8 + (n' : Int)) = (p' : Int) := by omega
        have hpn : p' ≤ n := by omega
        have Hp' := Lib.hid hp'
        clear hp' hcell2 hr2 hkc3 hk3
        by_cases e : c = p'
        · have hcn : n = p' := by omega
          have S4 : SB w3 (.slice (some ⟨ba, oa, none⟩) 0 0) (row.drop p') := by
            rw [if_pos e] at hcut
            refine ⟨_, 0, 0, rfl, Nat.le_refl _, Nat.zero_le _, ?_⟩
            rw [hcn, Nat.sub_self] at hcut
            exact hcut
          have Hcn := Lib.hid hcn
          clear hcn hcut
          subst e
          gi_wp2_with fail
          refine ⟨trivial, fun h => by simp [Fence.wide] at h, callsIn_wide.2 ((first_sb w3 _ _ S4).mono ?_)⟩
          rintro e w4 ⟨pv4, ok4, rfl, hb4, hcase⟩
          have hc4 := Lib.hid (Head.out (k + 1) w4 pv4 ok4 (by omega) (by rw [Hq1.out, ← Hp'.out]; exact hcase))
          have J4 := sJ _ _ _ hJ3 hb4
          have cb4 : b < w3.heap.size := World.block_lt_of_cell? w3 _ hcell3
          have hcell4 := (hb4.cell (p := ⟨b, 0, none⟩) cb4).trans hcell3
          have hr4 := hr3.below hb4
          clear hcase hJ3 hcell3 hr3 S4 hb4
          gi_wp2_with fail
          go_roundw
          case rel => exact ⟨k + 1, ok4, by omega, by rw [Hq1.out, ← Hp'.out], rfl, J4, hcell4, hr4, hc4⟩
          case measure => simp [intOf]; omega
        · have S4 : SB w3 (.slice (some ⟨ba, oa + p', none⟩) (n - p') (c - p')) (row.drop p') := by
            rw [if_neg e] at hcut
            refine ⟨_, n - p', c - p', rfl, by omega, by omega, ?_⟩
            simpa [Addr.add_mid] using hcut
          clear hcut
          gi_wp2_with fail
          refine ⟨trivial, fun h => by simp [Fence.wide] at h, callsIn_wide.2 ((first_sb w3 _ _ S4).mono ?_)⟩
          rintro e w4 ⟨pv4, ok4, rfl, hb4, hcase⟩
          have hc4 := Lib.hid (Head.out (k + 1) w4 pv4 ok4 (by omega) (by rw [Hq1.out, ← Hp'.out]; exact hcase))
          have J4 := sJ _ _ _ hJ3 hb4
          have cb4 : b < w3.heap.size := World.block_lt_of_cell? w3 _ hcell3
          have hcell4 := (hb4.cell (p := ⟨b, 0, none⟩) cb4).trans hcell3
          have hr4 := hr3.below hb4
          clear hcase hJ3 hcell3 hr3 S4 hb4
          gi_wp2_with fail
          go_roundw
          case rel => exact ⟨k + 1, ok4, by omega, by rw [Hq1.out, ← Hp'.out], rfl, J4, hcell4, hr4, hc4⟩
          case measure => simp [intOf]; omega
      · gi_wp2_with fail
        refine bodyPost_ret (results_none rfl _ _ _) rfl ?_
        exact ⟨⟨_, rfl⟩, .inr ⟨k, by rw [← Hfr.out]; exact hkl, hJx3⟩⟩
    · gi_wp2_with fail
      refine bodyPost_end (results_none rfl _ _ _) rfl ?_
      exact ⟨⟨_, rfl⟩, .inl (by rw [← Hfr.out]; exact hJ)⟩

theorem frOk_size {row : List UInt8} {k : Nat} {args : Array Value} {W : World} (h : FrOk row k args W) : args.size = 2 := by
  obtain ⟨x, v, _, rfl, _⟩ := h
  rfl
theorem frOk_putObj {row : List UInt8} {k l : Nat} {args : Array Value} {W : World} {o : Obj} (h : FrOk row k args W) (o' : Obj) (hl : W.heap[l]? = some o) (ho : o.isCells = false) : FrOk row k args (W.putObj l o') := by
  obtain ⟨x, v, h1, h2, h3⟩ := h
  exact ⟨x, v, h1, h2, h3.putObj o' hl ho⟩
theorem all_any (w : World) (A : Option Addr) (n c : Nat) :
    Calls Try.prog 30 #[.slice A n c] w fun e w' => e = .returned (.func (.func 38) #[] #[.pointer (some ⟨w.heap.size, 0, none⟩)]) ∧ w.alloc (.cells #[.slice A n c] 22) = w' := by
  go_enter Try.func30, Try.ntmps30
  go_wp2
  go_ret
  exact ⟨rfl, rfl⟩

set_option maxRecDepth 100000 in
theorem whole_any (w : World) (A : Option Addr) (n c : Nat) (row : List UInt8) (hr : RB w A n row) (hn : n ≤ 140737488351232) (hc : n ≤ c) (hcm : c ≤ maxLen) :
    Calls Try.prog 31 #[.slice A n c] w fun e w' => e = .returned (.int .i64 (wholeOf row : Int)) ∧ Below w.heap.size w w' := by
  refine (callsIn_wide (n := 9)).1 ?_
  refine callsIn_of_wp_marks Try.func31 rfl trivial ?_ rfl
  simp only [Try.ntmps31, List.size_toArray, List.length_cons, List.length_nil, Nat.reduceAdd, Nat.reduceSub, Array.replicate_succ, Array.replicate_zero, List.push_toArray, List.append_toArray, List.nil_append, List.cons_append]
  gi_wp2_with fail
  refine ⟨trivial, callsIn_wide.2 ((all_any _ A n c).mono ?_)⟩
  rintro e w1 ⟨rfl, hw1⟩
  have hb1 : Below w.heap.size w w1 := by rw [← hw1]; exact ((Below.refl _ _).alloc (Nat.le_refl _) _).alloc (by simp) _
  have hbox : w1.heap[w.heap.size]? = some (.cells #[.int .i64 0] 3 (0, 0)) := by rw [← hw1]; exact (Below.heap_alloc _ _ _ (by simp)).trans (heap_alloc_new w _)
  have hs1 : w1.heap.size = w.heap.size + 2 := by rw [← hw1]; simp
  have hcap : w1.cell? ⟨w.heap.size + 1, 0, none⟩ = some (.slice A n c) := by
    rw [← hw1]
    exact rangeAt_at (w.alloc (.cells #[.int .i64 0] 3)) (w.heap.size + 1) [.slice A n c] 22 (0, 0) (by simp) 0 _ rfl
  have hr1 := hr.below hb1
  have Hbox := Lib.hid hbox
  have Hs1 := Lib.hid hs1
  have Hcap := Lib.hid hcap
  clear hbox hs1 hcap hw1
  gi_wp2_with fail
  rw [wpIn_wide]
  have hk0 : w.heap.size < w1.heap.size := by rw [Hs1.out]; omega
  have hk1 : w.heap.size + 1 < w1.heap.size := by rw [Hs1.out]; omega
  have hblk : ∀ ad, A = some ad → 0 < n → ad.block < w.heap.size := by
    rintro ad rfl h0
    obtain ⟨b, o, e, _⟩ := hr.2 h0
    cases e
    exact RV.lt hr h0
  refine wp_rangeIter (n := 9) rfl (enters_of Try.func38 (by kernel_rfl) rfl) (all1_iter (w.heap.size + 1) A n c row w.heap.size hn hc hcm) (fun k args W h => frOk_size h) (fun h k => frKp_t h k)
    (fun W l o o' hl h _ => frKp_b (m := w1.heap.size) (by omega) (by omega) o' hl h) (fun k args W l o o' h _ hl ho => frOk_putObj h o' hl ho)
    (fun k W => W.heap[w.heap.size]? = some (.cells #[.int .i64 (offs (frames row) k : Int)] 3 (0, 0)) ∧ Below w.heap.size w W) (fun _ _ _ => False)
    (fun k W W' h hb => ⟨heap_below h.1 hb, h.2.trans (hb.mono h.2.size)⟩) (fun c k W W' h hb => h)
    (fun k W l o o' h hl ho hoc => ⟨heap_putObj h.1 o' ho hoc, below_putObj W l o' h.2 (by omega) h.2.size⟩) (fun c k W l o o' h _ _ _ => h)
    (fun W hb => ⟨(hb.cell (p := ⟨w.heap.size + 1, 0, none⟩) hk1).trans Hcap.out, hr1.below hb, hblk⟩)
    ⟨by rw [offs_zero]; exact Hbox.out, hb1⟩
    (fun args => { tmps := #[.slice A n c, undef, .int .i64 0, .pointer (some ⟨w.heap.size, 0, none⟩), args.getD 0 undef, args.getD 1 undef, .slice A n c, .func (.func 38) #[] #[.pointer (some ⟨w.heap.size + 1, 0, none⟩)], args.getD 0 undef, args.getD 1 undef, undef, undef, undef, undef, undef, undef], defers := [] })
    ?assign ?body ?done ?stop
  case assign =>
    rintro l k args W K ⟨x, v, _, rfl, _⟩ hK
    gi_wp2
    exact hK
  case body =>
    rintro l k args W hk ⟨hbx, hbw⟩ ⟨x, v, hx, rfl, hS⟩
    obtain ⟨A', n', c', rfl, p1, p2, p3⟩ := hS
    have hx' := (frames_spec row).1 k x hx
    have hlx := p3.len
    have hx8 := (firstOf_len hx'.2).2
    have hon := (frames_spec row).2.2 (k + 1)
    have hs := offs_succ hx
    rw [hs, hr.len, hlx] at hon
    rw [hlx] at hx8 hs
    have hcell : W.cell? ⟨w.heap.size, 0, none⟩ = some (.int .i64 (offs (frames row) k : Int)) := by rw [cell_of_row _ _ _ _ _ _ hbx]; rfl
    have hfr := frozen_blk hbx 0
    obtain ⟨q, hq⟩ : ∃ q, q = offs (frames row) k := ⟨_, rfl⟩
    rw [hx'.1, ← hq]
    rw [← hq] at hon hs hcell
    have Hq := Lib.hid hq
    have Hs := Lib.hid hs
    have Hx := Lib.hid hbx
    clear hq hs hx hx' hbx p3 hlx
    have hsz : (if (0 : Int) ≤ (n' : Int) ∧ (n' : Int) ≤ 65536 then 8 + (n' : Int) else 0) = 8 + (n' : Int) := if_pos (by omega)
    have Hsz := Lib.hid hsz
    clear hsz
    simp only [show ∀ a b : Value, #[a, b].getD 0 undef = a from fun _ _ => rfl, show ∀ a b : Value, #[a, b].getD 1 undef = b from fun _ _ => rfl]
    gi_wp2_with fail
    refine ⟨trivial, CallsIn.inRound l (callsIn_wide.2 ((size_any W (n' : Int) (by omega) (by omega)).mono ?_))⟩
    rintro e W' ⟨rfl, rfl⟩
    rw [Hsz.out]
    gi_wp2
    refine ⟨KeepsOthers.setCell _ _ _, ⟨(Below.refl w.heap.size W).setCell (p := ⟨w.heap.size, 0, none⟩) (Nat.le_refl _) _, ?_⟩, ?_, hbw.setCell (p := ⟨w.heap.size, 0, none⟩) (Nat.le_refl _) _⟩
    · exact World.cell?_setCell_other W _ _ _ (fun e => by simp at e)
    · rw [Hs.out, heap_setCell_same W w.heap.size 0 _ _ _ Hx.out]
      rfl
  case done =>
    rintro D W hD ⟨hbx, hbw⟩ hK
    have hcell : W.cell? ⟨w.heap.size, 0, none⟩ = some (.int .i64 (offs (frames row) (frames row).length : Int)) := by rw [cell_of_row _ _ _ _ _ _ hbx]; rfl
    clear hbx
    simp only [Exit.inBlock, Exit.then]
    gi_wp2
    refine ⟨by simp, .inl ⟨_, _, rfl, run_takeDeferred hK, ?_⟩⟩
    exact ⟨_, results_tmp rfl _ _ _, rfl, below_putObj W D _ hbw (by omega) hbw.size⟩
  case stop =>
    intro D c k W _ _ h _
    exact h.elim

set_option maxRecDepth 100000 in
theorem count_any (w : World) (A : Option Addr) (n c : Nat) (row : List UInt8) (hr : RB w A n row) (hn : n ≤ 140737488351232) (hc : n ≤ c) (hcm : c ≤ maxLen) :
    Calls Try.prog 33 #[.slice A n c] w fun e w' => e = .returned (.int .i64 ((frames row).length : Int)) ∧ Below w.heap.size w w' := by
  refine (callsIn_wide (n := 9)).1 ?_
  refine callsIn_of_wp_marks Try.func33 rfl trivial ?_ rfl
  simp only [Try.ntmps33, List.size_toArray, List.length_cons, List.length_nil, Nat.reduceAdd, Nat.reduceSub, Array.replicate_succ, Array.replicate_zero, List.push_toArray, List.append_toArray, List.nil_append, List.cons_append]
  gi_wp2_with fail
  refine ⟨trivial, callsIn_wide.2 ((all_any _ A n c).mono ?_)⟩
  rintro e w1 ⟨rfl, hw1⟩
  have hb1 : Below w.heap.size w w1 := by rw [← hw1]; exact ((Below.refl _ _).alloc (Nat.le_refl _) _).alloc (by simp) _
  have hbox : w1.heap[w.heap.size]? = some (.cells #[.int .i64 0] 3 (0, 0)) := by rw [← hw1]; exact (Below.heap_alloc _ _ _ (by simp)).trans (heap_alloc_new w _)
  have hs1 : w1.heap.size = w.heap.size + 2 := by rw [← hw1]; simp
  have hcap : w1.cell? ⟨w.heap.size + 1, 0, none⟩ = some (.slice A n c) := by
    rw [← hw1]
    exact rangeAt_at (w.alloc (.cells #[.int .i64 0] 3)) (w.heap.size + 1) [.slice A n c] 22 (0, 0) (by simp) 0 _ rfl
  have hr1 := hr.below hb1
  have Hbox := Lib.hid hbox
  have Hs1 := Lib.hid hs1
  have Hcap := Lib.hid hcap
  clear hbox hs1 hcap hw1
  gi_wp2_with fail
  rw [wpIn_wide]
  have hk0 : w.heap.size < w1.heap.size := by rw [Hs1.out]; omega
  have hk1 : w.heap.size + 1 < w1.heap.size := by rw [Hs1.out]; omega
  have hblk : ∀ ad, A = some ad → 0 < n → ad.block < w.heap.size := by
    rintro ad rfl h0
    obtain ⟨b, o, e, _⟩ := hr.2 h0
    cases e
    exact RV.lt hr h0
  refine wp_rangeIter (n := 9) rfl (enters_of Try.func38 (by kernel_rfl) rfl) (all1_iter (w.heap.size + 1) A n c row w.heap.size hn hc hcm) (fun k args W h => frOk_size h) (fun h k => frKp_t h k)
    (fun W l o o' hl h _ => frKp_b (m := w1.heap.size) (by omega) (by omega) o' hl h) (fun k args W l o o' h _ hl ho => frOk_putObj h o' hl ho)
    (fun k W => W.heap[w.heap.size]? = some (.cells #[.int .i64 (k : Int)] 3 (0, 0)) ∧ Below w.heap.size w W) (fun _ _ _ => False)
    (fun k W W' h hb => ⟨heap_below h.1 hb, h.2.trans (hb.mono h.2.size)⟩) (fun c k W W' h hb => h)
    (fun k W l o o' h hl ho hoc => ⟨heap_putObj h.1 o' ho hoc, below_putObj W l o' h.2 (by omega) h.2.size⟩) (fun c k W l o o' h _ _ _ => h)
    (fun W hb => ⟨(hb.cell (p := ⟨w.heap.size + 1, 0, none⟩) hk1).trans Hcap.out, hr1.below hb, hblk⟩)
    ⟨Hbox.out, hb1⟩
    (fun args => { tmps := #[.slice A n c, undef, .int .i64 0, .pointer (some ⟨w.heap.size, 0, none⟩), .slice A n c, .func (.func 38) #[] #[.pointer (some ⟨w.heap.size + 1, 0, none⟩)], args.getD 0 undef, args.getD 1 undef, undef, undef, undef], defers := [] })
    ?assign ?body ?done ?stop
  case assign =>
    rintro l k args W K ⟨x, v, _, rfl, _⟩ hK
    gi_wp2
    simpa using hK
  case body =>
    rintro l k args W hk ⟨hbx, hbw⟩ ⟨x, v, hx, rfl, hS⟩
    have hlen := frames_len row
    rw [hr.len] at hlen
    have hcell : W.cell? ⟨w.heap.size, 0, none⟩ = some (.int .i64 (k : Int)) := by rw [cell_of_row _ _ _ _ _ _ hbx]; rfl
    have hfr := frozen_blk hbx 0
    have Hx := Lib.hid hbx
    clear hx hbx hS
    simp only [show ∀ a b : Value, #[a, b].getD 0 undef = a from fun _ _ => rfl, show ∀ a b : Value, #[a, b].getD 1 undef = b from fun _ _ => rfl]
    gi_wp2
    refine ⟨KeepsOthers.setCell _ _ _, ⟨(Below.refl w.heap.size W).setCell (p := ⟨w.heap.size, 0, none⟩) (Nat.le_refl _) _, ?_⟩, ?_, hbw.setCell (p := ⟨w.heap.size, 0, none⟩) (Nat.le_refl _) _⟩
    · exact World.cell?_setCell_other W _ _ _ (fun e => by simp at e)
    · rw [heap_setCell_same W w.heap.size 0 _ _ _ Hx.out]
      rfl
  case done =>
    rintro D W hD ⟨hbx, hbw⟩ hK
    have hcell : W.cell? ⟨w.heap.size, 0, none⟩ = some (.int .i64 ((frames row).length : Int)) := by rw [cell_of_row _ _ _ _ _ _ hbx]; rfl
    clear hbx
    simp only [Exit.inBlock, Exit.then]
    gi_wp2
    refine ⟨by simp, .inl ⟨_, _, rfl, run_takeDeferred hK, ?_⟩⟩
    exact ⟨_, results_tmp rfl _ _ _, rfl, below_putObj W D _ hbw (by omega) hbw.size⟩
  case stop =>
    intro D c k W _ _ h _
    exact h.elim
end Go.Proofs.Ytdmiiageihbokaa
