/-
  THE WALKS of slices.AppendSeq and slices.Collect at a key's places; Run.Of.
-/
import Derived.Test.YtkfpnilbjjkhgaaRnK
namespace Go.Proofs.Ytkfpnilbjjkhgaa
open Go.RowKit Go.Lib Go.Sort Go.Shelf
attribute [local go_sem] Oper.semAt_some

def I64v (z : Int) : Value := .int .i64 z
theorem info_int3 : (Try.prog.info? 3).map (fun i => (i.zero, i.size, i.bytes)) = some (some (.int .i64 0), 1, 8) := by kernel_rfl
/-- Numbers collected in a variable. -/
structure SeqI (w : World) (T : List Int) (n k : Nat) (W : World) : Prop where
  below : Below w.heap.size w W
  kn : k ≤ n
  row : ∃ A c, W.heap[w.heap.size]? = some (.cells #[.slice A k c] 47 (0, 0)) ∧ W.ownsRow w.heap.size 3 1 (.slice A k c) k ((T.take k).map I64v)
theorem SeqI.stable {w W W' : World} {T : List Int} {n k : Nat} (h : SeqI w T n k W) (hb : Below W.heap.size W W') : SeqI w T n k W' := by
  obtain ⟨h1, h2, A, c, h3, h4⟩ := h
  exact ⟨h1.trans (hb.mono h1.size), h2, A, c, heap_below h3 hb, ownsRow_below h4 hb⟩
theorem SeqI.abides {w W : World} {T : List Int} {n k l : Nat} {o : Obj} (h : SeqI w T n k W) (o' : Obj) (hl : W.heap[l]? = some o) (ho : o.isCells = false) (hlt : w.heap.size ≤ l) : SeqI w T n k (W.putObj l o') := by
  obtain ⟨h1, h2, A, c, h3, h4⟩ := h
  exact ⟨below_putObj W l o' h1 hlt h1.size, h2, A, c, heap_putObj h3 o' hl ho, ownsRow_putObj h4 o' hl ho⟩
def IntsPost (w : World) (T : List Int) (e : Ending) (w' : World) : Prop := ∃ A c, e = .returned (.slice A T.length c) ∧ w'.ownsRow w.heap.size 3 1 (.slice A T.length c) T.length (T.map I64v) ∧ Below w.heap.size w w'
theorem cell_putObj {W : World} {b : Nat} {v : Value} {l : Nat} {o : Obj} (h : W.cell? ⟨b, 0, none⟩ = some v) (o' : Obj) (hl : W.heap[l]? = some o) (ho : o.isCells = false) : (W.putObj l o').cell? ⟨b, 0, none⟩ = some v := by
  refine (World.cell?_of_block (w := W) (World.putObj_heap_other (fun e => ?_))).trans h
  subst e
  unfold World.cell? at h
  rw [hl] at h
  cases o <;> simp [Obj.isCells] at ho h
set_option maxRecDepth 100000 in
set_option maxHeartbeats 1000000 in
theorem seq_any (w : World) (b1 b2 b3 : Nat) (A0 : Option Addr) (n c0 : Nat) (ls : List Po) (hn : n ≤ 1000000) (hnc : n ≤ c0) (hcm : c0 ≤ maxLen) (ha : Asc ls) (key : List UInt8) (at_ : Int)
    (h1 : w.cell? ⟨b1, 0, none⟩ = some (.slice A0 n c0)) (h2 : w.cell? ⟨b2, 0, none⟩ = some (.string ⟨key.toArray⟩)) (h3 : w.cell? ⟨b3, 0, none⟩ = some (.int .i64 at_)) (hr : RP w A0 n ls) :
    Calls Try.prog 46 #[.slice none 0 0, .func (.func 42) #[] #[.pointer (some ⟨b1, 0, none⟩), .pointer (some ⟨b2, 0, none⟩), .pointer (some ⟨b3, 0, none⟩)]] w (IntsPost w (placesF ls key at_)) := by
  have hlen : (placesF ls key at_).length ≤ 1000000 := by
    unfold placesF
    rw [List.length_map]
    have h5 := tw_le (fun p : Po => decide (p.1 = key)) (ls.drop (insAt ls (key, at_)))
    rw [List.length_drop, hr.1] at h5
    omega
  have hit := from_iter b1 b2 b3 A0 n c0 ls hn hnc hcm ha key at_
  obtain ⟨T, hT⟩ : ∃ T, T = placesF ls key at_ := ⟨_, rfl⟩
  rw [← hT] at hlen hit ⊢
  have Hit := Lib.hid hit
  have l1 := World.block_lt_of_cell? w _ h1
  have l2 := World.block_lt_of_cell? w _ h2
  have l3 := World.block_lt_of_cell? w _ h3
  have H12 := Lib.hid (And.intro h1 (And.intro h2 (And.intro h3 hr)))
  clear hT h1 h2 h3 hr hit hnc hcm
  refine (callsIn_wide (n := 9)).1 ?_
  refine callsIn_of_wp_marks Try.func46 rfl trivial ?_ rfl
  rw [wpIn_wide]
  simp only [Try.ntmps46, List.size_toArray, List.length_cons, List.length_nil, Nat.reduceAdd, Nat.reduceSub, Array.replicate_succ, Array.replicate_zero, List.push_toArray, List.append_toArray, List.nil_append, List.cons_append]
  go_wp2_with fail
  obtain ⟨W0, hW0⟩ : ∃ W0, W0 = w.alloc (.cells #[.slice none 0 0] 47) := ⟨_, rfl⟩
  have hb0 : Below w.heap.size w W0 := by rw [hW0]; exact (Below.refl _ _).alloc (Nat.le_refl _) _
  have hs0 : W0.heap.size = w.heap.size + 1 := by rw [hW0]; simp
  have hc0 : W0.heap[w.heap.size]? = some (.cells #[.slice none 0 0] 47 (0, 0)) := by rw [hW0]; exact heap_alloc_new w _
  rw [← hW0]
  have Hs0 := Lib.hid hs0
  clear hW0 hs0
  refine wp_rangeIterF (n := 9) rfl (enters_of Try.func42 (by kernel_rfl) rfl) Hit.out (fun k args W h => by obtain ⟨t, _, rfl⟩ := h; rfl) (fun h1 h2 => ⟨fun h => h2.1 (h1.1 h), fun h => h2.2 (h1.2 h)⟩) (fun W l o o' _ hl ho => ⟨fun h => h.putObj o' hl ho, fun h => cell_putObj h o' hl ho⟩) (fun k args W l o o' h _ _ _ => h)
    (fun k W => SeqI w T T.length k W) (fun _ _ _ => False)
    (fun k W W' h hb => h.stable hb) (fun c k W W' h hb => h)
    (fun k W l o o' h hl ho hoc => h.abides o' ho hoc (Nat.le_trans hb0.size hl)) (fun c k W l o o' h _ _ _ => h)
    (fun W hb => ⟨((hb0.trans (hb.mono hb0.size)).cell (p := ⟨b1, 0, none⟩) l1).trans H12.out.1, ((hb0.trans (hb.mono hb0.size)).cell (p := ⟨b2, 0, none⟩) l2).trans H12.out.2.1, ((hb0.trans (hb.mono hb0.size)).cell (p := ⟨b3, 0, none⟩) l3).trans H12.out.2.2.1, H12.out.2.2.2.below (hb0.trans (hb.mono hb0.size))⟩)
    ⟨hb0, Nat.zero_le _, none, 0, hc0, World.ownsRow_nil _ _ _ _⟩
    (fun args T => (T.setIfInBounds 7 (args.getD 0 undef)).setIfInBounds 5 (args.getD 0 undef))
    ?assign ?body ?done ?stop
  case assign =>
    rintro l k args W K ⟨t, _, rfl⟩ hK
    gi_wp2
    simpa using hK
  case body =>
    rintro l k args W hk ⟨hbw, hkn, A, c, hc, hown⟩ ⟨t, ht, rfl⟩
    have hcell : W.cell? ⟨w.heap.size, 0, none⟩ = some (.slice A k c) := by rw [cell_of_row _ _ _ _ _ _ hc]; rfl
    have hfr := frozen_blk hc 0
    obtain ⟨xs, hxs⟩ : ∃ xs, xs = (T.take k).map I64v := ⟨_, rfl⟩
    rw [← hxs] at hown
    have Hc := Lib.hid hc
    have Ht := Lib.hid ht
    have Hxs := Lib.hid hxs
    simp only [show ∀ a : Value, #[a].getD 0 undef = a from fun _ => rfl, List.setIfInBounds_toArray, List.set_cons_succ, List.set_cons_zero]
    clear hc ht hxs
    gi_wp2_with (gi_at_builtin; refine wpListIn_append_keep rfl (.tmp 8) (.tmp 10) 47 rfl w ?hW Try.underlying47 info_int3 rfl (by decide) (.slice A k c) k xs rfl (hown.alloc _) (some ⟨W.heap.size, 0, none⟩) 1 1 [.int .i64 t] rfl (rc_new W _ _ _) rfl (by intro u hu; simp at hu; subst hu; rfl) (by unfold maxLen; omega) (by omega) ?_; (case hW => exact hbw.alloc hbw.size _); intro v6 w6 hown6 hb6 hk6 hg6 ho6; obtain ⟨A6, c6, rfl, -, -, -, -⟩ := own_form hown6; have hc6 := Lib.hid ((hg6.block w.heap.size (by have := (Array.getElem?_eq_some_iff.1 Hc.out).1; simp; omega) (fun e => own_notBox hown Hc.out (by decide) e.symm)).trans (heap_below Hc.out ((Below.refl _ _).alloc (Nat.le_refl _) _))); have hcell6 : w6.cell? ⟨w.heap.size, 0, none⟩ = some (.slice A k c) := (by rw [cell_of_row _ _ _ _ _ _ hc6.out]; rfl); have hfr6 := frozen_blk hc6.out 0; have H6 := Lib.hid (And.intro hown6 (And.intro hb6 hg6)); clear hown6 hb6 hk6 hg6)
    refine ⟨((KeepsOthers.alloc W _).trans (KeepsOthers.of_grownBy H6.out.2.2 ?_)).trans (KeepsOthers.setCell _ _ _), ⟨fun _ => H12.out.2.2.2.below (H6.out.2.1.setCell (p := ⟨w.heap.size, 0, none⟩) (Nat.le_refl _) _), fun _ => ((H6.out.2.1.setCell (p := ⟨w.heap.size, 0, none⟩) (Nat.le_refl _) _).cell (p := ⟨b2, 0, none⟩) l2).trans H12.out.2.1⟩, H6.out.2.1.setCell (p := ⟨w.heap.size, 0, none⟩) (Nat.le_refl _) _, by omega, A6, c6, ?_, ?_⟩
    · intro j o hj ho
      rcases hown.2 with ⟨e, _⟩ | ⟨g, cap, cur, e, _, hh, _⟩
      · rw [e] at hj; simp [Value.ownBlock] at hj
      · rw [e] at hj
        simp [Value.ownBlock] at hj
        subst hj
        have := heap_below hh ((Below.refl W.heap.size W).alloc (Nat.le_refl _) (.cells #[.int .i64 t] 3))
        rw [this] at ho
        cases ho
        rfl
    · rw [heap_setCell_same _ w.heap.size 0 _ _ _ hc6.out]
      rfl
    · have : (T.take (k + 1)).map I64v = xs ++ [.int .i64 t] := by rw [take_snoc Ht.out, List.map_append, Hxs.out]; rfl
      rw [this]
      exact own_setBox H6.out.1 hc6.out (by decide) 0 _
  case done =>
    rintro D W hD ⟨hbw, hkn, A, c, hc, hown⟩ hK
    have hcell : W.cell? ⟨w.heap.size, 0, none⟩ = some (.slice A T.length c) := by rw [cell_of_row _ _ _ _ _ _ hc]; rfl
    rw [List.take_of_length_le (Nat.le_refl _)] at hown
    have HO := Lib.hid hown
    clear hc hown
    simp only [Exit.inBlock, Exit.then]
    go_wp2
    refine ⟨by simp, .inl ⟨_, _, rfl, run_takeDeferred hK, ?_⟩⟩
    exact ⟨_, results_tmp rfl _ _ _, A, c, rfl, ownsRow_putObj HO.out _ hK rfl, below_putObj W D _ hbw (by have := Hs0.out; omega) hbw.size⟩
  case stop =>
    intro D c k W _ _ h _
    exact h.elim
theorem collect_any (w : World) (b1 b2 b3 : Nat) (A0 : Option Addr) (n c0 : Nat) (ls : List Po) (hn : n ≤ 1000000) (hnc : n ≤ c0) (hcm : c0 ≤ maxLen) (ha : Asc ls) (key : List UInt8) (at_ : Int)
    (h1 : w.cell? ⟨b1, 0, none⟩ = some (.slice A0 n c0)) (h2 : w.cell? ⟨b2, 0, none⟩ = some (.string ⟨key.toArray⟩)) (h3 : w.cell? ⟨b3, 0, none⟩ = some (.int .i64 at_)) (hr : RP w A0 n ls) :
    Calls Try.prog 35 #[.func (.func 42) #[] #[.pointer (some ⟨b1, 0, none⟩), .pointer (some ⟨b2, 0, none⟩), .pointer (some ⟨b3, 0, none⟩)]] w (IntsPost w (placesF ls key at_)) := by
  have hs := seq_any w b1 b2 b3 A0 n c0 ls hn hnc hcm ha key at_ h1 h2 h3 hr
  have HS := Lib.hid hs
  clear hs h1 h2 h3 hr
  go_enter Try.func35, Try.ntmps35
  go_wp2_with fail
  refine HS.out.mono ?_
  rintro e w' ⟨A, c, rfl, h1, h2⟩
  have H := Lib.hid (And.intro h1 h2)
  clear h1 h2
  go_wp2_with fail
  go_ret
  exact ⟨A, c, rfl, H.out.1, H.out.2⟩
set_option maxRecDepth 100000 in
theorem of_any (w : World) (A0 : Option Addr) (n c0 : Nat) (ls : List Po) (hn : n ≤ 1000000) (hnc : n ≤ c0) (hcm : c0 ≤ maxLen) (ha : Asc ls) (key : List UInt8) (hr : RP w A0 n ls) :
    Calls Try.prog 19 #[.agg #[.slice A0 n c0], .string ⟨key.toArray⟩] w (IntsPost w (placesF ls key (-9223372036854775808))) := by
  have H := Lib.hid hr
  clear hr
  go_enter Try.func19, Try.ntmps19
  go_wp2_with fail
  refine (from_any _ A0 n c0 key (-9223372036854775808)).mono ?_
  rintro e w1 ⟨rfl, hw1⟩
  have hb1 : Below w.heap.size w w1 := by
    rw [← hw1]
    exact ((((Below.refl _ _).alloc (Nat.le_refl _) _).alloc (by simp) _).alloc (by simp; omega) _).alloc (by simp; omega) _
  have g1 : w1.cell? ⟨w.heap.size + 1, 0, none⟩ = some (.slice A0 n c0) := by
    have h : w1.heap[w.heap.size + 1]? = some (.cells #[.slice A0 n c0] 28 (0, 0)) := by
      rw [← hw1]
      exact (Below.heap_alloc _ _ _ (by simp)).trans ((Below.heap_alloc _ _ _ (by simp)).trans (heap_alloc_at _ _ _ (by simp)))
    rw [cell_of_row _ _ _ _ _ _ h]; rfl
  have g2 : w1.cell? ⟨w.heap.size + 2, 0, none⟩ = some (.string ⟨key.toArray⟩) := by
    have h : w1.heap[w.heap.size + 2]? = some (.cells #[.string ⟨key.toArray⟩] 9 (0, 0)) := by
      rw [← hw1]
      exact (Below.heap_alloc _ _ _ (by simp)).trans (heap_alloc_at _ _ _ (by simp))
    rw [cell_of_row _ _ _ _ _ _ h]; rfl
  have g3 : w1.cell? ⟨w.heap.size + 3, 0, none⟩ = some (.int .i64 (-9223372036854775808)) := by
    have h : w1.heap[w.heap.size + 3]? = some (.cells #[.int .i64 (-9223372036854775808)] 3 (0, 0)) := by
      rw [← hw1]
      exact heap_alloc_at _ _ _ (by simp)
    rw [cell_of_row _ _ _ _ _ _ h]; rfl
  have hc := collect_any w1 (w.heap.size + 1) (w.heap.size + 2) (w.heap.size + 3) A0 n c0 ls hn hnc hcm ha key (-9223372036854775808) g1 g2 g3 (H.out.below hb1)
  have HC := Lib.hid hc
  have HB := Lib.hid hb1
  clear hc g1 g2 g3 hw1 hb1
  go_wp2_with fail
  rw [show w.heap.size + 1 + 1 = w.heap.size + 2 from rfl, show w.heap.size + 1 + 2 = w.heap.size + 3 from rfl]
  refine HC.out.mono ?_
  rintro e w2 ⟨A2, c2, rfl, hown2, hb2⟩
  have HR := Lib.hid (And.intro (own_wide hown2 HB.out.size) (HB.out.trans (hb2.mono HB.out.size)))
  clear hown2 hb2
  go_wp2_with fail
  go_ret
  exact ⟨A2, c2, rfl, HR.out.1, HR.out.2⟩
end Go.Proofs.Ytkfpnilbjjkhgaa
