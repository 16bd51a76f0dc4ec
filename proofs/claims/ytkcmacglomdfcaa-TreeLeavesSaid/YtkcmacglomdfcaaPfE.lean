/-
  THE WALKS of slices.AppendSeq and slices.Collect at the turns of a way.
-/
import Derived.Test.YtkcmacglomdfcaaPfD
namespace Go.Proofs.Ytkcmacglomdfcaa
open Go.RowKit Go.Shelf
attribute [local go_sem] Oper.semAt_some

theorem info_turn3 : (Try.prog.info? 140).map (fun i => (i.zero, i.size, i.bytes)) = some (some (.bool false), 1, 1) := by kernel_rfl
/-- Turns collected in a variable. -/
structure SeqI (w : World) (T : List Bool) (n k : Nat) (W : World) : Prop where
  below : Below w.heap.size w W
  kn : k ≤ n
  row : ∃ A c, W.heap[w.heap.size]? = some (.cells #[.slice A k c] 137 (0, 0)) ∧ W.ownsRow w.heap.size 140 1 (.slice A k c) k ((T.take k).map Value.bool)
theorem SeqI.stable {w W W' : World} {T : List Bool} {n k : Nat} (h : SeqI w T n k W) (hb : Below W.heap.size W W') : SeqI w T n k W' := by
  obtain ⟨h1, h2, A, c, h3, h4⟩ := h
  exact ⟨h1.trans (hb.mono h1.size), h2, A, c, heap_below h3 hb, ownsRow_below h4 hb⟩
theorem SeqI.abides {w W : World} {T : List Bool} {n k l : Nat} {o : Obj} (h : SeqI w T n k W) (o' : Obj) (hl : W.heap[l]? = some o) (ho : o.isCells = false) (hlt : w.heap.size ≤ l) : SeqI w T n k (W.putObj l o') := by
  obtain ⟨h1, h2, A, c, h3, h4⟩ := h
  exact ⟨below_putObj W l o' h1 hlt h1.size, h2, A, c, heap_putObj h3 o' hl ho, ownsRow_putObj h4 o' hl ho⟩
def TurnsPost (w : World) (T : List Bool) (e : Ending) (w' : World) : Prop := ∃ A c, e = .returned (.slice A T.length c) ∧ w'.ownsRow w.heap.size 140 1 (.slice A T.length c) T.length (T.map Value.bool) ∧ Below w.heap.size w w'
set_option maxRecDepth 100000 in
set_option maxHeartbeats 1000000 in
theorem seq_any (w : World) (b1 b2 i n : Nat) (hi : i < n) (hn : n ≤ 1048576) (h1 : w.cell? ⟨b1, 0, none⟩ = some (.int .i64 (i : Int))) (h2 : w.cell? ⟨b2, 0, none⟩ = some (.int .i64 (n : Int))) :
    Calls Try.prog 111 #[.slice none 0 0, .func (.func 106) #[] #[.pointer (some ⟨b1, 0, none⟩), .pointer (some ⟨b2, 0, none⟩)]] w (TurnsPost w (turns i n)) := by
  have hlen := turns_len n i
  obtain ⟨T, hT⟩ : ∃ T, T = turns i n := ⟨_, rfl⟩
  rw [← hT] at hlen ⊢
  have HT := Lib.hid hT
  have l1 := World.block_lt_of_cell? w _ h1
  have l2 := World.block_lt_of_cell? w _ h2
  have H12 := Lib.hid (And.intro h1 h2)
  clear hT h1 h2
  refine (callsIn_wide (n := 9)).1 ?_
  refine callsIn_of_wp_marks Try.func111 rfl trivial ?_ rfl
  rw [wpIn_wide]
  simp only [Try.ntmps111, List.size_toArray, List.length_cons, List.length_nil, Nat.reduceAdd, Nat.reduceSub, Array.replicate_succ, Array.replicate_zero, List.push_toArray, List.append_toArray, List.nil_append, List.cons_append]
  go_wp2_with fail
  obtain ⟨W0, hW0⟩ : ∃ W0, W0 = w.alloc (.cells #[.slice none 0 0] 137) := ⟨_, rfl⟩
  have hb0 : Below w.heap.size w W0 := by rw [hW0]; exact (Below.refl _ _).alloc (Nat.le_refl _) _
  have hs0 : W0.heap.size = w.heap.size + 1 := by rw [hW0]; simp
  have hc0 : W0.heap[w.heap.size]? = some (.cells #[.slice none 0 0] 137 (0, 0)) := by rw [hW0]; exact heap_alloc_new w _
  rw [← hW0]
  have Hs0 := Lib.hid hs0
  clear hW0 hs0
  refine wp_rangeIterF (n := 9) rfl (enters_of Try.func106 (by kernel_rfl) rfl) (way1_iter b1 b2 i n T HT.out hn hi) (fun k args W h => wyOk_size h) (fun _ _ => trivial) (fun _ _ _ _ _ _ _ => trivial) (fun k args W l o o' h _ _ _ => h)
    (fun k W => SeqI w T n k W) (fun _ _ _ => False)
    (fun k W W' h hb => h.stable hb) (fun c k W W' h hb => h)
    (fun k W l o o' h hl ho hoc => h.abides o' ho hoc (Nat.le_trans hb0.size hl)) (fun c k W l o o' h _ _ _ => h)
    (fun W hb => ⟨((hb0.trans (hb.mono hb0.size)).cell (p := ⟨b1, 0, none⟩) l1).trans H12.out.1, ((hb0.trans (hb.mono hb0.size)).cell (p := ⟨b2, 0, none⟩) l2).trans H12.out.2⟩)
    ⟨hb0, Nat.zero_le _, none, 0, hc0, World.ownsRow_nil _ _ _ _⟩
    (fun args T => (T.setIfInBounds 7 (args.getD 0 undef)).setIfInBounds 5 (args.getD 0 undef))
    ?assign ?body ?done ?stop
  case assign =>
    rintro l k args W K ⟨t, _, rfl⟩ hK
    gi_wp2
    simpa using hK
  case body =>
    rintro l k args W hk ⟨hbw, hkn, A, c, hc, hown⟩ ⟨t, ht, rfl⟩
    have hcell : W.cell? ⟨w.heap.size, 0, none⟩ = some (.slice A k c) := by rw [cell_of_row _ _ _ _ _ _ hc]; rfl
    have hfr := frozen_blk hc 0
    obtain ⟨xs, hxs⟩ : ∃ xs, xs = (T.take k).map Value.bool := ⟨_, rfl⟩
    rw [← hxs] at hown
    have Hc := Lib.hid hc
    have Ht := Lib.hid ht
    have Hxs := Lib.hid hxs
    simp only [show ∀ a : Value, #[a].getD 0 undef = a from fun _ => rfl, List.setIfInBounds_toArray, List.set_cons_succ, List.set_cons_zero]
    clear hc ht hxs
    gi_wp2_with (gi_at_builtin; refine wpListIn_append_keep rfl (.tmp 8) (.tmp 10) 137 rfl w ?hW Try.underlying137 info_turn3 rfl (by decide) (.slice A k c) k xs rfl (hown.alloc _) (some ⟨W.heap.size, 0, none⟩) 1 1 [.bool t] rfl (rc_new W _ _ _) rfl (by intro u hu; simp at hu; subst hu; rfl) (by unfold maxLen; omega) (by omega) ?_; (case hW => exact hbw.alloc hbw.size _); intro v6 w6 hown6 hb6 hk6 hg6 ho6; obtain ⟨A6, c6, rfl, -, -, -, -⟩ := own_form hown6; have hc6 := Lib.hid ((hg6.block w.heap.size (by have := (Array.getElem?_eq_some_iff.1 Hc.out).1; simp; omega) (fun e => own_notBox hown Hc.out (by decide) e.symm)).trans (heap_below Hc.out ((Below.refl _ _).alloc (Nat.le_refl _) _))); have hcell6 : w6.cell? ⟨w.heap.size, 0, none⟩ = some (.slice A k c) := (by rw [cell_of_row _ _ _ _ _ _ hc6.out]; rfl); have hfr6 := frozen_blk hc6.out 0; have H6 := Lib.hid (And.intro hown6 (And.intro hb6 hg6)); clear hown6 hb6 hk6 hg6)
    refine ⟨((KeepsOthers.alloc W _).trans (KeepsOthers.of_grownBy H6.out.2.2 ?_)).trans (KeepsOthers.setCell _ _ _), trivial, H6.out.2.1.setCell (p := ⟨w.heap.size, 0, none⟩) (Nat.le_refl _) _, by omega, A6, c6, ?_, ?_⟩
    · intro j o hj ho
      rcases hown.2 with ⟨e, _⟩ | ⟨g, cap, cur, e, _, hh, _⟩
      · rw [e] at hj; simp [Value.ownBlock] at hj
      · rw [e] at hj
        simp [Value.ownBlock] at hj
        subst hj
        have := heap_below hh ((Below.refl W.heap.size W).alloc (Nat.le_refl _) (.cells #[.bool t] 140))
        rw [this] at ho
        cases ho
        rfl
    · rw [heap_setCell_same _ w.heap.size 0 _ _ _ hc6.out]
      rfl
    · have : (T.take (k + 1)).map Value.bool = xs ++ [.bool t] := by rw [take_snoc Ht.out, List.map_append, Hxs.out]; rfl
      rw [this]
      exact own_setBox H6.out.1 hc6.out (by decide) 0 _
  case done =>
    rintro D W hD ⟨hbw, hkn, A, c, hc, hown⟩ hK
    have hcell : W.cell? ⟨w.heap.size, 0, none⟩ = some (.slice A T.length c) := by rw [cell_of_row _ _ _ _ _ _ hc]; rfl
    rw [List.take_of_length_le (Nat.le_refl _)] at hown
    have HO := Lib.hid hown
    clear hc hown
    simp only [Exit.inBlock, Exit.then]
    go_wp2
    refine ⟨by simp, .inl ⟨_, _, rfl, run_takeDeferred hK, ?_⟩⟩
    exact ⟨_, results_tmp rfl _ _ _, A, c, rfl, ownsRow_putObj HO.out _ hK rfl, below_putObj W D _ hbw (by have := Hs0.out; omega) hbw.size⟩
  case stop =>
    intro D c k W _ _ h _
    exact h.elim
theorem collect_any (w : World) (b1 b2 i n : Nat) (hi : i < n) (hn : n ≤ 1048576) (h1 : w.cell? ⟨b1, 0, none⟩ = some (.int .i64 (i : Int))) (h2 : w.cell? ⟨b2, 0, none⟩ = some (.int .i64 (n : Int))) :
    Calls Try.prog 104 #[.func (.func 106) #[] #[.pointer (some ⟨b1, 0, none⟩), .pointer (some ⟨b2, 0, none⟩)]] w (TurnsPost w (turns i n)) := by
  have hs := seq_any w b1 b2 i n hi hn h1 h2
  have HS := Lib.hid hs
  clear hs h1 h2
  go_enter Try.func104, Try.ntmps104
  go_wp2_with fail
  refine HS.out.mono ?_
  rintro e w' ⟨A, c, rfl, h1, h2⟩
  have H := Lib.hid (And.intro h1 h2)
  clear h1 h2
  go_wp2_with fail
  go_ret
  exact ⟨A, c, rfl, H.out.1, H.out.2⟩
end Go.Proofs.Ytkcmacglomdfcaa
