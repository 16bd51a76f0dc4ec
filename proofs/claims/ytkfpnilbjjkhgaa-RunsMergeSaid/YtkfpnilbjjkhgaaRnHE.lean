/-
  THE WALK of runs.Merge: the runs laid into the heap.
-/
import Derived.Test.YtkfpnilbjjkhgaaRnHD
import Derived.Deep.LoopGhost
namespace Go.Proofs.Ytkfpnilbjjkhgaa
open Go.RowKit Go.Lib Go.Sort

/-! ### What is laid in -/
def hxOf (vs : List Value) (lss : List (List Po)) : List (Hx Value) := (vs.zip lss).filter fun x => !x.2.isEmpty
theorem hxOf_snoc {vs : List Value} {lss : List (List Po)} {k : Nat} {v : Value} {ls : List Po} (hv : vs[k]? = some v) (hl : lss[k]? = some ls) : hxOf (vs.take (k + 1)) (lss.take (k + 1)) = hxOf (vs.take k) (lss.take k) ++ if ls.isEmpty then [] else [(v, ls)] := by
  have h1 := (List.getElem?_eq_some_iff.1 hv).1
  have h2 := (List.getElem?_eq_some_iff.1 hl).1
  unfold hxOf
  rw [take_snoc hv, take_snoc hl, List.zip_append (by rw [List.length_take, List.length_take]; omega), List.filter_append]
  congr 1
  cases ls <;> simp
theorem hxOf_all : ∀ (vs : List Value) (lss : List (List Po)), vs.length = lss.length → allP (hxOf vs lss) = lss.flatten ∧ leftF (hxOf vs lss) = lss.flatten.length
  | [], [], _ => ⟨rfl, rfl⟩
  | v :: vs, l :: lss, h => by
    obtain ⟨h1, h2⟩ := hxOf_all vs lss (by simpa using h)
    unfold hxOf at *
    rw [List.zip_cons_cons, List.filter_cons]
    cases l with
    | nil =>
      simp only [List.isEmpty_nil, Bool.not_true, Bool.false_eq_true, if_false, List.flatten_cons, List.nil_append]
      exact ⟨h1, h2⟩
    | cons p r =>
      simp only [List.isEmpty_cons, Bool.not_false, if_true, List.flatten_cons]
      constructor
      · rw [allP, List.flatMap_cons, ← h1]; rfl
      · rw [leftF, List.map_cons, List.sum_cons, List.length_append, ← h2]; rfl
  | [], _ :: _, h => by simp at h
  | _ :: _, [], h => by simp at h
theorem hxOf_mem {vs : List Value} {lss : List (List Po)} {x : Hx Value} (h : x ∈ hxOf vs lss) : (∃ i : Nat, vs[i]? = some x.1 ∧ lss[i]? = some x.2) ∧ x.2 ≠ [] := by
  unfold hxOf at h
  rw [List.mem_filter] at h
  obtain ⟨h1, h2⟩ := h
  obtain ⟨i, hi⟩ := List.mem_iff_getElem?.1 h1
  have hi := List.getElem?_zip_eq_some.1 hi
  exact ⟨⟨i, hi.1, hi.2⟩, by intro e; rw [e] at h2; simp at h2⟩
theorem hxOf_len (vs : List Value) (lss : List (List Po)) : (hxOf vs lss).length ≤ vs.length := by
  unfold hxOf
  refine Nat.le_trans (List.length_filter_le _ _) ?_
  rw [List.length_zip]
  omega
/-- A row of runs that is there: each a slice of posts. -/
structure RunsAt (w : World) (A : Option Addr) (n : Nat) (vs : List Value) (lss : List (List Po)) : Prop where
  row : RV w A n vs
  len : lss.length = n
  runs : ∀ (i : Nat) v ls, vs[i]? = some v → lss[i]? = some ls → ∃ A m c, v = .slice A m c ∧ RP w A m ls ∧ m ≤ c ∧ c ≤ maxLen
theorem RunsAt.below {w w' : World} {A : Option Addr} {n : Nat} {vs : List Value} {lss : List (List Po)} (h : RunsAt w A n vs lss) (hb : Below w.heap.size w w') : RunsAt w' A n vs lss :=
  ⟨h.row.below hb, h.len, fun i v ls h1 h2 => by
    obtain ⟨A, m, c, e, h3, h4, h5⟩ := h.runs i v ls h1 h2
    exact ⟨A, m, c, e, h3.below hb, h4, h5⟩⟩
theorem RunsAt.head {w : World} {A : Option Addr} {n : Nat} {vs : List Value} {lss : List (List Po)} (h : RunsAt w A n vs lss) {x : Hx Value} (hx : x ∈ hxOf vs lss) : HeadAt w x.1 x.2 := by
  obtain ⟨⟨i, h1, h2⟩, h3⟩ := hxOf_mem hx
  obtain ⟨A, m, c, e, h4, h5, h6⟩ := h.runs i _ _ h1 h2
  have hm : 0 < m := by rw [← h4.1]; exact List.length_pos_iff.2 h3
  obtain ⟨b, o, rfl, hr⟩ := h4.2 hm
  exact ⟨b, o, m, c, e, h4.1, hm, h5, h6, hr⟩
/-- While they are laid in. -/
structure PuI (wA : World) (hb : Nat) (xs : List (Hx Value)) (W : World) : Prop where
  below : Below wA.heap.size wA W
  row : ∃ g c, W.heap[hb]? = some (.cells #[.slice (some ⟨g, 0, none⟩) xs.length c] 68 (0, 0)) ∧ W.ownsRow wA.heap.size 25 1 (.slice (some ⟨g, 0, none⟩) xs.length c) xs.length (xs.map (·.1))
theorem PuI.stable {wA W W' : World} {hb : Nat} {xs : List (Hx Value)} (h : PuI wA hb xs W) (hb' : Below W.heap.size W W') : PuI wA hb xs W' := by
  obtain ⟨h1, g, c, h2, h3⟩ := h
  exact ⟨h1.trans (hb'.mono h1.size), g, c, heap_below h2 hb', ownsRow_below h3 hb'⟩
/-- The rest of a run. -/
def tlV : Value → Value
  | .slice (some ⟨b, o, none⟩) m c => .slice (some ⟨b, o + 2, none⟩) (m - 1) (c - 1)
  | v => v
theorem len_left : ∀ (xs : List (Hx Value)), (∀ x ∈ xs, x.2 ≠ []) → xs.length ≤ leftF xs
  | [], _ => Nat.zero_le _
  | x :: r, h => by
    have h1 := len_left r fun y hy => h y (List.mem_cons_of_mem _ hy)
    have h2 := List.length_pos_iff.2 (h x (by simp))
    rw [leftF, List.map_cons, List.sum_cons, ← leftF, List.length_cons]
    omega
/-- Between two rounds of merging: the heap; what has come out, in a row of its own. -/
structure MgI (wA : World) (hb g L c T : Nat) (xs : List (Hx Value)) (out all : List Po) (v6 : Value) (u : World) : Prop where
  heap : HeapW wA hb g L c xs u
  ok : MergeOk xs out all
  own : u.ownsRow wA.heap.size 31 2 v6 out.length (flatP out)
  left : out.length + leftF xs ≤ T
theorem MgI.small {wA u : World} {hb g L c T : Nat} {xs : List (Hx Value)} {out all : List Po} {v6 : Value} (h : MgI wA hb g L c T xs out all v6 u) : L ≤ T ∧ out.length ≤ T := by
  have h1 := len_left xs fun x hx => (h.ok.asc x hx).2
  have h2 := h.heap.len
  have h3 := h.left
  omega
theorem tl_head {w : World} {v : Value} {ls : List Po} (h : HeadAt w v ls) (hl : 1 < ls.length) : HeadAt w (tlV v) ls.tail := by
  obtain ⟨b, o, m, c, rfl, h2, h3, h4, h5, h6⟩ := h.ex
  cases ls with
  | nil => simp at hl
  | cons p r =>
    refine ⟨b, o + 2, m - 1, c - 1, rfl, by rw [List.tail_cons, ← h2]; simp, ?_, by omega, by omega, ?_⟩
    · rw [List.length_cons] at h2 hl; omega
    · exact rangeAt_right (xs := encP p) (ys := flatP r) h6
theorem out_kept {wA V V' : World} {hb g L c n : Nat} {xs : List (Hx Value)} {v : Value} {zs : List Value} {B : Nat} (ho : V.ownsRow B 31 2 v n zs) (hh : HeapW wA hb g L c xs V) (hk : ∀ k, k < V.heap.size → k ≠ g → k ≠ hb → V'.heap[k]? = V.heap[k]?) : V'.ownsRow B 31 2 v n zs :=
  own_of_block ho fun b hb' => hk b (ho.lt b hb').2 (fun e => own_unlike hh.own ho (by decide) (g := g) rfl (e ▸ hb')) (fun e => own_notBox ho hh.box (by decide) (e ▸ hb'))
theorem heap_tail {wA V : World} {hb g L c : Nat} {x : Hx Value} {r : List (Hx Value)} (h : HeapW wA hb g L c (x :: r) V) (hl : 1 < x.2.length) : HeapW wA hb g L c ((x :: r).set 0 (tlV x.1, x.2.tail)) (V.setCell ⟨g, 0, none⟩ (tlV x.1)) := by
  have hne : hb ≠ g := fun e => own_notBox h.own h.box (by decide) (by rw [e]; rfl)
  refine ⟨by rw [List.length_set]; exact h.len, (Below.heap_setCell V ⟨g, 0, none⟩ _ _ hne).trans h.box, ?_, h.below.setCell (p := ⟨g, 0, none⟩) (h.own.lt g rfl).1 _, fun y hy => ?_, h.hbw⟩
  · rw [map_set_fst]
    exact own_setCell_at h.own
  · rw [List.set_cons_zero] at hy
    rcases List.mem_cons.1 hy with e | hy
    · subst e
      exact tl_head (h.heads x (by simp)) hl
    · exact h.heads y (List.mem_cons_of_mem _ hy)
theorem outF_le (out : List Po) (p : Po) : (outF out p).length ≤ out.length + 1 := by
  unfold outF; split
  · omega
  · simp
theorem step_pop {x : Hx Value} {r : List (Hx Value)} {out all : List Po} (h : MergeOk (x :: r) out all) (hl : x.2.length = 1) : MergeOk (popF (x :: r)) (outF out (hdP x.2)) all ∧ leftF (popF (x :: r)) + 1 = leftF (x :: r) := by
  have h1 := stepF_ok (tl := tlV) h
  have h2 := stepF_left (tl := tlV) (out := out) h.heap (h.asc x (by simp)).2
  unfold stepF at h1 h2
  simp only at h1 h2
  rw [if_pos hl] at h1 h2
  exact ⟨h1, h2⟩
theorem step_fix {x : Hx Value} {r : List (Hx Value)} {out all : List Po} (h : MergeOk (x :: r) out all) (hl : x.2.length ≠ 1) : MergeOk (fixF ((x :: r).set 0 (tlV x.1, x.2.tail))) (outF out (hdP x.2)) all ∧ leftF (fixF ((x :: r).set 0 (tlV x.1, x.2.tail))) + 1 = leftF (x :: r) := by
  have h1 := stepF_ok (tl := tlV) h
  have h2 := stepF_left (tl := tlV) (out := out) h.heap (h.asc x (by simp)).2
  unfold stepF at h1 h2
  simp only at h1 h2
  rw [if_neg hl] at h1 h2
  exact ⟨h1, h2⟩
set_option maxRecDepth 100000 in
set_option maxHeartbeats 4000000 in
theorem merge_any (w : World) (A : Option Addr) (n c : Nat) (vs : List Value) (lss : List (List Po)) (h : RunsAt w A n vs lss) (hasc : ∀ l ∈ lss, Asc l) (hT : lss.flatten.length ≤ 1000000) (hn : n ≤ 1000000) :
    Calls Try.prog 15 #[.slice A n c] w (RunPost (newF lss.flatten) w) := by
  have H := Lib.hid h
  have HA := Lib.hid hasc
  clear h hasc
  go_enter Try.func15, Try.ntmps15
  go_wp2_with fail
  have hb0 : Below w.heap.size w (w.alloc (.cells #[.slice none 0 0] 28)) := (Below.refl _ _).alloc (Nat.le_refl _) _
  have hr0 : (w.alloc (.cells #[.slice none 0 0] 28)).heap[w.heap.size]? = some (.cells #[.slice none 0 0] 28 (0, 0)) := heap_alloc_new w _
  have hs0 : (w.alloc (.cells #[.slice none 0 0] 28)).heap.size = w.heap.size + 1 := by simp
  obtain ⟨wA, hwA⟩ : ∃ wA, wA = w.alloc (.cells #[.slice none 0 0] 28) := ⟨_, rfl⟩
  rw [← hwA] at hb0 hr0 hs0 ⊢
  have hP0 : PuI wA (wA.heap.size + 1) [] ((wA.alloc (.cells #[] 25)).alloc (.cells #[.slice (some ⟨wA.heap.size, 0, none⟩) 0 0] 68)) :=
    ⟨((Below.refl _ _).alloc (Nat.le_refl _) _).alloc (by simp) _, wA.heap.size, 0, heap_alloc_at _ _ _ (by simp), (ownsRow_empty wA _ _ (Nat.le_refl _)).alloc _⟩
  rw [← hs0]
  have HP0 := Lib.hid hP0
  have HB0 := Lib.hid hb0
  have HR0 := Lib.hid hr0
  have Hs0 := Lib.hid hs0
  have HRA := Lib.hid (H.out.below hb0)
  obtain ⟨hb, hhb⟩ : ∃ hb, hb = wA.heap.size + 1 := ⟨_, rfl⟩
  have hbw : wA.heap.size ≤ hb := by omega
  rw [← hhb] at HP0 ⊢
  clear hwA hP0 hb0 hr0 hs0 hhb
  go_loopw [12] (fun s wr => ∃ k : Nat, k ≤ n ∧ s = .int .i64 (k : Int) ∧ Hid (PuI wA hb (hxOf (vs.take k) (lss.take k)) wr)) (fun s _ => n - (intOf s).toNat)
  case atStart => exact ⟨0, Nat.zero_le _, rfl, HP0⟩
  case round =>
    obtain ⟨k, hk, rfl, HK⟩ := hrel
    by_cases hlt : k < n
    · obtain ⟨b, o, v, rfl, hv, hcv⟩ := (HRA.out.below HK.out.below).row.at_ hlt
      obtain ⟨ls, hls⟩ : ∃ ls, lss[k]? = some ls := ⟨_, List.getElem?_eq_getElem (by rw [HRA.out.len]; exact hlt)⟩
      obtain ⟨A1, m1, c1, rfl, hr1, -, -⟩ := HRA.out.runs k v ls hv hls
      have hstep := hxOf_snoc hv hls
      have hml := hr1.1
      have HST := Lib.hid hstep
      have hbx : Below wr.heap.size wr (wr.alloc (.cells #[.slice A1 m1 c1] 28)) := (Below.refl _ _).alloc (Nat.le_refl _) _
      have HKx := Lib.hid (HK.out.stable hbx)
      clear hstep hv hls hr1 hbx
      by_cases hm0 : m1 = 0
      · subst hm0
        have hls0 : ls = [] := List.eq_nil_of_length_eq_zero hml
        have HN : Hid (PuI wA hb (hxOf (vs.take (k + 1)) (lss.take (k + 1))) (wr.alloc (.cells #[.slice A1 0 c1] 28))) := Lib.hid (by
          rw [HST.out, hls0]
          simpa using HKx.out)
        clear hls0 hml
        go_wp2
        go_roundw
        case rel => exact ⟨k + 1, hlt, by go_num, HN⟩
        case measure => simp [intOf]; omega
      · have hm1 : 0 < m1 := by omega
        obtain ⟨g, cg, hbox, hown⟩ := HKx.out.row
        have hxl : (hxOf (vs.take k) (lss.take k)).length ≤ 1000000 := by
          have h5 := hxOf_len (vs.take k) (lss.take k)
          rw [List.length_take] at h5
          omega
        have hpu := heads_push wA _ HKx.out.below hb _ cg (some ⟨g, 0, none⟩) _ A1 m1 c1 hbox hown hxl hbw
        have HPU := Lib.hid hpu
        have hne : ls ≠ [] := fun e => by rw [e] at hml; simp at hml; omega
        have Hne := Lib.hid hne
        clear hbox hown hpu hne hml hm0
        go_wp2_with fail
        refine HPU.out.mono ?_
        rintro e w2 ⟨rfl, hpp, hb2⟩
        obtain ⟨g2, c2, hx1, hx2⟩ := hpp.ex
        have HN : Hid (PuI wA hb (hxOf (vs.take (k + 1)) (lss.take (k + 1))) w2) := Lib.hid (by
          rw [HST.out, if_neg (by simpa using Hne.out)]
          exact ⟨hb2, g2, c2, by rw [List.length_append]; exact hx1, by rw [List.length_append, List.map_append]; exact hx2⟩)
        clear hpp hx1 hx2 hb2 HPU
        go_wp2_with fail
        go_roundw
        case rel => exact ⟨k + 1, hlt, by go_num, HN⟩
        case measure => simp [intOf]; omega
    · obtain rfl : k = n := by omega
      have hfv : vs.take k = vs := List.take_of_length_le (by rw [H.out.row.len]; exact Nat.le_refl _)
      have hfl : lss.take k = lss := List.take_of_length_le (by rw [H.out.len]; exact Nat.le_refl _)
      have hK := HK.out
      rw [hfv, hfl] at hK
      obtain ⟨hb9, g, cg, hbox, hown⟩ := hK
      obtain ⟨hall, hleft⟩ := hxOf_all vs lss (by rw [H.out.row.len, H.out.len])
      have hxa : ∀ x ∈ hxOf vs lss, Asc x.2 ∧ x.2 ≠ [] := fun x hx => by
        obtain ⟨⟨i, -, h2⟩, h3⟩ := hxOf_mem hx
        exact ⟨HA.out x.2 (List.mem_of_getElem? h2), h3⟩
      have hok := MergeOk.start hxa
      rw [hall] at hok
      have hlx := hxOf_len vs lss
      rw [H.out.row.len] at hlx
      have hpm := (initF_half (hxOf vs lss)).2
      have hw : HeapW wA hb g (hxOf vs lss).length cg (hxOf vs lss) wr := ⟨rfl, hbox, hown, hb9, fun x hx => HRA.out.head hx, hbw⟩
      obtain ⟨all, hal⟩ : ∃ all, all = lss.flatten := ⟨_, rfl⟩
      rw [← hal] at hok hT hleft
      obtain ⟨L, hL⟩ : ∃ L, L = (hxOf vs lss).length := ⟨_, rfl⟩
      rw [← hL] at hw hok hlx
      have hin := init_any wA wr hb g L cg (hxOf vs lss) hw (by omega)
      obtain ⟨xs0, hxs0⟩ : ∃ xs0, xs0 = initF (L / 2) (hxOf vs lss) := ⟨_, rfl⟩
      rw [← hxs0] at hok hin
      have hlf : leftF xs0 = all.length := by rw [hxs0, hL, leftF_perm hpm, hleft]
      have HIN := Lib.hid hin
      have HOK := Lib.hid hok
      have HLF := Lib.hid hlf
      have Hal := Lib.hid hal
      clear hfv hfl hb9 hbox hown hall hleft hxa hok hpm hw hL hin hxs0 hlf hal HK hlx hlt
      go_wp2_with fail
      refine HIN.out.mono ?_
      rintro e w2 ⟨rfl, hp2⟩
      have HM0 : Hid (MgI wA hb g L cg all.length xs0 [] all (.slice none 0 0) w2) := Lib.hid ⟨hp2.heap, HOK.out, World.ownsRow_nil _ _ _ _, by rw [HLF.out]; simp⟩
      clear hp2 HIN HOK
      go_wp2_with fail
      go_loopg [6] (leftF xs0) (fun q v6 wr => ∃ (g L c : Nat) (xs : List (Hx Value)) (out : List Po), Hid (MgI wA hb g L c all.length xs out all v6 wr) ∧ Hid (q = leftF xs))
      case atStart => exact ⟨g, L, cg, xs0, [], HM0, Lib.hid rfl⟩
      case round =>
        obtain ⟨g, L, c1, xs, out, HM, HQ⟩ := hrel
        obtain ⟨hsm1, hsm2⟩ := HM.out.small
        cases xs with
        | nil =>
          have hL0 : L = 0 := HM.out.heap.len.symm
          subst hL0
          have hcb := HM.out.heap.cellb
          have hout : out = newF all := HM.out.ok.done
          have hown := HM.out.own
          rw [hout] at hown
          obtain ⟨A9, c9, e9, h9, h9', -⟩ := own_formK hown
          subst e9
          obtain ⟨N, hN⟩ : ∃ N, N = (newF all).length := ⟨_, rfl⟩
          rw [← hN] at hown h9
          have hth : wr.there w.heap.size 0 (#[Value.slice A9 N c9]).size := there_blk (heap_below HR0.out HM.out.heap.below) (by simp)
          have hne : (Value.slice A9 N c9).ownBlock ≠ some w.heap.size := fun e => by
            have h5 := (hown.lt _ e).1
            have := Hs0.out
            omega
          have hown5 : (wr.setCells w.heap.size 0 [Value.slice A9 N c9]).ownsRow w.heap.size 31 2 (.slice A9 N c9) N (flatP (newF all)) :=
            own_wide (own_of_block hown fun b hb => (grownBy_setCells wr w.heap.size _ _ wr (grownBy_refl wr _)).block b (hown.lt _ hb).2 (by rintro e; cases e; exact hne hb)) (by rw [Hs0.out]; omega)
          have hb5 : Below w.heap.size w (wr.setCells w.heap.size 0 [Value.slice A9 N c9]) := below_setCells (Nat.le_refl _) _ _ _ (HB0.out.trans (HM.out.heap.below.mono HB0.out.size))
          have hr5 : (wr.setCells w.heap.size 0 [Value.slice A9 N c9]).rangeAt w.heap.size 0 [Value.slice A9 N c9] := World.rangeAt_setCells_same _ _ _ _ hth
          obtain ⟨w5, hw5⟩ : ∃ w5, w5 = wr.setCells w.heap.size 0 [Value.slice A9 N c9] := ⟨_, rfl⟩
          rw [← hw5] at hown5 hb5 hr5
          have Hw5 := Lib.hid hw5
          have HRP : Hid (RunPost (newF lss.flatten) w (.returned (.agg #[.slice A9 N c9])) w5) := Lib.hid ⟨A9, c9, by rw [← Hal.out, hN], by rw [← Hal.out, ← hN]; exact hown5, hb5⟩
          have HR5 := Lib.hid hr5
          rw [← hN]
          clear hout hown h9 h9' hne hown5 hb5 hr5 hw5 hN
          go_wp2_with (first
            | (go_at_call 32; refine (heads_len _ _ 0 c1).mono ?_; rintro e w' ⟨rfl, rfl⟩)
            | ((with_reducible show wpList _ _ _ (⟨_, Op.store 28 _ _, _, _, _, _⟩ :: _) _ _); refine wpList_store_mid rfl _ _ _ rfl w.heap.size 0 #[.slice A9 N c9] rfl rfl hth (info_run _) (one_slice' _ _ _) ?_; rw [show (#[Value.slice A9 N c9]).toList = [Value.slice A9 N c9] from rfl, ← Hw5.out]))
          simp only [Act.put]
          refine bodyPost_ret (v := .agg #[.slice A9 N c9]) (results_cell rfl _ _ _ w.heap.size 0 rfl _ _ HR5.out Try.underlying28 rfl (info_run _)) rfl ?_
          exact HRP.out
        | cons x r =>
          obtain rfl : L = r.length + 1 := HM.out.heap.len.symm
          have hcb := HM.out.heap.cellb
          obtain ⟨cg, hhd, fg, -⟩ := HM.out.heap.at_ (x := x) (i := 0) rfl
          obtain ⟨b, o, m, cc, hx1, hlen, hm0, hmc, hcm, -⟩ := id hhd.ex
          have hLc : r.length + 1 ≤ c1 := by
            obtain ⟨A9, c9, e9, h9, -⟩ := own_formK HM.out.heap.own
            cases e9
            exact h9
          obtain ⟨P, hP⟩ : ∃ P, P = hdP x.2 := ⟨_, rfl⟩
          have hp0 : wr.rangeAt b o (encP P) := by
            have h5 := hhd
            rw [hx1] at h5
            rw [hP]
            exact h5.first
          rw [hx1] at cg
          have Hx1 := Lib.hid hx1
          have Hlen := Lib.hid hlen
          have HP := Lib.hid hP
          have Hhd := Lib.hid hhd
          obtain ⟨A6, c6, e6, hoc, -, hof⟩ := own_formK HM.out.own
          subst e6
          unfold maxLen at hcm
          clear hx1 hlen hP hhd
          -- the last one that came out
          have hcase : out = [] ∨ ∃ g6 k6 y, A6 = some ⟨g6, 0, none⟩ ∧ out.length = k6 + 1 ∧ out.getLast? = some y ∧ wr.rangeAt g6 (k6 * 2) (encP y) := by
            by_cases h0 : out.length = 0
            · exact .inl (List.eq_nil_of_length_eq_zero h0)
            · obtain ⟨g6, rfl, -, hr, -⟩ := hof (by omega)
              obtain ⟨y, hy⟩ : ∃ y, out[out.length - 1]? = some y := ⟨_, List.getElem?_eq_getElem (by omega)⟩
              have h5 := range_post out 0 hr _ y hy
              rw [Nat.zero_add] at h5
              exact .inr ⟨g6, out.length - 1, y, rfl, by omega, by rw [List.getLast?_eq_getElem?]; exact hy, h5⟩
          clear hof
          rcases hcase with rfl | ⟨g6, k6, y, rfl, hk6, hlast, hry⟩
          · have hsz : ([] : List Po).length = 0 := rfl
            go_wp2_with (go_at_call 32; refine (heads_len _ _ (r.length + 1) c1).mono ?_; rintro e w' ⟨rfl, rfl⟩)
            refine wp_region_quiet (C := fun u => ∃ m, u = wr.drewN m) (by kernel_rfl) (by kernel_rfl) ⟨1, rfl⟩ ?_
            simp only []
            repeat (go_big_quiet_step (fail))
            refine wpQuiet_nil ?_
            rintro _ ⟨q, rfl⟩
            have hbq : Below wr.heap.size wr (wr.drewN q) := below_drewN (Below.refl _ _) q
            have hp1 := rangeAt_below' hp0 hbq
            obtain ⟨W, hW⟩ : ∃ W, W = wr.drewN q := ⟨_, rfl⟩
            rw [← hW] at hbq hp1 ⊢
            have HhW := Lib.hid (HM.out.heap.of_below hbq)
            have HoW := Lib.hid (show W.ownsRow wA.heap.size 31 2 (.slice A6 0 c6) 0 [] from ownsRow_below HM.out.own hbq)
            have houtF : outF ([] : List Po) P = [P] := by simp [outF]
            have HoF := Lib.hid houtF
            clear hW hbq houtF hcb cg fg hp0
            by_cases hm1 : m = 1
            · subst hm1
              go_wp2_with (first
                | ((with_reducible show wpList _ _ _ (⟨some 57, _, _, _, _, _⟩ :: _) _ _); refine wpList_load_midW rfl _ _ rfl b o rfl (encP P) _ hp1 Try.underlying31 rfl (info_post P) ?_; simp only [Act.put, List.setIfInBounds_toArray, List.set_cons_zero, List.set_cons_succ])
                | ((with_reducible show wpList _ _ _ (⟨some 58, _, _, _, _, _⟩ :: _) _ _); refine wpList_buildOne rfl _ _ (.tmp 57) rfl (encP P) rfl Try.underlying25 info_post3 (encP_len P) (by decide) (by decide) ?_; simp only [Act.put, List.setIfInBounds_toArray, List.set_cons_zero, List.set_cons_succ])
                | ((with_reducible show wpList _ _ _ (⟨some 59, _, _, _, _, _⟩ :: _) _ _); refine wpList_append_keep rfl (.tmp 54) (.tmp 58) 25 rfl wA (HhW.out.below.alloc HhW.out.below.size _) Try.underlying25 info_post3 rfl (by decide) (.slice A6 0 c6) (0) ([]) rfl (HoW.out.alloc _) (some ⟨W.heap.size, 0, none⟩) 1 1 (encP P) rfl (rc_new W _ _ _) rfl (encP_one P) (by unfold maxLen; omega) (by omega) ?_; intro v7 V hown7 hb7 hk7 hg7 _; obtain ⟨A7, c7, rfl, -, -, -⟩ := own_formK hown7; have H7 := Lib.hid (And.intro hown7 (And.intro hb7 hg7)); clear hown7 hb7 hk7 hg7))
              have HV : Hid (HeapW wA hb g (r.length + 1) c1 (x :: r) V ∧ V.ownsRow wA.heap.size 31 2 (.slice A7 (0 + 1) c7) (outF ([] : List Po) (hdP x.2)).length (flatP (outF ([] : List Po) (hdP x.2)))) := Lib.hid ⟨⟨HhW.out.len, (H7.out.2.2.block hb (by have := (Array.getElem?_eq_some_iff.1 HhW.out.box).1; simp; omega) (fun e => own_notBox HoW.out HhW.out.box (by decide) e.symm)).trans (heap_below HhW.out.box ((Below.refl _ _).alloc (Nat.le_refl _) _)), (own_kept_unlike (HhW.out.own.alloc _) (HoW.out.alloc _) (by decide) H7.out.2.2), H7.out.2.1, HhW.out.heads, HhW.out.hbw⟩, by rw [← HP.out, HoF.out]; exact H7.out.1⟩
              have hpo := pop_any wA V hb g r.length c1 (x :: r) HV.out.1 (by omega) hLc
              refine hpo.mono ?_
              rintro e V9 ⟨⟨vx, rfl⟩, hp9⟩
              obtain ⟨y1, y2⟩ := step_pop HM.out.ok (by rw [Hlen.out])
              have HN : Hid (MgI wA hb g r.length c1 all.length (popF (x :: r)) (outF ([] : List Po) (hdP x.2)) all (.slice A7 (0 + 1) c7) V9) := Lib.hid ⟨hp9.heap, y1, out_kept HV.out.2 HV.out.1 hp9.block, by
                have h5 := HM.out.left
                have h7 := outF_le ([] : List Po) (hdP x.2)
                omega⟩
              have HQ9 : Hid (leftF (popF (x :: r)) < gk) := Lib.hid (by have := HQ.out; omega)
              clear hpo hp9 y1 y2 HV
              go_wp2_with fail
              go_roundg (leftF (popF (x :: r)))
              case measure => exact HQ9.out
              case rel => exact ⟨g, _, c1, _, _, HN, Lib.hid rfl⟩
            · have hz : ((m : Int) == 1) = false := by rw [beq_eq_false_iff_ne]; omega
              go_wp2_with (first
                | ((with_reducible show wpList _ _ _ (⟨some 57, _, _, _, _, _⟩ :: _) _ _); refine wpList_load_midW rfl _ _ rfl b o rfl (encP P) _ hp1 Try.underlying31 rfl (info_post P) ?_; simp only [Act.put, List.setIfInBounds_toArray, List.set_cons_zero, List.set_cons_succ])
                | ((with_reducible show wpList _ _ _ (⟨some 58, _, _, _, _, _⟩ :: _) _ _); refine wpList_buildOne rfl _ _ (.tmp 57) rfl (encP P) rfl Try.underlying25 info_post3 (encP_len P) (by decide) (by decide) ?_; simp only [Act.put, List.setIfInBounds_toArray, List.set_cons_zero, List.set_cons_succ])
                | ((with_reducible show wpList _ _ _ (⟨some 59, _, _, _, _, _⟩ :: _) _ _); refine wpList_append_keep rfl (.tmp 54) (.tmp 58) 25 rfl wA (HhW.out.below.alloc HhW.out.below.size _) Try.underlying25 info_post3 rfl (by decide) (.slice A6 0 c6) (0) ([]) rfl (HoW.out.alloc _) (some ⟨W.heap.size, 0, none⟩) 1 1 (encP P) rfl (rc_new W _ _ _) rfl (encP_one P) (by unfold maxLen; omega) (by omega) ?_; intro v7 V hown7 hb7 hk7 hg7 _; obtain ⟨A7, c7, rfl, -, -, -⟩ := own_formK hown7; have H7 := Lib.hid (And.intro hown7 (And.intro hb7 hg7)); clear hown7 hb7 hk7 hg7))
              have HV : Hid (HeapW wA hb g (r.length + 1) c1 (x :: r) V ∧ V.ownsRow wA.heap.size 31 2 (.slice A7 (0 + 1) c7) (outF ([] : List Po) (hdP x.2)).length (flatP (outF ([] : List Po) (hdP x.2)))) := Lib.hid ⟨⟨HhW.out.len, (H7.out.2.2.block hb (by have := (Array.getElem?_eq_some_iff.1 HhW.out.box).1; simp; omega) (fun e => own_notBox HoW.out HhW.out.box (by decide) e.symm)).trans (heap_below HhW.out.box ((Below.refl _ _).alloc (Nat.le_refl _) _)), (own_kept_unlike (HhW.out.own.alloc _) (HoW.out.alloc _) (by decide) H7.out.2.2), H7.out.2.1, HhW.out.heads, HhW.out.hbw⟩, by rw [← HP.out, HoF.out]; exact H7.out.1⟩
              have hc1' : ¬ (cc = 1) := by omega
              have hm2 : 1 ≤ m := by omega
              have hcb := HV.out.1.cellb
              obtain ⟨cg, -, fg, -⟩ := HV.out.1.at_ (x := x) (i := 0) rfl
              rw [Hx1.out] at cg
              have htl := heap_tail HV.out.1 (by rw [Hlen.out]; omega)
              have hot : (V.setCell ⟨g, 0, none⟩ (tlV x.1)).ownsRow wA.heap.size 31 2 (.slice A7 (0 + 1) c7) (outF ([] : List Po) (hdP x.2)).length (flatP (outF ([] : List Po) (hdP x.2))) := out_kept HV.out.2 HV.out.1 (fun k hk hkg _ => Below.heap_setCell V ⟨g, 0, none⟩ _ k hkg)
              have htv : tlV x.1 = .slice (some ⟨b, o + 2, none⟩) (m - 1) (cc - 1) := by rw [Hx1.out]; rfl
              rw [htv] at htl hot
              have HT := Lib.hid (And.intro htl hot)
              have Htv := Lib.hid htv
              clear htl hot htv
              go_region
              have hw9 : HeapW wA hb g (r.length + 1) c1 ((x :: r).set 0 (tlV x.1, x.2.tail)) ((V.setCell ⟨g, 0, none⟩ (.slice (some ⟨b, o + 2, none⟩) (m - 1) (cc - 1))).drew) := by
                have h5 := HT.out.1
                rw [Htv.out]
                exact h5.of_below (u' := (V.setCell ⟨g, 0, none⟩ (.slice (some ⟨b, o + 2, none⟩) (m - 1) (cc - 1))).drew) ⟨rfl, rfl, rfl, Nat.le_refl _, fun _ _ => rfl⟩
              have ho9 : ((V.setCell ⟨g, 0, none⟩ (.slice (some ⟨b, o + 2, none⟩) (m - 1) (cc - 1))).drew).ownsRow wA.heap.size 31 2 (.slice A7 (0 + 1) c7) (outF ([] : List Po) (hdP x.2)).length (flatP (outF ([] : List Po) (hdP x.2))) := own_of_block HT.out.2 fun _ _ => rfl
              obtain ⟨V5, hV5⟩ : ∃ V5, V5 = (V.setCell ⟨g, 0, none⟩ (.slice (some ⟨b, o + 2, none⟩) (m - 1) (cc - 1))).drew := ⟨_, rfl⟩
              rw [← hV5] at hw9 ho9 ⊢
              have hfx := fix_any wA V5 hb g (r.length + 1) c1 _ hw9 (by omega)
              have HFX := Lib.hid hfx
              have H5 := Lib.hid (And.intro hw9 ho9)
              clear hV5 hw9 ho9 hfx hcb cg fg HT HV
              go_wp2_with fail
              refine HFX.out.mono ?_
              rintro e V9 ⟨rfl, hp9⟩
              obtain ⟨y1, y2⟩ := step_fix HM.out.ok (by rw [Hlen.out]; exact hm1)
              have HN : Hid (MgI wA hb g (r.length + 1) c1 all.length (fixF ((x :: r).set 0 (tlV x.1, x.2.tail))) (outF ([] : List Po) (hdP x.2)) all (.slice A7 (0 + 1) c7) V9) := Lib.hid ⟨hp9.heap, y1, out_kept H5.out.2 H5.out.1 (fun k hk hkg _ => hp9.grown.block k hk (by intro e; cases e; exact hkg rfl)), by
                have h5 := HM.out.left
                have h7 := outF_le ([] : List Po) (hdP x.2)
                omega⟩
              have HQ9 : Hid (leftF (fixF ((x :: r).set 0 (tlV x.1, x.2.tail))) < gk) := Lib.hid (by have := HQ.out; omega)
              clear hp9 HFX y1 y2 H5
              go_wp2_with fail
              go_roundg (leftF (fixF ((x :: r).set 0 (tlV x.1, x.2.tail))))
              case measure => exact HQ9.out
              case rel => exact ⟨g, _, c1, _, _, HN, Lib.hid rfl⟩
          · have h1 : IntKind.i64.wrap (((k6 + 1 : Nat) : Int) - 1) = (k6 : Int) := by rw [IntWalk.i64_in _ (by omega)]; omega
            have hz6 : (((k6 : Int) + 1) == 0) = false := by rw [beq_eq_false_iff_ne]; omega
            obtain ⟨bn, hbn⟩ : ∃ bn, bn = !decide (y = P) := ⟨_, rfl⟩
            have Hbn := Lib.hid hbn
            have Hk6 := Lib.hid hk6
            have Hlast := Lib.hid hlast
            have hk66 : k6 + 1 ≤ 1000000 := by omega
            have hoc6 := hoc
            rw [hk6] at hoc6
            rw [hk6]
            have Hoc := Lib.hid hoc
            clear hbn hk6 hlast hoc
            go_wp2_with (go_at_call 32; refine (heads_len _ _ (r.length + 1) c1).mono ?_; rintro e w' ⟨rfl, rfl⟩)
            refine wp_region_quiet (C := fun u => ∃ m, u = wr.drewN m) (by kernel_rfl) (by kernel_rfl) ⟨1, rfl⟩ ?_
            simp only []
            repeat (first
              | ((with_reducible show wpQuiet _ _ _ _ (⟨some 48, _, _, _, _, _⟩ :: _) _); refine wpQ_load rfl _ _ rfl g6 (k6 * 2) rfl (encP y) _ (by rintro u ⟨m, rfl⟩; exact hry) Try.underlying31 rfl (info_post y) ?_; simp only [Act.put, List.setIfInBounds_toArray, List.set_cons_zero, List.set_cons_succ])
              | ((with_reducible show wpQuiet _ _ _ _ (⟨some 51, _, _, _, _, _⟩ :: _) _); refine wpQ_load rfl _ _ rfl b o rfl (encP P) _ (by rintro u ⟨m, rfl⟩; exact hp0) Try.underlying31 rfl (info_post P) ?_; simp only [Act.put, List.setIfInBounds_toArray, List.set_cons_zero, List.set_cons_succ])
              | ((with_reducible show wpQuiet _ _ _ _ (⟨some 52, _, _, _, _, _⟩ :: _) _); refine wpQ_val rfl (.bool bn) (fun u _ => (exec_neq_post rfl y P rfl rfl u).trans (by rw [Hbn.out])) ?_; simp only [Act.put, List.setIfInBounds_toArray, List.set_cons_zero, List.set_cons_succ])
              | go_big_quiet_step (fail))
            refine wpQuiet_nil ?_
            rintro _ ⟨q, rfl⟩
            have hbq : Below wr.heap.size wr (wr.drewN q) := below_drewN (Below.refl _ _) q
            have hp1 := rangeAt_below' hp0 hbq
            obtain ⟨W, hW⟩ : ∃ W, W = wr.drewN q := ⟨_, rfl⟩
            rw [← hW] at hbq hp1 ⊢
            have HhW := Lib.hid (HM.out.heap.of_below hbq)
            have howr := ownsRow_below HM.out.own hbq
            rw [Hk6.out] at howr
            have HoW := Lib.hid howr
            clear hW hbq hcb cg fg hp0 hry howr h1 hz6
            cases bn with
            | false =>
              have hyP : y = P := by have := Hbn.out; simpa using this.symm
              have houtF : outF out P = out := by rw [outF, if_pos (by rw [Hlast.out, hyP])]
              have HoF := Lib.hid houtF
              obtain ⟨V, rfl⟩ : ∃ V, V = W := ⟨W, rfl⟩
              clear hyP houtF
              by_cases hm1 : m = 1
              · subst hm1
                go_wp2_with fail
                have HV : Hid (HeapW wA hb g (r.length + 1) c1 (x :: r) V ∧ V.ownsRow wA.heap.size 31 2 (.slice (some ⟨g6, 0, none⟩) (k6 + 1) c6) (outF out (hdP x.2)).length (flatP (outF out (hdP x.2)))) := Lib.hid ⟨HhW.out, by rw [← HP.out, HoF.out, Hk6.out]; exact HoW.out⟩
                have hpo := pop_any wA V hb g r.length c1 (x :: r) HV.out.1 (by omega) hLc
                refine hpo.mono ?_
                rintro e V9 ⟨⟨vx, rfl⟩, hp9⟩
                obtain ⟨y1, y2⟩ := step_pop HM.out.ok (by rw [Hlen.out])
                have HN : Hid (MgI wA hb g r.length c1 all.length (popF (x :: r)) (outF out (hdP x.2)) all (.slice (some ⟨g6, 0, none⟩) (k6 + 1) c6) V9) := Lib.hid ⟨hp9.heap, y1, out_kept HV.out.2 HV.out.1 hp9.block, by
                  have h5 := HM.out.left
                  have h7 := outF_le out (hdP x.2)
                  omega⟩
                have HQ9 : Hid (leftF (popF (x :: r)) < gk) := Lib.hid (by have := HQ.out; omega)
                clear hpo hp9 y1 y2 HV
                go_wp2_with fail
                go_roundg (leftF (popF (x :: r)))
                case measure => exact HQ9.out
                case rel => exact ⟨g, _, c1, _, _, HN, Lib.hid rfl⟩
              · have hz : ((m : Int) == 1) = false := by rw [beq_eq_false_iff_ne]; omega
                go_wp2_with fail
                have HV : Hid (HeapW wA hb g (r.length + 1) c1 (x :: r) V ∧ V.ownsRow wA.heap.size 31 2 (.slice (some ⟨g6, 0, none⟩) (k6 + 1) c6) (outF out (hdP x.2)).length (flatP (outF out (hdP x.2)))) := Lib.hid ⟨HhW.out, by rw [← HP.out, HoF.out, Hk6.out]; exact HoW.out⟩
                have hc1' : ¬ (cc = 1) := by omega
                have hm2 : 1 ≤ m := by omega
                have hcb := HV.out.1.cellb
                obtain ⟨cg, -, fg, -⟩ := HV.out.1.at_ (x := x) (i := 0) rfl
                rw [Hx1.out] at cg
                have htl := heap_tail HV.out.1 (by rw [Hlen.out]; omega)
                have hot : (V.setCell ⟨g, 0, none⟩ (tlV x.1)).ownsRow wA.heap.size 31 2 (.slice (some ⟨g6, 0, none⟩) (k6 + 1) c6) (outF out (hdP x.2)).length (flatP (outF out (hdP x.2))) := out_kept HV.out.2 HV.out.1 (fun k hk hkg _ => Below.heap_setCell V ⟨g, 0, none⟩ _ k hkg)
                have htv : tlV x.1 = .slice (some ⟨b, o + 2, none⟩) (m - 1) (cc - 1) := by rw [Hx1.out]; rfl
                rw [htv] at htl hot
                have HT := Lib.hid (And.intro htl hot)
                have Htv := Lib.hid htv
                clear htl hot htv
                go_region
                have hw9 : HeapW wA hb g (r.length + 1) c1 ((x :: r).set 0 (tlV x.1, x.2.tail)) ((V.setCell ⟨g, 0, none⟩ (.slice (some ⟨b, o + 2, none⟩) (m - 1) (cc - 1))).drew) := by
                  have h5 := HT.out.1
                  rw [Htv.out]
                  exact h5.of_below (u' := (V.setCell ⟨g, 0, none⟩ (.slice (some ⟨b, o + 2, none⟩) (m - 1) (cc - 1))).drew) ⟨rfl, rfl, rfl, Nat.le_refl _, fun _ _ => rfl⟩
                have ho9 : ((V.setCell ⟨g, 0, none⟩ (.slice (some ⟨b, o + 2, none⟩) (m - 1) (cc - 1))).drew).ownsRow wA.heap.size 31 2 (.slice (some ⟨g6, 0, none⟩) (k6 + 1) c6) (outF out (hdP x.2)).length (flatP (outF out (hdP x.2))) := own_of_block HT.out.2 fun _ _ => rfl
                obtain ⟨V5, hV5⟩ : ∃ V5, V5 = (V.setCell ⟨g, 0, none⟩ (.slice (some ⟨b, o + 2, none⟩) (m - 1) (cc - 1))).drew := ⟨_, rfl⟩
                rw [← hV5] at hw9 ho9 ⊢
                have hfx := fix_any wA V5 hb g (r.length + 1) c1 _ hw9 (by omega)
                have HFX := Lib.hid hfx
                have H5 := Lib.hid (And.intro hw9 ho9)
                clear hV5 hw9 ho9 hfx hcb cg fg HT HV
                go_wp2_with fail
                refine HFX.out.mono ?_
                rintro e V9 ⟨rfl, hp9⟩
                obtain ⟨y1, y2⟩ := step_fix HM.out.ok (by rw [Hlen.out]; exact hm1)
                have HN : Hid (MgI wA hb g (r.length + 1) c1 all.length (fixF ((x :: r).set 0 (tlV x.1, x.2.tail))) (outF out (hdP x.2)) all (.slice (some ⟨g6, 0, none⟩) (k6 + 1) c6) V9) := Lib.hid ⟨hp9.heap, y1, out_kept H5.out.2 H5.out.1 (fun k hk hkg _ => hp9.grown.block k hk (by intro e; cases e; exact hkg rfl)), by
                  have h5 := HM.out.left
                  have h7 := outF_le out (hdP x.2)
                  omega⟩
                have HQ9 : Hid (leftF (fixF ((x :: r).set 0 (tlV x.1, x.2.tail))) < gk) := Lib.hid (by have := HQ.out; omega)
                clear hp9 HFX y1 y2 H5
                go_wp2_with fail
                go_roundg (leftF (fixF ((x :: r).set 0 (tlV x.1, x.2.tail))))
                case measure => exact HQ9.out
                case rel => exact ⟨g, _, c1, _, _, HN, Lib.hid rfl⟩
            | true =>
              have hyP : y ≠ P := by have := Hbn.out; simpa using this.symm
              have houtF : outF out P = out ++ [P] := by rw [outF, if_neg (by rw [Hlast.out]; simpa using hyP)]
              have HoF := Lib.hid houtF
              obtain ⟨X, hX⟩ : ∃ X, X = flatP out := ⟨_, rfl⟩
              have HX := Lib.hid hX
              rw [← hX] at HoW
              clear hyP houtF hX
              by_cases hm1 : m = 1
              · subst hm1
                go_wp2_with (first
                  | ((with_reducible show wpList _ _ _ (⟨some 57, _, _, _, _, _⟩ :: _) _ _); refine wpList_load_midW rfl _ _ rfl b o rfl (encP P) _ hp1 Try.underlying31 rfl (info_post P) ?_; simp only [Act.put, List.setIfInBounds_toArray, List.set_cons_zero, List.set_cons_succ])
                  | ((with_reducible show wpList _ _ _ (⟨some 58, _, _, _, _, _⟩ :: _) _ _); refine wpList_buildOne rfl _ _ (.tmp 57) rfl (encP P) rfl Try.underlying25 info_post3 (encP_len P) (by decide) (by decide) ?_; simp only [Act.put, List.setIfInBounds_toArray, List.set_cons_zero, List.set_cons_succ])
                  | ((with_reducible show wpList _ _ _ (⟨some 59, _, _, _, _, _⟩ :: _) _ _); refine wpList_append_keep rfl (.tmp 54) (.tmp 58) 25 rfl wA (HhW.out.below.alloc HhW.out.below.size _) Try.underlying25 info_post3 rfl (by decide) (.slice (some ⟨g6, 0, none⟩) (k6 + 1) c6) (k6 + 1) (X) rfl (HoW.out.alloc _) (some ⟨W.heap.size, 0, none⟩) 1 1 (encP P) rfl (rc_new W _ _ _) rfl (encP_one P) (by unfold maxLen; omega) (by omega) ?_; intro v7 V hown7 hb7 hk7 hg7 _; obtain ⟨A7, c7, rfl, -, -, -⟩ := own_formK hown7; have H7 := Lib.hid (And.intro hown7 (And.intro hb7 hg7)); clear hown7 hb7 hk7 hg7))
                have HV : Hid (HeapW wA hb g (r.length + 1) c1 (x :: r) V ∧ V.ownsRow wA.heap.size 31 2 (.slice A7 (k6 + 1 + 1) c7) (outF out (hdP x.2)).length (flatP (outF out (hdP x.2)))) := Lib.hid ⟨⟨HhW.out.len, (H7.out.2.2.block hb (by have := (Array.getElem?_eq_some_iff.1 HhW.out.box).1; simp; omega) (fun e => own_notBox HoW.out HhW.out.box (by decide) e.symm)).trans (heap_below HhW.out.box ((Below.refl _ _).alloc (Nat.le_refl _) _)), (own_kept_unlike (HhW.out.own.alloc _) (HoW.out.alloc _) (by decide) H7.out.2.2), H7.out.2.1, HhW.out.heads, HhW.out.hbw⟩, by rw [← HP.out, HoF.out]; rw [show flatP (out ++ [P]) = flatP out ++ encP P by rw [flatP_app]; simp [flatP], List.length_append, Hk6.out, ← HX.out]; exact H7.out.1⟩
                have hpo := pop_any wA V hb g r.length c1 (x :: r) HV.out.1 (by omega) hLc
                refine hpo.mono ?_
                rintro e V9 ⟨⟨vx, rfl⟩, hp9⟩
                obtain ⟨y1, y2⟩ := step_pop HM.out.ok (by rw [Hlen.out])
                have HN : Hid (MgI wA hb g r.length c1 all.length (popF (x :: r)) (outF out (hdP x.2)) all (.slice A7 (k6 + 1 + 1) c7) V9) := Lib.hid ⟨hp9.heap, y1, out_kept HV.out.2 HV.out.1 hp9.block, by
                  have h5 := HM.out.left
                  have h7 := outF_le out (hdP x.2)
                  omega⟩
                have HQ9 : Hid (leftF (popF (x :: r)) < gk) := Lib.hid (by have := HQ.out; omega)
                clear hpo hp9 y1 y2 HV
                go_wp2_with fail
                go_roundg (leftF (popF (x :: r)))
                case measure => exact HQ9.out
                case rel => exact ⟨g, _, c1, _, _, HN, Lib.hid rfl⟩
              · have hz : ((m : Int) == 1) = false := by rw [beq_eq_false_iff_ne]; omega
                go_wp2_with (first
                  | ((with_reducible show wpList _ _ _ (⟨some 57, _, _, _, _, _⟩ :: _) _ _); refine wpList_load_midW rfl _ _ rfl b o rfl (encP P) _ hp1 Try.underlying31 rfl (info_post P) ?_; simp only [Act.put, List.setIfInBounds_toArray, List.set_cons_zero, List.set_cons_succ])
                  | ((with_reducible show wpList _ _ _ (⟨some 58, _, _, _, _, _⟩ :: _) _ _); refine wpList_buildOne rfl _ _ (.tmp 57) rfl (encP P) rfl Try.underlying25 info_post3 (encP_len P) (by decide) (by decide) ?_; simp only [Act.put, List.setIfInBounds_toArray, List.set_cons_zero, List.set_cons_succ])
                  | ((with_reducible show wpList _ _ _ (⟨some 59, _, _, _, _, _⟩ :: _) _ _); refine wpList_append_keep rfl (.tmp 54) (.tmp 58) 25 rfl wA (HhW.out.below.alloc HhW.out.below.size _) Try.underlying25 info_post3 rfl (by decide) (.slice (some ⟨g6, 0, none⟩) (k6 + 1) c6) (k6 + 1) (X) rfl (HoW.out.alloc _) (some ⟨W.heap.size, 0, none⟩) 1 1 (encP P) rfl (rc_new W _ _ _) rfl (encP_one P) (by unfold maxLen; omega) (by omega) ?_; intro v7 V hown7 hb7 hk7 hg7 _; obtain ⟨A7, c7, rfl, -, -, -⟩ := own_formK hown7; have H7 := Lib.hid (And.intro hown7 (And.intro hb7 hg7)); clear hown7 hb7 hk7 hg7))
                have HV : Hid (HeapW wA hb g (r.length + 1) c1 (x :: r) V ∧ V.ownsRow wA.heap.size 31 2 (.slice A7 (k6 + 1 + 1) c7) (outF out (hdP x.2)).length (flatP (outF out (hdP x.2)))) := Lib.hid ⟨⟨HhW.out.len, (H7.out.2.2.block hb (by have := (Array.getElem?_eq_some_iff.1 HhW.out.box).1; simp; omega) (fun e => own_notBox HoW.out HhW.out.box (by decide) e.symm)).trans (heap_below HhW.out.box ((Below.refl _ _).alloc (Nat.le_refl _) _)), (own_kept_unlike (HhW.out.own.alloc _) (HoW.out.alloc _) (by decide) H7.out.2.2), H7.out.2.1, HhW.out.heads, HhW.out.hbw⟩, by rw [← HP.out, HoF.out]; rw [show flatP (out ++ [P]) = flatP out ++ encP P by rw [flatP_app]; simp [flatP], List.length_append, Hk6.out, ← HX.out]; exact H7.out.1⟩
                have hc1' : ¬ (cc = 1) := by omega
                have hm2 : 1 ≤ m := by omega
                have hcb := HV.out.1.cellb
                obtain ⟨cg, -, fg, -⟩ := HV.out.1.at_ (x := x) (i := 0) rfl
                rw [Hx1.out] at cg
                have htl := heap_tail HV.out.1 (by rw [Hlen.out]; omega)
                have hot : (V.setCell ⟨g, 0, none⟩ (tlV x.1)).ownsRow wA.heap.size 31 2 (.slice A7 (k6 + 1 + 1) c7) (outF out (hdP x.2)).length (flatP (outF out (hdP x.2))) := out_kept HV.out.2 HV.out.1 (fun k hk hkg _ => Below.heap_setCell V ⟨g, 0, none⟩ _ k hkg)
                have htv : tlV x.1 = .slice (some ⟨b, o + 2, none⟩) (m - 1) (cc - 1) := by rw [Hx1.out]; rfl
                rw [htv] at htl hot
                have HT := Lib.hid (And.intro htl hot)
                have Htv := Lib.hid htv
                clear htl hot htv
                go_region
                have hw9 : HeapW wA hb g (r.length + 1) c1 ((x :: r).set 0 (tlV x.1, x.2.tail)) ((V.setCell ⟨g, 0, none⟩ (.slice (some ⟨b, o + 2, none⟩) (m - 1) (cc - 1))).drew) := by
                  have h5 := HT.out.1
                  rw [Htv.out]
                  exact h5.of_below (u' := (V.setCell ⟨g, 0, none⟩ (.slice (some ⟨b, o + 2, none⟩) (m - 1) (cc - 1))).drew) ⟨rfl, rfl, rfl, Nat.le_refl _, fun _ _ => rfl⟩
                have ho9 : ((V.setCell ⟨g, 0, none⟩ (.slice (some ⟨b, o + 2, none⟩) (m - 1) (cc - 1))).drew).ownsRow wA.heap.size 31 2 (.slice A7 (k6 + 1 + 1) c7) (outF out (hdP x.2)).length (flatP (outF out (hdP x.2))) := own_of_block HT.out.2 fun _ _ => rfl
                obtain ⟨V5, hV5⟩ : ∃ V5, V5 = (V.setCell ⟨g, 0, none⟩ (.slice (some ⟨b, o + 2, none⟩) (m - 1) (cc - 1))).drew := ⟨_, rfl⟩
                rw [← hV5] at hw9 ho9 ⊢
                have hfx := fix_any wA V5 hb g (r.length + 1) c1 _ hw9 (by omega)
                have HFX := Lib.hid hfx
                have H5 := Lib.hid (And.intro hw9 ho9)
                clear hV5 hw9 ho9 hfx hcb cg fg HT HV
                go_wp2_with fail
                refine HFX.out.mono ?_
                rintro e V9 ⟨rfl, hp9⟩
                obtain ⟨y1, y2⟩ := step_fix HM.out.ok (by rw [Hlen.out]; exact hm1)
                have HN : Hid (MgI wA hb g (r.length + 1) c1 all.length (fixF ((x :: r).set 0 (tlV x.1, x.2.tail))) (outF out (hdP x.2)) all (.slice A7 (k6 + 1 + 1) c7) V9) := Lib.hid ⟨hp9.heap, y1, out_kept H5.out.2 H5.out.1 (fun k hk hkg _ => hp9.grown.block k hk (by intro e; cases e; exact hkg rfl)), by
                  have h5 := HM.out.left
                  have h7 := outF_le out (hdP x.2)
                  omega⟩
                have HQ9 : Hid (leftF (fixF ((x :: r).set 0 (tlV x.1, x.2.tail))) < gk) := Lib.hid (by have := HQ.out; omega)
                clear hp9 HFX y1 y2 H5
                go_wp2_with fail
                go_roundg (leftF (fixF ((x :: r).set 0 (tlV x.1, x.2.tail))))
                case measure => exact HQ9.out
                case rel => exact ⟨g, _, c1, _, _, HN, Lib.hid rfl⟩
end Go.Proofs.Ytkfpnilbjjkhgaa
