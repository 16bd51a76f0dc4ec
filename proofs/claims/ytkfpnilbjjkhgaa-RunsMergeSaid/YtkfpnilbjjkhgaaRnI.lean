/-
  THE WALK of Run.Keys.
-/
import Derived.Test.YtkfpnilbjjkhgaaRnG
import Derived.Test.YtkfpnilbjjkhgaaRnQ
import Derived.Test.YtkfpnilbjjkhgaaIterA
namespace Go.Proofs.Ytkfpnilbjjkhgaa
open Go.RowKit Go.Lib Go.Sort Go.Shelf
attribute [local go_sem] Oper.semAt_some

def Str (k : List UInt8) : Value := .string ⟨k.toArray⟩
theorem info_str : (Try.prog.info? 9).map (fun i => (i.zero, i.size, i.bytes)) = some (some (.string ⟨#[]⟩), 1, 16) := by kernel_rfl
theorem one_str (k : List UInt8) : ∀ u ∈ [Value.string ⟨k.toArray⟩], u.oneCell' = true := by
  intro u hu
  simp at hu
  subst hu
  rfl
theorem exec_neq_str {P : Program} {o : Oper} {a : Act} {x y : Operand} {t t2 : TypeId} (ho : o.op = .binOp .neq t x y t2) (p q : List UInt8) (hx : a.eval x = .string ⟨p.toArray⟩) (hy : a.eval y = .string ⟨q.toArray⟩) (u : World) :
    (execOp a.eval o).run P u = .ok (.value (.bool (!decide (p = q)))) u := by
  unfold execOp
  simp only [ho, hx, hy]
  go_simp
  by_cases h : p = q <;> simp [h]
/-- Keys collected in a variable. -/
structure KeysI (w : World) (ls : List Po) (k : Nat) (W : World) : Prop where
  below : Below w.heap.size w W
  row : ∃ A c, W.heap[w.heap.size + 1]? = some (.cells #[.slice A (keysF (ls.take k)).length c] 44 (0, 0)) ∧ W.ownsRow w.heap.size 9 1 (.slice A (keysF (ls.take k)).length c) (keysF (ls.take k)).length ((keysF (ls.take k)).map Str)
theorem KeysI.stable {w W W' : World} {ls : List Po} {k : Nat} (h : KeysI w ls k W) (hb : Below W.heap.size W W') : KeysI w ls k W' := by
  obtain ⟨h1, A, c, h3, h4⟩ := h
  exact ⟨h1.trans (hb.mono h1.size), A, c, heap_below h3 hb, ownsRow_below h4 hb⟩
theorem KeysI.abides {w W : World} {ls : List Po} {k l : Nat} {o : Obj} (h : KeysI w ls k W) (o' : Obj) (hl : W.heap[l]? = some o) (ho : o.isCells = false) (hlt : w.heap.size ≤ l) : KeysI w ls k (W.putObj l o') := by
  obtain ⟨h1, A, c, h3, h4⟩ := h
  exact ⟨below_putObj W l o' h1 hlt h1.size, A, c, heap_putObj h3 o' hl ho, ownsRow_putObj h4 o' hl ho⟩
theorem keysF_le (l : List Po) : (keysF l).length ≤ l.length := by
  have key : ∀ (l : List Po) (acc : List (List UInt8)), (l.foldl keyStep acc).length ≤ acc.length + l.length := by
    intro l
    induction l with
    | nil => intro acc; simp
    | cons p l ih =>
      intro acc
      have h := ih (keyStep acc p)
      have h2 : (keyStep acc p).length ≤ acc.length + 1 := by
        unfold keyStep; split
        · omega
        · simp
      rw [List.foldl_cons, List.length_cons]
      omega
  have := key l []
  simpa [keysF] using this
/-- Texts in a row of their own. -/
def TextsPost (w : World) (ks : List (List UInt8)) (e : Ending) (w' : World) : Prop := ∃ A c, e = .returned (.slice A ks.length c) ∧ w'.ownsRow w.heap.size 9 1 (.slice A ks.length c) ks.length (ks.map Str) ∧ Below w.heap.size w w'
theorem RP.putObj {W : World} {A : Option Addr} {n : Nat} {ls : List Po} {l : Nat} {o : Obj} (h : RP W A n ls) (o' : Obj) (hl : W.heap[l]? = some o) (ho : o.isCells = false) : RP (W.putObj l o') A n ls := by
  refine ⟨h.1, fun h0 => ?_⟩
  obtain ⟨b, o1, hA, hr⟩ := h.2 h0
  refine ⟨b, o1, hA, fun j v hv => ?_⟩
  have hc := hr j v hv
  refine (World.cell?_of_block (w := W) (World.putObj_heap_other (fun e => ?_))).trans hc
  subst e
  unfold World.cell? at hc
  rw [hl] at hc
  cases o <;> simp [Obj.isCells] at ho hc
theorem keeps_drewN (W : World) (q : Nat) : KeepsOthers W (W.drewN q) := ⟨Nat.le_refl _, fun _ _ h _ => h⟩
/-- The box of a round's post. -/
def KBx (ls : List Po) (k : Nat) (args : Array Value) (bx : Nat) (W : World) : Prop := ∃ p, ls[k]? = some p ∧ args = #[PV p] ∧ W.heap[bx]? = some (.cells (encP p).toArray 31 (0, 0))
set_option maxRecDepth 100000 in
set_option maxHeartbeats 1000000 in
theorem keys_any (w : World) (A : Option Addr) (n c : Nat) (ls : List Po) (h : RP w A n ls) (hn : n ≤ 1000000) :
    Calls Try.prog 17 #[.agg #[.slice A n c]] w (TextsPost w (keysF ls)) := by
  have H := Lib.hid h
  have hl := h.1
  have Hl := Lib.hid hl
  clear h hl
  refine (callsIn_wide (n := 9)).1 ?_
  refine callsIn_of_wp_marks Try.func17 rfl trivial ?_ rfl
  rw [wpIn_wide]
  simp only [Try.ntmps17, List.size_toArray, List.length_cons, List.length_nil, Nat.reduceAdd, Nat.reduceSub, Array.replicate_succ, Array.replicate_zero, List.push_toArray, List.append_toArray, List.nil_append, List.cons_append]
  go_wp2_with fail
  refine (all_any _ A n c).mono ?_
  rintro e W0 ⟨rfl, hW0⟩
  have hb0 : Below w.heap.size w W0 := by
    rw [← hW0]
    exact ((((Below.refl _ _).alloc (Nat.le_refl _) _).alloc (by simp) _).alloc (by simp; omega) _).alloc (by simp; omega) _
  have hs0 : W0.heap.size = w.heap.size + 4 := by rw [← hW0]; simp
  have hc0 : W0.heap[w.heap.size + 1]? = some (.cells #[.slice none 0 0] 44 (0, 0)) := by
    rw [← hW0]
    refine (Below.heap_alloc _ _ _ (by simp)).trans ((Below.heap_alloc _ _ _ (by simp)).trans (heap_alloc_at _ _ _ (by simp)))
  have hv0 : W0.heap[w.heap.size + 3]? = some (.cells #[.slice A n c] 25 (0, 0)) := by
    rw [← hW0]
    exact heap_alloc_at _ _ _ (by simp)
  have hv1 : W0.cell? ⟨w.heap.size + 3, 0, none⟩ = some (.slice A n c) := by rw [cell_of_row _ _ _ _ _ _ hv0]; rfl
  have e3 : ((w.alloc (.cells #[.slice A n c] 28)).alloc (.cells #[.slice none 0 0] 44)).heap.size + 1 = w.heap.size + 3 := by simp
  rw [e3]
  have Hs0 := Lib.hid hs0
  clear hW0 hs0 e3 hv0
  go_wp2_with fail
  refine wp_rangeIterB (n := 9) rfl (enters_of Try.func59 (by kernel_rfl) rfl) (values_iter (w.heap.size + 3) A n c ls hn) (fun k args W h => by obtain ⟨p, _, rfl⟩ := h; rfl)
    (fun h1 h2 h => h2 (h1 h)) (fun W l o o' _ hl ho h => h.putObj o' hl ho) (fun k args W l o o' h _ _ _ => h)
    (fun k W => KeysI w ls k W) (fun _ _ _ => False)
    (fun k W W' h hb => h.stable hb) (fun c k W W' h hb => h)
    (fun k W l o o' h hl ho hoc => h.abides o' ho hoc (Nat.le_trans hb0.size hl)) (fun c k W l o o' h _ _ _ => h)
    (fun W hb => ⟨(hb.cell (p := ⟨w.heap.size + 3, 0, none⟩) (by have := Hs0.out; show w.heap.size + 3 < W0.heap.size; omega)).trans hv1, H.out.below (hb0.trans (hb.mono hb0.size))⟩)
    ⟨hb0, none, 0, hc0, World.ownsRow_nil _ _ _ _⟩
    (fun k args bx W => KBx ls k args bx W)
    (fun args bx T => (T.setIfInBounds 7 (args.getD 0 undef)).setIfInBounds 4 (.pointer (some ⟨bx, 0, none⟩)))
    (fun W W' hb h => h.below hb) (fun k args W W' h hb => h) (fun k args bx W l o o' h _ hl ho => by obtain ⟨p, h1, h2, h3⟩ := h; exact ⟨p, h1, h2, heap_putObj h3 o' hl ho⟩)
    ?assign ?body ?done ?stop
  case assign =>
    rintro l k args W K hk hi ⟨p, hp, rfl⟩ hK
    have hk2 := hK W.heap.size (W.alloc (.cells (encP p).toArray 31)) ((Below.refl _ _).alloc (Nat.le_refl _) _) ⟨p, hp, rfl, heap_alloc_new W _⟩
    have HK := Lib.hid hk2
    clear hk2 hK hi hp
    simp only [PV]
    gi_wp2
    have h5 := HK.out
    simpa [PV, encP] using h5
  case body =>
    rintro l k args bx W hk ⟨hbw, A1, c1, hc, hown⟩ - ⟨p, hp, rfl, hbx⟩
    have hkey : keysF (ls.take (k + 1)) = keyStep (keysF (ls.take k)) p := by rw [take_snoc hp, keysF_snoc]
    have hkl := keysF_le (ls.take k)
    rw [List.length_take] at hkl
    have hcell : W.cell? ⟨w.heap.size + 1, 0, none⟩ = some (.slice A1 (keysF (ls.take k)).length c1) := by rw [cell_of_row _ _ _ _ _ _ hc]; rfl
    have hfr := frozen_blk hc 0
    have hp0 : W.cell? ⟨bx, 0, none⟩ = some (.string ⟨p.1.toArray⟩) := by rw [cell_of_row _ _ _ _ _ _ hbx]; rfl
    obtain ⟨K, hK⟩ : ∃ K, K = keysF (ls.take k) := ⟨_, rfl⟩
    rw [← hK] at hkey hkl hcell hc hown
    have hKn : K.length ≤ 1000000 := by omega
    have Hkey := Lib.hid hkey
    have HKK := Lib.hid hK
    have Hc := Lib.hid hc
    have Hown := Lib.hid hown
    have Hw := Lib.hid hbw
    simp only [show ∀ a : Value, #[a].getD 0 undef = a from fun _ => rfl, List.setIfInBounds_toArray, List.set_cons_succ, List.set_cons_zero]
    clear hkey hK hc hown hkl hk hp hbx hbw
    -- the last one
    have hcase : K = [] ∨ ∃ g m x, A1 = some ⟨g, 0, none⟩ ∧ K.length = m + 1 ∧ K.getLast? = some x ∧ W.cell? ⟨g, m, none⟩ = some (.string ⟨x.toArray⟩) := by
      by_cases h0 : K.length = 0
      · exact .inl (List.eq_nil_of_length_eq_zero h0)
      · obtain ⟨A2, c2, e2, -, -, hf⟩ := own_formK Hown.out
        cases e2
        obtain ⟨g, rfl, -, hr, -⟩ := hf (by omega)
        obtain ⟨x, hx⟩ : ∃ x, K[K.length - 1]? = some x := ⟨_, List.getElem?_eq_getElem (by omega)⟩
        refine .inr ⟨g, K.length - 1, x, rfl, by omega, by rw [List.getLast?_eq_getElem?]; exact hx, ?_⟩
        have := hr (K.length - 1) (Str x) (by rw [List.getElem?_map, hx]; rfl)
        rw [Nat.zero_add] at this
        exact this
    have hw1 : ∀ m, Below W.heap.size W (W.drewN m) := fun m => below_drewN (Below.refl _ _) m
    rcases hcase with rfl | ⟨g, m, x, rfl, hm, hx, hgm⟩
    · have hstep : keysF (ls.take (k + 1)) = ([] : List (List UInt8)) ++ [p.1] := by
        rw [Hkey.out, keyStep, if_neg (by simp)]
      have HS := Lib.hid hstep
      rw [show ([] : List (List UInt8)).length = 0 from rfl] at hcell hKn
      have hcz := Hc.out
      rw [show ([] : List (List UInt8)).length = 0 from rfl] at hcz
      have hoz := Hown.out
      rw [show ([] : List (List UInt8)).length = 0 from rfl, List.map_nil] at hoz
      have Hcz := Lib.hid hcz
      have Hoz := Lib.hid hoz
      clear hstep hw1 hcz hoz
      gi_wp2_with fail
      refine wpIn_region_quiet_round (C := fun u => ∃ m, u = W.drewN m) (by kernel_rfl) (by kernel_rfl) (by kernel_rfl) ⟨1, rfl⟩ ?_
      simp only []
      repeat (go_big_quiet_step (fail))
      refine wpQuiet_nil ?_
      rintro _ ⟨q, rfl⟩
      obtain ⟨V, hV⟩ : ∃ V, V = W.drewN q := ⟨_, rfl⟩
      have hbV : Below W.heap.size W V := by rw [hV]; exact below_drewN (Below.refl _ _) q
      have hkV : KeepsOthers W V := by rw [hV]; exact keeps_drewN W q
      have hbwV : Below w.heap.size w V := Hw.out.trans (hbV.mono Hw.out.size)
      have hcV := heap_below Hcz.out hbV
      have hownV := ownsRow_below Hoz.out hbV
      have hcellV : V.cell? ⟨w.heap.size + 1, 0, none⟩ = some (.slice A1 0 c1) := by rw [cell_of_row _ _ _ _ _ _ hcV]; rfl
      have hfrV := frozen_blk hcV 0
      have hpV : V.cell? ⟨bx, 0, none⟩ = some (.string ⟨p.1.toArray⟩) := (hbV.cell (p := ⟨bx, 0, none⟩) (World.block_lt_of_cell? _ _ hp0)).trans hp0
      have hltV := (Array.getElem?_eq_some_iff.1 hcV).1
      have hneV := own_notBox hownV hcV (by decide)
      have HcV := Lib.hid hcV
      have HoV := Lib.hid hownV
      have HkV := Lib.hid hkV
      have HbV := Lib.hid hbV
      have HltV := Lib.hid hltV
      have HneV := Lib.hid hneV
      rw [← hV]
      clear hV hbV hkV hcV hltV hneV hcell hfr hp0
      gi_wp2_with (gi_at_builtin; refine wpListIn_append_keep rfl (.tmp 22) (.tmp 25) 44 rfl w ?hW Try.underlying44 info_str rfl (by decide) (.slice A1 0 c1) 0 ([]) rfl (hownV.alloc _) (some ⟨V.heap.size, 0, none⟩) 1 1 [.string ⟨p.1.toArray⟩] rfl (rc_new V _ _ _) rfl (one_str _) (by unfold maxLen; omega) (by omega) ?_; (case hW => exact hbwV.alloc hbwV.size _); intro v6 w6 hown6 hb6 hk6 hg6 ho6; obtain ⟨A6, c6, rfl, -, -, -, -⟩ := own_form hown6; have hc6 := Lib.hid ((hg6.block (w.heap.size + 1) (by have := HltV.out; simp; omega) (fun e => HneV.out e.symm)).trans (heap_below HcV.out ((Below.refl _ _).alloc (Nat.le_refl _) _))); have hcell6 : w6.cell? ⟨w.heap.size + 1, 0, none⟩ = some (.slice A1 0 c1) := (by rw [cell_of_row _ _ _ _ _ _ hc6.out]; rfl); have hfr6 := frozen_blk hc6.out 0; have H6 := Lib.hid (And.intro hown6 (And.intro hb6 hg6)); clear hown6 hb6 hk6 hg6)
      refine ⟨HkV.out.trans (((KeepsOthers.alloc V _).trans (KeepsOthers.of_grownBy H6.out.2.2 ?_)).trans (KeepsOthers.setCell _ _ _)), fun _ => H.out.below (H6.out.2.1.setCell (p := ⟨w.heap.size + 1, 0, none⟩) (by simp) _), H6.out.2.1.setCell (p := ⟨w.heap.size + 1, 0, none⟩) (by simp) _, A6, c6, ?_, ?_⟩
      · intro j o hj ho
        rcases hownV.2 with ⟨e, _⟩ | ⟨g', cap, cur, e, _, hh, _⟩
        · rw [e] at hj; simp [Value.ownBlock] at hj
        · rw [e] at hj
          simp [Value.ownBlock] at hj
          subst hj
          have := heap_below hh ((Below.refl V.heap.size V).alloc (Nat.le_refl _) (.cells #[.string ⟨p.1.toArray⟩] 9))
          rw [this] at ho
          cases ho
          rfl
      · rw [heap_setCell_same _ (w.heap.size + 1) 0 _ _ _ hc6.out, HS.out, show (([] : List (List UInt8)) ++ [p.1]).length = 0 + 1 from rfl]
        rfl
      · rw [HS.out, show (([] : List (List UInt8)) ++ [p.1]).length = 0 + 1 from rfl, List.map_append]
        exact own_setBox H6.out.1 hc6.out (by decide) 0 _
    · obtain ⟨bn, hbn⟩ : ∃ bn, bn = !decide (x = p.1) := ⟨_, rfl⟩
      have Hbn := Lib.hid hbn
      have Hx := Lib.hid hx
      rw [hm] at hcell hKn
      have h1 : IntKind.i64.wrap (((m + 1 : Nat) : Int) - 1) = (m : Int) := by rw [IntWalk.i64_in _ (by omega)]; omega
      have hz : (((m : Int) + 1) == 0) = false := by rw [beq_eq_false_iff_ne]; omega
      have Hm := Lib.hid hm
      clear hbn hx hm hw1
      gi_wp2_with fail
      refine wpIn_region_quiet_round (C := fun u => ∃ m, u = W.drewN m) (by kernel_rfl) (by kernel_rfl) (by kernel_rfl) ⟨1, rfl⟩ ?_
      simp only []
      repeat (first
        | ((with_reducible show wpQuiet _ _ _ _ (⟨_, Op.binOp .neq 9 _ _ _, _, _, _, _⟩ :: _) _); refine wpQ_val rfl (.bool bn) (fun u _ => (exec_neq_str rfl x p.1 rfl rfl u).trans (by rw [Hbn.out])) ?_; simp only [Act.put, List.setIfInBounds_toArray, List.set_cons_zero, List.set_cons_succ])
        | go_big_quiet_step (fail))
      refine wpQuiet_nil ?_
      rintro _ ⟨q, rfl⟩
      have hI2 : KeysI w ls k (W.drewN q) := KeysI.stable ⟨Hw.out, some ⟨g, 0, none⟩, c1, by rw [← HKK.out]; exact Hc.out, by rw [← HKK.out]; exact Hown.out⟩ (below_drewN (Below.refl _ _) q)
      have HI2 := Lib.hid hI2
      clear hI2 h1 hz
      cases bn with
      | false =>
        have hxp : x = p.1 := by have := Hbn.out; simpa using this.symm
        have hsame : keysF (ls.take (k + 1)) = keysF (ls.take k) := by
          rw [Hkey.out, ← HKK.out, keyStep, if_pos (by rw [Hx.out, hxp])]
        have HS := Lib.hid hsame
        clear hsame hxp hgm
        gi_wp2
        refine ⟨keeps_drewN W q, fun h => h.below (below_drewN (Below.refl _ _) q), HI2.out.below, ?_⟩
        rw [HS.out]
        exact HI2.out.row
      | true =>
        have hxp : x ≠ p.1 := by have := Hbn.out; simpa using this.symm
        have hstep : keysF (ls.take (k + 1)) = K ++ [p.1] := by
          rw [Hkey.out, keyStep, if_neg (by rw [Hx.out]; simpa using hxp)]
        have HS := Lib.hid hstep
        clear hstep hxp hgm
        obtain ⟨V, hV⟩ : ∃ V, V = W.drewN q := ⟨_, rfl⟩
        have hbV : Below W.heap.size W V := by rw [hV]; exact below_drewN (Below.refl _ _) q
        have hkV : KeepsOthers W V := by rw [hV]; exact keeps_drewN W q
        have hbwV : Below w.heap.size w V := Hw.out.trans (hbV.mono Hw.out.size)
        have hcV := heap_below Hc.out hbV
        have hownV := ownsRow_below Hown.out hbV
        rw [Hm.out] at hcV hownV
        have hcellV : V.cell? ⟨w.heap.size + 1, 0, none⟩ = some (.slice (some ⟨g, 0, none⟩) (m + 1) c1) := by rw [cell_of_row _ _ _ _ _ _ hcV]; rfl
        have hfrV := frozen_blk hcV 0
        have hpV : V.cell? ⟨bx, 0, none⟩ = some (.string ⟨p.1.toArray⟩) := (hbV.cell (p := ⟨bx, 0, none⟩) (World.block_lt_of_cell? _ _ hp0)).trans hp0
        have hltV := (Array.getElem?_eq_some_iff.1 hcV).1
        have hneV := own_notBox hownV hcV (by decide)
        have HcV := Lib.hid hcV
        have HoV := Lib.hid hownV
        have HkV := Lib.hid hkV
        have HbV := Lib.hid hbV
        have HltV := Lib.hid hltV
        have HneV := Lib.hid hneV
        rw [← hV]
        clear hV hbV hkV hcV hltV hneV HI2 hcell hfr hp0
        gi_wp2_with (gi_at_builtin; refine wpListIn_append_keep rfl (.tmp 22) (.tmp 25) 44 rfl w ?hW Try.underlying44 info_str rfl (by decide) (.slice (some ⟨g, 0, none⟩) (m + 1) c1) (m + 1) (K.map Str) rfl (hownV.alloc _) (some ⟨V.heap.size, 0, none⟩) 1 1 [.string ⟨p.1.toArray⟩] rfl (rc_new V _ _ _) rfl (one_str _) (by unfold maxLen; omega) (by omega) ?_; (case hW => exact hbwV.alloc hbwV.size _); intro v6 w6 hown6 hb6 hk6 hg6 ho6; obtain ⟨A6, c6, rfl, -, -, -, -⟩ := own_form hown6; have hc6 := Lib.hid ((hg6.block (w.heap.size + 1) (by have := HltV.out; simp; omega) (fun e => HneV.out e.symm)).trans (heap_below HcV.out ((Below.refl _ _).alloc (Nat.le_refl _) _))); have hcell6 : w6.cell? ⟨w.heap.size + 1, 0, none⟩ = some (.slice (some ⟨g, 0, none⟩) (m + 1) c1) := (by rw [cell_of_row _ _ _ _ _ _ hc6.out]; rfl); have hfr6 := frozen_blk hc6.out 0; have H6 := Lib.hid (And.intro hown6 (And.intro hb6 hg6)); clear hown6 hb6 hk6 hg6)
        refine ⟨HkV.out.trans (((KeepsOthers.alloc V _).trans (KeepsOthers.of_grownBy H6.out.2.2 ?_)).trans (KeepsOthers.setCell _ _ _)), fun _ => H.out.below (H6.out.2.1.setCell (p := ⟨w.heap.size + 1, 0, none⟩) (by simp) _), H6.out.2.1.setCell (p := ⟨w.heap.size + 1, 0, none⟩) (by simp) _, A6, c6, ?_, ?_⟩
        · intro j o hj ho
          rcases hownV.2 with ⟨e, _⟩ | ⟨g', cap, cur, e, _, hh, _⟩
          · rw [e] at hj; simp [Value.ownBlock] at hj
          · rw [e] at hj
            simp [Value.ownBlock] at hj
            subst hj
            have := heap_below hh ((Below.refl V.heap.size V).alloc (Nat.le_refl _) (.cells #[.string ⟨p.1.toArray⟩] 9))
            rw [this] at ho
            cases ho
            rfl
        · rw [heap_setCell_same _ (w.heap.size + 1) 0 _ _ _ hc6.out, HS.out, show (K ++ [p.1]).length = m + 1 + 1 by rw [List.length_append, Hm.out]; rfl]
          rfl
        · rw [HS.out, show (K ++ [p.1]).length = m + 1 + 1 by rw [List.length_append, Hm.out]; rfl, List.map_append]
          exact own_setBox H6.out.1 hc6.out (by decide) 0 _
  case done =>
    rintro D W hD ⟨hbw, A1, c1, hc, hown⟩ hK
    rw [List.take_of_length_le (by rw [Hl.out]; exact Nat.le_refl _)] at hc hown
    have hcell : W.cell? ⟨w.heap.size + 1, 0, none⟩ = some (.slice A1 (keysF ls).length c1) := by rw [cell_of_row _ _ _ _ _ _ hc]; rfl
    have HO := Lib.hid hown
    clear hc hown
    simp only [Exit.inBlock, Exit.then]
    go_wp2
    refine ⟨by simp, .inl ⟨_, _, rfl, run_takeDeferred hK, ?_⟩⟩
    exact ⟨_, results_tmp rfl _ _ _, A1, c1, rfl, ownsRow_putObj HO.out _ hK rfl, below_putObj W D _ hbw (by have := Hs0.out; omega) hbw.size⟩
  case stop =>
    intro D c k W _ _ h _
    exact h.elim
end Go.Proofs.Ytkfpnilbjjkhgaa
