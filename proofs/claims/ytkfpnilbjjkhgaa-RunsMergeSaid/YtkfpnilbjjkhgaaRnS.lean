/-
  THE WALK of cachetref19.New.
-/
import Derived.Test.YtkfpnilbjjkhgaaRnR
namespace Go.Proofs.Ytkfpnilbjjkhgaa
open Go.RowKit Go.Lib Go.Sort

theorem info_rpost3 : (Try.prog.info? 32).map (fun i => (i.zero, i.size, i.bytes)) = some (some (.agg #[.string ⟨#[]⟩, .int .i64 0]), 2, 24) := by kernel_rfl
theorem info_rpost (p : Po) : (Try.prog.info? 32).map (·.size) = some (encP p).length := by kernel_rfl
theorem insP_new {O : List Po} {p : Po} (h : O[insAt O p]? ≠ some p) : insP O p = (O.take (insAt O p) ++ [p]) ++ O.drop (insAt O p) := by
  unfold insP
  rw [if_neg h]
  simp
theorem RC.nil_of {w : World} {A : Option Addr} {vs : List Value} (h : vs = []) : RC w A vs := fun hne => absurd h hne
theorem RP.rc_take {w : World} {A : Option Addr} {n a : Nat} {ls : List Po} (h : RP w A n ls) : RC w A (flatP (ls.take a)) := fun hne => by
  have hn : 0 < n := by
    rcases Nat.eq_zero_or_pos n with h0 | h0
    · exfalso
      apply hne
      have : ls = [] := List.eq_nil_of_length_eq_zero (by rw [h.1, h0])
      rw [this]; simp [flatP]
    · exact h0
  obtain ⟨b, o, hA, hr⟩ := h.2 hn
  refine ⟨b, o, hA, fun j v hv => hr j v ?_⟩
  rw [← flatP_take, List.getElem?_take] at hv
  split at hv
  · exact hv
  · cases hv
theorem eql_rpost (p q : Po) (w : World) : (binOp .eql 32 (.agg (encP p).toArray) (.agg (encP q).toArray)).run Try.prog w = .ok (.bool (decide (p = q))) w := by
  have hS : Try.prog.underlying 32 = some (.struct (Try.prog.fieldsOf 32)) := by kernel_rfl
  have hp : Try.prog.stoodInHeld 32 = false := by kernel_rfl
  simp only [encP]
  rw [run_eql_struct, show (10000 : Nat) = 9999 + 1 from rfl, run_equalIn_agg w 9999 32 _ _ hS hp]
  simp only [Program.fieldsOf, Try.underlying32]
  go_simp
  obtain ⟨p1, p2⟩ := p
  obtain ⟨q1, q2⟩ := q
  by_cases h1 : p1 = q1 <;> by_cases h2 : p2 = q2 <;> simp [h1, h2]
theorem exec_eql_rpost {o : Oper} {a : Act} {x y : Operand} {t2 : TypeId} (ho : o.op = .binOp .eql 32 x y t2) (p q : Po) (hx : a.eval x = .agg (encP p).toArray) (hy : a.eval y = .agg (encP q).toArray) (u : World) :
    (execOp a.eval o).run Try.prog u = .ok (.value (.bool (decide (p = q)))) u := by
  unfold execOp
  simp only [ho, hx, hy, Sem.run_bind, run_eqGuard_agg (hm := Try.eqGuardType32), Result.andThen_ok, eql_rpost, Sem.run_pure]
/-- The document's posts, a row of one's own. -/
def RefPost (w : World) (ls : List Po) (e : Ending) (w' : World) : Prop := ∃ A c, e = .returned (.slice A ls.length c) ∧ w'.ownsRow w.heap.size 32 2 (.slice A ls.length c) ls.length (flatP ls) ∧ Below w.heap.size w w'
set_option maxRecDepth 100000 in
set_option maxHeartbeats 4000000 in
theorem refNew_any (w : World) (A : Option Addr) (n c0 : Nat) (ls : List Po) (h : RP w A n ls) (hn : n ≤ 1000000) :
    Calls Try.prog 13 #[.slice A n c0] w (RefPost w (newF ls)) := by
  have H := Lib.hid h
  have hl := h.1
  have Hl := Lib.hid hl
  clear h hl
  go_enter Try.func13, Try.ntmps13
  go_wp2
  go_loopw [3, 4] (fun v s wr => ∃ k : Nat, k ≤ n ∧ s = .int .i64 (k : Int) ∧ Hid (wr.ownsRow w.heap.size 32 2 v (newF (ls.take k)).length (flatP (newF (ls.take k))) ∧ Below w.heap.size w wr)) (fun _ s _ => n - (intOf s).toNat)
  case atStart => exact ⟨0, Nat.zero_le _, rfl, Lib.hid ⟨World.ownsRow_nil _ _ _ _, Below.refl _ _⟩⟩
  case round =>
    obtain ⟨k, hk, rfl, HO⟩ := hrel
    obtain ⟨V0, rfl⟩ : ∃ V0, V0 = wr := ⟨wr, rfl⟩
    by_cases hlt : k < n
    · obtain ⟨b, o, p, rfl, hp, hrp0, -, -⟩ := (H.out.below HO.out.2).at_ hlt
      have hOl := newF_length (ls.take k)
      rw [List.length_take] at hOl
      have hasc := (newF_all (ls.take k)).1
      obtain ⟨O, hO⟩ : ∃ O, O = newF (ls.take k) := ⟨_, rfl⟩
      rw [← hO] at hOl hasc
      have HO' : Hid (V0.ownsRow w.heap.size 32 2 u3 O.length (flatP O) ∧ Below w.heap.size w V0) := Lib.hid (by rw [hO]; exact HO.out)
      clear HO
      have HO := HO'
      clear HO'
      obtain ⟨m, hm⟩ : ∃ m, O.length = m := ⟨_, rfl⟩
      have hm6 : m ≤ 1000000 := by omega
      have HOO := Lib.hid hO
      have Hp := Lib.hid hp
      have Hm := Lib.hid hm
      have Hasc := Lib.hid hasc
      obtain ⟨Ao, c, e2, hmc, hcm, hf⟩ := own_formK HO.out.1
      subst e2
      rw [Hm.out] at HO hmc hf
      have hia := insAt_le O p
      rw [Hm.out] at hia
      have Hf := Lib.hid hf
      unfold maxLen at hcm
      clear hO hp hm hasc hOl hf
      rw [Hm.out]
      go_wp2_with fail
      go_loopw [5] (fun s wr => ∃ j : Nat, j ≤ m ∧ j ≤ insAt O p ∧ s = .int .i64 (j : Int) ∧ Hid (Below V0.heap.size V0 wr)) (fun s _ => m - (intOf s).toNat)
      case atStart => exact ⟨0, Nat.zero_le _, Nat.zero_le _, rfl, Lib.hid (Below.refl _ _)⟩
      case round =>
        obtain ⟨j, hj, hji, rfl, HVb⟩ := hrel
        have hrp := rangeAt_below' hrp0 HVb.out
        by_cases hjm : j < m
        · obtain ⟨x, hx⟩ : ∃ x, O[j]? = some x := ⟨_, List.getElem?_eq_getElem (by rw [Hm.out]; exact hjm)⟩
          obtain ⟨g, rfl, -, hrO, -⟩ := Hf.out (by omega)
          have hrx0 := range_post O 0 hrO j x hx
          rw [Nat.zero_add] at hrx0
          have hrx := rangeAt_below' hrx0 HVb.out
          obtain ⟨B, hB⟩ : ∃ B, B = ltP x p := ⟨_, rfl⟩
          have HB := Lib.hid hB
          have Hx := Lib.hid hx
          have Hrx0 := Lib.hid hrx0
          clear hB hx hrO hrx0
          go_wp2_with fail
          refine wp_region_quietB (by kernel_rfl) (by kernel_rfl) (fun hne => ?_)
          repeat (first
            | ((with_reducible show wpQuiet _ _ _ _ (⟨_, Op.load 32 (.tmp 20), _, _, _, _⟩ :: _) _); refine wpQ_loadB rfl _ _ rfl g (j * 2) rfl (encP x) _ hrx Try.underlying32 rfl (info_rpost x) ?_; simp only [Act.put, List.setIfInBounds_toArray, List.set_cons_zero, List.set_cons_succ])
            | ((with_reducible show wpQuiet _ _ _ _ (⟨_, Op.load 32 (.tmp 24), _, _, _, _⟩ :: _) _); refine wpQ_loadB rfl _ _ rfl b (o + k * 2) rfl (encP p) _ hrp Try.underlying32 rfl (info_rpost p) ?_; simp only [Act.put, List.setIfInBounds_toArray, List.set_cons_zero, List.set_cons_succ])
            | ((with_reducible show wpQuiet _ _ _ _ (⟨some 26, _, _, _, _, _⟩ :: _) _); refine wpQ_callB rfl 27 #[PV x, PV p] (fun u => by go_simp; exact ⟨rfl, rfl⟩) (.bool B) (fun u _ => (before_any x p u).mono fun e w' ⟨h1, h2⟩ => ⟨by rw [h1, HB.out], h2⟩) ?_; simp only [Act.put, List.setIfInBounds_toArray, List.set_cons_zero, List.set_cons_succ])
            | go_big_quiet_step (fail))
          refine wpQuiet_nil ?_
          intro V1 hV1
          have HVc := Lib.hid (HVb.out.trans (hV1.mono HVb.out.size))
          clear hrx hrp hV1
          cases B with
          | true =>
            have h1 := insAt_gt Hasc.out Hx.out HB.out.symm
            clear hne
            go_wp2
            go_roundw
            case rel => exact ⟨j + 1, by omega, h1, by go_num, HVc⟩
            case measure => simp [intOf]; omega
          | false =>
            have h1 := insAt_nlt Hx.out HB.out.symm
            have hje : insAt O p = j := by omega
            obtain ⟨bE, hbE⟩ : ∃ bE, bE = decide (x = p) := ⟨_, rfl⟩
            have HbE := Lib.hid hbE
            have hrx := rangeAt_below' Hrx0.out HVc.out
            have hrp := rangeAt_below' hrp0 HVc.out
            have Hje := Lib.hid hje
            clear hbE hje h1 hne
            go_wp2_with fail
            refine wp_region_quietB (by kernel_rfl) (by kernel_rfl) (fun hne => ?_)
            repeat (first
              | ((with_reducible show wpQuiet _ _ _ _ (⟨_, Op.load 32 (.tmp 37), _, _, _, _⟩ :: _) _); refine wpQ_loadB rfl _ _ rfl g (j * 2) rfl (encP x) _ hrx Try.underlying32 rfl (info_rpost x) ?_; simp only [Act.put, List.setIfInBounds_toArray, List.set_cons_zero, List.set_cons_succ])
              | ((with_reducible show wpQuiet _ _ _ _ (⟨_, Op.load 32 (.tmp 41), _, _, _, _⟩ :: _) _); refine wpQ_loadB rfl _ _ rfl b (o + k * 2) rfl (encP p) _ hrp Try.underlying32 rfl (info_rpost p) ?_; simp only [Act.put, List.setIfInBounds_toArray, List.set_cons_zero, List.set_cons_succ])
              | ((with_reducible show wpQuiet _ _ _ _ (⟨_, Op.binOp .eql 32 _ _ _, _, _, _, _⟩ :: _) _); refine wpQ_val rfl (.bool bE) (fun u _ => (exec_eql_rpost rfl x p rfl rfl u).trans (by rw [HbE.out])) ?_; simp only [Act.put, List.setIfInBounds_toArray, List.set_cons_zero, List.set_cons_succ])
              | go_big_quiet_step (fail))
            refine wpQuiet_nil ?_
            intro V hV
            have HVd := Lib.hid (HVc.out.trans (hV.mono HVc.out.size))
            clear hrx hrp hV hne HVb HVc
            have HVb := HVd
            clear HVd
            cases bE with
            | true =>
              have he : x = p := by have := HbE.out; simpa using this.symm
              have hins : newF (ls.take (k + 1)) = O := by
                rw [take_snoc Hp.out, newF_snoc, ← HOO.out, insP, if_pos (by rw [Hje.out, Hx.out, he])]
              have HN : Hid (V.ownsRow w.heap.size 32 2 (.slice (some ⟨g, 0, none⟩) m c) (newF (ls.take (k + 1))).length (flatP (newF (ls.take (k + 1)))) ∧ Below w.heap.size w V) := Lib.hid ⟨by rw [hins, Hm.out]; exact ownsRow_below HO.out.1 HVb.out, HO.out.2.trans (HVb.out.mono HO.out.2.size)⟩
              clear he hins hrp0
              go_wp2
              go_roundw
              case rel => exact ⟨k + 1, by omega, by go_num, HN⟩
              case measure => simp [intOf]; omega
            | false =>
              have hnx : ¬ x = p := by have := HbE.out; simpa using this.symm
              have Hne : Hid (O[insAt O p]? ≠ some p) := Lib.hid (by rw [Hje.out, Hx.out]; simpa using hnx)
              have hje := Hje.out
              have hca : ¬ (c = j) := by omega
              clear hnx
              have HVw := Lib.hid (HO.out.2.trans (HVb.out.mono HO.out.2.size))
              have hrO := Lib.hid (RP.below (RP.of_own HO.out.1) HVb.out)
              have hins : newF (ls.take (k + 1)) = (O.take (j) ++ [p]) ++ O.drop (j) := by
                rw [take_snoc Hp.out, newF_snoc, ← HOO.out]
                have h9 := insP_new Hne.out
                rw [hje] at h9
                exact h9
              have Hins := Lib.hid hins
              have htl : (O.take (j)).length = j := by rw [List.length_take, Hm.out]; omega
              have hdl : (O.drop (j)).length = (m - (j)) := by rw [List.length_drop, Hm.out]
              have htf : (flatP (O.take (j))).length = (j) * 2 := by rw [flatP_len, htl]
              have hdf : (flatP (O.drop (j))).length = (m - (j)) * 2 := by rw [flatP_len, hdl]
              have rc1 : RC V (some ⟨g, 0, none⟩) (flatP (O.take (j))) := hrO.out.rc_take
              have rc2 : RC V (some ⟨g, j * 2, none⟩) (flatP (O.drop (j))) := by have h9 := (RP.cut hrO.out (show j ≤ m by omega)).rc; simpa [Addr.add_mid] using h9
              have hrpV : V.rangeAt b (o + k * 2) (encP p) := rangeAt_below' hrp0 HVb.out
              have cpV : V.cell? ⟨b, o + k * 2, none⟩ = some (.string ⟨p.1.toArray⟩) := by simpa using hrpV 0 _ rfl
              have cpV1 : V.cell? ⟨b, o + k * 2 + 1, none⟩ = some (.int .i64 p.2) := by simpa using hrpV 1 _ rfl
              obtain ⟨X1, hX1⟩ : ∃ X1, X1 = flatP (O.take (j)) := ⟨_, rfl⟩
              obtain ⟨X2, hX2⟩ : ∃ X2, X2 = flatP (O.drop (j)) := ⟨_, rfl⟩
              have one1 : ∀ u ∈ X1, u.oneCell' = true := by rw [hX1]; exact flatP_one _
              have one2 : ∀ u ∈ X2, u.oneCell' = true := by rw [hX2]; exact flatP_one _
              have HX1 := Lib.hid hX1
              have HX2 := Lib.hid hX2
              rw [← hX1] at htf rc1
              rw [← hX2] at hdf rc2
              have Hrc1 := Lib.hid rc1
              have Hrc2 := Lib.hid rc2
              have Htf := Lib.hid htf
              have Hdf := Lib.hid hdf
              have Hone1 := Lib.hid one1
              have Hone2 := Lib.hid one2
              have HrpV := Lib.hid hrpV
              clear hje hins htl hdl htf hdf rc1 rc2 hX1 hX2 hrpV one1 one2 hrp0
              go_wp2_with (first
                | ((with_reducible show wpList _ _ _ (⟨some 49, _, _, _, _, _⟩ :: _) _ _); refine wpList_append_row rfl (.tmp 45) (.tmp 48) 22 rfl V (Below.refl _ _) Try.underlying22 info_rpost3 rfl (by decide) (.slice none 0 0) 0 [] rfl (World.ownsRow_nil _ _ _ _) (some ⟨g, 0, none⟩) (j) c X1 rfl Hrc1.out Htf.out Hone1.out (by unfold maxLen; omega) (by omega) ?_; intro v3 w3 hown3 hb3; rw [List.nil_append, Nat.zero_add] at hown3; obtain ⟨A3, c3, rfl, -, -, -⟩ := own_formK hown3; have H3 := Lib.hid (And.intro hown3 hb3); have cp3 : w3.cell? ⟨b, o + k * 2, none⟩ = some (.string ⟨p.1.toArray⟩) := (by simpa using (rangeAt_below' HrpV.out hb3) 0 _ rfl); have cp4 : w3.cell? ⟨b, o + k * 2 + 1, none⟩ = some (.int .i64 p.2) := (by simpa using (rangeAt_below' HrpV.out hb3) 1 _ rfl); clear hown3 hb3)
                | ((with_reducible show wpList _ _ _ (⟨some 55, _, _, _, _, _⟩ :: _) _ _); refine wpList_buildOne rfl _ _ (.tmp 54) rfl [.string ⟨p.1.toArray⟩, .int .i64 p.2] rfl Try.underlying22 info_rpost3 rfl (by decide) (by decide) ?_)
                | ((with_reducible show wpList _ _ _ (⟨some 56, _, _, _, _, _⟩ :: _) _ _); refine wpList_append_row rfl (.tmp 50) (.tmp 55) 22 rfl V (H3.out.2.alloc H3.out.2.size _) Try.underlying22 info_rpost3 rfl (by decide) (.slice A3 (j) c3) (j) X1 rfl (H3.out.1.alloc _) (some ⟨w3.heap.size, 0, none⟩) 1 1 (encP p) rfl (rc_new w3 _ _ _) rfl (encP_one p) (by unfold maxLen; omega) (by omega) ?_; intro v4 w4 hown4 hb4; obtain ⟨A4, c4, rfl, -, -, -⟩ := own_formK hown4; have H4 := Lib.hid (And.intro hown4 hb4); clear hown4 hb4)
                | ((with_reducible show wpList _ _ _ (⟨some 61, _, _, _, _, _⟩ :: _) _ _); refine wpList_append_row rfl (.tmp 57) (.tmp 60) 22 rfl V H4.out.2 Try.underlying22 info_rpost3 rfl (by decide) (.slice A4 (j + 1) c4) (j + 1) (X1 ++ encP p) rfl H4.out.1 _ (m - (j)) _ X2 rfl (RC.below Hrc2.out H4.out.2) Hdf.out Hone2.out (by unfold maxLen; omega) (by omega) ?_; intro v5 w5 hown5 hb5; have H5 := Lib.hid (And.intro hown5 hb5); clear hown5 hb5))
              go_roundw
              case rel => exact ⟨k + 1, by omega, by go_num, Lib.hid ⟨by
                rw [Hins.out]
                have h5 := own_wide H5.out.1 HVw.out.size
                rw [flatP_app, flatP_snoc, ← HX1.out, ← HX2.out, List.length_append, List.length_append, List.length_take, List.length_drop, Hm.out, Nat.min_eq_left (by omega)]
                exact h5, HVw.out.trans (H5.out.2.mono HVw.out.size)⟩⟩
              case measure => simp [intOf]; omega

        · obtain rfl : j = m := by omega
          have hje : insAt O p = j := by omega
          have Hje := Lib.hid hje
          clear hje hrp
          go_wp2_with fail
          refine wp_region_quietB (by kernel_rfl) (by kernel_rfl) (fun hne => ?_)
          repeat (go_big_quiet_step (fail))
          refine wpQuiet_nil ?_
          intro V1 hV1
          have HVc := Lib.hid (HVb.out.trans (hV1.mono HVb.out.size))
          clear hV1 hne
          go_wp2_with fail
          refine wp_region_quietB (by kernel_rfl) (by kernel_rfl) (fun hne => ?_)
          repeat (go_big_quiet_step (fail))
          refine wpQuiet_nil ?_
          intro V hV
          have HVd := Lib.hid (HVc.out.trans (hV.mono HVc.out.size))
          clear hV hne HVb HVc
          have HVb := HVd
          clear HVd
          have Hne : Hid (O[insAt O p]? ≠ some p) := Lib.hid (by rw [Hje.out, List.getElem?_eq_none (by rw [Hm.out]; exact Nat.le_refl _)]; simp)
          have hje := Hje.out
          by_cases hca : c = j
          · subst hca
            have HVw := Lib.hid (HO.out.2.trans (HVb.out.mono HO.out.2.size))
            have hrO := Lib.hid (RP.below (RP.of_own HO.out.1) HVb.out)
            have hins : newF (ls.take (k + 1)) = (O.take (c) ++ [p]) ++ O.drop (c) := by
              rw [take_snoc Hp.out, newF_snoc, ← HOO.out]
              have h9 := insP_new Hne.out
              rw [hje] at h9
              exact h9
            have Hins := Lib.hid hins
            have htl : (O.take (c)).length = c := by rw [List.length_take, Hm.out]; omega
            have hdl : (O.drop (c)).length = 0 := by rw [List.length_drop, Hm.out, Nat.sub_self]
            have htf : (flatP (O.take (c))).length = (c) * 2 := by rw [flatP_len, htl]
            have hdf : (flatP (O.drop (c))).length = 0 * 2 := by rw [flatP_len, hdl]
            have rc1 : RC V Ao (flatP (O.take (c))) := hrO.out.rc_take
            have rc2 : ∀ A9, RC V A9 (flatP (O.drop (c))) := fun A9 => RC.nil_of (by rw [List.drop_eq_nil_of_le (by rw [Hm.out]; exact Nat.le_refl _)]; rfl)
            have hrpV : V.rangeAt b (o + k * 2) (encP p) := rangeAt_below' hrp0 HVb.out
            have cpV : V.cell? ⟨b, o + k * 2, none⟩ = some (.string ⟨p.1.toArray⟩) := by simpa using hrpV 0 _ rfl
            have cpV1 : V.cell? ⟨b, o + k * 2 + 1, none⟩ = some (.int .i64 p.2) := by simpa using hrpV 1 _ rfl
            obtain ⟨X1, hX1⟩ : ∃ X1, X1 = flatP (O.take (c)) := ⟨_, rfl⟩
            obtain ⟨X2, hX2⟩ : ∃ X2, X2 = flatP (O.drop (c)) := ⟨_, rfl⟩
            have one1 : ∀ u ∈ X1, u.oneCell' = true := by rw [hX1]; exact flatP_one _
            have one2 : ∀ u ∈ X2, u.oneCell' = true := by rw [hX2]; exact flatP_one _
            have HX1 := Lib.hid hX1
            have HX2 := Lib.hid hX2
            rw [← hX1] at htf rc1
            rw [← hX2] at hdf rc2
            have Hrc1 := Lib.hid rc1
            have Hrc2 := Lib.hid rc2
            have Htf := Lib.hid htf
            have Hdf := Lib.hid hdf
            have Hone1 := Lib.hid one1
            have Hone2 := Lib.hid one2
            have HrpV := Lib.hid hrpV
            clear hje hins htl hdl htf hdf rc1 rc2 hX1 hX2 hrpV one1 one2 hrp0
            go_wp2_with (first
              | ((with_reducible show wpList _ _ _ (⟨some 49, _, _, _, _, _⟩ :: _) _ _); refine wpList_append_row rfl (.tmp 45) (.tmp 48) 22 rfl V (Below.refl _ _) Try.underlying22 info_rpost3 rfl (by decide) (.slice none 0 0) 0 [] rfl (World.ownsRow_nil _ _ _ _) Ao (c) c X1 rfl Hrc1.out Htf.out Hone1.out (by unfold maxLen; omega) (by omega) ?_; intro v3 w3 hown3 hb3; rw [List.nil_append, Nat.zero_add] at hown3; obtain ⟨A3, c3, rfl, -, -, -⟩ := own_formK hown3; have H3 := Lib.hid (And.intro hown3 hb3); have cp3 : w3.cell? ⟨b, o + k * 2, none⟩ = some (.string ⟨p.1.toArray⟩) := (by simpa using (rangeAt_below' HrpV.out hb3) 0 _ rfl); have cp4 : w3.cell? ⟨b, o + k * 2 + 1, none⟩ = some (.int .i64 p.2) := (by simpa using (rangeAt_below' HrpV.out hb3) 1 _ rfl); clear hown3 hb3)
              | ((with_reducible show wpList _ _ _ (⟨some 55, _, _, _, _, _⟩ :: _) _ _); refine wpList_buildOne rfl _ _ (.tmp 54) rfl [.string ⟨p.1.toArray⟩, .int .i64 p.2] rfl Try.underlying22 info_rpost3 rfl (by decide) (by decide) ?_)
              | ((with_reducible show wpList _ _ _ (⟨some 56, _, _, _, _, _⟩ :: _) _ _); refine wpList_append_row rfl (.tmp 50) (.tmp 55) 22 rfl V (H3.out.2.alloc H3.out.2.size _) Try.underlying22 info_rpost3 rfl (by decide) (.slice A3 (c) c3) (c) X1 rfl (H3.out.1.alloc _) (some ⟨w3.heap.size, 0, none⟩) 1 1 (encP p) rfl (rc_new w3 _ _ _) rfl (encP_one p) (by unfold maxLen; omega) (by omega) ?_; intro v4 w4 hown4 hb4; obtain ⟨A4, c4, rfl, -, -, -⟩ := own_formK hown4; have H4 := Lib.hid (And.intro hown4 hb4); clear hown4 hb4)
              | ((with_reducible show wpList _ _ _ (⟨some 61, _, _, _, _, _⟩ :: _) _ _); refine wpList_append_row rfl (.tmp 57) (.tmp 60) 22 rfl V H4.out.2 Try.underlying22 info_rpost3 rfl (by decide) (.slice A4 (c + 1) c4) (c + 1) (X1 ++ encP p) rfl H4.out.1 _ 0 _ X2 rfl (RC.below (Hrc2.out _) H4.out.2) Hdf.out Hone2.out (by unfold maxLen; omega) (by omega) ?_; intro v5 w5 hown5 hb5; have H5 := Lib.hid (And.intro hown5 hb5); clear hown5 hb5))
            go_roundw
            case rel => exact ⟨k + 1, by omega, by go_num, Lib.hid ⟨by
              rw [Hins.out]
              have h5 := own_wide H5.out.1 HVw.out.size
              rw [flatP_app, flatP_snoc, ← HX1.out, ← HX2.out, List.length_append, List.length_append, List.length_take, List.length_drop, Hm.out, Nat.min_eq_left (by omega), Nat.sub_self]
              exact h5, HVw.out.trans (H5.out.2.mono HVw.out.size)⟩⟩
            case measure => simp [intOf]; omega

          · skip
            have HVw := Lib.hid (HO.out.2.trans (HVb.out.mono HO.out.2.size))
            have hrO := Lib.hid (RP.below (RP.of_own HO.out.1) HVb.out)
            have hins : newF (ls.take (k + 1)) = (O.take (j) ++ [p]) ++ O.drop (j) := by
              rw [take_snoc Hp.out, newF_snoc, ← HOO.out]
              have h9 := insP_new Hne.out
              rw [hje] at h9
              exact h9
            have Hins := Lib.hid hins
            have htl : (O.take (j)).length = j := by rw [List.length_take, Hm.out]; omega
            have hdl : (O.drop (j)).length = 0 := by rw [List.length_drop, Hm.out, Nat.sub_self]
            have htf : (flatP (O.take (j))).length = (j) * 2 := by rw [flatP_len, htl]
            have hdf : (flatP (O.drop (j))).length = 0 * 2 := by rw [flatP_len, hdl]
            have rc1 : RC V Ao (flatP (O.take (j))) := hrO.out.rc_take
            have rc2 : ∀ A9, RC V A9 (flatP (O.drop (j))) := fun A9 => RC.nil_of (by rw [List.drop_eq_nil_of_le (by rw [Hm.out]; exact Nat.le_refl _)]; rfl)
            have hrpV : V.rangeAt b (o + k * 2) (encP p) := rangeAt_below' hrp0 HVb.out
            have cpV : V.cell? ⟨b, o + k * 2, none⟩ = some (.string ⟨p.1.toArray⟩) := by simpa using hrpV 0 _ rfl
            have cpV1 : V.cell? ⟨b, o + k * 2 + 1, none⟩ = some (.int .i64 p.2) := by simpa using hrpV 1 _ rfl
            obtain ⟨X1, hX1⟩ : ∃ X1, X1 = flatP (O.take (j)) := ⟨_, rfl⟩
            obtain ⟨X2, hX2⟩ : ∃ X2, X2 = flatP (O.drop (j)) := ⟨_, rfl⟩
            have one1 : ∀ u ∈ X1, u.oneCell' = true := by rw [hX1]; exact flatP_one _
            have one2 : ∀ u ∈ X2, u.oneCell' = true := by rw [hX2]; exact flatP_one _
            have HX1 := Lib.hid hX1
            have HX2 := Lib.hid hX2
            rw [← hX1] at htf rc1
            rw [← hX2] at hdf rc2
            have Hrc1 := Lib.hid rc1
            have Hrc2 := Lib.hid rc2
            have Htf := Lib.hid htf
            have Hdf := Lib.hid hdf
            have Hone1 := Lib.hid one1
            have Hone2 := Lib.hid one2
            have HrpV := Lib.hid hrpV
            clear hje hins htl hdl htf hdf rc1 rc2 hX1 hX2 hrpV one1 one2 hrp0
            go_wp2_with (first
              | ((with_reducible show wpList _ _ _ (⟨some 49, _, _, _, _, _⟩ :: _) _ _); refine wpList_append_row rfl (.tmp 45) (.tmp 48) 22 rfl V (Below.refl _ _) Try.underlying22 info_rpost3 rfl (by decide) (.slice none 0 0) 0 [] rfl (World.ownsRow_nil _ _ _ _) Ao (j) c X1 rfl Hrc1.out Htf.out Hone1.out (by unfold maxLen; omega) (by omega) ?_; intro v3 w3 hown3 hb3; rw [List.nil_append, Nat.zero_add] at hown3; obtain ⟨A3, c3, rfl, -, -, -⟩ := own_formK hown3; have H3 := Lib.hid (And.intro hown3 hb3); have cp3 : w3.cell? ⟨b, o + k * 2, none⟩ = some (.string ⟨p.1.toArray⟩) := (by simpa using (rangeAt_below' HrpV.out hb3) 0 _ rfl); have cp4 : w3.cell? ⟨b, o + k * 2 + 1, none⟩ = some (.int .i64 p.2) := (by simpa using (rangeAt_below' HrpV.out hb3) 1 _ rfl); clear hown3 hb3)
              | ((with_reducible show wpList _ _ _ (⟨some 55, _, _, _, _, _⟩ :: _) _ _); refine wpList_buildOne rfl _ _ (.tmp 54) rfl [.string ⟨p.1.toArray⟩, .int .i64 p.2] rfl Try.underlying22 info_rpost3 rfl (by decide) (by decide) ?_)
              | ((with_reducible show wpList _ _ _ (⟨some 56, _, _, _, _, _⟩ :: _) _ _); refine wpList_append_row rfl (.tmp 50) (.tmp 55) 22 rfl V (H3.out.2.alloc H3.out.2.size _) Try.underlying22 info_rpost3 rfl (by decide) (.slice A3 (j) c3) (j) X1 rfl (H3.out.1.alloc _) (some ⟨w3.heap.size, 0, none⟩) 1 1 (encP p) rfl (rc_new w3 _ _ _) rfl (encP_one p) (by unfold maxLen; omega) (by omega) ?_; intro v4 w4 hown4 hb4; obtain ⟨A4, c4, rfl, -, -, -⟩ := own_formK hown4; have H4 := Lib.hid (And.intro hown4 hb4); clear hown4 hb4)
              | ((with_reducible show wpList _ _ _ (⟨some 61, _, _, _, _, _⟩ :: _) _ _); refine wpList_append_row rfl (.tmp 57) (.tmp 60) 22 rfl V H4.out.2 Try.underlying22 info_rpost3 rfl (by decide) (.slice A4 (j + 1) c4) (j + 1) (X1 ++ encP p) rfl H4.out.1 _ 0 _ X2 rfl (RC.below (Hrc2.out _) H4.out.2) Hdf.out Hone2.out (by unfold maxLen; omega) (by omega) ?_; intro v5 w5 hown5 hb5; have H5 := Lib.hid (And.intro hown5 hb5); clear hown5 hb5))
            go_roundw
            case rel => exact ⟨k + 1, by omega, by go_num, Lib.hid ⟨by
              rw [Hins.out]
              have h5 := own_wide H5.out.1 HVw.out.size
              rw [flatP_app, flatP_snoc, ← HX1.out, ← HX2.out, List.length_append, List.length_append, List.length_take, List.length_drop, Hm.out, Nat.min_eq_left (by omega), Nat.sub_self]
              exact h5, HVw.out.trans (H5.out.2.mono HVw.out.size)⟩⟩
            case measure => simp [intOf]; omega

    · obtain rfl : k = n := by omega
      have hfull : ls.take k = ls := List.take_of_length_le (by rw [Hl.out]; exact Nat.le_refl _)
      have hown := HO.out.1
      rw [hfull] at hown
      obtain ⟨A2, c2, e2, -, -, -⟩ := own_formK hown
      subst e2
      have HR := Lib.hid (And.intro hown HO.out.2)
      clear hfull hown
      go_wp2
      go_ret
      exact ⟨A2, c2, rfl, HR.out.1, HR.out.2⟩
end Go.Proofs.Ytkfpnilbjjkhgaa
