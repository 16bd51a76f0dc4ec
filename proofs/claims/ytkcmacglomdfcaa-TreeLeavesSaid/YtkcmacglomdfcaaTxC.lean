/-
  THE WALK of the law LeafUnlike.
-/
import Derived.Test.YtkcmacglomdfcaaTxB
namespace Go.Proofs.Ytkcmacglomdfcaa
open Go.RowKit

/-- A row of texts. -/
structure RowT (w : World) (V : Value) (m : Nat) (us : List Value) (T : List Dg) (u : World) : Prop where
  own : u.ownsRow w.heap.size 22 1 V m us
  elts : Elts u w.heap.size us T
theorem RowT.stable {w u u' : World} {V : Value} {m : Nat} {us : List Value} {T : List Dg} (h : RowT w V m us T u) (hb : Below u.heap.size u u') : RowT w V m us T u' := ⟨ownsRow_below h.own hb, h.elts.below hb⟩
theorem own_notMap {H : Type} {w : World} {B : Nat} {e : TypeId} {s : Nat} {v : Value} {n : Nat} {xs : List Value} (h : w.ownsRow B e s v n xs) {P : Program} {k : TypeId} {R : Value → Option (DataW H × List MemPlace)} {b m : Nat} {D : DataW H} (hm : w.ownsMap P k R b m D) : v.ownBlock ≠ some b := by
  intro hv
  obtain ⟨es, clock, h1, _⟩ := hm
  rcases h.2 with ⟨rfl, _⟩ | ⟨g, cap, cur, rfl, hg, hh, r⟩
  · simp [Value.ownBlock] at hv
  · simp [Value.ownBlock] at hv
    rw [hv, h1] at hh
    cases hh
theorem RowT.mapped {H : Type} {w u u' : World} {V : Value} {m : Nat} {us : List Value} {T : List Dg} (h : RowT w V m us T u) {P : Program} {k : TypeId} {R : Value → Option (DataW H × List MemPlace)} {b n : Nat} {D : DataW H} (hm : u.ownsMap P k R b n D) (hg : u.grownBy u' (some b)) : RowT w V m us T u' := by
  have hk : ∀ {e : TypeId} {s : Nat} {v : Value} {n : Nat} {xs : List Value}, u.ownsRow w.heap.size e s v n xs → u'.ownsRow w.heap.size e s v n xs := fun ho => by
    refine ho.kept hg ?_
    rename_i v _ _
    rcases hz : v.ownBlock with _ | g
    · exact .inl rfl
    · exact .inr fun e => own_notMap ho hm (hz.trans (by rw [← e]))
  exact ⟨hk h.own, h.elts.1, fun k u x hu hx => by
    obtain ⟨n, c, A, rfl, ho⟩ := h.elts.2 k u x hu hx
    exact ⟨n, c, A, rfl, hk ho⟩⟩
set_option maxRecDepth 100000 in
set_option maxHeartbeats 4000000 in
theorem leafUnlike_law (w : World) (v1 : Value) (la : List Dg) (hv1 : SS w v1 la) (v2 : Value) (lb : List Dg) (hv2 : SS w v2 lb) : Calls Try.prog 9 #[v1, v2] w fun e w' => e = .returned (.bool true) ∧ Below w.heap.size w w' := by
  obtain ⟨A, n, c, rfl, hnc, hcm, hr⟩ := hv1
  obtain ⟨B, m, d, rfl, hmd, hdm, hs⟩ := hv2
  have hcm' := hcm
  have hdm' := hdm
  unfold maxLen at hcm hdm
  have hA := alive9_any dig
  have hP := root_any dig
  have HFd := dig
  generalize digest32 K32 H32 = F at hP HFd
  have HA := Lib.hid hA
  have HP := Lib.hid hP
  have hla := hr.len
  have hlb := hs.len
  clear hA hP
  by_cases hnm : n = m
  · subst hnm
    have hnn : ((n : Int) != (n : Int)) = false := by simp
    by_cases hbig : 100 < n
    · have dn : decide ((100 : Int) < (n : Int)) = true := decide_eq_true (by omega)
      clear hla hlb hr hs
      go_enter Try.func9, Try.ntmps9
      go_wp2_with (go_at_call 30; refine (HA.out _).mono ?_; rintro e w1 ⟨rfl, hb1⟩)
      go_ret
      exact ⟨rfl, hb1⟩
    · have dn : decide ((100 : Int) < (n : Int)) = false := decide_eq_false (by omega)
      have ha32 := hr.2.1
      have hb32 := hs.2.1
      have hra := rootF_len HFd.len _ la rfl ha32
      have hrb := rootF_len HFd.len _ lb rfl hb32
      obtain ⟨q, hq⟩ : ∃ q, (la == lb) = q := ⟨_, rfl⟩
      have HP1 : Hid (∀ u, Below w.heap.size w u → Calls Try.prog 38 #[.slice A n c] u fun e w' => e = .returned (SumV (rootF F la)) ∧ Below u.heap.size u w') := Lib.hid fun u hu => HP.out u A n c la (hr.below hu) (by omega)
      have HP2 : Hid (∀ u, Below w.heap.size w u → Calls Try.prog 38 #[.slice B n d] u fun e w' => e = .returned (SumV (rootF F lb)) ∧ Below u.heap.size u w') := Lib.hid fun u hu => HP.out u B n d lb (hs.below hu) (by omega)
      have HSm : Hid (∀ u, Below w.heap.size w u → Calls Try.prog 40 #[.slice A n c, .slice B n d] u fun e w' => e = .returned (.bool q) ∧ Below u.heap.size u w') := Lib.hid fun u hu => by
        rw [← hq]
        exact sums_any u A B n n c d la lb (hr.below hu) (hs.below hu) (by unfold maxLen; omega)
      have HT1 : Hid (∀ u, Below w.heap.size w u → Calls Try.prog 41 #[.slice A n c] u (TxtPost u (textsF F la))) := Lib.hid fun u hu => reftexts_any HFd n n (Nat.le_refl _) u A c la (hr.below hu) hnc hcm' (by omega)
      have HT2 : Hid (∀ u, Below w.heap.size w u → Calls Try.prog 41 #[.slice B n d] u (TxtPost u (textsF F lb))) := Lib.hid fun u hu => reftexts_any HFd n n (Nat.le_refl _) u B d lb (hs.below hu) hmd hdm' (by omega)
      have ha65 := textsF_65 HFd.len _ la rfl ha32
      have hb65 := textsF_65 HFd.len _ lb rfl hb32
      have haT := textsF_len (F := F) _ la hla
      have hbT := textsF_len (F := F) _ lb hlb
      have hlaw : la ≠ lb → rootF F la = rootF F lb → ¬ Clear F (textsF F la ++ textsF F lb) := fun hne he hcl =>
        hne (unlike_law HFd.len hcl n la lb hla hlb ha32 hb32 (fun t h => List.mem_append_left _ h) (fun t h => List.mem_append_right _ h) he)
      obtain ⟨T1, hT1⟩ : ∃ T, T = textsF F la := ⟨_, rfl⟩
      obtain ⟨T2, hT2⟩ : ∃ T, T = textsF F lb := ⟨_, rfl⟩
      rw [← hT1] at ha65 haT HT1 hlaw
      rw [← hT2] at hb65 hbT HT2 hlaw
      obtain ⟨r1, hr1⟩ : ∃ r, r = rootF F la := ⟨_, rfl⟩
      obtain ⟨r2, hr2⟩ : ∃ r, r = rootF F lb := ⟨_, rfl⟩
      rw [← hr1] at hra HP1 hlaw
      rw [← hr2] at hrb HP2 hlaw
      unfold SumV at HP1 HP2
      have heq := fun w => run_eql_sum w r1 r2 hra hrb
      have hneq := fun w => run_neq_sum w r1 r2 hra hrb
      have Hlaw := Lib.hid hlaw
      have H65 : Hid (∀ t ∈ T1 ++ T2, t.length ≤ 1000000) := Lib.hid fun t ht => by
        rcases List.mem_append.1 ht with h | h
        · rw [ha65 t h]; decide
        · rw [hb65 t h]; decide
      have HFd' := Lib.hid HFd
      have hF32 := HFd.len
      have HF32 := Lib.hid hF32
      cases q with
      | true =>
        have hab : la = lb := by simpa using hq
        have h12 : r1 = r2 := by rw [hr1, hr2, hab]
        subst h12
        rw [beq_self_eq_true] at heq
        clear hneq hq hab hlaw hT1 hT2 hr1 hr2 ha65 hb65 ha32 hb32 hla hlb hr hs hF32 haT hbT
        go_enter Try.func9, Try.ntmps9
        go_wp2_with (go_at_call 30; refine (HA.out _).mono ?_; rintro e w1 ⟨rfl, hb1⟩)
        refine (HSm.out _ hb1).mono ?_
        rintro e w2 ⟨rfl, hb2⟩
        have hb02 := hb1.trans (hb2.mono hb1.size)
        go_wp2_with fail
        refine (HP1.out _ hb02).mono ?_
        rintro e w3 ⟨rfl, hb3⟩
        have hb03 := hb02.trans (hb3.mono hb02.size)
        go_wp2_with fail
        refine (HP2.out _ hb03).mono ?_
        rintro e w4 ⟨rfl, hb4⟩
        have hb04 := hb03.trans (hb4.mono hb03.size)
        clear hb2 hb3 hb4
        go_wp2_with fail
        go_ret
        exact ⟨rfl, hb04⟩
      | false =>
        have hab : la ≠ lb := by simpa using hq
        by_cases h12 : r1 = r2
        · have hno := hlaw hab h12
          have Hno := Lib.hid hno
          subst h12
          rw [show (r1 != r1) = false by simp] at hneq
          obtain ⟨m1, hm1⟩ : ∃ m, m = T1.length := ⟨_, rfl⟩
          obtain ⟨m2, hm2⟩ : ∃ m, m = T2.length := ⟨_, rfl⟩
          rw [← hm1] at haT
          rw [← hm2] at hbT
          have Hm := Lib.hid (And.intro hm1 hm2)
          have hmm := @run_makeMap Try.prog
          clear heq hq hab hlaw hT1 hT2 hr1 hr2 ha65 hb65 ha32 hb32 hla hlb hr hs hF32 hno hm1 hm2 HFd
          go_enter Try.func9, Try.ntmps9
          go_wp2_with (go_at_call 30; refine (HA.out _).mono ?_; rintro e w1 ⟨rfl, hb1⟩)
          refine (HSm.out _ hb1).mono ?_
          rintro e w2 ⟨rfl, hb2⟩
          have hb02 := hb1.trans (hb2.mono hb1.size)
          go_wp2_with fail
          refine (HP1.out _ hb02).mono ?_
          rintro e w3 ⟨rfl, hb3⟩
          have hb03 := hb02.trans (hb3.mono hb02.size)
          go_wp2_with fail
          refine (HP2.out _ hb03).mono ?_
          rintro e wb ⟨rfl, hb4⟩
          have hb04 := hb03.trans (hb4.mono hb03.size)
          have Hb := Lib.hid hb04
          clear hb1 hb2 hb3 hb4 hb02 hb03 hb04
          go_wp2_with fail
          obtain ⟨wm, hwm⟩ : ∃ wm, wm = wb.alloc (.map #[] 0) := ⟨_, rfl⟩
          have hbm : Below wb.heap.size wb wm := by rw [hwm]; exact (Below.refl _ _).alloc (Nat.le_refl _) _
          have hmap : wm.ownsMap (H := Unit) Try.prog 26 (plainElem Try.prog 9) wb.heap.size 0 (.map []) := by rw [hwm]; exact World.ownsMap_made _ _ _ _
          rw [← hwm]
          have Hm0 := Lib.hid (And.intro hbm hmap)
          clear hwm hbm hmap
          refine (HT1.out _ (Hb.out.trans (Hm0.out.1.mono Hb.out.size))).mono ?_
          rintro e w5 ⟨A5, c5, us5, rfl, hown5, hE5, hb5⟩
          rw [← Hm.out.1] at hown5 ⊢
          have H5 : Hid ((w5.ownsRow wb.heap.size 22 1 (.slice A5 m1 c5) m1 us5 ∧ Elts w5 wb.heap.size us5 T1) ∧ Below wm.heap.size wm w5) := Lib.hid ⟨⟨ownsRow_base hown5 Hm0.out.1.size, hE5.base Hm0.out.1.size⟩, hb5⟩
          clear hown5 hE5 hb5
          go_wp2_with fail
          refine (HT2.out _ (Hb.out.trans ((Hm0.out.1.trans (H5.out.2.mono Hm0.out.1.size)).mono Hb.out.size))).mono ?_
          rintro e w6 ⟨A6, c6, us6, rfl, hown6, hE6, hb6⟩
          rw [← Hm.out.2] at hown6 ⊢
          have h56 : Below wb.heap.size wb w5 := Hm0.out.1.trans (H5.out.2.mono Hm0.out.1.size)
          have H6 : Hid (((w6.ownsRow wb.heap.size 22 1 (.slice A5 m1 c5) m1 us5 ∧ Elts w6 wb.heap.size us5 T1) ∧ w6.ownsRow wb.heap.size 22 1 (.slice A6 m2 c6) m2 us6 ∧ Elts w6 wb.heap.size us6 T2) ∧ Below wb.heap.size wb w6 ∧ w6.ownsMap (H := Unit) Try.prog 26 (plainElem Try.prog 9) wb.heap.size 0 (.map [])) :=
            Lib.hid ⟨⟨⟨ownsRow_below H5.out.1.1 hb6, H5.out.1.2.below hb6⟩, ownsRow_base hown6 h56.size, hE6.base h56.size⟩, h56.trans (hb6.mono h56.size), ownsMap_below (ownsMap_below Hm0.out.2 H5.out.2) hb6⟩
          clear hown6 hE6 hb6 h56
          go_wp2_with (at_builtin; refine wpList_append_keep rfl (.tmp 38) (.tmp 40) 35 rfl wb H6.out.2.1 Try.underlying35 info_row3 rfl (by decide) (.slice A5 m1 c5) m1 us5 rfl H6.out.1.1.1 A6 m2 c6 us6 rfl (own_rc H6.out.1.2.1) (by rw [H6.out.1.2.2.1, Hm.out.2, Nat.mul_one]) (elts_one H6.out.1.2.2) (by unfold maxLen; omega) (by omega) ?_; intro v7 w7 hown7 hb7 _ hg7 _; obtain ⟨AT, cT, rfl, -, -, -, -⟩ := own_form hown7; have H7 := Lib.hid (And.intro hown7 (And.intro hb7 hg7)); clear hown7 hb7 hg7)
          obtain ⟨us, hus⟩ : ∃ us, us = us5 ++ us6 := ⟨_, rfl⟩
          obtain ⟨T, hTT⟩ : ∃ T, T = T1 ++ T2 := ⟨_, rfl⟩
          obtain ⟨mT, hmT⟩ : ∃ mT, mT = m1 + m2 := ⟨_, rfl⟩
          have hE7 := (H6.out.1.1.2.kept H6.out.1.1.1 (by decide) H7.out.2.2).app (H6.out.1.2.2.kept H6.out.1.1.1 (by decide) H7.out.2.2)
          have hown7 := H7.out.1
          rw [← hTT] at Hno H65 hE7
          rw [← hus] at hE7 hown7
          have emT : (m1 : Int) + (m2 : Int) = (mT : Int) := by omega
          rw [← hmT] at hown7 H7 ⊢
          rw [emT]
          have hmap7 := H6.out.2.2.kept H7.out.2.2 (fun e => own_notMap H6.out.1.1.1 H6.out.2.2 e.symm)
          have h0 : Hid (ClI F wb wb.heap.size (T.take 0) 0 w7 ∧ RowT wb (.slice AT mT cT) mT us T w7) := Lib.hid ⟨⟨H7.out.2.1, Nat.le_refl _, _, hmap7, by simpa using Seen.nil F⟩, hown7, hE7⟩
          have hmT6 : mT ≤ 1000000 := by omega
          have HL : Hid (us.length = T.length ∧ us.length = mT) := Lib.hid ⟨hE7.1, by have := hown7.1; omega⟩
          have HF := HFd'
          clear hus hTT hmT hE7 hown7 hmap7 emT
          go_loopw [43] (fun iv wr => ∃ k : Nat, k ≤ mT ∧ iv = .int .i64 (k : Int) ∧ Hid (ClI F wb wb.heap.size (T.take k) k wr ∧ RowT wb (.slice AT mT cT) mT us T wr)) (fun iv _ => mT - (intOf iv).toNat)
          case atStart => exact ⟨0, Nat.zero_le _, rfl, h0⟩
          case round =>
            obtain ⟨k, hk, rfl, hq⟩ := hrel
            by_cases hkl : k < mT
            · have hI := hq.out.1
              have hR := hq.out.2
              obtain ⟨A', c', e', -, -, hrr, -⟩ := own_form hR.1
              cases e'
              obtain ⟨b, o, u, rfl, hu, hcell⟩ := hrr.at_ hkl
              have hTk : k < T.length := by rw [← HL.out.1, HL.out.2]; exact hkl
              obtain ⟨t, ht⟩ : ∃ t, T[k]? = some t := ⟨_, List.getElem?_eq_getElem hTk⟩
              obtain ⟨At, nt, ct, rfl, hnt, hct, hrt⟩ := hR.2.sb k u t hu ht
              have ht6 := H65.out t (List.mem_of_getElem? ht)
              have hntl : nt ≤ 70368744177664 := by have := hrt.len; omega
              obtain ⟨d, hd⟩ : ∃ d, d = F t := ⟨_, rfl⟩
              have hd32 : d.length = 32 := by rw [hd]; exact HF32.out t
              have hS := HF.out.ref wr At nt ct t hrt hntl
              rw [← hd] at hS
              have hi := info_of d hd32
              have hi' := info_of' d hd32
              have hkey := kd_of d hd32
              have HI := Lib.hid (And.intro hI hR)
              have Ht := Lib.hid ht
              have Hd := Lib.hid hd
              have Hd32 := Lib.hid hd32
              have Hrt := Lib.hid hrt
              have HS := Lib.hid hS
              have Hkey := Lib.hid hkey
              clear hI hR hrr hu hTk ht ht6 hd hd32 hS hkey hrt hq h0
              obtain ⟨wo, rfl⟩ : ∃ wo : World, wo = wr := ⟨_, rfl⟩
              go_wp2_with fail
              refine HS.out.mono ?_
              rintro e w5 ⟨rfl, hb5⟩
              have H5 := Lib.hid (And.intro (HI.out.1.stable hb5) (HI.out.2.stable hb5))
              have Hrt5 := Lib.hid (RV.below Hrt.out hb5)
              clear hb5 hcell
              obtain ⟨D, hDm, hDs⟩ := H5.out.1.map
              have HD := Lib.hid hDs
              have HDm := Lib.hid hDm
              clear hDm hDs
              obtain ⟨hb, hhb⟩ : ∃ hb, Maps.has D (kd d) = hb := ⟨_, rfl⟩
              have Hhb := Lib.hid hhb
              clear hhb
              have HV : Hid (plainElem (H := Unit) Try.prog 9 (.string (strOf t)) = some (.lit (.string t), [])) := Lib.hid (by
                have h := plainElem_string (H := Unit) (P := Try.prog) Try.underlying9 (s := strOf t) (by have := H65.out t (List.mem_of_getElem? Ht.out); unfold maxLen; simp [strOf, ByteArray.size]; omega)
                simpa [strOf] using h)
              cases hb with
              | false =>
                go_wp2_with (first
                  | ((with_reducible show wpList _ _ _ (⟨_, Op.store 26 (.tmp 8) _, _, _, _, _⟩ :: _) _ _); refine wpList_store_row rfl _ _ _ rfl w5.heap.size 0 (d.map B8).toArray rfl rfl (there_new' _ _ _ (by simp [Hd32.out])) hi' (b8_all d) ?_; intro w8 hg8 hs8 ht8 hth8; rw [List.toList_toArray] at ht8; have hb8 : Below w5.heap.size w5 w8 := ((Below.refl _ _).alloc (Nat.le_refl _) _).grown hg8 (by simp) (by intro k hk; cases hk; exact Nat.le_refl _); have H8 := Lib.hid (And.intro (And.intro (H5.out.1.stable hb8) (H5.out.2.stable hb8)) (ownsMap_below HDm.out hb8)); have hconv := run_string_of (P := Try.prog) w8 22 9 5 Try.underlying22 Try.underlying5 Try.underlying9 At nt ct t (RV.below Hrt5.out hb8); clear hg8 hs8 hth8 hb8)
                  | ((with_reducible show wpList _ _ _ (⟨_, Op.load 26 (.tmp 8), _, _, _, _⟩ :: _) _ _); refine wpList_load_mid rfl _ _ rfl w5.heap.size 0 rfl (d.map B8) _ ht8 Try.underlying26 rfl hi ?_; simp only [Act.put, List.setIfInBounds_toArray, List.set_cons_zero, List.set_cons_succ])
                  | (at_lookup; refine wpList_lookup_own_ok_string _ rfl _ _ 46 rfl 26 9 sumKeyed Try.underlying46 Try.underlying9 (zero_string _) wb.heap.size k D rfl H8.out.2 _ _ rfl Hkey.out ?_; intro cc hat; rw [Hhb.out]; have Hat := Lib.hid hat; clear hat)
                  | (at_mapUpdate; refine wpList_mapUpdate_own _ rfl _ _ _ 46 rfl 26 9 sumKeyed Try.underlying46 _ wb.heap.size k D rfl H8.out.2 (by unfold maxLen; omega) _ _ _ rfl rfl Hkey.out (.lit (.string t)) [] (HV.out) ?_; intro w10 hown10 hgr10))
                have hN : Hid (ClI F wb wb.heap.size (T.take (k + 1)) (k + 1) w10 ∧ RowT wb (.slice (some ⟨b, o, none⟩) mT cT) mT us T w10) := Lib.hid ⟨⟨H8.out.1.1.below.grown hgr10 H8.out.1.1.below.size (by intro j e; cases e; exact Nat.le_refl _), Nat.le_refl _, _, hown10, by
                  rw [take_snoc Ht.out, Hd.out]
                  exact HD.out.snoc HF32.out (fun h => by rw [← Hd.out, Hhb.out] at h; cases h)⟩, H8.out.1.2.mapped H8.out.2 hgr10⟩
                clear hown10 hgr10
                go_roundw
                case rel => exact ⟨k + 1, hkl, by go_num, hN⟩
                case measure => simp [intOf]; omega
              | true =>
                go_wp2_with (first
                  | ((with_reducible show wpList _ _ _ (⟨_, Op.store 26 (.tmp 8) _, _, _, _, _⟩ :: _) _ _); refine wpList_store_row rfl _ _ _ rfl w5.heap.size 0 (d.map B8).toArray rfl rfl (there_new' _ _ _ (by simp [Hd32.out])) hi' (b8_all d) ?_; intro w8 hg8 hs8 ht8 hth8; rw [List.toList_toArray] at ht8; have hb8 : Below w5.heap.size w5 w8 := ((Below.refl _ _).alloc (Nat.le_refl _) _).grown hg8 (by simp) (by intro k hk; cases hk; exact Nat.le_refl _); have H8 := Lib.hid (And.intro (And.intro (H5.out.1.stable hb8) (H5.out.2.stable hb8)) (ownsMap_below HDm.out hb8)); have hconv := run_string_of (P := Try.prog) w8 22 9 5 Try.underlying22 Try.underlying5 Try.underlying9 At nt ct t (RV.below Hrt5.out hb8); clear hg8 hs8 hth8 hb8)
                  | ((with_reducible show wpList _ _ _ (⟨_, Op.load 26 (.tmp 8), _, _, _, _⟩ :: _) _ _); refine wpList_load_mid rfl _ _ rfl w5.heap.size 0 rfl (d.map B8) _ ht8 Try.underlying26 rfl hi ?_; simp only [Act.put, List.setIfInBounds_toArray, List.set_cons_zero, List.set_cons_succ])
                  | (at_lookup; refine wpList_lookup_own_ok_string _ rfl _ _ 46 rfl 26 9 sumKeyed Try.underlying46 Try.underlying9 (zero_string _) wb.heap.size k D rfl H8.out.2 _ _ rfl Hkey.out ?_; intro cc hat; rw [Hhb.out]; have Hat := Lib.hid hat; clear hat)
                  | (at_mapUpdate; refine wpList_mapUpdate_own _ rfl _ _ _ 46 rfl 26 9 sumKeyed Try.underlying46 _ wb.heap.size k D rfl H8.out.2 (by unfold maxLen; omega) _ _ _ rfl rfl Hkey.out (.lit (.string t)) [] (HV.out) ?_; intro w10 hown10 hgr10))
                · go_ret
                  exact ⟨rfl, Hb.out.trans (H8.out.1.1.below.mono Hb.out.size)⟩
                · have hct : (!cc.toList == (strOf t).toList) = false := by assumption
                  have hN : Hid (ClI F wb wb.heap.size (T.take (k + 1)) (k + 1) w10 ∧ RowT wb (.slice (some ⟨b, o, none⟩) mT cT) mT us T w10) := Lib.hid ⟨⟨H8.out.1.1.below.grown hgr10 H8.out.1.1.below.size (by intro j e; cases e; exact Nat.le_refl _), Nat.le_refl _, _, hown10, by
                    have e1 : cc.data.toList = t := by
                      rw [strOf_toList, ByteArray.toList_eq] at hct
                      simpa using hct
                    rw [take_snoc Ht.out, Hd.out]
                    exact HD.out.snoc HF32.out (fun h => by rw [← Hd.out, Hat.out, e1])⟩, H8.out.1.2.mapped H8.out.2 hgr10⟩
                  clear hown10 hgr10 hct
                  go_roundw
                  case rel => exact ⟨k + 1, hkl, by go_num, hN⟩
                  case measure => simp [intOf]; omega
            · obtain rfl : k = mT := by omega
              have hI := hq.out.1
              rw [List.take_of_length_le (by rw [← HL.out.1, HL.out.2]; exact Nat.le_refl _)] at hI
              obtain ⟨hb, -, D, -, hS⟩ := hI
              exact absurd hS.clear Hno.out
        · have hr12 : (r1 != r2) = true := by simpa using h12
          rw [hr12] at hneq
          clear heq hq hab hlaw hT1 hT2 hr1 hr2 ha65 hb65 ha32 hb32 hla hlb hr hs hF32 haT hbT h12 hr12
          go_enter Try.func9, Try.ntmps9
          go_wp2_with (go_at_call 30; refine (HA.out _).mono ?_; rintro e w1 ⟨rfl, hb1⟩)
          refine (HSm.out _ hb1).mono ?_
          rintro e w2 ⟨rfl, hb2⟩
          have hb02 := hb1.trans (hb2.mono hb1.size)
          go_wp2_with fail
          refine (HP1.out _ hb02).mono ?_
          rintro e w3 ⟨rfl, hb3⟩
          have hb03 := hb02.trans (hb3.mono hb02.size)
          go_wp2_with fail
          refine (HP2.out _ hb03).mono ?_
          rintro e w4 ⟨rfl, hb4⟩
          have hb04 := hb03.trans (hb4.mono hb03.size)
          clear hb2 hb3 hb4
          go_wp2_with fail
          go_ret
          exact ⟨rfl, hb04⟩
  · have hne : ((n : Int) != (m : Int)) = true := by simp; omega
    clear hla hlb hr hs hnm
    go_enter Try.func9, Try.ntmps9
    go_wp2_with (go_at_call 30; refine (HA.out _).mono ?_; rintro e w1 ⟨rfl, hb1⟩)
    go_ret
    exact ⟨rfl, hb1⟩
end Go.Proofs.Ytkcmacglomdfcaa
