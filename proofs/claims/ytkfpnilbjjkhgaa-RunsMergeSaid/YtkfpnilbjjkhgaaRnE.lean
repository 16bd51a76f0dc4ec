/-
  THE WALK of Compact at posts.
-/
import Derived.Test.YtkfpnilbjjkhgaaRnD
import Derived.Test.YtkfpnilbjjkhgaaRnQ
import Derived.IntWalk
namespace Go.Proofs.Ytkfpnilbjjkhgaa
open Go.RowKit Go.Lib Go.Sort

theorem compF_short : ∀ (ls : List Po), ls.length < 2 → compF ls = ls
  | [], _ => rfl
  | [x], _ => rfl
  | x :: y :: r, h => by rw [List.length_cons, List.length_cons] at h; omega
theorem flatP_get {ls : List Po} {k : Nat} {p : Po} (h : ls[k]? = some p) : (flatP ls)[k * 2]? = some (.string ⟨p.1.toArray⟩) ∧ (flatP ls)[k * 2 + 1]? = some (.int .i64 p.2) := by
  have hk : k < ls.length := (List.getElem?_eq_some_iff.1 h).1
  have one : ∀ j, j < 2 → (flatP ls)[k * 2 + j]? = (encP p)[j]? := fun j hj => by
    obtain ⟨q, h1, h2⟩ := flatP_at ls (k * 2 + j) (by omega)
    rw [show (k * 2 + j) / 2 = k by omega, h] at h1
    cases h1
    rw [h2, show (k * 2 + j) % 2 = j by omega]
  exact ⟨one 0 (by omega), one 1 (by omega)⟩
/-- A row of posts, one's own, is what comes back. -/
def OwnsPost (B : Nat) (ls : List Po) (w : World) (e : Ending) (w' : World) : Prop :=
  ∃ A' c', e = .returned (.slice A' ls.length c') ∧ w'.ownsRow B 31 2 (.slice A' ls.length c') ls.length (flatP ls) ∧ ∀ W, Below B W w → Below B W w'
/-- The row ahead of the first double, and behind it. -/
def CpIn (B g n c : Nat) (w : World) (rs : List Po) (wr : World) : Prop :=
  wr.ownsRow B 31 2 (.slice (some ⟨g, 0, none⟩) n c) n (flatP rs) ∧ ∀ W, Below B W w → Below B W wr
theorem CpIn.at_ {B g n c : Nat} {w wr : World} {rs : List Po} (h : CpIn B g n c w rs wr) {k : Nat} {p : Po} (hp : rs[k]? = some p) : wr.rangeAt g (k * 2) (encP p) := by
  obtain ⟨h1, h2⟩ := flatP_get hp
  have hr := own_at h.1
  intro j v hv
  rcases j with _ | _ | j
  · have := hr (k * 2) _ h1
    simp [encP] at hv
    subst hv
    simpa using this
  · have := hr (k * 2 + 1) _ h2
    simp [encP] at hv
    subst hv
    simpa using this
  · simp [encP] at hv
/-- Behind the first double: the first kk are the run of the first i; from i - 1 on the row is as it was. -/
def InOk (ls rs : List Po) (i kk : Nat) : Prop := rs.length = ls.length ∧ kk + 1 ≤ i ∧ rs.take kk = compF (ls.take i) ∧ ∀ j, i ≤ j + 1 → rs[j]? = ls[j]?
theorem InOk.start {ls : List Po} {k : Nat} {p : Po} (hp : ls[k]? = some p) (hq : ls[k + 1]? = some p) (h : compF (ls.take (k + 1)) = ls.take (k + 1)) : InOk ls ls (k + 2) (k + 1) :=
  ⟨rfl, by omega, by rw [compF_step hp hq, if_pos rfl, h], fun _ _ => rfl⟩
theorem InOk.same {ls rs : List Po} {i kk : Nat} {p : Po} (h : InOk ls rs (i + 1) kk) (hp : ls[i]? = some p) (hq : ls[i + 1]? = some p) : InOk ls rs (i + 2) kk :=
  ⟨h.1, by have := h.2.1; omega, by rw [compF_step hp hq, if_pos rfl]; exact h.2.2.1, fun j hj => h.2.2.2 j (by omega)⟩
theorem InOk.next {ls rs : List Po} {i kk : Nat} {p q : Po} (h : InOk ls rs (i + 1) kk) (hp : ls[i]? = some p) (hq : ls[i + 1]? = some q) (hne : q ≠ p) : InOk ls (rs.set kk q) (i + 2) (kk + 1) := by
  obtain ⟨h1, h2, h3, h4⟩ := h
  have hl : i + 1 < ls.length := (List.getElem?_eq_some_iff.1 hq).1
  refine ⟨by rw [List.length_set, h1], by omega, ?_, fun j hj => by rw [List.getElem?_set_ne (by omega)]; exact h4 j (by omega)⟩
  rw [compF_step hp hq, if_neg (Ne.symm hne), ← h3]
  have e : (rs.set kk q)[kk]? = some q := by rw [List.getElem?_set_self (by omega)]
  rw [take_snoc e, List.take_set_of_le (Nat.le_refl _)]
set_option maxRecDepth 100000 in
set_option maxHeartbeats 2000000 in
theorem compact_posts (w : World) (B : Nat) (A : Option Addr) (n c : Nat) (ls : List Po) (hown : w.ownsRow B 31 2 (.slice A n c) n (flatP ls)) (hn : n ≤ 1000000) (_hB : B ≤ w.heap.size) :
    Calls Try.prog 24 #[.slice A n c] w (OwnsPost B (compF ls) w) := by
  have hl : ls.length = n := (RP.of_own hown).1
  by_cases h2 : n < 2
  · have e := compF_short ls (by omega)
    rw [e]
    have hres : OwnsPost B ls w (.returned (.slice A n c)) w := ⟨A, c, by rw [hl], by rw [hl]; exact hown, fun W h => h⟩
    have Hres := Lib.hid hres
    clear hres hown hl e
    go_enter Try.func24, Try.ntmps24
    go_wp2
    go_ret
    exact Hres.out
  · obtain ⟨A0, c0, e0, hnc, hcm, hf⟩ := own_formK hown
    cases e0
    obtain ⟨g, rfl, -, hr, hBg⟩ := hf (by omega)
    have hin : CpIn B g n c w ls w := ⟨hown, fun W h => h⟩
    have Hin := Lib.hid hin
    have Hl := Lib.hid hl
    clear hin hown hr hl hf
    unfold maxLen at hcm
    go_enter Try.func24, Try.ntmps24
    go_wp2
    go_loopw [3] (fun i wr => ∃ k : Nat, 1 ≤ k ∧ k ≤ n ∧ i = .int .i64 k ∧ Hid (CpIn B g n c w ls wr) ∧ Hid (compF (ls.take k) = ls.take k)) (fun i _ => n - (intOf i).toNat)
    case atStart => exact ⟨1, by omega, by omega, rfl, Hin, Lib.hid (compF_short _ (by rw [List.length_take]; omega))⟩
    case round =>
      obtain ⟨k, hk1, hkn, rfl, HC, HF⟩ := hrel
      by_cases hlt : k < n
      · obtain ⟨p, hp⟩ : ∃ p, ls[k - 1]? = some p := ⟨_, List.getElem?_eq_getElem (by rw [Hl.out]; omega)⟩
        obtain ⟨q, hq⟩ : ∃ q, ls[k]? = some q := ⟨_, List.getElem?_eq_getElem (by rw [Hl.out]; omega)⟩
        have hcq := HC.out.at_ hq
        have hcp := HC.out.at_ hp
        have Hp := Lib.hid hp
        have Hq := Lib.hid hq
        clear hp hq
        obtain ⟨k', rfl⟩ : ∃ k', k = k' + 1 := ⟨k - 1, by omega⟩
        have hcp' : wr.rangeAt g (k' * 2) (encP p) := hcp
        have h1 : IntKind.i64.wrap (((k' + 1 : Nat) : Int) - 1) = (k' : Int) := by rw [IntWalk.i64_in _ (by omega)]; omega
        obtain ⟨bq, hbq⟩ : ∃ bq, bq = decide (q = p) := ⟨_, rfl⟩
        have Hbq := Lib.hid hbq
        clear hcp hbq
        go_wp2_with fail
        refine wp_region_quiet (C := fun u => ∃ m, u = wr.drewN m) (by kernel_rfl) (by kernel_rfl) ⟨1, rfl⟩ ?_
        simp only []
        repeat (first
          | ((with_reducible show wpQuiet _ _ _ _ (⟨_, Op.load 31 (.tmp 18), _, _, _, _⟩ :: _) _); refine wpQ_load rfl _ _ rfl g ((k' + 1) * 2) rfl (encP q) _ (by rintro u ⟨m, rfl⟩; exact hcq) Try.underlying31 rfl (info_post q) ?_; simp only [Act.put, List.setIfInBounds_toArray, List.set_cons_zero, List.set_cons_succ])
          | ((with_reducible show wpQuiet _ _ _ _ (⟨_, Op.load 31 (.tmp 23), _, _, _, _⟩ :: _) _); refine wpQ_load rfl _ _ rfl g (k' * 2) rfl (encP p) _ (by rintro u ⟨m, rfl⟩; exact hcp') Try.underlying31 rfl (info_post p) ?_; simp only [Act.put, List.setIfInBounds_toArray, List.set_cons_zero, List.set_cons_succ])
          | ((with_reducible show wpQuiet _ _ _ _ (⟨_, Op.binOp .eql 31 _ _ _, _, _, _, _⟩ :: _) _); refine wpQ_val rfl (.bool bq) (fun u _ => (exec_eql_post rfl q p rfl rfl u).trans (by rw [Hbq.out])) ?_; simp only [Act.put, List.setIfInBounds_toArray, List.set_cons_zero, List.set_cons_succ])
          | go_big_quiet_step (fail))
        refine wpQuiet_nil ?_
        rintro _ ⟨m, rfl⟩
        cases bq with
        | true =>
          have hpq : q = p := by have := Hbq.out; simpa using this.symm
          subst hpq
          have hst := InOk.start Hp.out Hq.out HF.out
          have HS := Lib.hid hst
          have hc1 : ¬ (c = k' + 1) := by omega
          have HD := Lib.hid (show CpIn B g n c w ls (wr.drewN m) from ⟨own_of_block HC.out.1 fun _ _ => rfl, fun W h => below_drewN (HC.out.2 W h) m⟩)
          clear hst hcq hcp' h1 HC HF Hp Hq
          go_wp2
          go_loopw [3, 5] (fun t3 t5 wq => ∃ (j kk : Nat) (rs : List Po), 1 ≤ j ∧ k' + j + 1 ≤ n ∧ t3 = .int .i64 kk ∧ t5 = .int .i64 j ∧ kk ≤ k' + j ∧ Hid (CpIn B g n c w rs wq) ∧ Hid (InOk ls rs (k' + j + 1) kk)) (fun _ t5 _ => n - (intOf t5).toNat)
          case atStart => exact ⟨1, k' + 1, ls, by omega, by omega, rfl, rfl, by omega, HD, HS⟩
          case round =>
            obtain ⟨j, kk, rs, hj1, hjn, rfl, rfl, hkk, HC, HI⟩ := hrel
            obtain ⟨j', rfl⟩ : ∃ j', j = j' + 1 := ⟨j - 1, by omega⟩
            have h1 : IntKind.i64.wrap (((j' + 1 : Nat) : Int) - 1) = (j' : Int) := by rw [IntWalk.i64_in _ (by omega)]; omega
            by_cases hjl : j' + 1 < n - (k' + 1)
            · obtain ⟨p, hp⟩ : ∃ p, ls[k' + (j' + 1)]? = some p := ⟨_, List.getElem?_eq_getElem (by rw [Hl.out]; omega)⟩
              obtain ⟨x, hx⟩ : ∃ x, ls[k' + (j' + 1) + 1]? = some x := ⟨_, List.getElem?_eq_getElem (by rw [Hl.out]; omega)⟩
              have hcp := HC.out.at_ ((HI.out.2.2.2 _ (Nat.le_refl _)).trans hp)
              have hcx := HC.out.at_ ((HI.out.2.2.2 _ (by omega)).trans hx)
              rw [show (k' + (j' + 1)) * 2 = (k' + 1) * 2 + j' * 2 by omega] at hcp
              rw [show (k' + (j' + 1) + 1) * 2 = (k' + 1) * 2 + (j' + 1) * 2 by omega] at hcx
              have Hp := Lib.hid hp
              have Hx := Lib.hid hx
              obtain ⟨bx, hbx⟩ : ∃ bx, bx = !decide (x = p) := ⟨_, rfl⟩
              have Hbx := Lib.hid hbx
              clear hp hx hbx
              go_wp2_with fail
              refine wp_region_quiet (C := fun u => ∃ m, u = wr.drewN m) (by kernel_rfl) (by kernel_rfl) ⟨1, rfl⟩ ?_
              simp only []
              repeat (first
                | ((with_reducible show wpQuiet _ _ _ _ (⟨_, Op.load 31 (.tmp 37), _, _, _, _⟩ :: _) _); refine wpQ_load rfl _ _ rfl g ((k' + 1) * 2 + (j' + 1) * 2) rfl (encP x) _ (by rintro u ⟨m, rfl⟩; exact hcx) Try.underlying31 rfl (info_post x) ?_; simp only [Act.put, List.setIfInBounds_toArray, List.set_cons_zero, List.set_cons_succ])
                | ((with_reducible show wpQuiet _ _ _ _ (⟨_, Op.load 31 (.tmp 42), _, _, _, _⟩ :: _) _); refine wpQ_load rfl _ _ rfl g ((k' + 1) * 2 + j' * 2) rfl (encP p) _ (by rintro u ⟨m, rfl⟩; exact hcp) Try.underlying31 rfl (info_post p) ?_; simp only [Act.put, List.setIfInBounds_toArray, List.set_cons_zero, List.set_cons_succ])
                | ((with_reducible show wpQuiet _ _ _ _ (⟨_, Op.binOp .neq 31 _ _ _, _, _, _, _⟩ :: _) _); refine wpQ_val rfl (.bool bx) (fun u _ => (exec_neq_post rfl x p rfl rfl u).trans (by rw [Hbx.out])) ?_; simp only [Act.put, List.setIfInBounds_toArray, List.set_cons_zero, List.set_cons_succ])
                | go_big_quiet_step (fail))
              refine wpQuiet_nil ?_
              rintro _ ⟨m2, rfl⟩
              have HC2 := Lib.hid (show CpIn B g n c w rs (wr.drewN m2) from ⟨own_of_block HC.out.1 fun _ _ => rfl, fun W h => below_drewN (HC.out.2 W h) m2⟩)
              have hcx2 : (wr.drewN m2).rangeAt g ((k' + 1) * 2 + (j' + 1) * 2) (encP x) := hcx
              have hth : (wr.drewN m2).there g (kk * 2) (encP x).toArray.size := there_part (own_there HC2.out.1) (by show kk * 2 + 2 ≤ n * 2; omega)
              obtain ⟨wz, hwz⟩ : ∃ wz, wz = wr.drewN m2 := ⟨_, rfl⟩
              rw [← hwz] at HC2 hcx2 hth ⊢
              clear hwz hcp hcx h1
              cases bx with
              | false =>
                have hxp : x = p := by have := Hbx.out; simpa using this.symm
                subst hxp
                have HI2 := Lib.hid (HI.out.same Hp.out Hx.out)
                clear hth hcx2
                go_wp2
                go_roundw
                case rel => exact ⟨j' + 1 + 1, kk, rs, by omega, by omega, rfl, by go_num, by omega, HC2, HI2⟩
                case measure => simp [intOf]; omega
              | true =>
                have hxp : ¬ x = p := by have := Hbx.out; simpa using this.symm
                have HI2 := Lib.hid (HI.out.next Hp.out Hx.out hxp)
                have HC3 : CpIn B g n c w (rs.set kk x) (wz.setCells g (kk * 2) (encP x).toArray.toList) := ⟨own_setPost HC2.out.1, fun W h => below_setCells hBg _ _ _ (HC2.out.2 W h)⟩
                obtain ⟨w9, hw9⟩ : ∃ w9, w9 = wz.setCells g (kk * 2) (encP x).toArray.toList := ⟨_, rfl⟩
                rw [← hw9] at HC3
                have Hw9 := Lib.hid hw9
                have HC4 := Lib.hid HC3
                clear hxp hw9 HC3
                go_wp2_with (first
                  | ((with_reducible show wpList _ _ _ (⟨_, Op.load 31 (.tmp 49), _, _, _, _⟩ :: _) _ _); refine wpList_load_midW rfl _ _ rfl g ((k' + 1) * 2 + (j' + 1) * 2) rfl (encP x) _ hcx2 Try.underlying31 rfl (info_post x) ?_; simp only [Act.put, List.setIfInBounds_toArray, List.set_cons_zero, List.set_cons_succ])
                  | ((with_reducible show wpList _ _ _ (⟨_, Op.store 31 (.tmp 51) _, _, _, _, _⟩ :: _) _ _); refine wpList_store_mid rfl _ _ _ rfl g (kk * 2) (encP x).toArray rfl rfl hth (info_post x) (all_oneCell_toArray (encP_one x)) ?_; rw [← Hw9.out]))
                go_roundw
                case rel => exact ⟨j' + 1 + 1, kk + 1, rs.set kk x, by omega, by omega, by go_num, by go_num, by omega, HC4, HI2⟩
                case measure => simp [intOf]; omega
            · have hjn2 : k' + (j' + 1) + 1 = n := by omega
              have hkn : kk < n := by omega
              have hck : ¬ (c = kk) := by omega
              have hth : wr.there g (kk * 2) ((n - kk) * 2) := there_part (own_there HC.out.1) (by omega)
              obtain ⟨zs, hz⟩ := clear_posts wr g (kk * 2) (n - kk) (c - kk) (by omega) hth
              have htk : rs.take kk = compF ls := by
                have h5 := HI.out.2.2.1
                have h6 : ls.take n = ls := List.take_of_length_le (by rw [Hl.out]; exact Nat.le_refl _)
                rw [hjn2, h6] at h5
                exact h5
              have hlk : (compF ls).length = kk := by
                rw [← htk, List.length_take, HI.out.1, Hl.out]; omega
              have hres : OwnsPost B (compF ls) w (.returned (.slice (some ⟨g, 0, none⟩) kk c)) (wr.setCells g (kk * 2) zs) := by
                have h3 := own_behind zs wr (kk * 2) (own_cut HC.out.1 (Nat.le_of_lt hkn)) (Nat.le_refl _)
                rw [flatP_take, htk] at h3
                exact ⟨some ⟨g, 0, none⟩, c, by rw [hlk], by rw [hlk]; exact h3, fun W h => below_setCells hBg _ _ _ (HC.out.2 W h)⟩
              have Hres := Lib.hid hres
              clear h1 hth htk hlk hres HC HI
              go_wp2
              go_ret
              exact Hres.out
        | false =>
          have hpq : ¬ q = p := by have := Hbq.out; simpa using this.symm
          have hF2 : compF (ls.take (k' + 2)) = ls.take (k' + 2) := by
            have h5 := compF_step (i := k') Hp.out Hq.out
            rw [if_neg (Ne.symm hpq), HF.out, ← take_snoc Hq.out] at h5
            exact h5
          have HF2 := Lib.hid hF2
          have HD := Lib.hid (show CpIn B g n c w ls (wr.drewN m) from ⟨own_of_block HC.out.1 fun _ _ => rfl, fun W h => below_drewN (HC.out.2 W h) m⟩)
          clear hpq hF2 hcq hcp' h1
          go_wp2
          go_roundw
          case rel => exact ⟨k' + 1 + 1, by omega, by omega, by go_num, HD, HF2⟩
          case measure => simp [intOf]; omega
      · obtain rfl : k = n := by omega
        have hfull : ls.take k = ls := List.take_of_length_le (by rw [Hl.out]; exact Nat.le_refl _)
        have e : compF ls = ls := by have := HF.out; rwa [hfull] at this
        have hres : OwnsPost B (compF ls) w (.returned (.slice (some ⟨g, 0, none⟩) k c)) wr := by
          rw [e]
          exact ⟨some ⟨g, 0, none⟩, c, by rw [Hl.out], by rw [Hl.out]; exact HC.out.1, HC.out.2⟩
        have Hres := Lib.hid hres
        clear hres e hfull HC HF
        go_wp2
        go_ret
        exact Hres.out
end Go.Proofs.Ytkfpnilbjjkhgaa
