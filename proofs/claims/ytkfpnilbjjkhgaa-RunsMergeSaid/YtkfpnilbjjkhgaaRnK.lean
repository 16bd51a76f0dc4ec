/-
  THE WALKS of Run.From and its iterator, slices.Collect, Run.Of.
-/
import Derived.Test.YtkfpnilbjjkhgaaRnJ
namespace Go.Proofs.Ytkfpnilbjjkhgaa
open Go.RowKit Go.Lib Go.Sort Go.Shelf
attribute [local go_sem] Oper.semAt_some

theorem tw_take {α : Type} (f : α → Bool) (l : List α) : l.take (l.takeWhile f).length = l.takeWhile f := ((List.prefix_iff_eq_take.1 (List.takeWhile_prefix (l := l) f))).symm
theorem tw_yes {α : Type} {f : α → Bool} {l : List α} {j : Nat} {p : α} (hp : l[j]? = some p) (hj : j ≤ (l.takeWhile f).length) (hf : f p = true) : (l.takeWhile f)[j]? = some p ∧ j < (l.takeWhile f).length := by
  have hlt : j < (l.takeWhile f).length := by
    rcases Nat.lt_or_ge j (l.takeWhile f).length with h | h
    · exact h
    · exfalso
      have e : j = (l.takeWhile f).length := by omega
      have h2 := List.takeWhile_append_dropWhile (l := l) (p := f)
      have h3 : (l.dropWhile f)[0]? = some p := by
        rw [← h2, List.getElem?_append_right (by omega), e, Nat.sub_self] at hp
        exact hp
      have h4 := List.head?_dropWhile_not f l
      rw [List.head?_eq_getElem?, h3] at h4
      simp only at h4
      rw [hf] at h4
      cases h4
  refine ⟨?_, hlt⟩
  rw [← tw_take, List.getElem?_take, if_pos hlt]
  exact hp
theorem tw_no {α : Type} {f : α → Bool} {l : List α} {j : Nat} {p : α} (hp : l[j]? = some p) (hj : j ≤ (l.takeWhile f).length) (hf : f p = false) : (l.takeWhile f).length = j := by
  rcases Nat.lt_or_ge j (l.takeWhile f).length with h | h
  · exfalso
    have h2 : (l.takeWhile f)[j]? = some p := by rw [← tw_take, List.getElem?_take, if_pos h]; exact hp
    have := mem_tw f (List.mem_of_getElem? h2)
    rw [hf] at this; cases this
  · omega
theorem tw_le {α : Type} (f : α → Bool) (l : List α) : (l.takeWhile f).length ≤ l.length := (List.takeWhile_prefix (l := l) f).length_le
theorem flatP_drop : ∀ (rs : List Po) (k : Nat), (flatP rs).drop (k * 2) = flatP (rs.drop k)
  | rs, 0 => by simp
  | [], k + 1 => by simp [flatP]
  | p :: r, k + 1 => by
    rw [show flatP (p :: r) = .string ⟨p.1.toArray⟩ :: .int .i64 p.2 :: flatP r from rfl, show (k + 1) * 2 = k * 2 + 1 + 1 by omega, List.drop_succ_cons, List.drop_succ_cons, flatP_drop r k]
    rfl
theorem RP.cut {W : World} {A : Option Addr} {n k : Nat} {ls : List Po} (h : RP W A n ls) (_hk : k ≤ n) : RP W (A.map fun x => x.add (k * 2)) (n - k) (ls.drop k) := by
  refine ⟨by rw [List.length_drop, h.1], fun h0 => ?_⟩
  obtain ⟨b, o, rfl, hr⟩ := h.2 (by omega)
  refine ⟨b, o + k * 2, by simp [Addr.add_mid], fun j v hv => ?_⟩
  rw [← flatP_drop, List.getElem?_drop] at hv
  have := hr _ v hv
  rwa [show o + k * 2 + j = o + (k * 2 + j) by omega]
theorem RP.none_of {W : World} {A : Option Addr} {n : Nat} (h : n = 0) {ls : List Po} (hl : ls.length = n) : RP W A n ls := ⟨hl, fun h0 => absurd h0 (by omega)⟩
theorem from_any (w : World) (A : Option Addr) (n c : Nat) (k : List UInt8) (a : Int) : Calls Try.prog 29 #[.agg #[.slice A n c], .string ⟨k.toArray⟩, .int .i64 a] w fun e w' =>
    e = .returned (.func (.func 42) #[] #[.pointer (some ⟨w.heap.size, 0, none⟩), .pointer (some ⟨w.heap.size + 1, 0, none⟩), .pointer (some ⟨w.heap.size + 2, 0, none⟩)]) ∧ ((w.alloc (.cells #[.slice A n c] 28)).alloc (.cells #[.string ⟨k.toArray⟩] 9)).alloc (.cells #[.int .i64 a] 3) = w' := by
  go_enter Try.func29, Try.ntmps29
  go_wp2
  go_ret
  exact ⟨rfl, rfl⟩
/-- A key's places from one on: where they begin in the row, and which they are. -/
def placesF (ls : List Po) (k : List UInt8) (a : Int) : List Int := ((ls.drop (insAt ls (k, a))).takeWhile fun p => decide (p.1 = k)).map (·.2)
def FmOk (T : List Int) (k : Nat) (args : Array Value) (_ : World) : Prop := ∃ t, T[k]? = some t ∧ args = #[.int .i64 t]
def FmKp (A : Option Addr) (n : Nat) (ls : List Po) (b2 : Nat) (k : List UInt8) (W W' : World) : Prop := (RP W A n ls → RP W' A n ls) ∧ (W.cell? ⟨b2, 0, none⟩ = some (.string ⟨k.toArray⟩) → W'.cell? ⟨b2, 0, none⟩ = some (.string ⟨k.toArray⟩))
set_option maxRecDepth 100000 in
set_option maxHeartbeats 1000000 in
theorem from_iter (b1 b2 b3 : Nat) (A : Option Addr) (n c : Nat) (ls : List Po) (hn : n ≤ 1000000) (hnc : n ≤ c) (hcm : c ≤ maxLen) (ha : Asc ls) (key : List UInt8) (at_ : Int) :
    IterOf Try.prog 42 #[.pointer (some ⟨b1, 0, none⟩), .pointer (some ⟨b2, 0, none⟩), .pointer (some ⟨b3, 0, none⟩)] (placesF ls key at_).length (FmOk (placesF ls key at_)) (FmKp A n ls b2 key)
      (fun W => W.cell? ⟨b1, 0, none⟩ = some (.slice A n c) ∧ W.cell? ⟨b2, 0, none⟩ = some (.string ⟨key.toArray⟩) ∧ W.cell? ⟨b3, 0, none⟩ = some (.int .i64 at_) ∧ RP W A n ls) := by
  intro m l J Jx W sJ sJx hpre hY h0
  obtain ⟨hc1, hc2, hc3, hr⟩ := hpre
  have hbs := bsearch_any W A n c ls hr hn ha (key, at_)
  have hS := insAt_le ls (key, at_)
  rw [hr.1] at hS
  have Hr := Lib.hid hr
  have hln := hr.1
  have Hln := Lib.hid hln
  obtain ⟨S, hSe⟩ : ∃ S, S = insAt ls (key, at_) := ⟨_, rfl⟩
  obtain ⟨D, hD⟩ : ∃ D, D = ls.drop S := ⟨_, rfl⟩
  obtain ⟨T0, hT0⟩ : ∃ T0, T0 = D.takeWhile fun p => decide (p.1 = key) := ⟨_, rfl⟩
  have hT : placesF ls key at_ = T0.map (·.2) := by rw [hT0, hD, hSe]; rfl
  rw [hT] at hY ⊢
  rw [← hSe] at hbs hS
  have hDl : D.length = n - S := by rw [hD, List.length_drop, hln]
  have hTl : T0.length ≤ n - S := by rw [hT0, ← hDl]; exact tw_le _ _
  have HDl := Lib.hid hDl
  have HT0 := Lib.hid hT0
  have HD := Lib.hid hD
  have Hbs := Lib.hid hbs
  have hTm : (T0.map (·.2)).length = T0.length := by simp
  rw [hTm] at hY ⊢
  have lt1 := World.block_lt_of_cell? W _ hc1
  have lt2 := World.block_lt_of_cell? W _ hc2
  clear hr hln hSe hD hT0 hT hDl hbs hTm
  unfold maxLen at hcm
  refine callsIn_of_wp Try.func42 rfl trivial ?_ rfl
  simp only [Try.ntmps42, List.size_toArray, List.length_cons, List.length_nil, Nat.reduceAdd, Nat.reduceSub, Array.replicate_succ, Array.replicate_zero, List.push_toArray, List.append_toArray, List.nil_append, List.cons_append]
  gi_wp2_with fail
  refine ⟨trivial, fun h => by simp [Fence.wide] at h, callsIn_wide.2 (Hbs.out.mono ?_)⟩
  rintro e w1 ⟨f, rfl, hb1⟩
  have d1 := (hb1.cell (p := ⟨b1, 0, none⟩) lt1).trans hc1
  have d2 := (hb1.cell (p := ⟨b2, 0, none⟩) lt2).trans hc2
  have J1 := sJ _ _ _ h0 hb1
  have Hr1 := Lib.hid (Hr.out.below hb1)
  clear hc1 hc2 hc3 h0 hb1 lt1 lt2
  gi_wp2_with fail
  case inr =>
    have hcut : ∀ W, RP W A n ls → RP W (A.map fun x => x.add (S * 2)) (n - S) D := fun W h => by rw [HD.out]; exact h.cut hS
    generalize (Option.map (fun x : Addr => x.add (S * 2)) A) = A2 at hcut ⊢
    have HC := Lib.hid hcut
    clear hcut
    gi_loopw [23] (fun s wr => ∃ k : Nat, k ≤ T0.length ∧ s = .int .i64 (k : Int) ∧ J k wr ∧ Hid (RP wr A n ls) ∧ wr.cell? ⟨b2, 0, none⟩ = some (.string ⟨key.toArray⟩)) (fun s _ => n - (intOf s).toNat)
    case atStart => exact ⟨0, Nat.zero_le _, rfl, J1, Hr1, d2⟩
    case round =>
      obtain ⟨k, hk, rfl, hJ, HR, hk2⟩ := hrel
      by_cases hlt : k < n - S
      · obtain ⟨b, o, p, rfl, hp, -, c0, c1⟩ := (HC.out _ HR.out).at_ hlt
        have Hp := Lib.hid hp
        have hlt2 : b2 < wr.heap.size := World.block_lt_of_cell? _ _ hk2
        clear hp
        by_cases hpk : p.1 = key
        · obtain ⟨y1, y2⟩ := tw_yes (f := fun p : Po => decide (p.1 = key)) Hp.out (by rw [← HT0.out]; exact hk) (by simpa using hpk)
          rw [← HT0.out] at y1 y2
          obtain ⟨fn, tmps, assign, body, hy, hR⟩ := hY k #[.int .i64 p.2] (wr.alloc (.cells #[.string ⟨p.1.toArray⟩, .int .i64 p.2] 31)) y2 (sJ _ _ _ hJ ((Below.refl _ _).alloc (Nat.le_refl _) _)) ⟨p.2, by rw [List.getElem?_map, y1]; rfl, rfl⟩
          have HR2 := Lib.hid (HR.out.below ((Below.refl wr.heap.size wr).alloc (Nat.le_refl _) (.cells #[.string ⟨p.1.toArray⟩, .int .i64 p.2] 31)))
          have hk3 : (wr.alloc (.cells #[.string ⟨p.1.toArray⟩, .int .i64 p.2] 31)).cell? ⟨b2, 0, none⟩ = some (.string ⟨key.toArray⟩) := (((Below.refl wr.heap.size wr).alloc (Nat.le_refl _) _).cell (p := ⟨b2, 0, none⟩) (World.block_lt_of_cell? _ _ hk2)).trans hk2
          have Hk3 := Lib.hid hk3
          clear y1 hJ hk3
          subst hpk
          gi_wp2_with fail
          refine ⟨fun h => by simp [Fence.wide] at h, hR.mono ?_⟩
          rintro e w3 (⟨rfl, hJ3, hk3⟩ | ⟨rfl, hJx3⟩)
          · have HR3 := Lib.hid (hk3.1 HR2.out)
            have hc3 := hk3.2 Hk3.out
            clear hk3
            gi_wp2_with fail
            go_roundw
            case rel => exact ⟨k + 1, y2, by go_num, hJ3, HR3, hc3⟩
            case measure => simp [intOf]; omega
          · gi_wp2_with fail
            refine bodyPost_ret (results_none rfl _ _ _) rfl ?_
            exact ⟨⟨_, rfl⟩, .inr ⟨k, y2, hJx3⟩⟩
        · have y := tw_no (f := fun p : Po => decide (p.1 = key)) Hp.out (by rw [← HT0.out]; exact hk) (by simpa using hpk)
          rw [← HT0.out] at y
          have J2 := sJ _ _ _ hJ ((Below.refl wr.heap.size wr).alloc (Nat.le_refl _) (.cells #[.string ⟨p.1.toArray⟩, .int .i64 p.2] 31))
          rw [← y] at J2
          have HJ2 := Lib.hid J2
          have Hpk := Lib.hid hpk
          have hz : (p.1 == key) = false := by simpa using hpk
          clear y J2 hJ hpk
          gi_wp2_with fail
          refine ⟨fun _ h => (by cases h), ?_⟩
          gi_wp2_with fail
          refine bodyPost_ret (results_none rfl _ _ _) rfl ?_
          exact ⟨⟨_, rfl⟩, .inl HJ2.out⟩
      · have y : k = T0.length := by omega
        subst y
        gi_wp2_with fail
        refine bodyPost_end (results_none rfl _ _ _) rfl ?_
        exact ⟨⟨_, rfl⟩, .inl hJ⟩
  case inl =>
    gi_loopw [23] (fun s wr => ∃ k : Nat, k ≤ T0.length ∧ s = .int .i64 (k : Int) ∧ J k wr) (fun s _ => n - (intOf s).toNat)
    case atStart => exact ⟨0, Nat.zero_le _, rfl, J1⟩
    case round =>
      obtain ⟨k, hk, rfl, hJ⟩ := hrel
      have y : k = T0.length := by omega
      subst y
      have y0 : ¬ (T0.length < n - S) := by omega
      gi_wp2_with fail
      refine bodyPost_end (results_none rfl _ _ _) rfl ?_
      exact ⟨⟨_, rfl⟩, .inl hJ⟩
end Go.Proofs.Ytkfpnilbjjkhgaa
