/-
  THE WALKS of cachetref19.From, cachetlaw19.long, posts.
-/
import Derived.Test.YtkfpnilbjjkhgaaRnO
namespace Go.Proofs.Ytkfpnilbjjkhgaa
open Go.RowKit Go.Lib Go.Sort

theorem fromF_snoc {ls : List Po} {k : Nat} {p : Po} (hp : ls[k]? = some p) (key : List UInt8) (a : Int) : fromF (ls.take (k + 1)) key a = fromF (ls.take k) key a ++ if p.1 = key ∧ a ≤ p.2 then [p.2] else [] := by
  unfold fromF
  rw [take_snoc hp, List.filter_append, List.map_append]
  congr 1
  by_cases h1 : p.1 = key <;> by_cases h2 : a ≤ p.2 <;> simp [h1, h2]
theorem fromF_le (ls : List Po) (key : List UInt8) (a : Int) : (fromF ls key a).length ≤ ls.length := by
  unfold fromF
  rw [List.length_map]
  exact List.length_filter_le _ _
theorem one_i64 (z : Int) : ∀ u ∈ [Value.int .i64 z], u.oneCell' = true := by
  intro u hu
  simp at hu
  subst hu
  rfl
set_option maxRecDepth 100000 in
set_option maxHeartbeats 1000000 in
theorem refFrom_any (w : World) (A : Option Addr) (n c : Nat) (ls : List Po) (h : RP w A n ls) (hn : n ≤ 1000000) (key : List UInt8) (a : Int) :
    Calls Try.prog 28 #[.slice A n c, .string ⟨key.toArray⟩, .int .i64 a] w (IntsPost w (fromF ls key a)) := by
  have H := Lib.hid h
  have hl := h.1
  have Hl := Lib.hid hl
  clear h hl
  go_enter Try.func28, Try.ntmps28
  go_wp2
  go_loopw [7, 8] (fun v s wr => ∃ k : Nat, k ≤ n ∧ s = .int .i64 (k : Int) ∧ Hid (wr.ownsRow w.heap.size 3 1 v (fromF (ls.take k) key a).length ((fromF (ls.take k) key a).map I64v) ∧ Below w.heap.size w wr)) (fun _ s _ => n - (intOf s).toNat)
  case atStart => exact ⟨0, Nat.zero_le _, rfl, Lib.hid ⟨World.ownsRow_nil _ _ _ _, Below.refl _ _⟩⟩
  case round =>
    obtain ⟨k, hk, rfl, HO⟩ := hrel
    by_cases hlt : k < n
    · obtain ⟨b, o, q, rfl, hq, -, cq, cq2⟩ := (H.out.below HO.out.2).at_ hlt
      have hkl := fromF_le (ls.take k) key a
      rw [List.length_take] at hkl
      have hnx := fromF_snoc hq key a
      obtain ⟨K, hK⟩ : ∃ K, K = fromF (ls.take k) key a := ⟨_, rfl⟩
      have hoV := HO.out.1
      have hbV := HO.out.2
      rw [← hK] at hkl hnx hoV
      have hkl2 : K.length ≤ 1000000 := by omega
      have HNX := Lib.hid hnx
      have HoV := Lib.hid hoV
      clear hkl hK hnx hq hoV
      have skip : ¬ (q.1 = key ∧ a ≤ q.2) → Hid (wr.ownsRow w.heap.size 3 1 u7 (fromF (ls.take (k + 1)) key a).length ((fromF (ls.take (k + 1)) key a).map I64v) ∧ Below w.heap.size w wr) := fun hne =>
        Lib.hid ⟨by rw [HNX.out, if_neg hne, List.append_nil]; exact HoV.out, hbV⟩
      by_cases h1 : q.1 = key
      · subst h1
        by_cases h2 : a ≤ q.2
        · have hst : fromF (ls.take (k + 1)) q.1 a = K ++ [q.2] := by rw [HNX.out, if_pos ⟨rfl, h2⟩]
          have HS := Lib.hid hst
          have hoV := HoV.out
          have hd : decide (a ≤ q.2) = true := decide_eq_true h2
          clear hst skip h2
          go_wp2_with (at_builtin; refine wpList_append_row rfl (.tmp 31) (.tmp 37) 47 rfl w (hbV.alloc hbV.size _) Try.underlying47 info_int3 rfl (by decide) _ K.length (K.map I64v) rfl (hoV.alloc _) (some ⟨wr.heap.size, 0, none⟩) 1 1 [.int .i64 q.2] rfl (rc_new wr _ _ _) rfl (one_i64 _) (by unfold maxLen; omega) (by omega) ?_; intro v3 w3 hown3 hb3; have H3 := Lib.hid (And.intro hown3 hb3); clear hown3 hb3)
          go_roundw
          case rel => exact ⟨k + 1, by omega, by go_num, Lib.hid ⟨by rw [HS.out, List.map_append, List.length_append]; exact H3.out.1, H3.out.2⟩⟩
          case measure => simp [intOf]; omega
        · have HS := skip (by rintro ⟨-, h⟩; exact h2 h)
          have hd : decide (a ≤ q.2) = false := decide_eq_false h2
          clear skip hbV h2
          go_wp2
          go_roundw
          case rel => exact ⟨k + 1, by omega, by go_num, HS⟩
          case measure => simp [intOf]; omega
      · have HS := skip (by rintro ⟨h, -⟩; exact h1 h)
        have hz : (q.1 == key) = false := by simpa using h1
        clear skip hbV h1
        go_wp2
        go_roundw
        case rel => exact ⟨k + 1, by omega, by go_num, HS⟩
        case measure => simp [intOf]; omega
    · obtain rfl : k = n := by omega
      have hfull : ls.take k = ls := List.take_of_length_le (by rw [Hl.out]; exact Nat.le_refl _)
      have hown := HO.out.1
      rw [hfull] at hown
      obtain ⟨A2, c2, e2, -, -, -⟩ := own_formK hown
      subst e2
      have HR := Lib.hid (And.intro hown HO.out.2)
      clear hfull hown
      go_wp2
      go_ret
      exact ⟨A2, c2, rfl, HR.out.1, HR.out.2⟩
/-- What long says. -/
def LongPost (ls : List Po) (w : World) (e : Ending) (w' : World) : Prop := ∃ b : Bool, e = .returned (.bool b) ∧ (b = false → ls.length ≤ 61 ∧ ∀ p ∈ ls, p.1.length ≤ 300) ∧ Below w.heap.size w w'
set_option maxRecDepth 100000 in
set_option maxHeartbeats 1000000 in
theorem long_any (w : World) (A : Option Addr) (n c : Nat) (ls : List Po) (h : RP w A n ls) :
    Calls Try.prog 9 #[.slice A n c] w (LongPost ls w) := by
  have H := Lib.hid h
  have hl := h.1
  have Hl := Lib.hid hl
  clear h hl
  go_enter Try.func9, Try.ntmps9
  go_wp2
  go_loopw [7] (fun s wr => ∃ k : Nat, k ≤ n ∧ k ≤ 61 ∧ s = .int .i64 (k : Int) ∧ Hid (Below w.heap.size w wr) ∧ Hid (∀ p ∈ ls.take k, p.1.length ≤ 300)) (fun s _ => 61 - (intOf s).toNat)
  case atStart => exact ⟨0, Nat.zero_le _, by omega, rfl, Lib.hid (Below.refl _ _), Lib.hid (by simp)⟩
  case round =>
    obtain ⟨k, hk, hk61, rfl, HB, HA⟩ := hrel
    by_cases hlt : k < n
    · obtain ⟨b, o, q, rfl, hq, -, cq, cq2⟩ := (H.out.below HB.out).at_ hlt
      have hb2 : Below w.heap.size w (wr.alloc (.cells (encP q).toArray 32)) := HB.out.alloc HB.out.size _
      have HB2 := Lib.hid hb2
      have HL : Hid (LongPost ls w (.returned (.bool true)) (wr.alloc (.cells (encP q).toArray 32))) := Lib.hid ⟨true, rfl, (fun h => by cases h), hb2⟩
      have Hq := Lib.hid hq
      clear hb2 hq
      by_cases h60 : 60 < k
      · go_wp2
        go_ret
        exact HL.out
      · by_cases h3 : 300 < q.1.length
        · go_wp2
          go_ret
          exact HL.out
        · have HA2 : Hid (∀ p ∈ ls.take (k + 1), p.1.length ≤ 300) := Lib.hid (by
            rw [take_snoc Hq.out]
            intro p hp
            rcases List.mem_append.1 hp with hp | hp
            · exact HA.out p hp
            · simp at hp; subst hp; omega)
          go_wp2
          go_roundw
          case rel => exact ⟨k + 1, by omega, by omega, by go_num, HB2, HA2⟩
          case measure => simp [intOf]; omega
    · obtain rfl : k = n := by omega
      have hfull : ls.take k = ls := List.take_of_length_le (by rw [Hl.out]; exact Nat.le_refl _)
      have HR : Hid (LongPost ls w (.returned (.bool false)) wr) := Lib.hid ⟨false, rfl, fun _ => ⟨by rw [Hl.out]; exact hk61, by have := HA.out; rwa [hfull] at this⟩, HB.out⟩
      clear hfull
      go_wp2
      go_ret
      exact HR.out
/-- A row of posts of one's own, as a value. -/
def PostsPost (w : World) (ls : List Po) (e : Ending) (w' : World) : Prop := ∃ A c, e = .returned (.slice A ls.length c) ∧ w'.ownsRow w.heap.size 31 2 (.slice A ls.length c) ls.length (flatP ls) ∧ Below w.heap.size w w'
theorem flatP_snoc (a : List Po) (p : Po) : flatP (a ++ [p]) = flatP a ++ encP p := by rw [flatP_app]; simp [flatP]
set_option maxRecDepth 100000 in
set_option maxHeartbeats 1000000 in
theorem posts_any (w : World) (A : Option Addr) (n c : Nat) (ls : List Po) (h : RP w A n ls) (hn : n ≤ 1000000) :
    Calls Try.prog 10 #[.slice A n c] w (PostsPost w ls) := by
  have H := Lib.hid h
  have hl := h.1
  have Hl := Lib.hid hl
  clear h hl
  go_enter Try.func10, Try.ntmps10
  go_wp2
  go_loopw [3, 9] (fun v s wr => ∃ k : Nat, k ≤ n ∧ s = .int .i64 (k : Int) ∧ Hid (wr.ownsRow w.heap.size 31 2 v k (flatP (ls.take k)) ∧ Below w.heap.size w wr)) (fun _ s _ => n - (intOf s).toNat)
  case atStart => exact ⟨0, Nat.zero_le _, rfl, Lib.hid ⟨ownsRow_empty w _ _ (Nat.le_refl _), (Below.refl _ _).alloc (Nat.le_refl _) _⟩⟩
  case round =>
    obtain ⟨k, hk, rfl, HO⟩ := hrel
    by_cases hlt : k < n
    · obtain ⟨b, o, q, rfl, hq, -, cq, cq2⟩ := (H.out.below HO.out.2).at_ hlt
      have hst : flatP (ls.take (k + 1)) = flatP (ls.take k) ++ encP q := by rw [take_snoc hq, flatP_snoc]
      have HS := Lib.hid hst
      obtain ⟨X, hX⟩ : ∃ X, X = flatP (ls.take k) := ⟨_, rfl⟩
      have hoV := HO.out.1
      have hbV := HO.out.2
      rw [← hX] at hoV
      have HX := Lib.hid hX
      have hb1 : Below w.heap.size w (wr.alloc (.cells (encP q).toArray 32)) := hbV.alloc hbV.size _
      have ho1 : (wr.alloc (.cells (encP q).toArray 32)).ownsRow w.heap.size 31 2 u3 k X := hoV.alloc _
      obtain ⟨V, hV⟩ : ∃ V, V = wr.alloc (.cells (encP q).toArray 32) := ⟨_, rfl⟩
      rw [← hV] at hb1 ho1
      have HV := Lib.hid hV
      have Hb1 := Lib.hid hb1
      have Ho1 := Lib.hid ho1
      clear hst hX hV hq hoV hbV hb1 ho1
      go_wp2_with (first
        | ((with_reducible show wpList _ _ _ (⟨_, Op.buildSlice _ _ _, _, _, _, _⟩ :: _) _ _); rw [show (wr.alloc (.cells #[.string ⟨q.1.toArray⟩, .int .i64 q.2] 32)) = V from HV.out.symm]; refine wpList_buildOne rfl _ _ (.tmp 18) rfl [.string ⟨q.1.toArray⟩, .int .i64 q.2] rfl Try.underlying25 info_post3 rfl (by decide) (by decide) ?_)
        | (at_builtin; refine wpList_append_row rfl (.tmp 13) (.tmp 19) 25 rfl w (Hb1.out.alloc Hb1.out.size _) Try.underlying25 info_post3 rfl (by decide) _ k X rfl (Ho1.out.alloc _) (some ⟨V.heap.size, 0, none⟩) 1 1 (encP q) rfl (rc_new V _ _ _) rfl (encP_one q) (by unfold maxLen; omega) (by omega) ?_; intro v3 w3 hown3 hb3; have H3 := Lib.hid (And.intro hown3 hb3); clear hown3 hb3))
      go_roundw
      case rel => exact ⟨k + 1, by omega, by go_num, Lib.hid ⟨by rw [HS.out, ← HX.out]; exact H3.out.1, H3.out.2⟩⟩
      case measure => simp [intOf]; omega
    · obtain rfl : k = n := by omega
      have hfull : ls.take k = ls := List.take_of_length_le (by rw [Hl.out]; exact Nat.le_refl _)
      have hown := HO.out.1
      rw [hfull] at hown
      obtain ⟨A2, c2, e2, -, -, -⟩ := own_formK hown
      subst e2
      have HR : Hid (PostsPost w ls (.returned (.slice A2 k c2)) wr) := Lib.hid ⟨A2, c2, by rw [Hl.out], by rw [Hl.out]; exact hown, HO.out.2⟩
      clear hfull hown
      go_wp2
      go_ret
      exact HR.out
end Go.Proofs.Ytkfpnilbjjkhgaa
