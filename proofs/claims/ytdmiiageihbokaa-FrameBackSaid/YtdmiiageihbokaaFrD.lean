/-
  THE WALK of cachetlaw07.alive.
-/
import Derived.Test.YtdmiiageihbokaaFrB
import Derived.Test.YtdmiiageihbokaaFrC
import Derived.Test.YtdmiiageihbokaaFrQ
namespace Go.Proofs.Ytdmiiageihbokaa
open Go.RowKit

theorem whole_sb (w : World) (v : Value) (row : List UInt8) (h : SB w v row) (hn : row.length ≤ 140737488351232) :
    Calls Try.prog 31 #[v] w fun e w' => e = .returned (.int .i64 (wholeOf row : Int)) ∧ Below w.heap.size w w' := by
  obtain ⟨A, n, c, rfl, h1, h2, h3⟩ := h
  exact whole_any w A n c row h3 (by rw [← h3.len]; exact hn) h1 h2
theorem count_sb (w : World) (v : Value) (row : List UInt8) (h : SB w v row) (hn : row.length ≤ 140737488351232) :
    Calls Try.prog 33 #[v] w fun e w' => e = .returned (.int .i64 ((frames row).length : Int)) ∧ Below w.heap.size w w' := by
  obtain ⟨A, n, c, rfl, h1, h2, h3⟩ := h
  exact count_any w A n c row h3 (by rw [← h3.len]; exact hn) h1 h2

def abc : List UInt8 := [97, 98, 99]
theorem abc_len : (recOf abc).length = 11 := by rw [recOf_len]; rfl
theorem abc_first : (recOf abc)[0]? = some 3 := by rfl
theorem abc_recs : recs [abc] = recOf abc := by simp [recs]
theorem abc_whole : wholeOf (recOf abc ++ [1]) = 11 := by
  have h := (frames_join [abc] [1] (by intro p hp; simp at hp; subst hp; decide)).2
  rw [abc_recs] at h
  rw [h]
  rfl
theorem abc_count : (frames (recOf abc)).length = 1 := by
  have h := frames_recs [abc] (by intro p hp; simp at hp; subst hp; decide)
  rw [abc_recs] at h
  rw [h]
  rfl

theorem alive7_any (w : World) : Calls Try.prog 23 #[] w fun e w' => e = .returned (.bool true) ∧ Below w.heap.size w w' := by
  have kc := run_bytes_lit (P := Try.prog) Try.underlying22 Try.underlying5
  go_enter Try.func23, Try.ntmps23
  go_wp2_with fail
  refine (put_sb _ _ abc (SB.of_rangeAt (b := w.heap.size) (o := 0) (n := 3) (c := 3) ?_ rfl (by decide) (by decide)) (by decide)).mono ?_
  · exact rangeAt_at w _ _ _ _ rfl
  · rintro e w1 ⟨v1, rfl, hown1, hb1⟩
    have hb01 : Below w.heap.size w w1 := ((Below.refl _ _).alloc (Nat.le_refl _) _).trans (hb1.mono (by simp))
    rw [abc_len] at hown1
    have hown : w1.ownsRow w.heap.size 5 1 v1 11 ((recOf abc).map B8) := ownsRow_base hown1 (by simp)
    obtain ⟨g, cap, rfl, _, _⟩ := hown.form (by omega)
    have hc0 : w1.cell? ⟨g, 0, none⟩ = some (.int .u8 3) := by
      rw [hown.cellAt 0 (by omega), List.getElem?_map, abc_first]; rfl
    clear hown1 hb1 kc
    go_wp2_with (at_builtin; refine wpList_append_keepW (by rfl) (.tmp 23) (.tmp 24) 22 rfl w (hb01.alloc hb01.size _) Try.underlying22 info_u8 rfl (by decide) (.slice (some ⟨g, 0, none⟩) 11 cap) 11 _ rfl (hown.alloc _) (some ⟨w1.heap.size, 0, none⟩) 1 1 [B8 1] rfl (rc_new w1 _ _ _) rfl (by decide) (by unfold maxLen; omega) (by omega) ?_; intro v2 w2 hown2 hb2 hkeep _ _)
    have hs2 : SB w2 v2 (recOf abc ++ [1]) := SB.of_own (base := w.heap.size) (e := 5) (k := 12) (by rw [List.map_append]; exact hown2)
    refine (whole_sb _ _ _ hs2 (by rw [List.length_append, abc_len]; decide)).mono ?_
    rintro e w3 ⟨rfl, hb3⟩
    rw [abc_whole]
    have hb03 := hb2.trans (hb3.mono hb2.size)
    have hs3 : SB w3 (.slice (some ⟨g, 0, none⟩) 11 cap) (recOf abc) := (SB.of_own hkeep).below hb3
    go_wp2_with fail
    refine (count_sb _ _ _ hs3 (by rw [abc_len]; decide)).mono ?_
    rintro e w4 ⟨rfl, hb4⟩
    rw [abc_count]
    go_wp2
    go_ret
    exact ⟨rfl, hb03.trans (hb4.mono hb03.size)⟩
end Go.Proofs.Ytdmiiageihbokaa
