/-
  THE WALK of cachetref07.Whole.
-/
import Derived.Test.YtdmiiageihbokaaFrH
namespace Go.Proofs.Ytdmiiageihbokaa
open Go.RowKit

set_option maxRecDepth 100000 in
theorem refWhole_any (w : World) (A : Option Addr) (n c : Nat) (row : List UInt8) (hr : RB w A n row) (hn : n ≤ 10000) (hc : n ≤ c) (hcm : c ≤ maxLen) :
    Calls Try.prog 32 #[.slice A n c] w fun e w' => e = .returned (.int .i64 (wholeOf row : Int)) ∧ Below w.heap.size w w' := by
  have hl := hr.len
  have Hl := Lib.hid hl
  clear hl
  go_enter Try.func32, Try.ntmps32
  go_wp2_with fail
  refine (refAll_any w A n c row hr hn hc hcm).mono ?_
  rintro e w1 ⟨v, zs, rfl, hzs, hown, hrec, hb1⟩
  obtain ⟨s1, s2, s3⟩ := frames_spec row
  have hfl := frames_len row
  rw [Hl.out] at hfl
  obtain ⟨fr, hfr⟩ : ∃ fr, fr = frames row := ⟨_, rfl⟩
  have hw : wholeOf row = offs fr fr.length := by rw [hfr]; rfl
  rw [← hfr] at s1 s2 s3 hzs hrec hfl
  have S1 := Lib.hid s1
  have S3 := Lib.hid s3
  clear s1 s2 s3 hfr hr
  obtain ⟨m, hm⟩ : ∃ m, m = fr.length := ⟨_, rfl⟩
  rw [← hm] at hzs hfl hw
  rw [hzs] at hown
  obtain ⟨A1, c1, rfl⟩ : ∃ A1 c1, v = .slice A1 m c1 := by
    rcases hown.2 with ⟨rfl, rfl⟩ | ⟨g, cap, cur, rfl, _⟩
    · exact ⟨_, _, rfl⟩
    · exact ⟨_, _, rfl⟩
  have Hw := Lib.hid hw
  clear hm hw
  go_wp2
  go_loopw [3, 5] (fun a i wr => ∃ k : Nat, k ≤ m ∧ i = .int .i64 k ∧ a = .int .i64 (offs fr k : Int) ∧ Below w1.heap.size w1 wr) (fun _ i _ => m - (intOf i).toNat)
  case atStart => exact ⟨0, by omega, rfl, by rw [offs_zero]; rfl, Below.refl _ _⟩
  case round =>
    obtain ⟨k, hk, rfl, rfl, hb⟩ := hrel
    by_cases hkm : k < m
    · obtain ⟨g, cap, hv, hgb, hgl⟩ := hown.form (by omega)
      injection hv with hv1 _ hv3
      subst hv1 hv3
      obtain ⟨z, hz⟩ : ∃ z, zs[k]? = some z := ⟨_, List.getElem?_eq_getElem (by omega)⟩
      obtain ⟨x, hx, hx1, hx2⟩ := hrec k z hz
      obtain ⟨f1, f2⟩ := recCells_at zs k z hz
      have hownr := ownsRow_below hown hb
      have c1 : wr.cell? ⟨g, k * 2, none⟩ = some (.int .i64 (z.1 : Int)) := by
        have := hownr.cellAt (k * 2) (by omega)
        rw [this, f1]
      have c2 : wr.cell? ⟨g, k * 2 + 1, none⟩ = some z.2 := by
        have := hownr.cellAt (k * 2 + 1) (by omega)
        rw [this, f2]
      have hx' := (S1.out k x hx).1
      have hoff := offs_succ hx
      have h3 := S3.out (k + 1)
      rw [Hl.out] at h3
      obtain ⟨y, hy⟩ : ∃ y, y = x.2.length := ⟨_, rfl⟩
      obtain ⟨Az, cz, hz2⟩ : ∃ A1 c1, z.2 = .slice A1 y c1 := by
        rw [hy]
        rcases hx2.2 with ⟨e, e2⟩ | ⟨g, cap, cur, e, _⟩
        · exact ⟨_, _, by rw [e2, e]⟩
        · exact ⟨_, _, e⟩
      obtain ⟨q, hq⟩ : ∃ q, q = offs fr k := ⟨_, rfl⟩
      rw [hz2] at c2
      rw [hx1, hx', ← hq] at c1
      rw [← hy, ← hq] at hoff
      rw [← hq]
      rw [hoff] at h3
      have Hoff := Lib.hid hoff
      clear hoff f1 f2 hz hx hx1 hx2 hx' hz2 hq hy hownr
      go_wp2_with fail
      go_quiet (fail)
      go_wp2
      go_roundw
      case rel => exact ⟨k + 1, by omega, by go_num, by rw [Hoff.out]; go_num, below_drewN hb nq⟩
      case measure => simp [intOf]; omega
    · obtain rfl : k = m := by omega
      go_wp2
      go_ret
      rw [Hw.out]
      exact ⟨rfl, hb1.trans (hb.mono hb1.size)⟩
end Go.Proofs.Ytdmiiageihbokaa
