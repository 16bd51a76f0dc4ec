/-
  THE WALKS of Run.Len, Run.All, slices.Values at posts and its iterator.
-/
import Derived.Test.YtkfpnilbjjkhgaaRnF
import Derived.Test.YtkfpnilbjjkhgaaIterF
import Derived.Outline
namespace Go.Proofs.Ytkfpnilbjjkhgaa
open Go.RowKit Go.Lib Go.Sort Go.Shelf
attribute [local go_sem] Oper.semAt_some

theorem runLen_any (w : World) (A : Option Addr) (n c : Nat) : Calls Try.prog 16 #[.agg #[.slice A n c]] w fun e w' => e = .returned (.int .i64 n) ∧ w' = w.alloc (.cells #[.slice A n c] 28) := by
  go_enter Try.func16, Try.ntmps16
  go_wp2
  go_ret
  exact ⟨rfl, rfl⟩
theorem values_any (w : World) (A : Option Addr) (n c : Nat) : Calls Try.prog 41 #[.slice A n c] w fun e w' => e = .returned (.func (.func 59) #[] #[.pointer (some ⟨w.heap.size, 0, none⟩)]) ∧ w.alloc (.cells #[.slice A n c] 25) = w' := by
  go_enter Try.func41, Try.ntmps41
  go_wp2
  go_ret
  exact ⟨rfl, rfl⟩
theorem all_any (w : World) (A : Option Addr) (n c : Nat) : Calls Try.prog 26 #[.agg #[.slice A n c]] w fun e w' => e = .returned (.func (.func 59) #[] #[.pointer (some ⟨w.heap.size + 1, 0, none⟩)]) ∧ (w.alloc (.cells #[.slice A n c] 28)).alloc (.cells #[.slice A n c] 25) = w' := by
  go_enter Try.func26, Try.ntmps26
  go_wp2_with fail
  refine (values_any _ A n c).mono ?_
  rintro e w' ⟨rfl, rfl⟩
  go_wp2
  go_ret
  exact ⟨by simp, rfl⟩
/-- What round k is handed: post k. -/
def VlOk (ls : List Po) (k : Nat) (args : Array Value) (_ : World) : Prop := ∃ p, ls[k]? = some p ∧ args = #[PV p]
def VlKp (A : Option Addr) (n : Nat) (ls : List Po) (W W' : World) : Prop := RP W A n ls → RP W' A n ls
set_option maxRecDepth 100000 in
theorem values_iter (b : Nat) (A : Option Addr) (n c : Nat) (ls : List Po) (hn : n ≤ 1000000) :
    IterOf Try.prog 59 #[.pointer (some ⟨b, 0, none⟩)] n (VlOk ls) (VlKp A n ls)
      (fun W => W.cell? ⟨b, 0, none⟩ = some (.slice A n c) ∧ RP W A n ls) := by
  intro m l J Jx W sJ sJx hpre hY h0
  obtain ⟨hb, hr⟩ := hpre
  have Hr := Lib.hid hr
  clear hr
  refine callsIn_of_wp Try.func59 rfl trivial ?_ rfl
  simp only [Try.ntmps59, List.size_toArray, List.length_cons, List.length_nil, Nat.reduceAdd, Nat.reduceSub, Array.replicate_succ, Array.replicate_zero, List.push_toArray, List.append_toArray, List.nil_append, List.cons_append]
  gi_wp2_with fail
  gi_loopw [7] (fun s wr => ∃ k : Nat, k ≤ n ∧ s = .int .i64 (k : Int) ∧ J k wr ∧ Hid (RP wr A n ls)) (fun s _ => n - (intOf s).toNat)
  case atStart => exact ⟨0, Nat.zero_le _, rfl, h0, Hr⟩
  case round =>
    obtain ⟨k, hk, rfl, hJ, HR⟩ := hrel
    by_cases hlt : k < n
    · obtain ⟨p, hp⟩ : ∃ p, ls[k]? = some p := ⟨_, List.getElem?_eq_getElem (by rw [HR.out.1]; exact hlt)⟩
      obtain ⟨b1, o1, rfl, hrg⟩ := HR.out.2 (by omega)
      have h3 := range_post ls o1 hrg k p hp
      have c0 : wr.cell? ⟨b1, o1 + k * 2, none⟩ = some (.string ⟨p.1.toArray⟩) := by simpa using h3 0 _ rfl
      have c1 : wr.cell? ⟨b1, o1 + k * 2 + 1, none⟩ = some (.int .i64 p.2) := by simpa using h3 1 _ rfl
      obtain ⟨fn, tmps, assign, body, hy, hR⟩ := hY k #[.agg #[.string ⟨p.1.toArray⟩, .int .i64 p.2]] (wr.alloc (.cells #[.string ⟨p.1.toArray⟩, .int .i64 p.2] 31)) hlt (sJ _ _ _ hJ ((Below.refl _ _).alloc (Nat.le_refl _) _)) ⟨p, hp, rfl⟩
      have HR2 := Lib.hid (HR.out.below ((Below.refl wr.heap.size wr).alloc (Nat.le_refl _) (.cells #[.string ⟨p.1.toArray⟩, .int .i64 p.2] 31)))
      clear hrg h3 hp hJ
      gi_wp2_with fail
      refine ⟨fun h => by simp [Fence.wide] at h, hR.mono ?_⟩
      rintro e w3 (⟨rfl, hJ3, hk3⟩ | ⟨rfl, hJx3⟩)
      · have HR3 := Lib.hid (hk3 HR2.out)
        clear hk3
        gi_wp2_with fail
        go_roundw
        case rel => exact ⟨k + 1, hlt, by go_num, hJ3, HR3⟩
        case measure => simp [intOf]; omega
      · gi_wp2_with fail
        refine bodyPost_ret (results_none rfl _ _ _) rfl ?_
        exact ⟨⟨_, rfl⟩, .inr ⟨k, hlt, hJx3⟩⟩
    · obtain rfl : k = n := by omega
      gi_wp2_with fail
      refine bodyPost_end (results_none rfl _ _ _) rfl ?_
      exact ⟨⟨_, rfl⟩, .inl hJ⟩
end Go.Proofs.Ytkfpnilbjjkhgaa
