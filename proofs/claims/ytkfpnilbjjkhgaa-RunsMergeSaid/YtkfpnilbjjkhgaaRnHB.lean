/-
  THE WALKS of heads' Pop and Push.
-/
import Derived.Test.YtkfpnilbjjkhgaaRnHA
namespace Go.Proofs.Ytkfpnilbjjkhgaa
open Go.RowKit Go.Lib Go.Sort

set_option maxRecDepth 100000 in
theorem heads_pop (w : World) (hb g n c : Nat) (v : Value) (hc : w.cell? ⟨hb, 0, none⟩ = some (.slice (some ⟨g, 0, none⟩) (n + 1) c)) (hf : w.frozen? ⟨hb, 0, none⟩ = false) (ci : w.cell? ⟨g, n, none⟩ = some v) (hn : n + 1 ≤ 1000000) (hnc : n + 1 ≤ c) :
    Calls Try.prog 84 #[.pointer (some ⟨hb, 0, none⟩)] w fun e w' => e = .returned (.iface 25 v) ∧ w.setCell ⟨hb, 0, none⟩ (.slice (some ⟨g, 0, none⟩) n c) = w' := by
  have h1 : IntKind.i64.wrap (((n + 1 : Nat) : Int) - 1) = (n : Int) := by rw [IntWalk.i64_in _ (by omega)]; omega
  have hnc2 : n ≤ c := by omega
  go_enter Try.func84, Try.ntmps84
  go_wp2
  go_ret
  exact ⟨rfl, rfl⟩
theorem info_rows : (Try.prog.info? 25).map (fun i => (i.zero, i.size, i.bytes)) = some (some (.slice none 0 0), 1, 24) := by kernel_rfl
/-- What Push leaves. -/
structure PushPost (w : World) (B hb n : Nat) (us : List Value) (v : Value) (w' : World) : Prop where
  ex : ∃ g c, w'.heap[hb]? = some (.cells #[.slice (some ⟨g, 0, none⟩) (n + 1) c] 68 (0, 0)) ∧ w'.ownsRow B 25 1 (.slice (some ⟨g, 0, none⟩) (n + 1) c) (n + 1) (us ++ [v])
set_option maxRecDepth 100000 in
set_option maxHeartbeats 2000000 in
theorem heads_push (W w : World) (hW : Below W.heap.size W w) (hb n c : Nat) (A : Option Addr) (us : List Value) (A9 : Option Addr) (n9 c9 : Nat) (hbox : w.heap[hb]? = some (.cells #[.slice A n c] 68 (0, 0))) (hown : w.ownsRow W.heap.size 25 1 (.slice A n c) n us) (hn : n ≤ 1000000) (hhb : W.heap.size ≤ hb) :
    Calls Try.prog 30 #[.pointer (some ⟨hb, 0, none⟩), .iface 25 (.slice A9 n9 c9)] w fun e w' => e = .returned (.tuple #[]) ∧ PushPost w W.heap.size hb n us (.slice A9 n9 c9) w' ∧ Below W.heap.size W w' := by
  have hc : w.cell? ⟨hb, 0, none⟩ = some (.slice A n c) := by rw [cell_of_row _ _ _ _ _ _ hbox]; rfl
  have hf := frozen_blk hbox 0
  have hlt := (Array.getElem?_eq_some_iff.1 hbox).1
  have hWs := hW.size
  have hWd : Below W.heap.size W (w.drew.alloc (.cells #[.slice A9 n9 c9] 25)) := (below_drewN hW 1).alloc hWs _
  have hod : (w.drew.alloc (.cells #[.slice A9 n9 c9] 25)).ownsRow W.heap.size 25 1 (.slice A n c) n us := (own_of_block hown fun _ _ => rfl : w.drew.ownsRow _ _ _ _ _ _).alloc _
  have hbd : (w.drew.alloc (.cells #[.slice A9 n9 c9] 25)).heap[hb]? = some (.cells #[.slice A n c] 68 (0, 0)) := (Below.heap_alloc w.drew _ _ hlt).trans hbox
  have hnb := own_notBox hod hbd (by decide)
  have Hod := Lib.hid hod
  have Hbd := Lib.hid hbd
  have Hnb := Lib.hid hnb
  have HWd := Lib.hid hWd
  clear hbox hown hod hbd hnb hWd hW
  have hta : ∀ u, (Instr.typeAssert (.iface 25 (.slice A9 n9 c9)) 20 25 false).run Try.prog u = .ok (.slice A9 n9 c9) u := fun u => by kernel_rfl
  go_enter Try.func30, Try.ntmps30
  go_wp2_with fail
  go_region_law (refine step_append_keep rfl (.tmp 7) (.tmp 10) 68 rfl W HWd.out Try.underlying68 info_rows rfl (by decide) (.slice A n c) n us rfl Hod.out (some ⟨w.drew.heap.size, 0, none⟩) 1 1 [.slice A9 n9 c9] rfl (rc_new w.drew _ _ _) rfl (one_slice _ _ _) (by unfold maxLen; omega) (by omega) ?_; intro v8 w8 hown8 hb8 hk8 hg8; have hx8 := (hg8.block hb (by show hb < (w.drew.alloc _).heap.size; simp; omega) (fun e => Hnb.out e.symm)).trans Hbd.out; have hc8 : w8.cell? ⟨hb, 0, none⟩ = some (.slice A n c) := (by rw [cell_of_row _ _ _ _ _ _ hx8]; rfl); have hf8 := frozen_blk hx8 0; have H8 := Lib.hid (And.intro hown8 (And.intro hb8 hx8)); obtain ⟨g, cap, rfl⟩ := ownsRow_succ hown8; clear hown8 hb8 hk8 hg8 hx8)
  all_goals
    have hP : PushPost w W.heap.size hb n us (.slice A9 n9 c9) (w8.setCell ⟨hb, 0, none⟩ (.slice (some ⟨g, 0, none⟩) (n + 1) cap)) :=
      ⟨g, cap, by rw [heap_setCell_same _ hb 0 _ _ _ H8.out.2.2]; rfl, own_setBox H8.out.1 H8.out.2.2 (by decide) 0 _⟩
    have HP := Lib.hid (And.intro hP (H8.out.2.1.setCell (p := ⟨hb, 0, none⟩) hhb (.slice (some ⟨g, 0, none⟩) (n + 1) cap)))
    clear hP hc8 hf8 hc hf
    go_wp2
    go_end0
    exact ⟨rfl, HP.out.1, HP.out.2⟩
end Go.Proofs.Ytkfpnilbjjkhgaa
