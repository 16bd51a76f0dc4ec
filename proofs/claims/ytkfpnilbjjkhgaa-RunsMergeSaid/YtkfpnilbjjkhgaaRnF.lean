/-
  THE WALKS of runs.New, Run.Len.
-/
import Derived.Test.YtkfpnilbjjkhgaaRnE
namespace Go.Proofs.Ytkfpnilbjjkhgaa
open Go.RowKit Go.Lib Go.Sort

/-- A run, as a value: its posts lie in a row of their own. -/
def RunPost (ls : List Po) (w : World) (e : Ending) (w' : World) : Prop :=
  ∃ A c, e = .returned (.agg #[.slice A ls.length c]) ∧ w'.ownsRow w.heap.size 31 2 (.slice A ls.length c) ls.length (flatP ls) ∧ Below w.heap.size w w'
theorem info_run (v : Value) : (Try.prog.info? 28).map (·.size) = some [v].length := by kernel_rfl
theorem one_slice (A : Option Addr) (n c : Nat) : ∀ u ∈ [Value.slice A n c], u.oneCell' = true := by
  intro u hu
  simp at hu
  subst hu
  rfl
theorem one_slice' (A : Option Addr) (n c : Nat) : (#[Value.slice A n c]).all (·.oneCell') = true := by simp [Value.oneCell']
theorem own_wide {w : World} {B B' : Nat} {e : TypeId} {s : Nat} {v : Value} {n : Nat} {xs : List Value} (h : w.ownsRow B e s v n xs) (hb : B' ≤ B) : w.ownsRow B' e s v n xs := by
  refine ⟨h.1, ?_⟩
  rcases h.2 with h2 | ⟨g, cap, cur, hv, hg, r⟩
  · exact .inl h2
  · exact .inr ⟨g, cap, cur, hv, by omega, r⟩
set_option maxRecDepth 100000 in
theorem new_run (w : World) (A : Option Addr) (n c : Nat) (ls : List Po) (h : RP w A n ls) (hn : n ≤ 1000000) (hnc : n ≤ c) :
    Calls Try.prog 11 #[.slice A n c] w (RunPost (newF ls) w) := by
  have H := Lib.hid h
  clear h
  go_enter Try.func11, Try.ntmps11
  go_wp2_with fail
  have hb1 : Below w.heap.size w (w.alloc (.cells #[.slice none 0 0] 28)) := (Below.refl _ _).alloc (Nat.le_refl _) _
  have hc1 : (w.alloc (.cells #[.slice none 0 0] 28)).heap[w.heap.size]? = some (.cells #[.slice none 0 0] 28 (0, 0)) := heap_alloc_new w _
  have hs1 : (w.alloc (.cells #[.slice none 0 0] 28)).heap.size = w.heap.size + 1 := by simp
  obtain ⟨w1, hw1⟩ : ∃ w1, w1 = w.alloc (.cells #[.slice none 0 0] 28) := ⟨_, rfl⟩
  rw [← hw1] at hb1 hc1 hs1 ⊢
  have HS1 := Lib.hid hs1
  clear hw1 hs1
  refine (clone_posts w1 A n c ls (H.out.below hb1) hn hnc).mono ?_
  rintro e w2 ⟨A2, c2, rfl, hown2, hb2⟩
  have HB := Lib.hid hb2
  clear hb2
  go_wp2_with fail
  refine (sort_any w2 w1.heap.size A2 n c2 ls hown2 hn).mono ?_
  rintro e w3 ⟨rfl, hown3, hb3⟩
  have HB3 := Lib.hid (hb3 w1 HB.out)
  clear hb3 hown2
  go_wp2_with fail
  have hl1 := hown3.1
  rw [flatP_len] at hl1
  refine (compact_posts w3 w1.heap.size A2 n c2 (sortF ls) hown3 hn HB3.out.size).mono ?_
  rw [newF_eq]
  rintro e w4 ⟨A4, c4, rfl, hown4, hb4⟩
  have hb4' := hb4 w1 HB3.out
  have hc4 := heap_below hc1 hb4'
  have hth : w4.there w.heap.size 0 (#[Value.slice A4 (newF ls).length c4]).size := there_blk hc4 (by simp)
  have hne : (Value.slice A4 (newF ls).length c4).ownBlock ≠ some w.heap.size := fun e => by
    have h5 := (hown4.lt _ e).1
    have := HS1.out
    omega
  have hown5 : (w4.setCells w.heap.size 0 [Value.slice A4 (newF ls).length c4]).ownsRow w.heap.size 31 2 (.slice A4 (newF ls).length c4) (newF ls).length (flatP (newF ls)) :=
    own_wide (own_of_block hown4 fun b hb => (grownBy_setCells w4 w.heap.size _ _ w4 (grownBy_refl w4 _)).block b (hown4.lt _ hb).2 (by rintro e; cases e; exact hne hb)) (by rw [HS1.out]; omega)
  have hb5 : Below w.heap.size w (w4.setCells w.heap.size 0 [Value.slice A4 (newF ls).length c4]) := below_setCells (Nat.le_refl _) _ _ _ (hb1.trans (hb4'.mono (by rw [HS1.out]; omega)))
  have hr5 : (w4.setCells w.heap.size 0 [Value.slice A4 (newF ls).length c4]).rangeAt w.heap.size 0 [Value.slice A4 (newF ls).length c4] := World.rangeAt_setCells_same _ _ _ _ hth
  obtain ⟨w5, hw5⟩ : ∃ w5, w5 = w4.setCells w.heap.size 0 [Value.slice A4 (newF ls).length c4] := ⟨_, rfl⟩
  rw [← hw5] at hown5 hb5 hr5
  have Hw5 := Lib.hid hw5
  have HO := Lib.hid (And.intro hown5 hb5)
  have HR := Lib.hid hr5
  obtain ⟨N, hN⟩ : ∃ N, N = (newF ls).length := ⟨_, rfl⟩
  clear hw5 hown5 hb5 hr5 hown3 hown4 hb4 hb4' hl1 hb1 hc1
  go_wp2_with ((with_reducible show wpList _ _ _ (⟨_, Op.store 28 _ _, _, _, _, _⟩ :: _) _ _); refine wpList_store_mid rfl _ _ _ rfl w.heap.size 0 #[.slice A4 (newF ls).length c4] rfl rfl hth (info_run _) (one_slice' _ _ _) ?_; rw [show (#[Value.slice A4 (newF ls).length c4]).toList = [Value.slice A4 (newF ls).length c4] from rfl, ← Hw5.out])
  simp only [Act.put]
  refine bodyPost_ret (v := .agg #[.slice A4 (newF ls).length c4]) (results_cell rfl _ _ _ w.heap.size 0 rfl _ _ HR.out Try.underlying28 rfl (info_run _)) rfl ?_
  exact ⟨A4, c4, rfl, HO.out.1, HO.out.2⟩
end Go.Proofs.Ytkfpnilbjjkhgaa
