/-
  THE WALK of the tree's Add.
-/
import Derived.Test.YtkcmacglomdfcaaTrB
import Derived.Test.YtkcmacglomdfcaaPfG
namespace Go.Proofs.Ytkcmacglomdfcaa
open Go.RowKit

theorem run_lookup_ok {P : Program} {a : Act} {o : Oper} {u : World} {m x : Operand} {t : TypeId} {v : Value} (hop : o.op = .lookup t m x true) (M key : Value) (hm : a.eval m = M) (hx : a.eval x = key) (hrun : (Instr.lookup t M key true).run P u = .ok v u) : (execOp a.eval o).run P u = .ok (.value v) u := by
  simp [execOp, hop, hm, hx, hrun, Result.andThen]
theorem info_sums : (Try.prog.info? 42).map (fun i => (i.zero, i.size, i.bytes)) = some (some (.slice none 0 0), 1, 24) := by kernel_rfl
theorem getLastD_at {α : Type} {r : List α} {z : α} (h : 0 < r.length) : r[r.length - 1]? = some (r.getLastD z) := by
  rw [← List.getLast?_eq_getElem?, List.getLastD_eq_getLast?]
  cases hr : r.getLast? with
  | none => rw [List.getLast?_eq_none_iff] at hr; subst hr; simp at h
  | some y => rfl
/-- What Add leaves. -/
def AddPost (F : Dg → Dg) (w : World) (B g mb : Nat) (V : Value) (us : List Value) (ls : List Dg) (x : Dg) (e : Ending) (w' : World) : Prop := ∃ V' us' n' D', e = .returned (.tuple #[.int .i64 (ls.length : Nat), .nilIface]) ∧ Tr B g mb V' us' (treeF F (ls ++ [x])) n' D' w' ∧ Fnd (ls ++ [x]) D' ∧ n' ≤ ls.length + 1 ∧ Below B w w' ∧ ∀ b, b < w.heap.size → Off g mb V us b → w'.heap[b]? = w.heap[b]? ∧ Off g mb V' us' b
theorem AddS.done {F : Dg → Dg} {w u : World} {B g mb s n : Nat} {V V1 : Value} {us us1 : List Value} {rows : List (List Dg)} {D : DataW Unit} {d x : Dg} {ls : List Dg} (h0 : ∀ b, b < B → Off g mb V us b) (hB : B ≤ w.heap.size) (h : AddS w B g mb V us s V1 us1 rows n D d u) (hr : rows = addL F (treeF F ls) x) (hf : Fnd (ls ++ [x]) D) (hn : n ≤ ls.length + 1) : AddPost F w B g mb V us ls x (.returned (.tuple #[.int .i64 (ls.length : Nat), .nilIface])) u := by
  subst hr
  refine ⟨V1, us1, n, D, rfl, by rw [treeF_snoc]; exact h.tr, hf, hn, ⟨h.env.1, h.env.2.1, h.env.2.2.1, h.env.2.2.2, fun b hb => (h.keep b (by omega) (h0 b hb)).1⟩, h.keep⟩
section
variable {F : List UInt8 → List UInt8} (HF : Dig F)
include HF
set_option maxRecDepth 100000 in
set_option maxHeartbeats 16000000 in
theorem add_any (w : World) (B g mb n0 : Nat) (V : Value) (us0 : List Value) (D0 : DataW Unit) (ls : List Dg) (h : Tr B g mb V us0 (treeF F ls) n0 D0 w) (hBw : B ≤ w.heap.size) (hf : Fnd ls D0) (hn0 : n0 ≤ ls.length) (h32 : ∀ x ∈ ls, x.length = 32) (hlen : ls.length < 1048576) (x : Dg) (hx : x.length = 32) :
    Calls Try.prog 47 #[.pointer (some ⟨g, 0, none⟩), SumV x] w (AddPost F w B g mb V us0 ls x) := by
  have Hoff := Lib.hid (fun b (hb : b < B) => h.offB hb)
  have hst := AddS.start h hx
  have hLn := len_any _ hst.tr
  rw [lenT_tree] at hLn
  have Hst := Lib.hid hst
  obtain ⟨N, hN⟩ : ∃ N, N = ls.length := ⟨_, rfl⟩
  have hrb := treeF_bounds (F := F) ls
  obtain ⟨rows, hrows⟩ : ∃ rows, rows = treeF F ls := ⟨_, rfl⟩
  rw [← hrows] at Hst hrb
  rw [← hN] at hrb hn0 hlen hLn
  have hLn1 := Lib.hid hLn
  have Hrb := Lib.hid (And.intro hrb.1 hrb.2)
  have hrl : rows.length ≤ 1048576 := by omega
  have HN := Lib.hid (And.intro hN hrows)
  have Hf := Lib.hid (And.intro hf h32)
  have Hx := Lib.hid hx
  have dN : decide ((1048576 : Int) ≤ (N : Int)) = false := decide_eq_false (by omega)
  have dN' : decide (1048576 ≤ N) = false := decide_eq_false (by omega)
  obtain ⟨q0, hq0⟩ : ∃ q, q = decide (x ∈ ls) := ⟨_, rfl⟩
  obtain ⟨p0, hp0⟩ : ∃ p, p = posF ls x := ⟨_, rfl⟩
  have HLk : Hid (∀ u : World, u.ownsMap Try.prog 26 (plainElem Try.prog 3) mb n0 D0 → (Instr.lookup 124 (.map (some mb)) (.agg (x.map B8).toArray) true).run Try.prog u = .ok (.tuple #[.int .i64 (p0 : Nat), .bool q0]) u) := Lib.hid fun u hu => by
    rw [hq0, hp0]
    exact look_tree hu hf hx
  have hix := info_of x hx
  have hix' := info_of' x hx
  have hNd := node_any HF
  have HNd := Lib.hid hNd
  have HF32 := Lib.hid HF.len
  have eg1 := enters_of Try.func33 (by kernel_rfl) rfl
  have Hp0 := Lib.hid (And.intro hq0 hp0)
  clear h hst hLn hf h32 hrows hN hx hrb hNd hq0 hp0
  unfold SumV
  cases q0 with
  | true =>
    have hin : x ∈ ls := by
      have := Hp0.out.1
      simpa using this.symm
    have Hfn : Hid (Fnd (ls ++ [x]) D0 ∧ n0 ≤ N + 1) := Lib.hid ⟨Hf.out.1.same hin, by omega⟩
    clear hin
    go_enter Try.func47, Try.ntmps47
    go_wp2_with fail
    refine hLn1.out.mono ?_
    rintro e w1 ⟨rfl, rfl⟩
    obtain ⟨w1, hw1⟩ : ∃ w1, w1 = w.alloc (.cells (x.map B8).toArray 26) := ⟨_, rfl⟩
    rw [← hw1] at Hst ⊢
    clear hw1 hLn1
    go_wp2_with fail
    have hsd := Hst.out.stable (below_drewN (Below.refl _ w1) 1)
    refine wp_region_noPanic ?_
    refine wp_region_moves 11 (fun u => AddS w B g mb V us0 w.heap.size (V) (us0) (rows) (n0) (D0) x u) (fun u u' => u = u') (fun u => rfl) (fun h k => h.trans k) (by kernel_rfl) (by kernel_rfl) hsd (fun _ _ _ _ _ h => h) ?_
    simp only [List.take_succ_cons, List.take_zero, List.drop_succ_cons, List.drop_zero]
    refine wpMH_moveW (fun u => rfl) (by rfl) _ rfl _ rfl ?_
    simp only [Act.put, List.setIfInBounds_toArray, List.set_cons_zero, List.set_cons_succ]
    refine wpMH_pureW (fun u => rfl) (by rfl) (.pointer (some ⟨g, 0, none⟩)) (fun u hu => by go_simp) ?_
    simp only [Act.put, List.setIfInBounds_toArray, List.set_cons_zero, List.set_cons_succ]
    refine wpMH_pureW (fun u => rfl) (by rfl) (.pointer (some ⟨g, 1, none⟩)) (fun u hu => by go_simp) ?_
    simp only [Act.put, List.setIfInBounds_toArray, List.set_cons_zero, List.set_cons_succ]
    refine wpMH_pureW (fun u => rfl) (by rfl) (.map (some mb)) (fun u hu => by have hc := hu.tr.c1; go_simp) ?_
    simp only [Act.put, List.setIfInBounds_toArray, List.set_cons_zero, List.set_cons_succ]
    refine wpMH_loadW (fun u => rfl) (by rfl) _ _ rfl w.heap.size 0 rfl (x.map B8) _ (fun u h => h.r3) Try.underlying26 rfl hix ?_
    simp only [Act.put, List.setIfInBounds_toArray, List.set_cons_zero, List.set_cons_succ]
    refine wpMH_pureW (fun u => rfl) (by rfl) (.tuple #[.int .i64 (p0 : Nat), .bool true]) (fun u hu => run_lookup_ok rfl _ _ rfl rfl (HLk.out u hu.tr.map)) ?_
    simp only [Act.put, List.setIfInBounds_toArray, List.set_cons_zero, List.set_cons_succ]
    refine wpMH_moveW (fun u => rfl) (by rfl) _ rfl _ rfl ?_
    simp only [Act.put, List.setIfInBounds_toArray, List.set_cons_zero, List.set_cons_succ]
    refine wpMH_pureW (fun u => rfl) (by rfl) (.int .i64 (p0 : Nat)) (fun u hu => by rfl) ?_
    simp only [Act.put, List.setIfInBounds_toArray, List.set_cons_zero, List.set_cons_succ]
    refine wpMH_pureW (fun u => rfl) (by rfl) (.bool true) (fun u hu => by rfl) ?_
    simp only [Act.put, List.setIfInBounds_toArray, List.set_cons_zero, List.set_cons_succ]
    refine wpMH_pureW (fun u => rfl) (by rfl) (.int .i64 (p0 : Nat)) (fun u hu => by rfl) ?_
    simp only [Act.put, List.setIfInBounds_toArray, List.set_cons_zero, List.set_cons_succ]
    refine wpMH_pureW (fun u => rfl) (by rfl) (.bool true) (fun u hu => by rfl) ?_
    simp only [Act.put, List.setIfInBounds_toArray, List.set_cons_zero, List.set_cons_succ]
    refine wpMH_nil ?_
    refine wpMT_nil ?_
    rintro u1 - rfl
    refine NoPanic.normal ?_
    have hsd2 := Lib.hid hsd
    clear hsd Hst
    have h00 : Hid (∃ done d V1 us1, AddS w B g mb V us0 w.heap.size V1 us1 (done ++ rows.drop 0) n0 (D0) d w1.drew ∧ done.length = 0 ∧ addL F rows x = done ++ addL F (rows.drop 0) d) := Lib.hid ⟨[], x, V, us0, (by rw [List.nil_append, List.drop_zero]; exact hsd2.out), rfl, by simp⟩
    clear hsd2
    go_wp2_with fail
    go_loopw [9] (fun iv wr => ∃ k : Nat, k ≤ rows.length ∧ iv = .int .i64 (k : Int) ∧ Hid (∃ done d V1 us1, AddS w B g mb V us0 w.heap.size V1 us1 (done ++ rows.drop k) n0 (D0) d wr ∧ done.length = k ∧ addL F rows x = done ++ addL F (rows.drop k) d)) (fun iv _ => rows.length + 1 - (intOf iv).toNat)
    case atStart => exact ⟨0, Nat.zero_le _, rfl, h00⟩
    case round =>
      obtain ⟨k, hk, rfl, hqq⟩ := hrel
      obtain ⟨done, d, V1, us1, hA, hdl, hadd⟩ := hqq.out
      have hid1 := info_of d hA.d32
      have hid1' := info_of' d hA.d32
      have Hd1l : Hid ((d.map B8).length = 1 * 32) := Lib.hid (by rw [List.length_map, hA.d32])
      have hd32 := hA.d32
      clear hqq h00
      obtain ⟨wo, rfl⟩ : ∃ wo : World, wo = wr := ⟨_, rfl⟩
      by_cases hkl : k < rows.length
      · obtain ⟨r, hr⟩ : ∃ r, rows[k]? = some r := ⟨_, List.getElem?_eq_getElem hkl⟩
        have hdr : rows.drop k = r :: rows.drop (k + 1) := by
          rw [List.drop_eq_getElem_cons hkl]
          rw [List.getElem?_eq_getElem hkl] at hr
          cases hr
          rfl
        have hrN : r.length ≤ N := Hrb.out.2 r (List.mem_of_getElem? hr)
        obtain ⟨R, hRe⟩ : ∃ R, R = done ++ rows.drop k := ⟨_, rfl⟩
        have hRl : R.length = rows.length := by rw [hRe, List.length_append, List.length_drop, hdl]; omega
        have hRk : R[k]? = some r := by rw [hRe, hdr, List.getElem?_append_right (by omega), hdl, Nat.sub_self]; rfl
        have hsetR : ∀ y : List Dg, R.set k y = (done ++ [y]) ++ rows.drop (k + 1) := fun y => by
          rw [hRe, hdr, List.set_append_right _ _ (by omega), hdl, Nat.sub_self]
          simp
        rw [← hRe] at hA
        rw [hdr] at hadd
        have hform := hA.tr.form
        obtain ⟨m, hm⟩ : ∃ m, m = R.length := ⟨_, rfl⟩
        rw [← hm] at hform
        obtain ⟨Av, c1, hV1, hmc, hA1, hcells⟩ := hform
        subst hV1
        obtain ⟨vb, hAv⟩ := hA1 (by omega)
        subst hAv
        obtain ⟨xk, hxk, -, -⟩ := hcells vb rfl k r hRk
        obtain ⟨q, hqr⟩ : ∃ q, q = r.length := ⟨_, rfl⟩
        obtain ⟨⟨Ax, cx, hxe⟩, -, hr32⟩ := hA.tr.each k xk r hxk hRk
        rw [← hqr] at hxe
        subst hxe
        have Hxk := Lib.hid (And.intro hxk hRk)
        have Hm := Lib.hid hm
        have Hrq := Lib.hid hqr
        have Hdl := Lib.hid hdl
        have HcK : Hid (∀ u, AddS w B g mb V us0 w.heap.size (.slice (some ⟨vb, 0, none⟩) m c1) us1 R n0 (D0) d u → u.cell? ⟨vb, k, none⟩ = some (.slice Ax q cx)) := Lib.hid fun u hu => by
          obtain ⟨A', c', e1, -, -, e4⟩ := hu.tr.form
          injection e1 with e1
          obtain ⟨x', h1, h2, -⟩ := e4 vb e1.symm k r hRk
          rw [hxk] at h1
          cases h1
          exact h2
        have HfK : Hid (∀ u, AddS w B g mb V us0 w.heap.size (.slice (some ⟨vb, 0, none⟩) m c1) us1 R n0 (D0) d u → u.frozen? ⟨vb, k, none⟩ = false) := Lib.hid fun u hu => by
          obtain ⟨A', c', e1, -, -, e4⟩ := hu.tr.form
          injection e1 with e1
          obtain ⟨x', h1, -, h3⟩ := e4 vb e1.symm k r hRk
          exact h3
        have Hr32 : Hid (∀ y ∈ r ++ [d], y.length = 32) := Lib.hid fun y hy => by
          rcases List.mem_append.1 hy with hy | hy
          · exact hr32 y hy
          · simp at hy; subst hy; exact hd32
        have dk : ((k : Int) == (m : Int)) = false := by rw [beq_eq_false_iff_ne]; omega
        have dk' : (k == m) = false := by rw [beq_eq_false_iff_ne]; omega
        have b0 : (0 : Int) ≤ (k : Int) := by omega
        have b1 : (k : Int) < (m : Int) := by omega
        have c0 := hA.tr.c0
        have HA1 := Lib.hid hA
        have hqN : q ≤ N := by omega
        have hkm : k < m := by omega
        by_cases hev : r.length % 2 = 0
        · have Hfin : Hid (R.set k (r ++ [d]) = addL F rows x) := Lib.hid (by rw [hsetR, hadd, addL, if_pos hev]; simp)
          have hrem : ((q : Int) + 1).tmod 2 = 1 := by rw [hqr]; rw [Int.tmod_eq_emod_of_nonneg (by omega)]; omega
          clear hr hdr hrN hRe hRl hRk hsetR hA hadd hcells hA1 hxk hm hqr hr32 hdl hev
          go_wp2_with fail
          have hsd5 := HA1.out.stable (below_drewN (Below.refl _ _) 1)
          refine wp_region_noPanic ?_
          refine wp_region_moves 8 (fun u => AddS w B g mb V us0 w.heap.size (.slice (some ⟨vb, 0, none⟩) m c1) (us1) (R) (n0) (D0) d u) (fun u u' => u = u') (fun u => rfl) (fun h k => h.trans k) (by kernel_rfl) (by kernel_rfl) hsd5 (fun _ _ _ _ _ h => h) ?_
          simp only [List.take_succ_cons, List.take_zero, List.drop_succ_cons, List.drop_zero]
          refine wpMH_moveW (fun u => rfl) (by rfl) _ rfl _ rfl ?_
          simp only [Act.put, List.setIfInBounds_toArray, List.set_cons_zero, List.set_cons_succ]
          refine wpMH_pureW (fun u => rfl) (by rfl) (.pointer (some ⟨g, 0, none⟩)) (fun u hu => by go_simp) ?_
          simp only [Act.put, List.setIfInBounds_toArray, List.set_cons_zero, List.set_cons_succ]
          refine wpMH_pureW (fun u => rfl) (by rfl) (.pointer (some ⟨g, 0, none⟩)) (fun u hu => by go_simp) ?_
          simp only [Act.put, List.setIfInBounds_toArray, List.set_cons_zero, List.set_cons_succ]
          refine wpMH_pureW (fun u => rfl) (by rfl) (.slice (some ⟨vb, 0, none⟩) m c1) (fun u hu => by have hc := hu.tr.c0; go_simp) ?_
          simp only [Act.put, List.setIfInBounds_toArray, List.set_cons_zero, List.set_cons_succ]
          refine wpMH_moveW (fun u => rfl) (by rfl) _ rfl _ rfl ?_
          simp only [Act.put, List.setIfInBounds_toArray, List.set_cons_zero, List.set_cons_succ]
          refine wpMH_pureW (fun u => rfl) (by rfl) (.pointer (some ⟨vb, k, none⟩)) (fun u hu => by go_simp) ?_
          simp only [Act.put, List.setIfInBounds_toArray, List.set_cons_zero, List.set_cons_succ]
          refine wpMH_pureW (fun u => rfl) (by rfl) (.slice Ax q cx) (fun u hu => by have hc := HcK.out u hu; go_simp) ?_
          simp only [Act.put, List.setIfInBounds_toArray, List.set_cons_zero, List.set_cons_succ]
          refine wpMH_loadW (fun u => rfl) (by rfl) _ _ rfl w.heap.size 0 rfl (d.map B8) _ (fun u h => h.r3) Try.underlying26 rfl hid1 ?_
          simp only [Act.put, List.setIfInBounds_toArray, List.set_cons_zero, List.set_cons_succ]
          refine wpMH_nil ?_
          obtain ⟨wd, hwd⟩ : ∃ wd, wd = wo.drew := ⟨_, rfl⟩
          have hsd6 : AddS w B g mb V us0 w.heap.size (.slice (some ⟨vb, 0, none⟩) m c1) (us1) (R) (n0) (D0) d wd := by rw [hwd]; exact hsd5
          rw [← hwd]
          clear hwd hsd5
          refine wpMT_cons ?_
          rintro u1 - rfl
          go_wp2_with fail
          have hal : Below wd.heap.size wd (wd.alloc (.cells (d.map B8).toArray 26)) := (Below.refl _ _).alloc (Nat.le_refl _) _
          have hsz : (wd.alloc (.cells (d.map B8).toArray 26)).heap.size = wd.heap.size + 1 := by simp
          have hrc := rc_new wd (d.map B8) 26 (0, 0)
          have hsa := hsd6.stable hal
          refine ⟨hsa, ?_⟩
          obtain ⟨ua, hua⟩ : ∃ ua, ua = wd.alloc (.cells (d.map B8).toArray 26) := ⟨_, rfl⟩
          obtain ⟨ub, hub⟩ : ∃ ub, ub = wd.heap.size := ⟨_, rfl⟩
          rw [← hua, ← hub] at hrc
          rw [← hua] at hsa hsz
          rw [← hua, ← hub]
          have hnew := hsd6.fresh (nb := ua.heap.size) (by omega)
          have Hnew := Lib.hid hnew
          have hBa : B ≤ ua.heap.size := by have := hsa.env.2.2.2; omega
          have howk := (hsa.tr.each k _ _ Hxk.out.1 Hxk.out.2).2.1
          rw [← Hrq.out] at howk
          have Hsa := Lib.hid hsa
          clear hua hub hal hsd6 hsa hsz hnew
          refine wpMT_cons ?_
          rintro u2 - rfl
          go_wp2_with (at_builtin; refine wpList_append_from rfl (.tmp 61) (.tmp 63) 42 rfl B hBa Try.underlying42 info_sum3 rfl (by decide) (.slice Ax q cx) q _ rfl howk (some ⟨ub, 0, none⟩) 1 1 (d.map B8) rfl hrc (by rw [Hd1l.out]) (b8_oneCell d) (by unfold maxLen; omega) (by omega) ?_; intro v6 w6 hown6 hk6 hg6 hv6; obtain ⟨A6, c6, rfl, hc6, -, hrg6⟩ := own_formK hown6; have H6 := Lib.hid (And.intro (Hsa.out.grow Hxk.out.1 Hxk.out.2 hg6 (by rw [← Hrq.out]; exact hk6)) (And.intro hown6 (And.intro hv6 hrg6))); clear hown6 hk6 hg6 hv6 hrg6)
          clear howk hrc Hsa
          refine ⟨H6.out.1, ?_⟩
          refine wpMT_cons ?_
          rintro u3 - rfl
          go_wp2_with fail
          refine ⟨H6.out.1, ?_⟩
          refine wpMT_nil ?_
          rintro u4 - rfl
          refine NoPanic.normal ?_
          have c06 := H6.out.1.tr.c0
          have ck6 := HcK.out w6 H6.out.1
          have fk6 := HfK.out w6 H6.out.1
          have hS := H6.out.1.setLevel' Hm.out Hxk.out.1 (x' := .slice A6 (q + 1) c6) (r' := r ++ [d]) ⟨A6, c6, by rw [List.length_append, ← Hrq.out]; rfl⟩ (by
            have h := H6.out.2.1
            rw [List.length_append, ← Hrq.out, List.flatten_append, List.map_append]
            simpa using h) Hr32.out (by
            rcases H6.out.2.2.1 with hv | hv
            · exact .inl hv
            · exact .inr ⟨_, hv, Hnew.out⟩)
          have HS := Lib.hid hS
          clear hS
          go_wp2_with fail
          go_ret2
          rw [show (N : Int) = (ls.length : Nat) by rw [HN.out.1]]
          exact AddS.done Hoff.out hBw HS.out (by rw [← HN.out.2]; exact Hfin.out) Hfn.out.1 (by have := Hfn.out.2; have := HN.out.1; omega)
        · have hqo : q % 2 = 1 := by omega
          obtain ⟨q1, hq1⟩ : ∃ q1, q1 = q - 1 := ⟨_, rfl⟩
          have hq1' : q1 + 1 = q := by omega
          obtain ⟨z, hz⟩ : ∃ z, z = r.getLastD [] := ⟨_, rfl⟩
          have hzr : r[q1]? = some z := by rw [hz, hq1, hqr]; exact getLastD_at (by omega)
          have hz32 : z.length = 32 := hr32 z (List.mem_of_getElem? hzr)
          obtain ⟨dn, hdn⟩ : ∃ dn, dn = nodeF F z d := ⟨_, rfl⟩
          have hdn32 : dn.length = 32 := by rw [hdn]; exact HF32.out _
          have Hz := Lib.hid (And.intro hzr hz32)
          have Hdn := Lib.hid hdn32
          have hiz := info_of z hz32
          have hidn' := info_of' dn hdn32
          have HNn : Hid (∀ u : World, Calls Try.prog 33 #[.agg (z.map B8).toArray, .agg (d.map B8).toArray] u fun e w' => e = .returned (.agg (dn.map B8).toArray) ∧ Below u.heap.size u w') := Lib.hid fun u => by rw [hdn]; exact HNd.out u z d hz32 hd32
          have Hset : Hid (R.set k (r ++ [d]) = (done ++ [r ++ [d]]) ++ rows.drop (k + 1)) := Lib.hid (hsetR _)
          have Hfin : Hid (addL F rows x = (done ++ [r ++ [d]]) ++ addL F (rows.drop (k + 1)) dn) := Lib.hid (by rw [hadd, addL, if_neg hev, hdn, hz]; simp)
          have hrem : ((q : Int) + 1).tmod 2 = 0 := by rw [Int.tmod_eq_emod_of_nonneg (by omega)]; omega
          clear hr hdr hrN hRe hRl hRk hsetR hA hadd hcells hA1 hxk hm hqr hr32 hdl hev hz hzr hz32 hdn hdn32 hq1 hqo
          go_wp2_with fail
          have hsd5 := HA1.out.stable (below_drewN (Below.refl _ _) 1)
          refine wp_region_noPanic ?_
          refine wp_region_moves 8 (fun u => AddS w B g mb V us0 w.heap.size (.slice (some ⟨vb, 0, none⟩) m c1) (us1) (R) (n0) (D0) d u) (fun u u' => u = u') (fun u => rfl) (fun h k => h.trans k) (by kernel_rfl) (by kernel_rfl) hsd5 (fun _ _ _ _ _ h => h) ?_
          simp only [List.take_succ_cons, List.take_zero, List.drop_succ_cons, List.drop_zero]
          refine wpMH_moveW (fun u => rfl) (by rfl) _ rfl _ rfl ?_
          simp only [Act.put, List.setIfInBounds_toArray, List.set_cons_zero, List.set_cons_succ]
          refine wpMH_pureW (fun u => rfl) (by rfl) (.pointer (some ⟨g, 0, none⟩)) (fun u hu => by go_simp) ?_
          simp only [Act.put, List.setIfInBounds_toArray, List.set_cons_zero, List.set_cons_succ]
          refine wpMH_pureW (fun u => rfl) (by rfl) (.pointer (some ⟨g, 0, none⟩)) (fun u hu => by go_simp) ?_
          simp only [Act.put, List.setIfInBounds_toArray, List.set_cons_zero, List.set_cons_succ]
          refine wpMH_pureW (fun u => rfl) (by rfl) (.slice (some ⟨vb, 0, none⟩) m c1) (fun u hu => by have hc := hu.tr.c0; go_simp) ?_
          simp only [Act.put, List.setIfInBounds_toArray, List.set_cons_zero, List.set_cons_succ]
          refine wpMH_moveW (fun u => rfl) (by rfl) _ rfl _ rfl ?_
          simp only [Act.put, List.setIfInBounds_toArray, List.set_cons_zero, List.set_cons_succ]
          refine wpMH_pureW (fun u => rfl) (by rfl) (.pointer (some ⟨vb, k, none⟩)) (fun u hu => by go_simp) ?_
          simp only [Act.put, List.setIfInBounds_toArray, List.set_cons_zero, List.set_cons_succ]
          refine wpMH_pureW (fun u => rfl) (by rfl) (.slice Ax q cx) (fun u hu => by have hc := HcK.out u hu; go_simp) ?_
          simp only [Act.put, List.setIfInBounds_toArray, List.set_cons_zero, List.set_cons_succ]
          refine wpMH_loadW (fun u => rfl) (by rfl) _ _ rfl w.heap.size 0 rfl (d.map B8) _ (fun u h => h.r3) Try.underlying26 rfl hid1 ?_
          simp only [Act.put, List.setIfInBounds_toArray, List.set_cons_zero, List.set_cons_succ]
          refine wpMH_nil ?_
          obtain ⟨wd, hwd⟩ : ∃ wd, wd = wo.drew := ⟨_, rfl⟩
          have hsd6 : AddS w B g mb V us0 w.heap.size (.slice (some ⟨vb, 0, none⟩) m c1) (us1) (R) (n0) (D0) d wd := by rw [hwd]; exact hsd5
          rw [← hwd]
          clear hwd hsd5
          refine wpMT_cons ?_
          rintro u1 - rfl
          go_wp2_with fail
          have hal : Below wd.heap.size wd (wd.alloc (.cells (d.map B8).toArray 26)) := (Below.refl _ _).alloc (Nat.le_refl _) _
          have hsz : (wd.alloc (.cells (d.map B8).toArray 26)).heap.size = wd.heap.size + 1 := by simp
          have hrc := rc_new wd (d.map B8) 26 (0, 0)
          have hsa := hsd6.stable hal
          refine ⟨hsa, ?_⟩
          obtain ⟨ua, hua⟩ : ∃ ua, ua = wd.alloc (.cells (d.map B8).toArray 26) := ⟨_, rfl⟩
          obtain ⟨ub, hub⟩ : ∃ ub, ub = wd.heap.size := ⟨_, rfl⟩
          rw [← hua, ← hub] at hrc
          rw [← hua] at hsa hsz
          rw [← hua, ← hub]
          have hnew := hsd6.fresh (nb := ua.heap.size) (by omega)
          have Hnew := Lib.hid hnew
          have hBa : B ≤ ua.heap.size := by have := hsa.env.2.2.2; omega
          have howk := (hsa.tr.each k _ _ Hxk.out.1 Hxk.out.2).2.1
          rw [← Hrq.out] at howk
          have Hsa := Lib.hid hsa
          clear hua hub hal hsd6 hsa hsz hnew
          refine wpMT_cons ?_
          rintro u2 - rfl
          go_wp2_with (at_builtin; refine wpList_append_from rfl (.tmp 61) (.tmp 63) 42 rfl B hBa Try.underlying42 info_sum3 rfl (by decide) (.slice Ax q cx) q _ rfl howk (some ⟨ub, 0, none⟩) 1 1 (d.map B8) rfl hrc (by rw [Hd1l.out]) (b8_oneCell d) (by unfold maxLen; omega) (by omega) ?_; intro v6 w6 hown6 hk6 hg6 hv6; obtain ⟨A6, c6, rfl, hc6, -, hrg6⟩ := own_formK hown6; have H6 := Lib.hid (And.intro (Hsa.out.grow Hxk.out.1 Hxk.out.2 hg6 (by rw [← Hrq.out]; exact hk6)) (And.intro hown6 (And.intro hv6 hrg6))); clear hown6 hk6 hg6 hv6 hrg6)
          clear howk hrc Hsa
          refine ⟨H6.out.1, ?_⟩
          refine wpMT_cons ?_
          rintro u3 - rfl
          go_wp2_with fail
          refine ⟨H6.out.1, ?_⟩
          refine wpMT_nil ?_
          rintro u4 - rfl
          refine NoPanic.normal ?_
          have c06 := H6.out.1.tr.c0
          have ck6 := HcK.out w6 H6.out.1
          have fk6 := HfK.out w6 H6.out.1
          have hS := H6.out.1.setLevel' Hm.out Hxk.out.1 (x' := .slice A6 (q + 1) c6) (r' := r ++ [d]) ⟨A6, c6, by rw [List.length_append, ← Hrq.out]; rfl⟩ (by
            have h := H6.out.2.1
            rw [List.length_append, ← Hrq.out, List.flatten_append, List.map_append]
            simpa using h) Hr32.out (by
            rcases H6.out.2.2.1 with hv | hv
            · exact .inl hv
            · exact .inr ⟨_, hv, Hnew.out⟩)
          obtain ⟨rb, hA6, -, -, -⟩ := H6.out.2.2.2 (by omega)
          subst hA6
          have HS := Lib.hid hS
          clear hS
          have e1 : (q : Int) + 1 - 2 = (q1 : Int) := by omega
          have e2 : ¬ ((q : Int) + 1 ≤ (q1 : Int)) := by omega
          have e3 : (q1 : Int) < (q : Int) + 1 := by omega
          have e4 : (0 : Int) ≤ (q1 : Int) := by omega
          go_wp2_with fail
          have hsz7 := HS.out
          obtain ⟨w7, hw7⟩ : ∃ w7, w7 = w6.setCell ⟨vb, k, none⟩ (.slice (some ⟨rb, 0, none⟩) (q + 1) c6) := ⟨_, rfl⟩
          rw [← hw7] at hsz7 ⊢
          have hrz : w7.rangeAt rb (q1 * 32) (z.map B8) := by
            have h1 := (hsz7.tr.each k _ _ (List.getElem?_set_self (by rw [H6.out.1.tr.len, ← Hm.out]; omega)) (List.getElem?_set_self (by rw [← Hm.out]; omega))).2
            obtain ⟨A', n', c', e', -, -, hr'⟩ := SS.of_own h1.1 h1.2 rfl
            cases e'
            obtain ⟨b', o', x', hb', hx', -, hrr⟩ := hr'.at_ (i := q1) (by omega)
            cases hb'
            rw [List.getElem?_append_left (by rw [← Hrq.out]; omega), Hz.out.1] at hx'
            cases hx'
            rwa [Nat.zero_add] at hrr
          have hd7 : AddS w B g mb V us0 w.heap.size (.slice (some ⟨vb, 0, none⟩) m c1) (us1.set k (.slice (some ⟨rb, 0, none⟩) (q + 1) c6)) (R.set k (r ++ [d])) (n0) (D0) d w7.drew ∧ w7.drew.rangeAt rb (q1 * 32) (z.map B8) := ⟨hsz7.stable (below_drewN (Below.refl _ _) 1), rangeAt_below' hrz (below_drewN (Below.refl _ _) 1)⟩
          clear hsz7 hrz hw7 HS H6 c06 ck6 fk6
          refine wp_region_noPanic ?_
          refine wp_region_movesT 8 (fun u => AddS w B g mb V us0 w.heap.size (.slice (some ⟨vb, 0, none⟩) m c1) (us1.set k (.slice (some ⟨rb, 0, none⟩) (q + 1) c6)) (R.set k (r ++ [d])) (n0) (D0) d u ∧ u.rangeAt rb (q1 * 32) (z.map B8)) (fun u u' => Below u.heap.size u u') (fun u => Below.refl _ _) (fun h k => h.trans (k.mono h.size)) (by kernel_rfl) (by kernel_rfl) hd7 (fun _ _ _ _ _ h => h) ?_
          simp only [List.take_succ_cons, List.take_zero, List.drop_succ_cons, List.drop_zero]
          refine wpMH_moveW (fun u => Below.refl _ _) (by rfl) _ rfl _ rfl ?_
          simp only [Act.put, List.setIfInBounds_toArray, List.set_cons_zero, List.set_cons_succ]
          refine wpMH_moveW (fun u => Below.refl _ _) (by rfl) _ rfl _ rfl ?_
          simp only [Act.put, List.setIfInBounds_toArray, List.set_cons_zero, List.set_cons_succ]
          refine wpMH_pureW (fun u => Below.refl _ _) (by rfl) (.int .i64 ((q + 1 : Nat) : Int)) (fun u hu => by go_simp) ?_
          simp only [Act.put, List.setIfInBounds_toArray, List.set_cons_zero, List.set_cons_succ]
          refine wpMH_pureW (fun u => Below.refl _ _) (by rfl) (.int .i64 (q1 : Int)) (fun u hu => by go_simp; rw [IntWalk.i64_in _ ⟨by omega, by omega⟩]) ?_
          simp only [Act.put, List.setIfInBounds_toArray, List.set_cons_zero, List.set_cons_succ]
          refine wpMH_pureW (fun u => Below.refl _ _) (by rfl) (.pointer (some ⟨rb, q1 * 32, none⟩)) (fun u hu => by go_simp) ?_
          simp only [Act.put, List.setIfInBounds_toArray, List.set_cons_zero, List.set_cons_succ]
          refine wpMH_loadW (fun u => Below.refl _ _) (by rfl) _ _ rfl rb (q1 * 32) rfl (z.map B8) _ (fun u h => h.2) Try.underlying26 rfl hiz ?_
          simp only [Act.put, List.setIfInBounds_toArray, List.set_cons_zero, List.set_cons_succ]
          refine wpMH_loadW (fun u => Below.refl _ _) (by rfl) _ _ rfl w.heap.size 0 rfl (d.map B8) _ (fun u h => h.1.r3) Try.underlying26 rfl hid1 ?_
          simp only [Act.put, List.setIfInBounds_toArray, List.set_cons_zero, List.set_cons_succ]
          refine wpMH_callW (by rfl) 33 _ _ rfl eg1 [.agg (z.map B8).toArray, .agg (d.map B8).toArray] rfl (.agg (dn.map B8).toArray) (fun u h => (HNn.out u).mono fun e w' ⟨h1, h2⟩ => ⟨h1, ⟨h.1.stable h2, rangeAt_below' h.2 h2⟩, h2⟩) ?_
          simp only [Act.put, List.setIfInBounds_toArray, List.set_cons_zero, List.set_cons_succ]
          refine wpMH_nil ?_
          intro u1 hu1 hM1
          have hth7 : u1.there w.heap.size 0 (dn.map B8).toArray.size := sz_there Hdn.out hu1.1.t3
          have H8 := Lib.hid hu1.1
          clear hu1 hM1 hd7
          go_wp2_with ((with_reducible show wpList _ _ _ (⟨_, Op.store 26 (.tmp 3) _, _, _, _, _⟩ :: _) _ _); refine wpList_store_row rfl _ _ _ rfl w.heap.size 0 (dn.map B8).toArray rfl rfl (hth7) hidn' (b8_all dn) ?_; intro w9 hg9 hs9 ht9 hth9; rw [List.toList_toArray] at ht9; have H9 := Lib.hid (H8.out.put hg9 ht9 (there_sz Hdn.out hth9) Hdn.out); clear hg9 hs9 ht9 hth9 hth7)
          refine NoPanic.normal ?_
          have HR : Hid (∃ done d V1 us1, AddS w B g mb V us0 w.heap.size V1 us1 (done ++ rows.drop (k + 1)) n0 (D0) d w9 ∧ done.length = k + 1 ∧ addL F rows x = done ++ addL F (rows.drop (k + 1)) d) := Lib.hid ⟨done ++ [r ++ [d]], dn, _, _, by
            have h := H9.out
            rw [Hset.out] at h
            exact h, by rw [List.length_append, Hdl.out]; rfl, Hfin.out⟩
          go_wp2_with fail
          first
            | (refine ⟨?_, ?measure⟩; repeat apply Exists.intro
               refine ⟨?rel, rfl⟩)
            | go_roundw
          case rel => exact ⟨k + 1, hkl, by go_num, HR⟩
          case measure => simp [intOf]; omega
      · have hkR : k = rows.length := by omega
        have hdr : rows.drop k = [] := by rw [hkR]; exact List.drop_length
        rw [hdr, List.append_nil] at hA
        rw [hdr] at hadd
        have c0 := hA.tr.c0
        have hform := hA.tr.form
        rw [hdl] at hform
        obtain ⟨Av, cv, hV1, -, -, -⟩ := hform
        subst hV1
        have dk : ((k : Int) == (k : Int)) = true := by simp
        have hal : Below wo.heap.size wo (wo.alloc (.cells #[.slice none 0 0] 42)) := (Below.refl _ _).alloc (Nat.le_refl _) _
        have hAa := hA.stable hal
        have hBa : B ≤ (wo.alloc (.cells #[.slice none 0 0] 42)).heap.size := by have := hAa.env.2.2.2; omega
        have hown0 := hAa.tr.own
        rw [hdl] at hown0
        have HAa := Lib.hid hAa
        have Hnew0 := Lib.hid (hAa.fresh (Nat.le_refl _))
        have Hdl := Lib.hid hdl
        have Hadd := Lib.hid hadd
        have HkR := Lib.hid hkR
        have Hlen1 : Hid (us1.length = k) := Lib.hid (by rw [hA.tr.len, hdl])
        clear hA hal hAa hdl hadd hkR hdr
        go_wp2_with (first
          | (at_builtin; refine wpList_append_from rfl (.tmp 50) (.tmp 51) 125 rfl B hBa Try.underlying125 info_sums rfl (by decide) (.slice Av k cv) k us1 rfl hown0 (some ⟨wo.heap.size, 0, none⟩) 1 1 [.slice none 0 0] rfl (rc_new wo _ _ _) rfl (by intro u hu; simp at hu; subst hu; rfl) (by unfold maxLen; omega) (by omega) ?_; intro v4 w4 hown4 hk4 hg4 hv4; obtain ⟨A4, c4, rfl, -, -, hrg4⟩ := own_formK hown4; have ho4 := (hg4.block g HAa.out.tr.lt.1 (fun e => HAa.out.tr.apart.2.1 e.symm)).trans HAa.out.tr.obj; have c04 : w4.cell? ⟨g, 0, none⟩ = some (.slice Av k cv) := (by rw [cell_of_row _ _ _ _ _ _ ho4]; rfl); have f04 : w4.frozen? ⟨g, 0, none⟩ = false := (by simp [World.frozen?, ho4]); have H4 := Lib.hid (And.intro hown4 (And.intro hg4 (And.intro hv4 hrg4))); clear hown4 hk4 hg4 hv4 hrg4 ho4 c0 hown0 hBa))
        have hN5 := HAa.out.newLevel (V' := .slice A4 (k + 1) c4) H4.out.2.1 (by rw [Hdl.out]; exact H4.out.1) (by
          rcases H4.out.2.2.1 with hv | hv
          · exact .inl hv
          · exact .inr ⟨_, hv, Hnew0.out⟩)
        obtain ⟨vb, hA4, -, -, -⟩ := H4.out.2.2.2 (by omega)
        subst hA4
        obtain ⟨w5, hw5⟩ : ∃ w5, w5 = w4.setCell ⟨g, 0, none⟩ (.slice (some ⟨vb, 0, none⟩) (k + 1) c4) := ⟨_, rfl⟩
        rw [← hw5] at hN5 ⊢
        obtain ⟨m, hm0⟩ : ∃ m, m = k + 1 := ⟨_, rfl⟩
        rw [← hm0] at hN5 ⊢
        obtain ⟨c1, hc1⟩ : ∃ c, c = c4 := ⟨_, rfl⟩
        rw [← hc1] at hN5 ⊢
        obtain ⟨R, hRe⟩ : ∃ R, R = done ++ [[]] := ⟨_, rfl⟩
        obtain ⟨r, hre⟩ : ∃ r : List Dg, r = [] := ⟨_, rfl⟩
        obtain ⟨q, hqe⟩ : ∃ q : Nat, q = 0 := ⟨_, rfl⟩
        obtain ⟨Ax, hAx⟩ : ∃ A : Option Addr, A = none := ⟨_, rfl⟩
        obtain ⟨cx, hcx⟩ : ∃ c : Nat, c = 0 := ⟨_, rfl⟩
        obtain ⟨us2, hus2⟩ : ∃ us2, us2 = us1 ++ [.slice none 0 0] := ⟨_, rfl⟩
        rw [← hRe, ← hus2] at hN5
        have hRk : R[k]? = some r := by rw [hRe, List.getElem?_append_right (by rw [Hdl.out]; exact Nat.le_refl _), Hdl.out, Nat.sub_self, hre]; rfl
        have hxk : us2[k]? = some (.slice Ax q cx) := by rw [hus2, List.getElem?_append_right (by rw [Hlen1.out]; exact Nat.le_refl _), Hlen1.out, Nat.sub_self, hAx, hqe, hcx]; rfl
        have Hxk := Lib.hid (And.intro hxk hRk)
        have Hm : Hid (m = R.length) := Lib.hid (by rw [hm0, hRe, List.length_append, Hdl.out]; rfl)
        have Hrq : Hid (q = r.length) := Lib.hid (by rw [hqe, hre]; rfl)
        have HcK : Hid (∀ u, AddS w B g mb V us0 w.heap.size (.slice (some ⟨vb, 0, none⟩) m c1) us2 R n0 (D0) d u → u.cell? ⟨vb, k, none⟩ = some (.slice Ax q cx)) := Lib.hid fun u hu => by
          obtain ⟨A', c', e1, -, -, e4⟩ := hu.tr.form
          injection e1 with e1
          obtain ⟨x', h1, h2, -⟩ := e4 vb e1.symm k r hRk
          rw [hxk] at h1
          cases h1
          exact h2
        have HfK : Hid (∀ u, AddS w B g mb V us0 w.heap.size (.slice (some ⟨vb, 0, none⟩) m c1) us2 R n0 (D0) d u → u.frozen? ⟨vb, k, none⟩ = false) := Lib.hid fun u hu => by
          obtain ⟨A', c', e1, -, -, e4⟩ := hu.tr.form
          injection e1 with e1
          obtain ⟨x', h1, -, h3⟩ := e4 vb e1.symm k r hRk
          exact h3
        have Hr32 : Hid (∀ y ∈ r ++ [d], y.length = 32) := Lib.hid fun y hy => by
          rw [hre] at hy
          simp at hy; subst hy; exact hd32
        have Hfin : Hid (R.set k (r ++ [d]) = addL F rows x) := Lib.hid (by
          rw [Hadd.out, addL, hRe, hre, List.set_append_right _ _ (by rw [Hdl.out]; exact Nat.le_refl _), Hdl.out, Nat.sub_self]
          rfl)
        have hrem : ((q : Int) + 1).tmod 2 = 1 := by rw [hqe]; decide
        have b0 : (0 : Int) ≤ (k : Int) := by omega
        have b1 : (k : Int) < (m : Int) := by omega
        have hqN : q ≤ N := by omega
        have hkm : k < m := by omega
        obtain ⟨us1, hus1⟩ : ∃ us1, us1 = us2 := ⟨_, rfl⟩
        rw [← hus1] at hN5 Hxk HcK HfK
        have H5 := Lib.hid hN5
        clear hN5 hw5 hm0 hc1 hRe hre hqe hAx hcx hus2 hRk hxk hus1 HAa Hnew0 H4 c04 f04
        go_wp2_with fail
        have hsd5 := H5.out.stable (below_drewN (Below.refl _ _) 1)
        refine wp_region_noPanic ?_
        refine wp_region_moves 8 (fun u => AddS w B g mb V us0 w.heap.size (.slice (some ⟨vb, 0, none⟩) m c1) (us1) (R) (n0) (D0) d u) (fun u u' => u = u') (fun u => rfl) (fun h k => h.trans k) (by kernel_rfl) (by kernel_rfl) hsd5 (fun _ _ _ _ _ h => h) ?_
        simp only [List.take_succ_cons, List.take_zero, List.drop_succ_cons, List.drop_zero]
        refine wpMH_moveW (fun u => rfl) (by rfl) _ rfl _ rfl ?_
        simp only [Act.put, List.setIfInBounds_toArray, List.set_cons_zero, List.set_cons_succ]
        refine wpMH_pureW (fun u => rfl) (by rfl) (.pointer (some ⟨g, 0, none⟩)) (fun u hu => by go_simp) ?_
        simp only [Act.put, List.setIfInBounds_toArray, List.set_cons_zero, List.set_cons_succ]
        refine wpMH_pureW (fun u => rfl) (by rfl) (.pointer (some ⟨g, 0, none⟩)) (fun u hu => by go_simp) ?_
        simp only [Act.put, List.setIfInBounds_toArray, List.set_cons_zero, List.set_cons_succ]
        refine wpMH_pureW (fun u => rfl) (by rfl) (.slice (some ⟨vb, 0, none⟩) m c1) (fun u hu => by have hc := hu.tr.c0; go_simp) ?_
        simp only [Act.put, List.setIfInBounds_toArray, List.set_cons_zero, List.set_cons_succ]
        refine wpMH_moveW (fun u => rfl) (by rfl) _ rfl _ rfl ?_
        simp only [Act.put, List.setIfInBounds_toArray, List.set_cons_zero, List.set_cons_succ]
        refine wpMH_pureW (fun u => rfl) (by rfl) (.pointer (some ⟨vb, k, none⟩)) (fun u hu => by go_simp) ?_
        simp only [Act.put, List.setIfInBounds_toArray, List.set_cons_zero, List.set_cons_succ]
        refine wpMH_pureW (fun u => rfl) (by rfl) (.slice Ax q cx) (fun u hu => by have hc := HcK.out u hu; go_simp) ?_
        simp only [Act.put, List.setIfInBounds_toArray, List.set_cons_zero, List.set_cons_succ]
        refine wpMH_loadW (fun u => rfl) (by rfl) _ _ rfl w.heap.size 0 rfl (d.map B8) _ (fun u h => h.r3) Try.underlying26 rfl hid1 ?_
        simp only [Act.put, List.setIfInBounds_toArray, List.set_cons_zero, List.set_cons_succ]
        refine wpMH_nil ?_
        obtain ⟨wd, hwd⟩ : ∃ wd, wd = w5.drew := ⟨_, rfl⟩
        have hsd6 : AddS w B g mb V us0 w.heap.size (.slice (some ⟨vb, 0, none⟩) m c1) (us1) (R) (n0) (D0) d wd := by rw [hwd]; exact hsd5
        rw [← hwd]
        clear hwd hsd5
        refine wpMT_cons ?_
        rintro u1 - rfl
        go_wp2_with fail
        have hal : Below wd.heap.size wd (wd.alloc (.cells (d.map B8).toArray 26)) := (Below.refl _ _).alloc (Nat.le_refl _) _
        have hsz : (wd.alloc (.cells (d.map B8).toArray 26)).heap.size = wd.heap.size + 1 := by simp
        have hrc := rc_new wd (d.map B8) 26 (0, 0)
        have hsa := hsd6.stable hal
        refine ⟨hsa, ?_⟩
        obtain ⟨ua, hua⟩ : ∃ ua, ua = wd.alloc (.cells (d.map B8).toArray 26) := ⟨_, rfl⟩
        obtain ⟨ub, hub⟩ : ∃ ub, ub = wd.heap.size := ⟨_, rfl⟩
        rw [← hua, ← hub] at hrc
        rw [← hua] at hsa hsz
        rw [← hua, ← hub]
        have hnew := hsd6.fresh (nb := ua.heap.size) (by omega)
        have Hnew := Lib.hid hnew
        have hBa : B ≤ ua.heap.size := by have := hsa.env.2.2.2; omega
        have howk := (hsa.tr.each k _ _ Hxk.out.1 Hxk.out.2).2.1
        rw [← Hrq.out] at howk
        have Hsa := Lib.hid hsa
        clear hua hub hal hsd6 hsa hsz hnew
        refine wpMT_cons ?_
        rintro u2 - rfl
        go_wp2_with (at_builtin; refine wpList_append_from rfl (.tmp 61) (.tmp 63) 42 rfl B hBa Try.underlying42 info_sum3 rfl (by decide) (.slice Ax q cx) q _ rfl howk (some ⟨ub, 0, none⟩) 1 1 (d.map B8) rfl hrc (by rw [Hd1l.out]) (b8_oneCell d) (by unfold maxLen; omega) (by omega) ?_; intro v6 w6 hown6 hk6 hg6 hv6; obtain ⟨A6, c6, rfl, hc6, -, hrg6⟩ := own_formK hown6; have H6 := Lib.hid (And.intro (Hsa.out.grow Hxk.out.1 Hxk.out.2 hg6 (by rw [← Hrq.out]; exact hk6)) (And.intro hown6 (And.intro hv6 hrg6))); clear hown6 hk6 hg6 hv6 hrg6)
        clear howk hrc Hsa
        refine ⟨H6.out.1, ?_⟩
        refine wpMT_cons ?_
        rintro u3 - rfl
        go_wp2_with fail
        refine ⟨H6.out.1, ?_⟩
        refine wpMT_nil ?_
        rintro u4 - rfl
        refine NoPanic.normal ?_
        have c06 := H6.out.1.tr.c0
        have ck6 := HcK.out w6 H6.out.1
        have fk6 := HfK.out w6 H6.out.1
        have hS := H6.out.1.setLevel' Hm.out Hxk.out.1 (x' := .slice A6 (q + 1) c6) (r' := r ++ [d]) ⟨A6, c6, by rw [List.length_append, ← Hrq.out]; rfl⟩ (by
          have h := H6.out.2.1
          rw [List.length_append, ← Hrq.out, List.flatten_append, List.map_append]
          simpa using h) Hr32.out (by
          rcases H6.out.2.2.1 with hv | hv
          · exact .inl hv
          · exact .inr ⟨_, hv, Hnew.out⟩)
        have HS := Lib.hid hS
        clear hS
        go_wp2_with fail
        go_ret2
        rw [show (N : Int) = (ls.length : Nat) by rw [HN.out.1]]
        exact AddS.done Hoff.out hBw HS.out (by rw [← HN.out.2]; exact Hfin.out) Hfn.out.1 (by have := Hfn.out.2; have := HN.out.1; omega)
  | false =>
    have hnin : x ∉ ls := by
      have := Hp0.out.1
      simpa using this
    have Hfn : Hid (Fnd (ls ++ [x]) (D0.put (kd x) (.lit (.int .i64 (N : Nat)))) ∧ n0 + 1 ≤ N + 1) := Lib.hid ⟨by rw [HN.out.1]; exact Hf.out.1.snoc Hf.out.2 Hx.out hnin, by omega⟩
    have Hkey := Lib.hid (kd_of x Hx.out)
    have HV : Hid (plainElem (H := Unit) Try.prog 3 (.int .i64 (N : Nat)) = some (.lit (.int .i64 (N : Nat)), [])) := Lib.hid (plainElem_int Try.underlying3 (by simp [Lit.wf, IntKind.min, IntKind.max, IntKind.bits, IntKind.signed]; omega))
    clear hnin
    unfold SumV at Hkey
    go_enter Try.func47, Try.ntmps47
    go_wp2_with fail
    refine hLn1.out.mono ?_
    rintro e w1 ⟨rfl, rfl⟩
    obtain ⟨w1, hw1⟩ : ∃ w1, w1 = w.alloc (.cells (x.map B8).toArray 26) := ⟨_, rfl⟩
    rw [← hw1] at Hst ⊢
    clear hw1 hLn1
    go_wp2_with fail
    have hsd := Hst.out.stable (below_drewN (Below.refl _ w1) 1)
    refine wp_region_noPanic ?_
    refine wp_region_moves 11 (fun u => AddS w B g mb V us0 w.heap.size (V) (us0) (rows) (n0) (D0) x u) (fun u u' => u = u') (fun u => rfl) (fun h k => h.trans k) (by kernel_rfl) (by kernel_rfl) hsd (fun _ _ _ _ _ h => h) ?_
    simp only [List.take_succ_cons, List.take_zero, List.drop_succ_cons, List.drop_zero]
    refine wpMH_moveW (fun u => rfl) (by rfl) _ rfl _ rfl ?_
    simp only [Act.put, List.setIfInBounds_toArray, List.set_cons_zero, List.set_cons_succ]
    refine wpMH_pureW (fun u => rfl) (by rfl) (.pointer (some ⟨g, 0, none⟩)) (fun u hu => by go_simp) ?_
    simp only [Act.put, List.setIfInBounds_toArray, List.set_cons_zero, List.set_cons_succ]
    refine wpMH_pureW (fun u => rfl) (by rfl) (.pointer (some ⟨g, 1, none⟩)) (fun u hu => by go_simp) ?_
    simp only [Act.put, List.setIfInBounds_toArray, List.set_cons_zero, List.set_cons_succ]
    refine wpMH_pureW (fun u => rfl) (by rfl) (.map (some mb)) (fun u hu => by have hc := hu.tr.c1; go_simp) ?_
    simp only [Act.put, List.setIfInBounds_toArray, List.set_cons_zero, List.set_cons_succ]
    refine wpMH_loadW (fun u => rfl) (by rfl) _ _ rfl w.heap.size 0 rfl (x.map B8) _ (fun u h => h.r3) Try.underlying26 rfl hix ?_
    simp only [Act.put, List.setIfInBounds_toArray, List.set_cons_zero, List.set_cons_succ]
    refine wpMH_pureW (fun u => rfl) (by rfl) (.tuple #[.int .i64 (p0 : Nat), .bool false]) (fun u hu => run_lookup_ok rfl _ _ rfl rfl (HLk.out u hu.tr.map)) ?_
    simp only [Act.put, List.setIfInBounds_toArray, List.set_cons_zero, List.set_cons_succ]
    refine wpMH_moveW (fun u => rfl) (by rfl) _ rfl _ rfl ?_
    simp only [Act.put, List.setIfInBounds_toArray, List.set_cons_zero, List.set_cons_succ]
    refine wpMH_pureW (fun u => rfl) (by rfl) (.int .i64 (p0 : Nat)) (fun u hu => by rfl) ?_
    simp only [Act.put, List.setIfInBounds_toArray, List.set_cons_zero, List.set_cons_succ]
    refine wpMH_pureW (fun u => rfl) (by rfl) (.bool false) (fun u hu => by rfl) ?_
    simp only [Act.put, List.setIfInBounds_toArray, List.set_cons_zero, List.set_cons_succ]
    refine wpMH_pureW (fun u => rfl) (by rfl) (.int .i64 (p0 : Nat)) (fun u hu => by rfl) ?_
    simp only [Act.put, List.setIfInBounds_toArray, List.set_cons_zero, List.set_cons_succ]
    refine wpMH_pureW (fun u => rfl) (by rfl) (.bool false) (fun u hu => by rfl) ?_
    simp only [Act.put, List.setIfInBounds_toArray, List.set_cons_zero, List.set_cons_succ]
    refine wpMH_nil ?_
    refine wpMT_nil ?_
    rintro u1 - rfl
    refine NoPanic.normal ?_
    have hsd2 := Lib.hid hsd
    clear hsd Hst
    go_wp2_with fail
    have hse := hsd2.out.stable (below_drewN (Below.refl _ _) 1)
    refine wp_region_noPanic ?_
    refine wp_region_movesT 6 (fun u => AddS w B g mb V us0 w.heap.size (V) (us0) (rows) (n0) (D0) x u) (fun u u' => u = u') (fun u => rfl) (fun h k => h.trans k) (by kernel_rfl) (by kernel_rfl) hse (fun _ _ _ _ _ h => h) ?_
    simp only [List.take_succ_cons, List.take_zero, List.drop_succ_cons, List.drop_zero]
    refine wpMH_moveW (fun u => rfl) (by rfl) _ rfl _ rfl ?_
    simp only [Act.put, List.setIfInBounds_toArray, List.set_cons_zero, List.set_cons_succ]
    refine wpMH_pureW (fun u => rfl) (by rfl) (.pointer (some ⟨g, 0, none⟩)) (fun u hu => by go_simp) ?_
    simp only [Act.put, List.setIfInBounds_toArray, List.set_cons_zero, List.set_cons_succ]
    refine wpMH_pureW (fun u => rfl) (by rfl) (.pointer (some ⟨g, 1, none⟩)) (fun u hu => by go_simp) ?_
    simp only [Act.put, List.setIfInBounds_toArray, List.set_cons_zero, List.set_cons_succ]
    refine wpMH_pureW (fun u => rfl) (by rfl) (.map (some mb)) (fun u hu => by have hc := hu.tr.c1; go_simp) ?_
    simp only [Act.put, List.setIfInBounds_toArray, List.set_cons_zero, List.set_cons_succ]
    refine wpMH_loadW (fun u => rfl) (by rfl) _ _ rfl w.heap.size 0 rfl (x.map B8) _ (fun u h => h.r3) Try.underlying26 rfl hix ?_
    simp only [Act.put, List.setIfInBounds_toArray, List.set_cons_zero, List.set_cons_succ]
    refine wpMH_moveW (fun u => rfl) (by rfl) _ rfl _ rfl ?_
    simp only [Act.put, List.setIfInBounds_toArray, List.set_cons_zero, List.set_cons_succ]
    refine wpMH_nil ?_
    intro u3 hu3 e3
    clear e3 hse
    go_wp2_with (at_mapUpdate; refine wpList_mapUpdate_own _ rfl _ _ _ 124 rfl 26 3 sumKeyed Try.underlying124 _ mb n0 D0 rfl hu3.tr.map (by unfold maxLen; omega) _ _ _ rfl rfl Hkey.out (.lit (.int .i64 (N : Nat))) [] HV.out ?_; intro w4 hown4 hgr4)
    have H4 := Lib.hid (hu3.mapped hgr4 hown4)
    clear hu3 hown4 hgr4 hsd2
    refine NoPanic.normal ?_
    go_wp2_with fail
    have h00 : Hid (∃ done d V1 us1, AddS w B g mb V us0 w.heap.size V1 us1 (done ++ rows.drop 0) (n0 + 1) (D0.put (kd x) (.lit (.int .i64 (N : Nat)))) d w4 ∧ done.length = 0 ∧ addL F rows x = done ++ addL F (rows.drop 0) d) := Lib.hid ⟨[], x, V, us0, (by rw [List.nil_append, List.drop_zero]; exact H4.out), rfl, by simp⟩
    clear H4
    go_wp2_with fail
    go_loopw [9] (fun iv wr => ∃ k : Nat, k ≤ rows.length ∧ iv = .int .i64 (k : Int) ∧ Hid (∃ done d V1 us1, AddS w B g mb V us0 w.heap.size V1 us1 (done ++ rows.drop k) (n0 + 1) (D0.put (kd x) (.lit (.int .i64 (N : Nat)))) d wr ∧ done.length = k ∧ addL F rows x = done ++ addL F (rows.drop k) d)) (fun iv _ => rows.length + 1 - (intOf iv).toNat)
    case atStart => exact ⟨0, Nat.zero_le _, rfl, h00⟩
    case round =>
      obtain ⟨k, hk, rfl, hqq⟩ := hrel
      obtain ⟨done, d, V1, us1, hA, hdl, hadd⟩ := hqq.out
      have hid1 := info_of d hA.d32
      have hid1' := info_of' d hA.d32
      have Hd1l : Hid ((d.map B8).length = 1 * 32) := Lib.hid (by rw [List.length_map, hA.d32])
      have hd32 := hA.d32
      clear hqq h00
      obtain ⟨wo, rfl⟩ : ∃ wo : World, wo = wr := ⟨_, rfl⟩
      by_cases hkl : k < rows.length
      · obtain ⟨r, hr⟩ : ∃ r, rows[k]? = some r := ⟨_, List.getElem?_eq_getElem hkl⟩
        have hdr : rows.drop k = r :: rows.drop (k + 1) := by
          rw [List.drop_eq_getElem_cons hkl]
          rw [List.getElem?_eq_getElem hkl] at hr
          cases hr
          rfl
        have hrN : r.length ≤ N := Hrb.out.2 r (List.mem_of_getElem? hr)
        obtain ⟨R, hRe⟩ : ∃ R, R = done ++ rows.drop k := ⟨_, rfl⟩
        have hRl : R.length = rows.length := by rw [hRe, List.length_append, List.length_drop, hdl]; omega
        have hRk : R[k]? = some r := by rw [hRe, hdr, List.getElem?_append_right (by omega), hdl, Nat.sub_self]; rfl
        have hsetR : ∀ y : List Dg, R.set k y = (done ++ [y]) ++ rows.drop (k + 1) := fun y => by
          rw [hRe, hdr, List.set_append_right _ _ (by omega), hdl, Nat.sub_self]
          simp
        rw [← hRe] at hA
        rw [hdr] at hadd
        have hform := hA.tr.form
        obtain ⟨m, hm⟩ : ∃ m, m = R.length := ⟨_, rfl⟩
        rw [← hm] at hform
        obtain ⟨Av, c1, hV1, hmc, hA1, hcells⟩ := hform
        subst hV1
        obtain ⟨vb, hAv⟩ := hA1 (by omega)
        subst hAv
        obtain ⟨xk, hxk, -, -⟩ := hcells vb rfl k r hRk
        obtain ⟨q, hqr⟩ : ∃ q, q = r.length := ⟨_, rfl⟩
        obtain ⟨⟨Ax, cx, hxe⟩, -, hr32⟩ := hA.tr.each k xk r hxk hRk
        rw [← hqr] at hxe
        subst hxe
        have Hxk := Lib.hid (And.intro hxk hRk)
        have Hm := Lib.hid hm
        have Hrq := Lib.hid hqr
        have Hdl := Lib.hid hdl
        have HcK : Hid (∀ u, AddS w B g mb V us0 w.heap.size (.slice (some ⟨vb, 0, none⟩) m c1) us1 R (n0 + 1) (D0.put (kd x) (.lit (.int .i64 (N : Nat)))) d u → u.cell? ⟨vb, k, none⟩ = some (.slice Ax q cx)) := Lib.hid fun u hu => by
          obtain ⟨A', c', e1, -, -, e4⟩ := hu.tr.form
          injection e1 with e1
          obtain ⟨x', h1, h2, -⟩ := e4 vb e1.symm k r hRk
          rw [hxk] at h1
          cases h1
          exact h2
        have HfK : Hid (∀ u, AddS w B g mb V us0 w.heap.size (.slice (some ⟨vb, 0, none⟩) m c1) us1 R (n0 + 1) (D0.put (kd x) (.lit (.int .i64 (N : Nat)))) d u → u.frozen? ⟨vb, k, none⟩ = false) := Lib.hid fun u hu => by
          obtain ⟨A', c', e1, -, -, e4⟩ := hu.tr.form
          injection e1 with e1
          obtain ⟨x', h1, -, h3⟩ := e4 vb e1.symm k r hRk
          exact h3
        have Hr32 : Hid (∀ y ∈ r ++ [d], y.length = 32) := Lib.hid fun y hy => by
          rcases List.mem_append.1 hy with hy | hy
          · exact hr32 y hy
          · simp at hy; subst hy; exact hd32
        have dk : ((k : Int) == (m : Int)) = false := by rw [beq_eq_false_iff_ne]; omega
        have dk' : (k == m) = false := by rw [beq_eq_false_iff_ne]; omega
        have b0 : (0 : Int) ≤ (k : Int) := by omega
        have b1 : (k : Int) < (m : Int) := by omega
        have c0 := hA.tr.c0
        have HA1 := Lib.hid hA
        have hqN : q ≤ N := by omega
        have hkm : k < m := by omega
        by_cases hev : r.length % 2 = 0
        · have Hfin : Hid (R.set k (r ++ [d]) = addL F rows x) := Lib.hid (by rw [hsetR, hadd, addL, if_pos hev]; simp)
          have hrem : ((q : Int) + 1).tmod 2 = 1 := by rw [hqr]; rw [Int.tmod_eq_emod_of_nonneg (by omega)]; omega
          clear hr hdr hrN hRe hRl hRk hsetR hA hadd hcells hA1 hxk hm hqr hr32 hdl hev
          go_wp2_with fail
          have hsd5 := HA1.out.stable (below_drewN (Below.refl _ _) 1)
          refine wp_region_noPanic ?_
          refine wp_region_moves 8 (fun u => AddS w B g mb V us0 w.heap.size (.slice (some ⟨vb, 0, none⟩) m c1) (us1) (R) ((n0 + 1)) (D0.put (kd x) (.lit (.int .i64 (N : Nat)))) d u) (fun u u' => u = u') (fun u => rfl) (fun h k => h.trans k) (by kernel_rfl) (by kernel_rfl) hsd5 (fun _ _ _ _ _ h => h) ?_
          simp only [List.take_succ_cons, List.take_zero, List.drop_succ_cons, List.drop_zero]
          refine wpMH_moveW (fun u => rfl) (by rfl) _ rfl _ rfl ?_
          simp only [Act.put, List.setIfInBounds_toArray, List.set_cons_zero, List.set_cons_succ]
          refine wpMH_pureW (fun u => rfl) (by rfl) (.pointer (some ⟨g, 0, none⟩)) (fun u hu => by go_simp) ?_
          simp only [Act.put, List.setIfInBounds_toArray, List.set_cons_zero, List.set_cons_succ]
          refine wpMH_pureW (fun u => rfl) (by rfl) (.pointer (some ⟨g, 0, none⟩)) (fun u hu => by go_simp) ?_
          simp only [Act.put, List.setIfInBounds_toArray, List.set_cons_zero, List.set_cons_succ]
          refine wpMH_pureW (fun u => rfl) (by rfl) (.slice (some ⟨vb, 0, none⟩) m c1) (fun u hu => by have hc := hu.tr.c0; go_simp) ?_
          simp only [Act.put, List.setIfInBounds_toArray, List.set_cons_zero, List.set_cons_succ]
          refine wpMH_moveW (fun u => rfl) (by rfl) _ rfl _ rfl ?_
          simp only [Act.put, List.setIfInBounds_toArray, List.set_cons_zero, List.set_cons_succ]
          refine wpMH_pureW (fun u => rfl) (by rfl) (.pointer (some ⟨vb, k, none⟩)) (fun u hu => by go_simp) ?_
          simp only [Act.put, List.setIfInBounds_toArray, List.set_cons_zero, List.set_cons_succ]
          refine wpMH_pureW (fun u => rfl) (by rfl) (.slice Ax q cx) (fun u hu => by have hc := HcK.out u hu; go_simp) ?_
          simp only [Act.put, List.setIfInBounds_toArray, List.set_cons_zero, List.set_cons_succ]
          refine wpMH_loadW (fun u => rfl) (by rfl) _ _ rfl w.heap.size 0 rfl (d.map B8) _ (fun u h => h.r3) Try.underlying26 rfl hid1 ?_
          simp only [Act.put, List.setIfInBounds_toArray, List.set_cons_zero, List.set_cons_succ]
          refine wpMH_nil ?_
          obtain ⟨wd, hwd⟩ : ∃ wd, wd = wo.drew := ⟨_, rfl⟩
          have hsd6 : AddS w B g mb V us0 w.heap.size (.slice (some ⟨vb, 0, none⟩) m c1) (us1) (R) ((n0 + 1)) (D0.put (kd x) (.lit (.int .i64 (N : Nat)))) d wd := by rw [hwd]; exact hsd5
          rw [← hwd]
          clear hwd hsd5
          refine wpMT_cons ?_
          rintro u1 - rfl
          go_wp2_with fail
          have hal : Below wd.heap.size wd (wd.alloc (.cells (d.map B8).toArray 26)) := (Below.refl _ _).alloc (Nat.le_refl _) _
          have hsz : (wd.alloc (.cells (d.map B8).toArray 26)).heap.size = wd.heap.size + 1 := by simp
          have hrc := rc_new wd (d.map B8) 26 (0, 0)
          have hsa := hsd6.stable hal
          refine ⟨hsa, ?_⟩
          obtain ⟨ua, hua⟩ : ∃ ua, ua = wd.alloc (.cells (d.map B8).toArray 26) := ⟨_, rfl⟩
          obtain ⟨ub, hub⟩ : ∃ ub, ub = wd.heap.size := ⟨_, rfl⟩
          rw [← hua, ← hub] at hrc
          rw [← hua] at hsa hsz
          rw [← hua, ← hub]
          have hnew := hsd6.fresh (nb := ua.heap.size) (by omega)
          have Hnew := Lib.hid hnew
          have hBa : B ≤ ua.heap.size := by have := hsa.env.2.2.2; omega
          have howk := (hsa.tr.each k _ _ Hxk.out.1 Hxk.out.2).2.1
          rw [← Hrq.out] at howk
          have Hsa := Lib.hid hsa
          clear hua hub hal hsd6 hsa hsz hnew
          refine wpMT_cons ?_
          rintro u2 - rfl
          go_wp2_with (at_builtin; refine wpList_append_from rfl (.tmp 61) (.tmp 63) 42 rfl B hBa Try.underlying42 info_sum3 rfl (by decide) (.slice Ax q cx) q _ rfl howk (some ⟨ub, 0, none⟩) 1 1 (d.map B8) rfl hrc (by rw [Hd1l.out]) (b8_oneCell d) (by unfold maxLen; omega) (by omega) ?_; intro v6 w6 hown6 hk6 hg6 hv6; obtain ⟨A6, c6, rfl, hc6, -, hrg6⟩ := own_formK hown6; have H6 := Lib.hid (And.intro (Hsa.out.grow Hxk.out.1 Hxk.out.2 hg6 (by rw [← Hrq.out]; exact hk6)) (And.intro hown6 (And.intro hv6 hrg6))); clear hown6 hk6 hg6 hv6 hrg6)
          clear howk hrc Hsa
          refine ⟨H6.out.1, ?_⟩
          refine wpMT_cons ?_
          rintro u3 - rfl
          go_wp2_with fail
          refine ⟨H6.out.1, ?_⟩
          refine wpMT_nil ?_
          rintro u4 - rfl
          refine NoPanic.normal ?_
          have c06 := H6.out.1.tr.c0
          have ck6 := HcK.out w6 H6.out.1
          have fk6 := HfK.out w6 H6.out.1
          have hS := H6.out.1.setLevel' Hm.out Hxk.out.1 (x' := .slice A6 (q + 1) c6) (r' := r ++ [d]) ⟨A6, c6, by rw [List.length_append, ← Hrq.out]; rfl⟩ (by
            have h := H6.out.2.1
            rw [List.length_append, ← Hrq.out, List.flatten_append, List.map_append]
            simpa using h) Hr32.out (by
            rcases H6.out.2.2.1 with hv | hv
            · exact .inl hv
            · exact .inr ⟨_, hv, Hnew.out⟩)
          have HS := Lib.hid hS
          clear hS
          go_wp2_with fail
          go_ret2
          rw [show (N : Int) = (ls.length : Nat) by rw [HN.out.1]]
          exact AddS.done Hoff.out hBw HS.out (by rw [← HN.out.2]; exact Hfin.out) Hfn.out.1 (by have := Hfn.out.2; have := HN.out.1; omega)
        · have hqo : q % 2 = 1 := by omega
          obtain ⟨q1, hq1⟩ : ∃ q1, q1 = q - 1 := ⟨_, rfl⟩
          have hq1' : q1 + 1 = q := by omega
          obtain ⟨z, hz⟩ : ∃ z, z = r.getLastD [] := ⟨_, rfl⟩
          have hzr : r[q1]? = some z := by rw [hz, hq1, hqr]; exact getLastD_at (by omega)
          have hz32 : z.length = 32 := hr32 z (List.mem_of_getElem? hzr)
          obtain ⟨dn, hdn⟩ : ∃ dn, dn = nodeF F z d := ⟨_, rfl⟩
          have hdn32 : dn.length = 32 := by rw [hdn]; exact HF32.out _
          have Hz := Lib.hid (And.intro hzr hz32)
          have Hdn := Lib.hid hdn32
          have hiz := info_of z hz32
          have hidn' := info_of' dn hdn32
          have HNn : Hid (∀ u : World, Calls Try.prog 33 #[.agg (z.map B8).toArray, .agg (d.map B8).toArray] u fun e w' => e = .returned (.agg (dn.map B8).toArray) ∧ Below u.heap.size u w') := Lib.hid fun u => by rw [hdn]; exact HNd.out u z d hz32 hd32
          have Hset : Hid (R.set k (r ++ [d]) = (done ++ [r ++ [d]]) ++ rows.drop (k + 1)) := Lib.hid (hsetR _)
          have Hfin : Hid (addL F rows x = (done ++ [r ++ [d]]) ++ addL F (rows.drop (k + 1)) dn) := Lib.hid (by rw [hadd, addL, if_neg hev, hdn, hz]; simp)
          have hrem : ((q : Int) + 1).tmod 2 = 0 := by rw [Int.tmod_eq_emod_of_nonneg (by omega)]; omega
          clear hr hdr hrN hRe hRl hRk hsetR hA hadd hcells hA1 hxk hm hqr hr32 hdl hev hz hzr hz32 hdn hdn32 hq1 hqo
          go_wp2_with fail
          have hsd5 := HA1.out.stable (below_drewN (Below.refl _ _) 1)
          refine wp_region_noPanic ?_
          refine wp_region_moves 8 (fun u => AddS w B g mb V us0 w.heap.size (.slice (some ⟨vb, 0, none⟩) m c1) (us1) (R) ((n0 + 1)) (D0.put (kd x) (.lit (.int .i64 (N : Nat)))) d u) (fun u u' => u = u') (fun u => rfl) (fun h k => h.trans k) (by kernel_rfl) (by kernel_rfl) hsd5 (fun _ _ _ _ _ h => h) ?_
          simp only [List.take_succ_cons, List.take_zero, List.drop_succ_cons, List.drop_zero]
          refine wpMH_moveW (fun u => rfl) (by rfl) _ rfl _ rfl ?_
          simp only [Act.put, List.setIfInBounds_toArray, List.set_cons_zero, List.set_cons_succ]
          refine wpMH_pureW (fun u => rfl) (by rfl) (.pointer (some ⟨g, 0, none⟩)) (fun u hu => by go_simp) ?_
          simp only [Act.put, List.setIfInBounds_toArray, List.set_cons_zero, List.set_cons_succ]
          refine wpMH_pureW (fun u => rfl) (by rfl) (.pointer (some ⟨g, 0, none⟩)) (fun u hu => by go_simp) ?_
          simp only [Act.put, List.setIfInBounds_toArray, List.set_cons_zero, List.set_cons_succ]
          refine wpMH_pureW (fun u => rfl) (by rfl) (.slice (some ⟨vb, 0, none⟩) m c1) (fun u hu => by have hc := hu.tr.c0; go_simp) ?_
          simp only [Act.put, List.setIfInBounds_toArray, List.set_cons_zero, List.set_cons_succ]
          refine wpMH_moveW (fun u => rfl) (by rfl) _ rfl _ rfl ?_
          simp only [Act.put, List.setIfInBounds_toArray, List.set_cons_zero, List.set_cons_succ]
          refine wpMH_pureW (fun u => rfl) (by rfl) (.pointer (some ⟨vb, k, none⟩)) (fun u hu => by go_simp) ?_
          simp only [Act.put, List.setIfInBounds_toArray, List.set_cons_zero, List.set_cons_succ]
          refine wpMH_pureW (fun u => rfl) (by rfl) (.slice Ax q cx) (fun u hu => by have hc := HcK.out u hu; go_simp) ?_
          simp only [Act.put, List.setIfInBounds_toArray, List.set_cons_zero, List.set_cons_succ]
          refine wpMH_loadW (fun u => rfl) (by rfl) _ _ rfl w.heap.size 0 rfl (d.map B8) _ (fun u h => h.r3) Try.underlying26 rfl hid1 ?_
          simp only [Act.put, List.setIfInBounds_toArray, List.set_cons_zero, List.set_cons_succ]
          refine wpMH_nil ?_
          obtain ⟨wd, hwd⟩ : ∃ wd, wd = wo.drew := ⟨_, rfl⟩
          have hsd6 : AddS w B g mb V us0 w.heap.size (.slice (some ⟨vb, 0, none⟩) m c1) (us1) (R) ((n0 + 1)) (D0.put (kd x) (.lit (.int .i64 (N : Nat)))) d wd := by rw [hwd]; exact hsd5
          rw [← hwd]
          clear hwd hsd5
          refine wpMT_cons ?_
          rintro u1 - rfl
          go_wp2_with fail
          have hal : Below wd.heap.size wd (wd.alloc (.cells (d.map B8).toArray 26)) := (Below.refl _ _).alloc (Nat.le_refl _) _
          have hsz : (wd.alloc (.cells (d.map B8).toArray 26)).heap.size = wd.heap.size + 1 := by simp
          have hrc := rc_new wd (d.map B8) 26 (0, 0)
          have hsa := hsd6.stable hal
          refine ⟨hsa, ?_⟩
          obtain ⟨ua, hua⟩ : ∃ ua, ua = wd.alloc (.cells (d.map B8).toArray 26) := ⟨_, rfl⟩
          obtain ⟨ub, hub⟩ : ∃ ub, ub = wd.heap.size := ⟨_, rfl⟩
          rw [← hua, ← hub] at hrc
          rw [← hua] at hsa hsz
          rw [← hua, ← hub]
          have hnew := hsd6.fresh (nb := ua.heap.size) (by omega)
          have Hnew := Lib.hid hnew
          have hBa : B ≤ ua.heap.size := by have := hsa.env.2.2.2; omega
          have howk := (hsa.tr.each k _ _ Hxk.out.1 Hxk.out.2).2.1
          rw [← Hrq.out] at howk
          have Hsa := Lib.hid hsa
          clear hua hub hal hsd6 hsa hsz hnew
          refine wpMT_cons ?_
          rintro u2 - rfl
          go_wp2_with (at_builtin; refine wpList_append_from rfl (.tmp 61) (.tmp 63) 42 rfl B hBa Try.underlying42 info_sum3 rfl (by decide) (.slice Ax q cx) q _ rfl howk (some ⟨ub, 0, none⟩) 1 1 (d.map B8) rfl hrc (by rw [Hd1l.out]) (b8_oneCell d) (by unfold maxLen; omega) (by omega) ?_; intro v6 w6 hown6 hk6 hg6 hv6; obtain ⟨A6, c6, rfl, hc6, -, hrg6⟩ := own_formK hown6; have H6 := Lib.hid (And.intro (Hsa.out.grow Hxk.out.1 Hxk.out.2 hg6 (by rw [← Hrq.out]; exact hk6)) (And.intro hown6 (And.intro hv6 hrg6))); clear hown6 hk6 hg6 hv6 hrg6)
          clear howk hrc Hsa
          refine ⟨H6.out.1, ?_⟩
          refine wpMT_cons ?_
          rintro u3 - rfl
          go_wp2_with fail
          refine ⟨H6.out.1, ?_⟩
          refine wpMT_nil ?_
          rintro u4 - rfl
          refine NoPanic.normal ?_
          have c06 := H6.out.1.tr.c0
          have ck6 := HcK.out w6 H6.out.1
          have fk6 := HfK.out w6 H6.out.1
          have hS := H6.out.1.setLevel' Hm.out Hxk.out.1 (x' := .slice A6 (q + 1) c6) (r' := r ++ [d]) ⟨A6, c6, by rw [List.length_append, ← Hrq.out]; rfl⟩ (by
            have h := H6.out.2.1
            rw [List.length_append, ← Hrq.out, List.flatten_append, List.map_append]
            simpa using h) Hr32.out (by
            rcases H6.out.2.2.1 with hv | hv
            · exact .inl hv
            · exact .inr ⟨_, hv, Hnew.out⟩)
          obtain ⟨rb, hA6, -, -, -⟩ := H6.out.2.2.2 (by omega)
          subst hA6
          have HS := Lib.hid hS
          clear hS
          have e1 : (q : Int) + 1 - 2 = (q1 : Int) := by omega
          have e2 : ¬ ((q : Int) + 1 ≤ (q1 : Int)) := by omega
          have e3 : (q1 : Int) < (q : Int) + 1 := by omega
          have e4 : (0 : Int) ≤ (q1 : Int) := by omega
          go_wp2_with fail
          have hsz7 := HS.out
          obtain ⟨w7, hw7⟩ : ∃ w7, w7 = w6.setCell ⟨vb, k, none⟩ (.slice (some ⟨rb, 0, none⟩) (q + 1) c6) := ⟨_, rfl⟩
          rw [← hw7] at hsz7 ⊢
          have hrz : w7.rangeAt rb (q1 * 32) (z.map B8) := by
            have h1 := (hsz7.tr.each k _ _ (List.getElem?_set_self (by rw [H6.out.1.tr.len, ← Hm.out]; omega)) (List.getElem?_set_self (by rw [← Hm.out]; omega))).2
            obtain ⟨A', n', c', e', -, -, hr'⟩ := SS.of_own h1.1 h1.2 rfl
            cases e'
            obtain ⟨b', o', x', hb', hx', -, hrr⟩ := hr'.at_ (i := q1) (by omega)
            cases hb'
            rw [List.getElem?_append_left (by rw [← Hrq.out]; omega), Hz.out.1] at hx'
            cases hx'
            rwa [Nat.zero_add] at hrr
          have hd7 : AddS w B g mb V us0 w.heap.size (.slice (some ⟨vb, 0, none⟩) m c1) (us1.set k (.slice (some ⟨rb, 0, none⟩) (q + 1) c6)) (R.set k (r ++ [d])) ((n0 + 1)) (D0.put (kd x) (.lit (.int .i64 (N : Nat)))) d w7.drew ∧ w7.drew.rangeAt rb (q1 * 32) (z.map B8) := ⟨hsz7.stable (below_drewN (Below.refl _ _) 1), rangeAt_below' hrz (below_drewN (Below.refl _ _) 1)⟩
          clear hsz7 hrz hw7 HS H6 c06 ck6 fk6
          refine wp_region_noPanic ?_
          refine wp_region_movesT 8 (fun u => AddS w B g mb V us0 w.heap.size (.slice (some ⟨vb, 0, none⟩) m c1) (us1.set k (.slice (some ⟨rb, 0, none⟩) (q + 1) c6)) (R.set k (r ++ [d])) ((n0 + 1)) (D0.put (kd x) (.lit (.int .i64 (N : Nat)))) d u ∧ u.rangeAt rb (q1 * 32) (z.map B8)) (fun u u' => Below u.heap.size u u') (fun u => Below.refl _ _) (fun h k => h.trans (k.mono h.size)) (by kernel_rfl) (by kernel_rfl) hd7 (fun _ _ _ _ _ h => h) ?_
          simp only [List.take_succ_cons, List.take_zero, List.drop_succ_cons, List.drop_zero]
          refine wpMH_moveW (fun u => Below.refl _ _) (by rfl) _ rfl _ rfl ?_
          simp only [Act.put, List.setIfInBounds_toArray, List.set_cons_zero, List.set_cons_succ]
          refine wpMH_moveW (fun u => Below.refl _ _) (by rfl) _ rfl _ rfl ?_
          simp only [Act.put, List.setIfInBounds_toArray, List.set_cons_zero, List.set_cons_succ]
          refine wpMH_pureW (fun u => Below.refl _ _) (by rfl) (.int .i64 ((q + 1 : Nat) : Int)) (fun u hu => by go_simp) ?_
          simp only [Act.put, List.setIfInBounds_toArray, List.set_cons_zero, List.set_cons_succ]
          refine wpMH_pureW (fun u => Below.refl _ _) (by rfl) (.int .i64 (q1 : Int)) (fun u hu => by go_simp; rw [IntWalk.i64_in _ ⟨by omega, by omega⟩]) ?_
          simp only [Act.put, List.setIfInBounds_toArray, List.set_cons_zero, List.set_cons_succ]
          refine wpMH_pureW (fun u => Below.refl _ _) (by rfl) (.pointer (some ⟨rb, q1 * 32, none⟩)) (fun u hu => by go_simp) ?_
          simp only [Act.put, List.setIfInBounds_toArray, List.set_cons_zero, List.set_cons_succ]
          refine wpMH_loadW (fun u => Below.refl _ _) (by rfl) _ _ rfl rb (q1 * 32) rfl (z.map B8) _ (fun u h => h.2) Try.underlying26 rfl hiz ?_
          simp only [Act.put, List.setIfInBounds_toArray, List.set_cons_zero, List.set_cons_succ]
          refine wpMH_loadW (fun u => Below.refl _ _) (by rfl) _ _ rfl w.heap.size 0 rfl (d.map B8) _ (fun u h => h.1.r3) Try.underlying26 rfl hid1 ?_
          simp only [Act.put, List.setIfInBounds_toArray, List.set_cons_zero, List.set_cons_succ]
          refine wpMH_callW (by rfl) 33 _ _ rfl eg1 [.agg (z.map B8).toArray, .agg (d.map B8).toArray] rfl (.agg (dn.map B8).toArray) (fun u h => (HNn.out u).mono fun e w' ⟨h1, h2⟩ => ⟨h1, ⟨h.1.stable h2, rangeAt_below' h.2 h2⟩, h2⟩) ?_
          simp only [Act.put, List.setIfInBounds_toArray, List.set_cons_zero, List.set_cons_succ]
          refine wpMH_nil ?_
          intro u1 hu1 hM1
          have hth7 : u1.there w.heap.size 0 (dn.map B8).toArray.size := sz_there Hdn.out hu1.1.t3
          have H8 := Lib.hid hu1.1
          clear hu1 hM1 hd7
          go_wp2_with ((with_reducible show wpList _ _ _ (⟨_, Op.store 26 (.tmp 3) _, _, _, _, _⟩ :: _) _ _); refine wpList_store_row rfl _ _ _ rfl w.heap.size 0 (dn.map B8).toArray rfl rfl (hth7) hidn' (b8_all dn) ?_; intro w9 hg9 hs9 ht9 hth9; rw [List.toList_toArray] at ht9; have H9 := Lib.hid (H8.out.put hg9 ht9 (there_sz Hdn.out hth9) Hdn.out); clear hg9 hs9 ht9 hth9 hth7)
          refine NoPanic.normal ?_
          have HR : Hid (∃ done d V1 us1, AddS w B g mb V us0 w.heap.size V1 us1 (done ++ rows.drop (k + 1)) (n0 + 1) (D0.put (kd x) (.lit (.int .i64 (N : Nat)))) d w9 ∧ done.length = k + 1 ∧ addL F rows x = done ++ addL F (rows.drop (k + 1)) d) := Lib.hid ⟨done ++ [r ++ [d]], dn, _, _, by
            have h := H9.out
            rw [Hset.out] at h
            exact h, by rw [List.length_append, Hdl.out]; rfl, Hfin.out⟩
          go_wp2_with fail
          first
            | (refine ⟨?_, ?measure⟩; repeat apply Exists.intro
               refine ⟨?rel, rfl⟩)
            | go_roundw
          case rel => exact ⟨k + 1, hkl, by go_num, HR⟩
          case measure => simp [intOf]; omega
      · have hkR : k = rows.length := by omega
        have hdr : rows.drop k = [] := by rw [hkR]; exact List.drop_length
        rw [hdr, List.append_nil] at hA
        rw [hdr] at hadd
        have c0 := hA.tr.c0
        have hform := hA.tr.form
        rw [hdl] at hform
        obtain ⟨Av, cv, hV1, -, -, -⟩ := hform
        subst hV1
        have dk : ((k : Int) == (k : Int)) = true := by simp
        have hal : Below wo.heap.size wo (wo.alloc (.cells #[.slice none 0 0] 42)) := (Below.refl _ _).alloc (Nat.le_refl _) _
        have hAa := hA.stable hal
        have hBa : B ≤ (wo.alloc (.cells #[.slice none 0 0] 42)).heap.size := by have := hAa.env.2.2.2; omega
        have hown0 := hAa.tr.own
        rw [hdl] at hown0
        have HAa := Lib.hid hAa
        have Hnew0 := Lib.hid (hAa.fresh (Nat.le_refl _))
        have Hdl := Lib.hid hdl
        have Hadd := Lib.hid hadd
        have HkR := Lib.hid hkR
        have Hlen1 : Hid (us1.length = k) := Lib.hid (by rw [hA.tr.len, hdl])
        clear hA hal hAa hdl hadd hkR hdr
        go_wp2_with (first
          | (at_builtin; refine wpList_append_from rfl (.tmp 50) (.tmp 51) 125 rfl B hBa Try.underlying125 info_sums rfl (by decide) (.slice Av k cv) k us1 rfl hown0 (some ⟨wo.heap.size, 0, none⟩) 1 1 [.slice none 0 0] rfl (rc_new wo _ _ _) rfl (by intro u hu; simp at hu; subst hu; rfl) (by unfold maxLen; omega) (by omega) ?_; intro v4 w4 hown4 hk4 hg4 hv4; obtain ⟨A4, c4, rfl, -, -, hrg4⟩ := own_formK hown4; have ho4 := (hg4.block g HAa.out.tr.lt.1 (fun e => HAa.out.tr.apart.2.1 e.symm)).trans HAa.out.tr.obj; have c04 : w4.cell? ⟨g, 0, none⟩ = some (.slice Av k cv) := (by rw [cell_of_row _ _ _ _ _ _ ho4]; rfl); have f04 : w4.frozen? ⟨g, 0, none⟩ = false := (by simp [World.frozen?, ho4]); have H4 := Lib.hid (And.intro hown4 (And.intro hg4 (And.intro hv4 hrg4))); clear hown4 hk4 hg4 hv4 hrg4 ho4 c0 hown0 hBa))
        have hN5 := HAa.out.newLevel (V' := .slice A4 (k + 1) c4) H4.out.2.1 (by rw [Hdl.out]; exact H4.out.1) (by
          rcases H4.out.2.2.1 with hv | hv
          · exact .inl hv
          · exact .inr ⟨_, hv, Hnew0.out⟩)
        obtain ⟨vb, hA4, -, -, -⟩ := H4.out.2.2.2 (by omega)
        subst hA4
        obtain ⟨w5, hw5⟩ : ∃ w5, w5 = w4.setCell ⟨g, 0, none⟩ (.slice (some ⟨vb, 0, none⟩) (k + 1) c4) := ⟨_, rfl⟩
        rw [← hw5] at hN5 ⊢
        obtain ⟨m, hm0⟩ : ∃ m, m = k + 1 := ⟨_, rfl⟩
        rw [← hm0] at hN5 ⊢
        obtain ⟨c1, hc1⟩ : ∃ c, c = c4 := ⟨_, rfl⟩
        rw [← hc1] at hN5 ⊢
        obtain ⟨R, hRe⟩ : ∃ R, R = done ++ [[]] := ⟨_, rfl⟩
        obtain ⟨r, hre⟩ : ∃ r : List Dg, r = [] := ⟨_, rfl⟩
        obtain ⟨q, hqe⟩ : ∃ q : Nat, q = 0 := ⟨_, rfl⟩
        obtain ⟨Ax, hAx⟩ : ∃ A : Option Addr, A = none := ⟨_, rfl⟩
        obtain ⟨cx, hcx⟩ : ∃ c : Nat, c = 0 := ⟨_, rfl⟩
        obtain ⟨us2, hus2⟩ : ∃ us2, us2 = us1 ++ [.slice none 0 0] := ⟨_, rfl⟩
        rw [← hRe, ← hus2] at hN5
        have hRk : R[k]? = some r := by rw [hRe, List.getElem?_append_right (by rw [Hdl.out]; exact Nat.le_refl _), Hdl.out, Nat.sub_self, hre]; rfl
        have hxk : us2[k]? = some (.slice Ax q cx) := by rw [hus2, List.getElem?_append_right (by rw [Hlen1.out]; exact Nat.le_refl _), Hlen1.out, Nat.sub_self, hAx, hqe, hcx]; rfl
        have Hxk := Lib.hid (And.intro hxk hRk)
        have Hm : Hid (m = R.length) := Lib.hid (by rw [hm0, hRe, List.length_append, Hdl.out]; rfl)
        have Hrq : Hid (q = r.length) := Lib.hid (by rw [hqe, hre]; rfl)
        have HcK : Hid (∀ u, AddS w B g mb V us0 w.heap.size (.slice (some ⟨vb, 0, none⟩) m c1) us2 R (n0 + 1) (D0.put (kd x) (.lit (.int .i64 (N : Nat)))) d u → u.cell? ⟨vb, k, none⟩ = some (.slice Ax q cx)) := Lib.hid fun u hu => by
          obtain ⟨A', c', e1, -, -, e4⟩ := hu.tr.form
          injection e1 with e1
          obtain ⟨x', h1, h2, -⟩ := e4 vb e1.symm k r hRk
          rw [hxk] at h1
          cases h1
          exact h2
        have HfK : Hid (∀ u, AddS w B g mb V us0 w.heap.size (.slice (some ⟨vb, 0, none⟩) m c1) us2 R (n0 + 1) (D0.put (kd x) (.lit (.int .i64 (N : Nat)))) d u → u.frozen? ⟨vb, k, none⟩ = false) := Lib.hid fun u hu => by
          obtain ⟨A', c', e1, -, -, e4⟩ := hu.tr.form
          injection e1 with e1
          obtain ⟨x', h1, -, h3⟩ := e4 vb e1.symm k r hRk
          exact h3
        have Hr32 : Hid (∀ y ∈ r ++ [d], y.length = 32) := Lib.hid fun y hy => by
          rw [hre] at hy
          simp at hy; subst hy; exact hd32
        have Hfin : Hid (R.set k (r ++ [d]) = addL F rows x) := Lib.hid (by
          rw [Hadd.out, addL, hRe, hre, List.set_append_right _ _ (by rw [Hdl.out]; exact Nat.le_refl _), Hdl.out, Nat.sub_self]
          rfl)
        have hrem : ((q : Int) + 1).tmod 2 = 1 := by rw [hqe]; decide
        have b0 : (0 : Int) ≤ (k : Int) := by omega
        have b1 : (k : Int) < (m : Int) := by omega
        have hqN : q ≤ N := by omega
        have hkm : k < m := by omega
        obtain ⟨us1, hus1⟩ : ∃ us1, us1 = us2 := ⟨_, rfl⟩
        rw [← hus1] at hN5 Hxk HcK HfK
        have H5 := Lib.hid hN5
        clear hN5 hw5 hm0 hc1 hRe hre hqe hAx hcx hus2 hRk hxk hus1 HAa Hnew0 H4 c04 f04
        go_wp2_with fail
        have hsd5 := H5.out.stable (below_drewN (Below.refl _ _) 1)
        refine wp_region_noPanic ?_
        refine wp_region_moves 8 (fun u => AddS w B g mb V us0 w.heap.size (.slice (some ⟨vb, 0, none⟩) m c1) (us1) (R) ((n0 + 1)) (D0.put (kd x) (.lit (.int .i64 (N : Nat)))) d u) (fun u u' => u = u') (fun u => rfl) (fun h k => h.trans k) (by kernel_rfl) (by kernel_rfl) hsd5 (fun _ _ _ _ _ h => h) ?_
        simp only [List.take_succ_cons, List.take_zero, List.drop_succ_cons, List.drop_zero]
        refine wpMH_moveW (fun u => rfl) (by rfl) _ rfl _ rfl ?_
        simp only [Act.put, List.setIfInBounds_toArray, List.set_cons_zero, List.set_cons_succ]
        refine wpMH_pureW (fun u => rfl) (by rfl) (.pointer (some ⟨g, 0, none⟩)) (fun u hu => by go_simp) ?_
        simp only [Act.put, List.setIfInBounds_toArray, List.set_cons_zero, List.set_cons_succ]
        refine wpMH_pureW (fun u => rfl) (by rfl) (.pointer (some ⟨g, 0, none⟩)) (fun u hu => by go_simp) ?_
        simp only [Act.put, List.setIfInBounds_toArray, List.set_cons_zero, List.set_cons_succ]
        refine wpMH_pureW (fun u => rfl) (by rfl) (.slice (some ⟨vb, 0, none⟩) m c1) (fun u hu => by have hc := hu.tr.c0; go_simp) ?_
        simp only [Act.put, List.setIfInBounds_toArray, List.set_cons_zero, List.set_cons_succ]
        refine wpMH_moveW (fun u => rfl) (by rfl) _ rfl _ rfl ?_
        simp only [Act.put, List.setIfInBounds_toArray, List.set_cons_zero, List.set_cons_succ]
        refine wpMH_pureW (fun u => rfl) (by rfl) (.pointer (some ⟨vb, k, none⟩)) (fun u hu => by go_simp) ?_
        simp only [Act.put, List.setIfInBounds_toArray, List.set_cons_zero, List.set_cons_succ]
        refine wpMH_pureW (fun u => rfl) (by rfl) (.slice Ax q cx) (fun u hu => by have hc := HcK.out u hu; go_simp) ?_
        simp only [Act.put, List.setIfInBounds_toArray, List.set_cons_zero, List.set_cons_succ]
        refine wpMH_loadW (fun u => rfl) (by rfl) _ _ rfl w.heap.size 0 rfl (d.map B8) _ (fun u h => h.r3) Try.underlying26 rfl hid1 ?_
        simp only [Act.put, List.setIfInBounds_toArray, List.set_cons_zero, List.set_cons_succ]
        refine wpMH_nil ?_
        obtain ⟨wd, hwd⟩ : ∃ wd, wd = w5.drew := ⟨_, rfl⟩
        have hsd6 : AddS w B g mb V us0 w.heap.size (.slice (some ⟨vb, 0, none⟩) m c1) (us1) (R) ((n0 + 1)) (D0.put (kd x) (.lit (.int .i64 (N : Nat)))) d wd := by rw [hwd]; exact hsd5
        rw [← hwd]
        clear hwd hsd5
        refine wpMT_cons ?_
        rintro u1 - rfl
        go_wp2_with fail
        have hal : Below wd.heap.size wd (wd.alloc (.cells (d.map B8).toArray 26)) := (Below.refl _ _).alloc (Nat.le_refl _) _
        have hsz : (wd.alloc (.cells (d.map B8).toArray 26)).heap.size = wd.heap.size + 1 := by simp
        have hrc := rc_new wd (d.map B8) 26 (0, 0)
        have hsa := hsd6.stable hal
        refine ⟨hsa, ?_⟩
        obtain ⟨ua, hua⟩ : ∃ ua, ua = wd.alloc (.cells (d.map B8).toArray 26) := ⟨_, rfl⟩
        obtain ⟨ub, hub⟩ : ∃ ub, ub = wd.heap.size := ⟨_, rfl⟩
        rw [← hua, ← hub] at hrc
        rw [← hua] at hsa hsz
        rw [← hua, ← hub]
        have hnew := hsd6.fresh (nb := ua.heap.size) (by omega)
        have Hnew := Lib.hid hnew
        have hBa : B ≤ ua.heap.size := by have := hsa.env.2.2.2; omega
        have howk := (hsa.tr.each k _ _ Hxk.out.1 Hxk.out.2).2.1
        rw [← Hrq.out] at howk
        have Hsa := Lib.hid hsa
        clear hua hub hal hsd6 hsa hsz hnew
        refine wpMT_cons ?_
        rintro u2 - rfl
        go_wp2_with (at_builtin; refine wpList_append_from rfl (.tmp 61) (.tmp 63) 42 rfl B hBa Try.underlying42 info_sum3 rfl (by decide) (.slice Ax q cx) q _ rfl howk (some ⟨ub, 0, none⟩) 1 1 (d.map B8) rfl hrc (by rw [Hd1l.out]) (b8_oneCell d) (by unfold maxLen; omega) (by omega) ?_; intro v6 w6 hown6 hk6 hg6 hv6; obtain ⟨A6, c6, rfl, hc6, -, hrg6⟩ := own_formK hown6; have H6 := Lib.hid (And.intro (Hsa.out.grow Hxk.out.1 Hxk.out.2 hg6 (by rw [← Hrq.out]; exact hk6)) (And.intro hown6 (And.intro hv6 hrg6))); clear hown6 hk6 hg6 hv6 hrg6)
        clear howk hrc Hsa
        refine ⟨H6.out.1, ?_⟩
        refine wpMT_cons ?_
        rintro u3 - rfl
        go_wp2_with fail
        refine ⟨H6.out.1, ?_⟩
        refine wpMT_nil ?_
        rintro u4 - rfl
        refine NoPanic.normal ?_
        have c06 := H6.out.1.tr.c0
        have ck6 := HcK.out w6 H6.out.1
        have fk6 := HfK.out w6 H6.out.1
        have hS := H6.out.1.setLevel' Hm.out Hxk.out.1 (x' := .slice A6 (q + 1) c6) (r' := r ++ [d]) ⟨A6, c6, by rw [List.length_append, ← Hrq.out]; rfl⟩ (by
          have h := H6.out.2.1
          rw [List.length_append, ← Hrq.out, List.flatten_append, List.map_append]
          simpa using h) Hr32.out (by
          rcases H6.out.2.2.1 with hv | hv
          · exact .inl hv
          · exact .inr ⟨_, hv, Hnew.out⟩)
        have HS := Lib.hid hS
        clear hS
        go_wp2_with fail
        go_ret2
        rw [show (N : Int) = (ls.length : Nat) by rw [HN.out.1]]
        exact AddS.done Hoff.out hBw HS.out (by rw [← HN.out.2]; exact Hfin.out) Hfn.out.1 (by have := Hfn.out.2; have := HN.out.1; omega)
end
end Go.Proofs.Ytkcmacglomdfcaa
