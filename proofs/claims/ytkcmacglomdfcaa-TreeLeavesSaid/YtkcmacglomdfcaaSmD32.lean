/-
  THE WALK of a piece (words of 32 bits).
-/
import Derived.Test.YtkcmacglomdfcaaSmU
import Derived.Test.YtkcmacglomdfcaaKeep
import Derived.Test.YtkcmacglomdfcaaIterF
import Derived.Test.YtkcmacglomdfcaaTailZ
namespace Go.Proofs.Ytkcmacglomdfcaa
open Go.RowKit Go.Shelf
attribute [local go_sem] Oper.semAt_some

/-- What differs between the digests, in memory. -/
structure Shape32 (w : World) (b gT cT : Nat) (K : List (BitVec 32)) : Prop where
  bits : w.cell? ⟨b, 0, none⟩ = some (.int .i64 32)
  tab : w.cell? ⟨b, 1, none⟩ = some (.slice (some ⟨gT, 0, none⟩) 64 cT)
  ta : w.cell? ⟨b, 10, none⟩ = some (.int .i64 2)
  tb : w.cell? ⟨b, 11, none⟩ = some (.int .i64 13)
  tc : w.cell? ⟨b, 12, none⟩ = some (.int .i64 22)
  td : w.cell? ⟨b, 13, none⟩ = some (.int .i64 6)
  te : w.cell? ⟨b, 14, none⟩ = some (.int .i64 11)
  tf : w.cell? ⟨b, 15, none⟩ = some (.int .i64 25)
  tg : w.cell? ⟨b, 16, none⟩ = some (.int .i64 7)
  th : w.cell? ⟨b, 17, none⟩ = some (.int .i64 18)
  ti : w.cell? ⟨b, 18, none⟩ = some (.int .i64 3)
  tj : w.cell? ⟨b, 19, none⟩ = some (.int .i64 17)
  tk : w.cell? ⟨b, 20, none⟩ = some (.int .i64 19)
  tl : w.cell? ⟨b, 21, none⟩ = some (.int .i64 10)
  len : w.cell? ⟨b, 22, none⟩ = some (.int .i64 8)
  klen : K.length = 64
  kc : ∀ j, j < 64 → w.cell? ⟨gT, j, none⟩ = some (V32 (K.getD j 0))
theorem Shape32.below {w w' : World} {b gT cT : Nat} {K : List (BitVec 32)} (h : Shape32 w b gT cT K) (hb : Below w.heap.size w w') : Shape32 w' b gT cT K := by
  have k : ∀ {p : Addr} {v : Value}, w.cell? p = some v → w'.cell? p = some v := fun h => (hb.cell (World.block_lt_of_cell? w _ h)).trans h
  exact ⟨k h.bits, k h.tab, k h.ta, k h.tb, k h.tc, k h.td, k h.te, k h.tf, k h.tg, k h.th, k h.ti, k h.tj, k h.tk, k h.tl, k h.len, h.klen, fun j hj => k (h.kc j hj)⟩
theorem info_w32 : (Try.prog.info? 101).map (fun i => (i.zero, i.size, i.bytes)) = some (some (.int .u32 0), 1, 4) := by kernel_rfl

def mxk32 (m : Int) (v : BitVec 32) : BitVec 32 := if m = 0 then mx320 v else if m = 1 then mx321 v else if m = 2 then mx322 v else mx323 v
theorem mix32_sh (w : World) (b gT cT : Nat) (K : List (BitVec 32)) (hsh : Shape32 w b gT cT K) (v : BitVec 32) (m : Int) (h0 : 0 ≤ m) (h4 : m < 4) :
    Calls Try.prog 109 #[.pointer (some ⟨b, 0, none⟩), V32 v, .int .i64 m] w fun e w' => e = .returned (V32 (mxk32 m v)) ∧ Below w.heap.size w w' := by
  have hm : m = 0 ∨ m = 1 ∨ m = 2 ∨ m = 3 := by omega
  rcases hm with rfl | rfl | rfl | rfl
  · exact mix32_0 w b v hsh.bits hsh.ta hsh.tb hsh.tc
  · exact mix32_1 w b v hsh.bits hsh.td hsh.te hsh.tf
  · exact mix32_2 w b v hsh.bits hsh.tg hsh.th hsh.ti
  · exact mix32_3 w b v hsh.bits hsh.tj hsh.tk hsh.tl
/-- Between two rounds: the words so far. -/
structure PieceIn32 (W2 : World) (A : Option Addr) (p : List UInt8) (G : Value) (ws : List (BitVec 32)) (k : Nat) (W : World) : Prop where
  below : Below W2.heap.size W2 W
  sz : W2.heap.size + 4 ≤ W.heap.size
  gbox : W.heap[W2.heap.size + 1]? = some (.cells #[G] 100 (0, 0))
  cbox : W.heap[W2.heap.size + 2]? = some (.cells #[.slice A 64 64] 22 (0, 0))
  nbox : W.heap[W2.heap.size + 3]? = some (.cells #[.int .i64 4] 3 (0, 0))
  own : W.ownsRow W2.heap.size 101 1 G k (ws.map V32)
theorem PieceIn32.stable {W2 W W' : World} {A : Option Addr} {p : List UInt8} {G : Value} {ws : List (BitVec 32)} {k : Nat} (h : PieceIn32 W2 A p G ws k W) (hb : Below W.heap.size W W') : PieceIn32 W2 A p G ws k W' :=
  ⟨h.below.trans (hb.mono h.below.size), Nat.le_trans h.sz hb.size, heap_below h.gbox hb, heap_below h.cbox hb, heap_below h.nbox hb, ownsRow_below h.own hb⟩
theorem PieceIn32.abides {W2 W : World} {A : Option Addr} {p : List UInt8} {G : Value} {ws : List (BitVec 32)} {k l : Nat} {o : Obj} (h : PieceIn32 W2 A p G ws k W) (hl : W2.heap.size ≤ l) (o' : Obj) (ho : W.heap[l]? = some o) (hoc : o.isCells = false) : PieceIn32 W2 A p G ws k (W.putObj l o') :=
  ⟨below_putObj W l o' h.below hl h.below.size, by have := h.sz; simpa [World.putObj] using this, heap_putObj h.gbox o' ho hoc, heap_putObj h.cbox o' ho hoc, heap_putObj h.nbox o' ho hoc, ownsRow_putObj h.own o' ho hoc⟩
theorem PieceIn32.step {W2 W w6 : World} {A : Option Addr} {p : List UInt8} {G G' : Value} {ws : List (BitVec 32)} {x : BitVec 32} {k : Nat} {ob : Obj} (h : PieceIn32 W2 A p G ws k W) (h6 : w6.ownsRow W2.heap.size 101 1 G' (k + 1) (ws.map V32 ++ [V32 x])) (hb6 : Below W2.heap.size W2 w6)
    (hgr : (W.alloc ob).grownBy w6 G.ownBlock) : w6.heap[W2.heap.size + 1]? = some (.cells #[G] 100 (0, 0)) ∧ PieceIn32 W2 A p G' (ws ++ [x]) (k + 1) (w6.setCell ⟨W2.heap.size + 1, 0, none⟩ G') ∧
      KeepsOthers W (w6.setCell ⟨W2.heap.size + 1, 0, none⟩ G') ∧ ChKp W2.heap.size (W2.heap.size + 2) (W2.heap.size + 3) W (w6.setCell ⟨W2.heap.size + 1, 0, none⟩ G') := by
  have hsz := h.sz
  have hs6 := hgr.size
  simp at hs6
  have hbA : Below W.heap.size W (W.alloc ob) := (Below.refl _ _).alloc (Nat.le_refl _) _
  have ownA := h.own.alloc ob
  have kp : ∀ {n : Nat} {cs : Array Value} {t : TypeId}, t ≠ 101 → W.heap[n]? = some (.cells cs t (0, 0)) → w6.heap[n]? = some (.cells cs t (0, 0)) := fun {n cs t} ht hh =>
    (hgr.block n (Nat.lt_of_lt_of_le (Array.getElem?_eq_some_iff.1 hh).1 hbA.size) (fun e => own_notBox h.own hh ht e.symm)).trans (heap_below hh hbA)
  have g6 := kp (by decide) h.gbox
  have c6 := kp (by decide) h.cbox
  have n6 := kp (by decide) h.nbox
  have c7 : (w6.setCell ⟨W2.heap.size + 1, 0, none⟩ G').heap[W2.heap.size + 2]? = some (.cells #[.slice A 64 64] 22 (0, 0)) := by rw [Below.heap_setCell _ _ _ _ (by simp)]; exact c6
  have n7 : (w6.setCell ⟨W2.heap.size + 1, 0, none⟩ G').heap[W2.heap.size + 3]? = some (.cells #[.int .i64 4] 3 (0, 0)) := by rw [Below.heap_setCell _ _ _ _ (by simp)]; exact n6
  refine ⟨g6, ⟨hb6.setCell (p := ⟨W2.heap.size + 1, 0, none⟩) (by simp) _, by simp [World.setCell]; omega, ?_, c7, n7, ?_⟩, ?_, ?_, ?_, ?_⟩
  · rw [heap_setCell_same _ _ 0 _ _ _ g6]
    rfl
  · rw [List.map_append]
    exact own_setBox h6 g6 (by decide) 0 _
  · refine (KeepsOthers.alloc W _).trans ((KeepsOthers.of_grownBy hgr ?_).trans (KeepsOthers.setCell _ _ _))
    intro j o2 hj ho2
    rcases ownA.2 with ⟨rfl, _⟩ | ⟨g, cap, cur, rfl, _, hh, _⟩
    · simp [Value.ownBlock] at hj
    · simp [Value.ownBlock] at hj
      subst hj
      rw [hh] at ho2
      cases ho2
      rfl
  · exact (((Below.refl _ W).alloc h.below.size _).grown hgr (by simp; omega) (fun g hg => (h.own.lt g hg).1)).setCell (p := ⟨W2.heap.size + 1, 0, none⟩) (by simp) _
  · rw [cell_of_row _ _ _ _ _ _ c7, cell_of_row _ _ _ _ _ _ h.cbox]
  · rw [cell_of_row _ _ _ _ _ _ n7, cell_of_row _ _ _ _ _ _ h.nbox]
theorem there_blk32 {w : World} {g : Nat} {cs : Array Value} {t : TypeId} (h : w.heap[g]? = some (.cells cs t (0, 0))) {n : Nat} (hn : n ≤ cs.size) : w.there g 0 n := fun j hj =>
  ⟨by rw [cell_of_row _ _ _ cs t (0, 0) h, Nat.zero_add]; simp; omega, frozen_blk h _⟩
theorem rangeAt_putObj32 {W : World} {b o l : Nat} {vs : List Value} {ob : Obj} (h : W.rangeAt b o vs) (o' : Obj) (hl : W.heap[l]? = some ob) (ho : ob.isCells = false) : (W.putObj l o').rangeAt b o vs := fun j u hu =>
  cell_kept (h j u hu) (grownBy_putObj' W l o') (fun r e => by cases e; exact ⟨ob, hl, ho⟩)
def mixC32 (s u : St32) (i : Nat) : List Value := (cells32 (addSt32 s u)).take i ++ (cells32 s).drop i
theorem be32_take (l : List UInt8) (j : Nat) (c : UInt8) (h : l[j]? = some c) : be32 (l.take (j + 1)) = be32 (l.take j) <<< 8 ||| BitVec.ofNat 32 c.toNat := by rw [take_snoc h, be32_snoc]
theorem words32_len (p : List UInt8) : (words32 p).length = 16 := by simp [words32]
theorem words32_take (p : List UInt8) (k : Nat) (h : k < 16) : (words32 p).take (k + 1) = (words32 p).take k ++ [be32 (chunkOf p 4 k)] := take_snoc (by simp [words32, h])
theorem one_w32 (x : BitVec 32) : ∀ u ∈ [V32 x], u.oneCell' = true := by
  intro u hu
  simp at hu
  subst hu
  rfl
set_option maxRecDepth 100000 in
set_option maxHeartbeats 4000000 in
theorem piece32_any (w : World) (b gT cT : Nat) (K : List (BitVec 32)) (hsh : Shape32 w b gT cT K) (s : St32) (A : Option Addr) (p : List UInt8) (hr : RB w A 64 p) :
    Calls Try.prog 100 #[.pointer (some ⟨b, 0, none⟩), .agg #[V32 s.a, V32 s.b, V32 s.c, V32 s.d, V32 s.e, V32 s.f, V32 s.g, V32 s.h], .slice A 64 64] w fun e w' => e = .returned (.agg (cells32 (pieceSt32 K s p)).toArray) ∧ Below w.heap.size w w' := by
  obtain ⟨i, hi, hz, hsz, hby⟩ := info_parts info_w32
  have hmk : ∀ w : World, (Instr.makeSlice 100 (.int .i64 0) (.int .i64 64)).run Try.prog w = .ok (.slice (some ⟨w.heap.size, 0, none⟩) 0 64) (w.alloc (.cells (madeCells #[.int .u32 0] 64) 101)) := by
    intro w
    have h := run_make (P := Try.prog) w 100 101 i (.int .u32 0) Try.underlying100 hi hz .i64 .i64 0 64 (by omega) (by omega) (by rw [hby]; omega) (by omega)
    rw [hsz] at h
    exact h
  have hp : p.length = 64 := hr.len
  have hblt : b < w.heap.size := World.block_lt_of_cell? w ⟨b, 0, none⟩ hsh.bits
  have b0 := hsh.bits
  have b1 := hsh.tab
  have Hsh := Lib.hid hsh
  refine (callsIn_wide (n := 9)).1 ?_
  refine callsIn_of_wp_marks Try.func100 rfl trivial ?_ rfl
  rw [wpIn_wide]
  simp only [Try.ntmps100, List.size_toArray, List.length_cons, List.length_nil, Nat.reduceAdd, Nat.reduceSub, Array.replicate_succ, Array.replicate_zero, List.push_toArray, List.append_toArray, List.nil_append, List.cons_append]
  have hl1 : b < w.heap.size + 1 := by omega
  have hl2 : b < w.heap.size + 1 + 1 := by omega
  have hl3 : b < w.heap.size + 1 + 1 + 1 := by omega
  have hl4 : b < w.heap.size + 1 + 1 + 1 + 1 := by omega
  clear hi hz hsz hby hsh
  go_wp2_with fail
  obtain ⟨W2, hW2⟩ : ∃ W2, W2 = (w.alloc (.cells #[V32 s.a, V32 s.b, V32 s.c, V32 s.d, V32 s.e, V32 s.f, V32 s.g, V32 s.h] 102)).alloc (.cells #[.int .u32 0, .int .u32 0, .int .u32 0, .int .u32 0, .int .u32 0, .int .u32 0, .int .u32 0, .int .u32 0] 102) := ⟨_, rfl⟩
  have hs2 : W2.heap.size = w.heap.size + 1 + 1 := by rw [hW2]; simp
  have hb2 : Below w.heap.size w W2 := by rw [hW2]; exact ((Below.refl _ _).alloc (Nat.le_refl _) _).alloc (by simp) _
  have st2 : W2.heap[w.heap.size]? = some (.cells (cells32 s).toArray 102 (0, 0)) := by rw [hW2]; exact (Below.heap_alloc _ _ _ (by simp)).trans (heap_alloc_new w _)
  have re2 : W2.heap[w.heap.size + 1]? = some (.cells #[.int .u32 0, .int .u32 0, .int .u32 0, .int .u32 0, .int .u32 0, .int .u32 0, .int .u32 0, .int .u32 0] 102 (0, 0)) := by rw [hW2]; exact heap_alloc_at _ _ _ (by simp)
  rw [← hW2]
  rw [← hs2]
  have hsh2 := Hsh.out.below hb2
  have Hsh2 := Lib.hid hsh2
  have Hs2 := Lib.hid hs2
  have hblt2 : b < W2.heap.size := by omega
  clear hW2 hs2 hl1 hl2 hl3 hl4 hsh2 b0 b1
  refine (chunk_any _ A 64 64 4 (by decide)).mono ?_
  rintro e w5 ⟨rfl, hw5⟩
  go_wp2_with fail
  rw [show W2.heap.size + 1 + 1 + 1 = W2.heap.size + 3 from rfl, show W2.heap.size + 1 + 1 = W2.heap.size + 2 from rfl]
  have h5a : Below W2.heap.size W2 (W2.alloc (.cells (madeCells #[.int .u32 0] 64) 101)) := (Below.refl _ _).alloc (Nat.le_refl _) _
  have h5 : Below W2.heap.size W2 w5 := by rw [← hw5]; exact (((h5a.alloc (by simp) _).alloc (by simp; omega) _).alloc (by simp; omega) _)
  have a5 : w5.heap[W2.heap.size]? = some (.cells (madeCells #[.int .u32 0] 64) 101 (0, 0)) := by
    rw [← hw5]
    exact (Below.heap_alloc _ _ _ (by simp; omega)).trans ((Below.heap_alloc _ _ _ (by simp; omega)).trans ((Below.heap_alloc _ _ _ (by simp)).trans (heap_alloc_new W2 _)))
  have g5 : w5.heap[W2.heap.size + 1]? = some (.cells #[.slice (some ⟨W2.heap.size, 0, none⟩) 0 64] 100 (0, 0)) := by
    rw [← hw5]
    exact (Below.heap_alloc _ _ _ (by simp)).trans ((Below.heap_alloc _ _ _ (by simp)).trans (heap_alloc_at _ _ _ (by simp)))
  have c5 : w5.heap[W2.heap.size + 2]? = some (.cells #[.slice A 64 64] 22 (0, 0)) := by
    rw [← hw5]
    exact (Below.heap_alloc _ _ _ (by simp)).trans (heap_alloc_at _ _ _ (by simp))
  have d5 : w5.heap[W2.heap.size + 3]? = some (.cells #[.int .i64 4] 3 (0, 0)) := by
    rw [← hw5]
    exact heap_alloc_at _ _ _ (by simp)
  have s5 : w5.heap.size = W2.heap.size + 4 := by rw [← hw5]; simp
  have hr5 : RB w5 A 64 p := (hr.below hb2).below h5
  have hA2 : ∀ ad, A = some ad → 0 < 64 → ad.block < W2.heap.size := by
    rintro ad rfl h0
    obtain ⟨b', o', e, _⟩ := hr.2 h0
    cases e
    have := RV.lt hr h0
    have := Hs2.out
    show b' < W2.heap.size
    omega
  refine wp_rangeIterF (n := 9) rfl (enters_of Try.func108 (by kernel_rfl) rfl) (chunk1_iter (W2.heap.size + 2) (W2.heap.size + 3) A 64 64 4 16 p W2.heap.size (by decide) (by decide) (by decide) (by decide) (by decide)) (fun k args W h => chOk_size h) (fun h k => chKp_t h k)
    (fun W l o o' hl h _ => chKp_b (m := w5.heap.size) (by omega) (by omega) (by omega) o' hl h) (fun k args W l o o' h _ hl ho => chOk_putObj h o' hl ho)
    (fun k W => ∃ G, PieceIn32 W2 A p G ((words32 p).take k) k W) (fun _ _ _ => False)
    (fun k W W' ⟨G, h⟩ hb => ⟨G, h.stable hb⟩) (fun c k W W' h hb => h)
    (fun k W l o o' ⟨G, h⟩ hl ho hoc => ⟨G, h.abides (by omega) o' ho hoc⟩) (fun c k W l o o' h _ _ _ => h)
    (fun W hb => ⟨(hb.cell (p := ⟨W2.heap.size + 2, 0, none⟩) (by show W2.heap.size + 2 < w5.heap.size; omega)).trans (by rw [cell_of_row _ _ _ _ _ _ c5]; rfl), (hb.cell (p := ⟨W2.heap.size + 3, 0, none⟩) (by show W2.heap.size + 3 < w5.heap.size; omega)).trans (by rw [cell_of_row _ _ _ _ _ _ d5]; rfl), hr5.below hb, hA2⟩)
    ⟨_, h5, by omega, g5, c5, d5, by
      refine ⟨rfl, .inr ⟨W2.heap.size, 64, _, rfl, Nat.le_refl _, a5, by decide, by decide, by rw [size_madeCells], rfl⟩⟩⟩
    (fun args T => (T.setIfInBounds 42 (args.getD 0 undef)).setIfInBounds 9 (args.getD 0 undef))
    ?assign ?body ?done ?stop
  case assign =>
    rintro l k args W K ⟨B, rfl, _⟩ hK
    gi_wp2
    simpa using hK
  case body =>
    rintro l k args W hk ⟨G, hI⟩ ⟨B, rfl, hB⟩
    simp only [show ∀ a : Value, #[a].getD 0 undef = a from fun _ => rfl, List.setIfInBounds_toArray, List.set_cons_succ, List.set_cons_zero]
    have hcl := chunkOf_len (bs := p) (n := 4) (k := k) (cnt := 16) hp hk
    obtain ⟨q, hq⟩ : ∃ q, q = chunkOf p 4 k := ⟨_, rfl⟩
    have hwt := words32_take p k hk
    rw [← hq] at hB hcl hwt
    have Hwt := Lib.hid hwt
    clear hq hwt
    gi_wp2_with fail
    gi_loopw [10, 45] (fun x i wr => ∃ j : Nat, j ≤ 4 ∧ i = .int .i64 j ∧ x = V32 (be32 (q.take j)) ∧ wr = W) (fun _ i _ => 4 - (intOf i).toNat)
    case atStart => exact ⟨0, by omega, rfl, rfl, rfl⟩
    case round =>
      obtain ⟨j, hj, rfl, rfl, hwr⟩ := hrel
      subst hwr
      by_cases hjl : j < 4
      · obtain ⟨bb, oo, ch, rfl, hch, hcc⟩ := hB.at_ hjl
        have hbt := Lib.hid (be32_take q j ch hch)
        clear hch
        gi_wp2_with fail
        go_roundw
        case rel => exact ⟨j + 1, by omega, by go_num, by rw [hbt.out], by first | rfl | trivial⟩
        case measure => simp [intOf]; omega
      · obtain rfl : j = 4 := by omega
        rw [List.take_of_length_le (by omega)]
        obtain ⟨AG, cG, rfl, hcG1, hcG2, -, -⟩ := own_form hI.own
        have c_g : wr.cell? ⟨W2.heap.size + 1, 0, none⟩ = some (.slice AG k cG) := by rw [cell_of_row _ _ _ _ _ _ hI.gbox]; rfl
        have hown := hI.own
        have hbw := hI.below
        have HI := Lib.hid hI
        clear hI
        gi_wp2_with (gi_at_builtin; refine wpListIn_append_keep rfl (.tmp 55) (.tmp 57) 100 rfl W2 (hbw.alloc hbw.size _) Try.underlying100 info_w32 rfl (by decide) (.slice AG k cG) k (((words32 p).take k).map V32) rfl (hown.alloc _) (some ⟨wr.heap.size, 0, none⟩) 1 1 [V32 (be32 q)] rfl (rc_new wr _ _ _) rfl (one_w32 _) (by unfold maxLen; omega) (by omega) ?_; intro v6 w6 hown6 hb6 hkeep hgr hor; obtain ⟨A6, c6, rfl, -, -, -, -⟩ := own_form hown6; obtain ⟨y1, y2, y3, y4⟩ := HI.out.step hown6 hb6 hgr; have cy1 : w6.cell? ⟨W2.heap.size + 1, 0, none⟩ = some (.slice AG k cG) := (by rw [cell_of_row _ _ _ _ _ _ y1]; rfl); have fy1 := frozen_blk y1 0; have Y2 := Lib.hid y2; have Y3 := Lib.hid y3; have Y4 := Lib.hid y4; clear y1 y2 y3 y4)
        exact ⟨Y3.out, Y4.out, _, by rw [Hwt.out]; exact Y2.out⟩
  case done =>
    rintro D W hD ⟨G, hI⟩ hK
    rw [List.take_of_length_le (by rw [words32_len]; decide)] at hI
    have hID := Lib.hid (show PieceIn32 W2 A p G (sched32 (words32 p) 0) 16 W ∧ W.heap[D]? = some (.deferred (some [])) from ⟨hI, hK⟩)
    clear hI hK
    simp only [Exit.inBlock, Exit.then]
    go_wp2_with fail
    go_loopw [13] (fun t wr => ∃ (j : Nat) (G : Value), j ≤ 64 - 16 ∧ t = .int .i64 ((16 + j : Nat) : Int) ∧ Hid (PieceIn32 W2 A p G (sched32 (words32 p) j) (16 + j) wr ∧ wr.heap[D]? = some (.deferred (some [])))) (fun t _ => 64 - (intOf t).toNat)
    case atStart => exact ⟨0, G, by omega, rfl, hID⟩
    case round =>
      obtain ⟨j, G, hj, rfl, hin⟩ := hrel
      obtain ⟨t, ht⟩ : ∃ t, t = 16 + j := ⟨_, rfl⟩
      rw [← ht] at hin ⊢
      have hshr := Hsh2.out.below hin.out.1.below
      have b0 := hshr.bits
      have b1 := hshr.tab
      by_cases hjl : j < 64 - 16
      · have hwl : (sched32 (words32 p) j).length = t := by rw [sched32_len, words32_len, ht]
        have hsc : sched32 (words32 p) (j + 1) = sched32 (words32 p) j ++ [nextW32 (sched32 (words32 p) j)] := rfl
        obtain ⟨ws, hws⟩ : ∃ ws, ws = sched32 (words32 p) j := ⟨_, rfl⟩
        rw [← hws] at hin hwl hsc
        have htR : t < 64 := by omega
        obtain ⟨gG, cG, rfl, hgG1, hgG2⟩ := hin.out.1.own.form (by omega)
        have hwat : ∀ i, i < t → ws[i]? = some (ws.getD i 0) := fun i hi => by rw [List.getD_eq_getElem?_getD, List.getElem?_eq_getElem (by omega)]; rfl
        obtain ⟨S, hS⟩ : ∃ S : World → Prop, S = fun w' => PieceIn32 W2 A p (.slice (some ⟨gG, 0, none⟩) t cG) ws t w' ∧ w'.heap[D]? = some (.deferred (some [])) := ⟨_, rfl⟩
        have Sb : ∀ u u', S u → Below u.heap.size u u' → S u' := by
          rw [hS]
          rintro u u' ⟨h1, h2⟩ hb
          exact ⟨h1.stable hb, heap_below h2 hb⟩
        have Sx : ∀ u, S u → PieceIn32 W2 A p (.slice (some ⟨gG, 0, none⟩) t cG) ws t u ∧ u.heap[D]? = some (.deferred (some [])) := by rw [hS]; exact fun _ h => h
        have Swr : S wr := by rw [hS]; exact hin.out
        clear hS
        have hne : Nonempty (InC S) := ⟨⟨wr, Swr⟩⟩
        have F1 : ∀ x : InC S, x.w.cell? ⟨W2.heap.size + 1, 0, none⟩ = some (.slice (some ⟨gG, 0, none⟩) t cG) := fun x => by rw [cell_of_row _ _ _ _ _ _ (Sx _ x.ok).1.gbox]; rfl
        have FW : ∀ i, i < t → ∀ x : InC S, x.w.cell? ⟨gG, i, none⟩ = some (V32 (ws.getD i 0)) := fun i hi x => by
          rw [(Sx _ x.ok).1.own.cellAt i (by omega), List.getElem?_map, hwat i hi]; rfl
        obtain ⟨i2, hi2⟩ : ∃ i2, i2 = t - 2 := ⟨_, rfl⟩
        obtain ⟨i7, hi7⟩ : ∃ i7, i7 = t - 7 := ⟨_, rfl⟩
        obtain ⟨i15, hi15⟩ : ∃ i15, i15 = t - 15 := ⟨_, rfl⟩
        obtain ⟨i16, hi16⟩ : ∃ i16, i16 = t - 16 := ⟨_, rfl⟩
        have F2 := FW i2 (by omega)
        have F7 := FW i7 (by omega)
        have F15 := FW i15 (by omega)
        have F16 := FW i16 (by omega)
        have e2 : (t : Int) - 2 = (i2 : Int) := by omega
        have e7 : (t : Int) - 7 = (i7 : Int) := by omega
        have e15 : (t : Int) - 15 = (i15 : Int) := by omega
        have e16 : (t : Int) - 16 = (i16 : Int) := by omega
        have l2 : i2 < t := by omega
        have l7 : i7 < t := by omega
        have l15 : i15 < t := by omega
        have l16 : i16 < t := by omega
        have hnx : nextW32 ws = mx323 (ws.getD i2 0) + ws.getD i7 0 + mx322 (ws.getD i15 0) + ws.getD i16 0 := by rw [nextW32, hwl, ← hi2, ← hi7, ← hi15, ← hi16]
        rw [hnx] at hsc
        generalize ws.getD i2 0 = x2 at F2 hsc
        generalize ws.getD i7 0 = x7 at F7 hsc
        generalize ws.getD i15 0 = x15 at F15 hsc
        generalize ws.getD i16 0 = x16 at F16 hsc
        have CM : ∀ (x : InC S) (v : BitVec 32) (m : Int), 0 ≤ m → m < 4 → Calls Try.prog 109 #[.pointer (some ⟨b, 0, none⟩), V32 v, .int .i64 m] x.w fun e w' => e = .returned (V32 (mxk32 m v)) ∧ ∃ y : InC S, w' = y.w := fun x v m h0 h4 =>
          (mix32_sh x.w b gT cT K (Hsh2.out.below (Sx _ x.ok).1.below) v m h0 h4).mono fun e w' ⟨h1, h2⟩ => ⟨h1, ⟨w', Sb _ _ x.ok h2⟩, rfl⟩
        have Hsc := Lib.hid hsc
        have Ht := Lib.hid ht
        have HSb := Lib.hid Sb
        have HSx := Lib.hid Sx
        have HCM := Lib.hid CM
        have Hwr := Lib.hid Swr
        have Hin := Lib.hid hin
        clear hsc Sb Sx CM Swr hin hwl hws hnx FW hwat hi2 hi7 hi15 hi16 ht
        go_wp2_with fail
        refine wp_region_noPanic ?_
        refine wp_region_quietTailZIn 28 S (by kernel_rfl) (by kernel_rfl) (HSb.out _ _ Hwr.out (below_drewN (Below.refl _ _) 1)) (fun _ _ _ _ _ h => h) rfl rfl rfl rfl Try.underlying100 info_w32 (fun u o hu => HSb.out _ _ hu ((Below.refl _ _).alloc (Nat.le_refl _) _)) ?_
        simp only [List.take_succ_cons, List.take_zero, List.drop_succ_cons, List.drop_zero]
        repeat (go_big_quiet_step (first | (go_at_call 109; exact HCM.out _ _ _ (by decide) (by decide))))
        refine wpQuiet_nil ?_
        rintro _ ⟨x, rfl⟩
        have hx := HSx.out _ x.ok
        have hown := hx.1.own
        have hbw := hx.1.below
        have hm3 : mxk32 3 x2 = mx323 x2 := by simp [mxk32]
        have hm2 : mxk32 2 x15 = mx322 x15 := by simp [mxk32]
        have HX := Lib.hid hx
        have Hm3 := Lib.hid hm3
        have Hm2 := Lib.hid hm2
        have F1x := F1 x
        clear hx hm3 hm2 F1 F2 F7 F15 F16 hne
        go_wp2_with (at_builtin; refine wpList_append_keep rfl (.tmp 68) (.tmp 96) 100 rfl W2 (hbw.alloc hbw.size _) Try.underlying100 info_w32 rfl (by decide) (.slice (some ⟨gG, 0, none⟩) t cG) t (ws.map V32) rfl (hown.alloc _) (some ⟨x.w.heap.size, 0, none⟩) 1 1 [V32 (mxk32 3 x2 + x7 + mxk32 2 x15 + x16)] rfl (rc_new x.w _ _ _) rfl (one_w32 _) (by unfold maxLen; omega) (by omega) ?_; intro v6 w6 hown6 hb6 hkeep hgr hor; obtain ⟨A6, c6, rfl, -, -, -, -⟩ := own_form hown6; obtain ⟨y1, y2, y3, -⟩ := HX.out.1.step hown6 hb6 hgr; have cy1 : w6.cell? ⟨W2.heap.size + 1, 0, none⟩ = some (.slice (some ⟨gG, 0, none⟩) t cG) := (by rw [cell_of_row _ _ _ _ _ _ y1]; rfl); have fy1 := frozen_blk y1 0; have y5 := y3.same _ _ HX.out.2 rfl; have Y2 := Lib.hid y2; have Y5 := Lib.hid y5; clear y1 y2 y3 y5)
        refine NoPanic.normal ?_
        go_wp2
        go_roundw
        case rel =>
          refine ⟨j + 1, .slice A6 (t + 1) c6, by omega, ?_, Lib.hid ⟨?_, Y5.out⟩⟩
          · have := Ht.out
            go_num
          · rw [Hsc.out, ← Hm3.out, ← Hm2.out, show 16 + (j + 1) = t + 1 by have := Ht.out; omega]
            exact Y2.out
        case measure => simp [intOf]; omega
      · obtain rfl : j = 64 - 16 := by omega
        have htR : t = 64 := by omega
        clear ht
        subst htR
        have hwl : (sched32 (words32 p) (64 - 16)).length = 64 := by rw [sched32_len, words32_len]
        obtain ⟨ws, hws⟩ : ∃ ws, ws = sched32 (words32 p) (64 - 16) := ⟨_, rfl⟩
        have hres : pieceSt32 K s p = addSt32 s (rnds32 K ws s 64) := by rw [hws]; rfl
        rw [← hws] at hin hwl
        obtain ⟨gG, cG, rfl, hgG1, hgG2⟩ := hin.out.1.own.form (by decide)
        have hwat : ∀ i, i < 64 → ws[i]? = some (ws.getD i 0) := fun i hi => by rw [List.getD_eq_getElem?_getD, List.getElem?_eq_getElem (by omega)]; rfl
        obtain ⟨S, hS⟩ : ∃ S : World → Prop, S = fun w' => PieceIn32 W2 A p (.slice (some ⟨gG, 0, none⟩) 64 cG) ws 64 w' ∧ w'.heap[D]? = some (.deferred (some [])) := ⟨_, rfl⟩
        have Sb : ∀ u u', S u → Below u.heap.size u u' → S u' := by
          rw [hS]
          rintro u u' ⟨h1, h2⟩ hb
          exact ⟨h1.stable hb, heap_below h2 hb⟩
        have Sx : ∀ u, S u → PieceIn32 W2 A p (.slice (some ⟨gG, 0, none⟩) 64 cG) ws 64 u ∧ u.heap[D]? = some (.deferred (some [])) := by rw [hS]; exact fun _ h => h
        have Swr : S wr := by rw [hS]; exact hin.out
        clear hS
        have F1 : ∀ x : InC S, x.w.cell? ⟨W2.heap.size + 1, 0, none⟩ = some (.slice (some ⟨gG, 0, none⟩) 64 cG) := fun x => by rw [cell_of_row _ _ _ _ _ _ (Sx _ x.ok).1.gbox]; rfl
        have FW : ∀ i, i < 64 → ∀ x : InC S, x.w.cell? ⟨gG, i, none⟩ = some (V32 (ws.getD i 0)) := fun i hi x => by
          rw [(Sx _ x.ok).1.own.cellAt i (by omega), List.getElem?_map, hwat i hi]; rfl
        have FS : ∀ (x : InC S) i v, (cells32 s)[i]? = some v → x.w.cell? ⟨w.heap.size, i, none⟩ = some v := fun x i v hv => by
          have h2 := (Sx _ x.ok).1.below
          refine (h2.cell (p := ⟨w.heap.size, i, none⟩) (by show w.heap.size < W2.heap.size; have := Hs2.out; omega)).trans ?_
          rw [cell_of_row _ _ _ _ _ _ st2]
          simpa using hv
        have CM : ∀ (x : InC S) (v : BitVec 32) (m : Int), 0 ≤ m → m < 4 → Calls Try.prog 109 #[.pointer (some ⟨b, 0, none⟩), V32 v, .int .i64 m] x.w fun e w' => e = .returned (V32 (mxk32 m v)) ∧ ∃ y : InC S, w' = y.w := fun x v m h0 h4 =>
          (mix32_sh x.w b gT cT K (Hsh2.out.below (Sx _ x.ok).1.below) v m h0 h4).mono fun e w' ⟨h1, h2⟩ => ⟨h1, ⟨w', Sb _ _ x.ok h2⟩, rfl⟩
        have FT : ∀ i, i < 64 → ∀ x : InC S, x.w.cell? ⟨gT, i, none⟩ = some (V32 (K.getD i 0)) := fun i hi x => (Hsh2.out.below (Sx _ x.ok).1.below).kc i hi
        have FB : ∀ x : InC S, x.w.cell? ⟨b, 1, none⟩ = some (.slice (some ⟨gT, 0, none⟩) 64 cT) := fun x => (Hsh2.out.below (Sx _ x.ok).1.below).tab
        obtain ⟨x0, hx0⟩ : ∃ x0 : InC S, x0.w = wr := ⟨⟨wr, Swr⟩, rfl⟩
        rw [← hx0]
        have s0 : x0.w.cell? ⟨w.heap.size, 0, none⟩ = some (V32 s.a) := FS x0 0 _ rfl
        have s1 : x0.w.cell? ⟨w.heap.size, 1, none⟩ = some (V32 s.b) := FS x0 1 _ rfl
        have s2 : x0.w.cell? ⟨w.heap.size, 2, none⟩ = some (V32 s.c) := FS x0 2 _ rfl
        have s3 : x0.w.cell? ⟨w.heap.size, 3, none⟩ = some (V32 s.d) := FS x0 3 _ rfl
        have s4 : x0.w.cell? ⟨w.heap.size, 4, none⟩ = some (V32 s.e) := FS x0 4 _ rfl
        have s5' : x0.w.cell? ⟨w.heap.size, 5, none⟩ = some (V32 s.f) := FS x0 5 _ rfl
        have s6 : x0.w.cell? ⟨w.heap.size, 6, none⟩ = some (V32 s.g) := FS x0 6 _ rfl
        have s7 : x0.w.cell? ⟨w.heap.size, 7, none⟩ = some (V32 s.h) := FS x0 7 _ rfl
        have b0' := FB x0
        rw [← hx0] at b0 b1
        have HSb := Lib.hid Sb
        have HSx := Lib.hid Sx
        have HCM := Lib.hid CM
        have HFW := Lib.hid FW
        have HFS := Lib.hid FS
        have HFT := Lib.hid FT
        have Hres := Lib.hid hres
        have HF1 := Lib.hid F1
        have HFB := Lib.hid FB
        clear Sb Sx CM FW FS FT hres hws hwl hwat hin hx0 Swr F1 FB
        go_wp2_with fail
        go_quiet (fail)
        obtain ⟨x1, hx1⟩ : ∃ x1 : InC S, x1.w = x0.w.drewN nq := ⟨⟨_, HSb.out _ _ x0.ok (below_drewN (Below.refl _ _) nq)⟩, rfl⟩
        rw [← hx1]
        have b1' := HFB.out x1
        clear hx1 s0 s1 s2 s3 s4 s5' s6 s7 b0' b0 b1
        go_wp2_with fail
        go_loopw [14, 15, 16, 17, 18, 19, 20, 21, 119] (fun va vb vc vd ve vf vg vh i wr => ∃ (j : Nat) (u : St32), j ≤ 64 ∧ i = .int .i64 j ∧ Hid (u = rnds32 K ws s j) ∧ va = V32 u.a ∧ vb = V32 u.b ∧ vc = V32 u.c ∧ vd = V32 u.d ∧ ve = V32 u.e ∧ vf = V32 u.f ∧ vg = V32 u.g ∧ vh = V32 u.h ∧ S wr) (fun _ _ _ _ _ _ _ _ i _ => 64 - (intOf i).toNat)
        case atStart => exact ⟨0, s, by omega, rfl, Lib.hid rfl, rfl, rfl, rfl, rfl, rfl, rfl, rfl, rfl, x1.ok⟩
        case round =>
          obtain ⟨j, u, hj, rfl, hu, rfl, rfl, rfl, rfl, rfl, rfl, rfl, rfl, hSw⟩ := hrel
          obtain ⟨x2, rfl⟩ : ∃ x2 : InC S, x2.w = wr := ⟨⟨wr, hSw⟩, rfl⟩
          by_cases hjl : j < 64
          · have hne : Nonempty (InC S) := ⟨x2⟩
            have f1 := HF1.out
            have f2 := HFW.out j hjl
            have f3 := HFT.out j hjl x2
            have hju : rnds32 K ws s (j + 1) = rnd32 u (K.getD j 0) (ws.getD j 0) := by rw [rnds32, ← hu.out]
            generalize K.getD j 0 = kk at f3 hju
            generalize ws.getD j 0 = wk at f2 hju
            have Hju := Lib.hid hju
            clear hju
            have k1 : mxk32 1 u.e = mx321 u.e := by simp [mxk32]
            have k0 : mxk32 0 u.a = mx320 u.a := by simp [mxk32]
            go_wp2_with fail
            refine wp_region_quietIn S (by kernel_rfl) (by kernel_rfl) (HSb.out _ _ x2.ok (below_drewN (Below.refl _ _) 1)) ?_
            repeat (go_big_quiet_step (first | (go_at_call 109; exact HCM.out _ _ _ (by decide) (by decide))))
            refine wpQuiet_nil ?_
            rintro _ ⟨x3, rfl⟩
            clear f1 f2 hne
            go_wp2_with fail
            refine (HCM.out x3 u.a 0 (by decide) (by decide)).mono ?_
            rintro e w' ⟨rfl, x4, rfl⟩
            go_wp2_with fail
            refine ⟨?_, ?measure⟩
            iterate 66 apply Exists.intro
            refine ⟨?rel, rfl⟩
            case rel => exact ⟨j + 1, rnd32 u kk wk, hjl, by go_num, Lib.hid Hju.out.symm, rfl, rfl, rfl, rfl, rfl, rfl, rfl, rfl, x4.ok⟩
            case measure => simp [intOf]; omega
          · obtain rfl : j = 64 := by omega
            have s0 : x2.w.cell? ⟨w.heap.size, 0, none⟩ = some (V32 s.a) := HFS.out x2 0 _ rfl
            have s1 : x2.w.cell? ⟨w.heap.size, 1, none⟩ = some (V32 s.b) := HFS.out x2 1 _ rfl
            have s2 : x2.w.cell? ⟨w.heap.size, 2, none⟩ = some (V32 s.c) := HFS.out x2 2 _ rfl
            have s3 : x2.w.cell? ⟨w.heap.size, 3, none⟩ = some (V32 s.d) := HFS.out x2 3 _ rfl
            have s4 : x2.w.cell? ⟨w.heap.size, 4, none⟩ = some (V32 s.e) := HFS.out x2 4 _ rfl
            have s5' : x2.w.cell? ⟨w.heap.size, 5, none⟩ = some (V32 s.f) := HFS.out x2 5 _ rfl
            have s6 : x2.w.cell? ⟨w.heap.size, 6, none⟩ = some (V32 s.g) := HFS.out x2 6 _ rfl
            have s7 : x2.w.cell? ⟨w.heap.size, 7, none⟩ = some (V32 s.h) := HFS.out x2 7 _ rfl
            have hin := HSx.out _ x2.ok
            have hfz : ∀ i, x2.w.frozen? ⟨w.heap.size, i, none⟩ = false := fun i => frozen_blk ((hin.1.below.block w.heap.size (by have := Hs2.out; omega)).trans st2) i
            have Hin := Lib.hid hin
            have hxs : x2.w.heap.size = x2.w.heap.size := rfl
            clear hin hxs
            obtain ⟨w7, hw7⟩ : ∃ w7, w7 = x2.w := ⟨_, rfl⟩
            rw [← hw7] at s0 s1 s2 s3 s4 s5' s6 s7 hfz Hin ⊢
            clear hw7
            have i0 : ∀ w, (Instr.index 102 (.agg #[V32 u.a, V32 u.b, V32 u.c, V32 u.d, V32 u.e, V32 u.f, V32 u.g, V32 u.h]) (.int .i64 0)).run Try.prog w = .ok (V32 u.a) w := fun _ => by kernel_rfl
            have i1 : ∀ w, (Instr.index 102 (.agg #[V32 u.a, V32 u.b, V32 u.c, V32 u.d, V32 u.e, V32 u.f, V32 u.g, V32 u.h]) (.int .i64 1)).run Try.prog w = .ok (V32 u.b) w := fun _ => by kernel_rfl
            have i2 : ∀ w, (Instr.index 102 (.agg #[V32 u.a, V32 u.b, V32 u.c, V32 u.d, V32 u.e, V32 u.f, V32 u.g, V32 u.h]) (.int .i64 2)).run Try.prog w = .ok (V32 u.c) w := fun _ => by kernel_rfl
            have i3 : ∀ w, (Instr.index 102 (.agg #[V32 u.a, V32 u.b, V32 u.c, V32 u.d, V32 u.e, V32 u.f, V32 u.g, V32 u.h]) (.int .i64 3)).run Try.prog w = .ok (V32 u.d) w := fun _ => by kernel_rfl
            have i4 : ∀ w, (Instr.index 102 (.agg #[V32 u.a, V32 u.b, V32 u.c, V32 u.d, V32 u.e, V32 u.f, V32 u.g, V32 u.h]) (.int .i64 4)).run Try.prog w = .ok (V32 u.e) w := fun _ => by kernel_rfl
            have i5 : ∀ w, (Instr.index 102 (.agg #[V32 u.a, V32 u.b, V32 u.c, V32 u.d, V32 u.e, V32 u.f, V32 u.g, V32 u.h]) (.int .i64 5)).run Try.prog w = .ok (V32 u.f) w := fun _ => by kernel_rfl
            have i6 : ∀ w, (Instr.index 102 (.agg #[V32 u.a, V32 u.b, V32 u.c, V32 u.d, V32 u.e, V32 u.f, V32 u.g, V32 u.h]) (.int .i64 6)).run Try.prog w = .ok (V32 u.g) w := fun _ => by kernel_rfl
            have i7 : ∀ w, (Instr.index 102 (.agg #[V32 u.a, V32 u.b, V32 u.c, V32 u.d, V32 u.e, V32 u.f, V32 u.g, V32 u.h]) (.int .i64 7)).run Try.prog w = .ok (V32 u.h) w := fun _ => by kernel_rfl
            have st7 : w7.heap[w.heap.size]? = some (.cells (mixC32 s u 0).toArray 102 (0, 0)) := (Hin.out.1.below.block w.heap.size (by have := Hs2.out; omega)).trans st2
            have re7 : w7.heap[w.heap.size + 1]? = some (.cells #[.int .u32 0, .int .u32 0, .int .u32 0, .int .u32 0, .int .u32 0, .int .u32 0, .int .u32 0, .int .u32 0] 102 (0, 0)) := (Hin.out.1.below.block (w.heap.size + 1) (by have := Hs2.out; omega)).trans re2
            have hb7 : Below w.heap.size w w7 := hb2.trans (Hin.out.1.below.mono hb2.size)
            have H7 := Lib.hid (⟨st7, hb7, re7, Hin.out.2⟩ : w7.heap[w.heap.size]? = some (.cells (mixC32 s u 0).toArray 102 (0, 0)) ∧ Below w.heap.size w w7 ∧ w7.heap[w.heap.size + 1]? = some (.cells #[.int .u32 0, .int .u32 0, .int .u32 0, .int .u32 0, .int .u32 0, .int .u32 0, .int .u32 0, .int .u32 0] 102 (0, 0)) ∧ w7.heap[D]? = some (.deferred (some [])))
            clear st7 re7 hb7 s0 s1 s2 s3 s4 s5' s6 s7 hfz
            go_wp2
            go_loopw [182] (fun i wr => ∃ i' : Nat, i' ≤ 8 ∧ i = .int .i64 i' ∧ Hid (wr.heap[w.heap.size]? = some (.cells (mixC32 s u i').toArray 102 (0, 0)) ∧ Below w.heap.size w wr ∧ wr.heap[w.heap.size + 1]? = some (.cells #[.int .u32 0, .int .u32 0, .int .u32 0, .int .u32 0, .int .u32 0, .int .u32 0, .int .u32 0, .int .u32 0] 102 (0, 0)) ∧ wr.heap[D]? = some (.deferred (some [])))) (fun i _ => 8 - (intOf i).toNat)
            case atStart => exact ⟨0, by omega, rfl, H7⟩
            case round =>
              obtain ⟨k, hk, rfl, hq⟩ := hrel
              have h9 : k = 0 ∨ k = 1 ∨ k = 2 ∨ k = 3 ∨ k = 4 ∨ k = 5 ∨ k = 6 ∨ k = 7 ∨ k = 8 := by omega
              rcases h9 with rfl | rfl | rfl | rfl | rfl | rfl | rfl | rfl | rfl
              · have c0 : wr.cell? ⟨w.heap.size, 0, none⟩ = some (V32 s.a) := by rw [cell_of_row _ _ _ _ _ _ hq.out.1]; rfl
                have fz : wr.frozen? ⟨w.heap.size, 0, none⟩ = false := frozen_blk hq.out.1 _
                have nx : (wr.setCell ⟨w.heap.size, 0, none⟩ (V32 (s.a + u.a))).heap[w.heap.size]? = some (.cells (mixC32 s u (0 + 1)).toArray 102 (0, 0)) := by
                  rw [heap_setCell_same _ _ 0 _ _ _ hq.out.1]; rfl
                have HN := Lib.hid (⟨nx, (hq.out.2.1).setCell (p := ⟨w.heap.size, 0, none⟩) (Nat.le_refl _) _, by rw [Below.heap_setCell _ _ _ _ (by simp)]; exact hq.out.2.2.1, by rw [Below.heap_setCell _ _ _ _ (by show D ≠ w.heap.size; have := Hs2.out; omega)]; exact hq.out.2.2.2⟩ : (wr.setCell ⟨w.heap.size, 0, none⟩ (V32 (s.a + u.a))).heap[w.heap.size]? = some (.cells (mixC32 s u (0 + 1)).toArray 102 (0, 0)) ∧ Below w.heap.size w (wr.setCell ⟨w.heap.size, 0, none⟩ (V32 (s.a + u.a))) ∧ (wr.setCell ⟨w.heap.size, 0, none⟩ (V32 (s.a + u.a))).heap[w.heap.size + 1]? = some (.cells #[.int .u32 0, .int .u32 0, .int .u32 0, .int .u32 0, .int .u32 0, .int .u32 0, .int .u32 0, .int .u32 0] 102 (0, 0)) ∧ (wr.setCell ⟨w.heap.size, 0, none⟩ (V32 (s.a + u.a))).heap[D]? = some (.deferred (some [])))
                clear nx
                go_wp2
                simp only [run_storeCells_w32]
                go_simp
                go_wp2
                refine ⟨?_, ?measure⟩
                iterate 13 apply Exists.intro
                refine ⟨?rel, rfl⟩
                case rel => exact ⟨1, by omega, rfl, HN⟩
                case measure => simp [intOf]
              · have c0 : wr.cell? ⟨w.heap.size, 1, none⟩ = some (V32 s.b) := by rw [cell_of_row _ _ _ _ _ _ hq.out.1]; rfl
                have fz : wr.frozen? ⟨w.heap.size, 1, none⟩ = false := frozen_blk hq.out.1 _
                have nx : (wr.setCell ⟨w.heap.size, 1, none⟩ (V32 (s.b + u.b))).heap[w.heap.size]? = some (.cells (mixC32 s u (1 + 1)).toArray 102 (0, 0)) := by
                  rw [heap_setCell_same _ _ 1 _ _ _ hq.out.1]; rfl
                have HN := Lib.hid (⟨nx, (hq.out.2.1).setCell (p := ⟨w.heap.size, 1, none⟩) (Nat.le_refl _) _, by rw [Below.heap_setCell _ _ _ _ (by simp)]; exact hq.out.2.2.1, by rw [Below.heap_setCell _ _ _ _ (by show D ≠ w.heap.size; have := Hs2.out; omega)]; exact hq.out.2.2.2⟩ : (wr.setCell ⟨w.heap.size, 1, none⟩ (V32 (s.b + u.b))).heap[w.heap.size]? = some (.cells (mixC32 s u (1 + 1)).toArray 102 (0, 0)) ∧ Below w.heap.size w (wr.setCell ⟨w.heap.size, 1, none⟩ (V32 (s.b + u.b))) ∧ (wr.setCell ⟨w.heap.size, 1, none⟩ (V32 (s.b + u.b))).heap[w.heap.size + 1]? = some (.cells #[.int .u32 0, .int .u32 0, .int .u32 0, .int .u32 0, .int .u32 0, .int .u32 0, .int .u32 0, .int .u32 0] 102 (0, 0)) ∧ (wr.setCell ⟨w.heap.size, 1, none⟩ (V32 (s.b + u.b))).heap[D]? = some (.deferred (some [])))
                clear nx
                go_wp2
                simp only [run_storeCells_w32]
                go_simp
                go_wp2
                refine ⟨?_, ?measure⟩
                iterate 13 apply Exists.intro
                refine ⟨?rel, rfl⟩
                case rel => exact ⟨2, by omega, rfl, HN⟩
                case measure => simp [intOf]
              · have c0 : wr.cell? ⟨w.heap.size, 2, none⟩ = some (V32 s.c) := by rw [cell_of_row _ _ _ _ _ _ hq.out.1]; rfl
                have fz : wr.frozen? ⟨w.heap.size, 2, none⟩ = false := frozen_blk hq.out.1 _
                have nx : (wr.setCell ⟨w.heap.size, 2, none⟩ (V32 (s.c + u.c))).heap[w.heap.size]? = some (.cells (mixC32 s u (2 + 1)).toArray 102 (0, 0)) := by
                  rw [heap_setCell_same _ _ 2 _ _ _ hq.out.1]; rfl
                have HN := Lib.hid (⟨nx, (hq.out.2.1).setCell (p := ⟨w.heap.size, 2, none⟩) (Nat.le_refl _) _, by rw [Below.heap_setCell _ _ _ _ (by simp)]; exact hq.out.2.2.1, by rw [Below.heap_setCell _ _ _ _ (by show D ≠ w.heap.size; have := Hs2.out; omega)]; exact hq.out.2.2.2⟩ : (wr.setCell ⟨w.heap.size, 2, none⟩ (V32 (s.c + u.c))).heap[w.heap.size]? = some (.cells (mixC32 s u (2 + 1)).toArray 102 (0, 0)) ∧ Below w.heap.size w (wr.setCell ⟨w.heap.size, 2, none⟩ (V32 (s.c + u.c))) ∧ (wr.setCell ⟨w.heap.size, 2, none⟩ (V32 (s.c + u.c))).heap[w.heap.size + 1]? = some (.cells #[.int .u32 0, .int .u32 0, .int .u32 0, .int .u32 0, .int .u32 0, .int .u32 0, .int .u32 0, .int .u32 0] 102 (0, 0)) ∧ (wr.setCell ⟨w.heap.size, 2, none⟩ (V32 (s.c + u.c))).heap[D]? = some (.deferred (some [])))
                clear nx
                go_wp2
                simp only [run_storeCells_w32]
                go_simp
                go_wp2
                refine ⟨?_, ?measure⟩
                iterate 13 apply Exists.intro
                refine ⟨?rel, rfl⟩
                case rel => exact ⟨3, by omega, rfl, HN⟩
                case measure => simp [intOf]
              · have c0 : wr.cell? ⟨w.heap.size, 3, none⟩ = some (V32 s.d) := by rw [cell_of_row _ _ _ _ _ _ hq.out.1]; rfl
                have fz : wr.frozen? ⟨w.heap.size, 3, none⟩ = false := frozen_blk hq.out.1 _
                have nx : (wr.setCell ⟨w.heap.size, 3, none⟩ (V32 (s.d + u.d))).heap[w.heap.size]? = some (.cells (mixC32 s u (3 + 1)).toArray 102 (0, 0)) := by
                  rw [heap_setCell_same _ _ 3 _ _ _ hq.out.1]; rfl
                have HN := Lib.hid (⟨nx, (hq.out.2.1).setCell (p := ⟨w.heap.size, 3, none⟩) (Nat.le_refl _) _, by rw [Below.heap_setCell _ _ _ _ (by simp)]; exact hq.out.2.2.1, by rw [Below.heap_setCell _ _ _ _ (by show D ≠ w.heap.size; have := Hs2.out; omega)]; exact hq.out.2.2.2⟩ : (wr.setCell ⟨w.heap.size, 3, none⟩ (V32 (s.d + u.d))).heap[w.heap.size]? = some (.cells (mixC32 s u (3 + 1)).toArray 102 (0, 0)) ∧ Below w.heap.size w (wr.setCell ⟨w.heap.size, 3, none⟩ (V32 (s.d + u.d))) ∧ (wr.setCell ⟨w.heap.size, 3, none⟩ (V32 (s.d + u.d))).heap[w.heap.size + 1]? = some (.cells #[.int .u32 0, .int .u32 0, .int .u32 0, .int .u32 0, .int .u32 0, .int .u32 0, .int .u32 0, .int .u32 0] 102 (0, 0)) ∧ (wr.setCell ⟨w.heap.size, 3, none⟩ (V32 (s.d + u.d))).heap[D]? = some (.deferred (some [])))
                clear nx
                go_wp2
                simp only [run_storeCells_w32]
                go_simp
                go_wp2
                refine ⟨?_, ?measure⟩
                iterate 13 apply Exists.intro
                refine ⟨?rel, rfl⟩
                case rel => exact ⟨4, by omega, rfl, HN⟩
                case measure => simp [intOf]
              · have c0 : wr.cell? ⟨w.heap.size, 4, none⟩ = some (V32 s.e) := by rw [cell_of_row _ _ _ _ _ _ hq.out.1]; rfl
                have fz : wr.frozen? ⟨w.heap.size, 4, none⟩ = false := frozen_blk hq.out.1 _
                have nx : (wr.setCell ⟨w.heap.size, 4, none⟩ (V32 (s.e + u.e))).heap[w.heap.size]? = some (.cells (mixC32 s u (4 + 1)).toArray 102 (0, 0)) := by
                  rw [heap_setCell_same _ _ 4 _ _ _ hq.out.1]; rfl
                have HN := Lib.hid (⟨nx, (hq.out.2.1).setCell (p := ⟨w.heap.size, 4, none⟩) (Nat.le_refl _) _, by rw [Below.heap_setCell _ _ _ _ (by simp)]; exact hq.out.2.2.1, by rw [Below.heap_setCell _ _ _ _ (by show D ≠ w.heap.size; have := Hs2.out; omega)]; exact hq.out.2.2.2⟩ : (wr.setCell ⟨w.heap.size, 4, none⟩ (V32 (s.e + u.e))).heap[w.heap.size]? = some (.cells (mixC32 s u (4 + 1)).toArray 102 (0, 0)) ∧ Below w.heap.size w (wr.setCell ⟨w.heap.size, 4, none⟩ (V32 (s.e + u.e))) ∧ (wr.setCell ⟨w.heap.size, 4, none⟩ (V32 (s.e + u.e))).heap[w.heap.size + 1]? = some (.cells #[.int .u32 0, .int .u32 0, .int .u32 0, .int .u32 0, .int .u32 0, .int .u32 0, .int .u32 0, .int .u32 0] 102 (0, 0)) ∧ (wr.setCell ⟨w.heap.size, 4, none⟩ (V32 (s.e + u.e))).heap[D]? = some (.deferred (some [])))
                clear nx
                go_wp2
                simp only [run_storeCells_w32]
                go_simp
                go_wp2
                refine ⟨?_, ?measure⟩
                iterate 13 apply Exists.intro
                refine ⟨?rel, rfl⟩
                case rel => exact ⟨5, by omega, rfl, HN⟩
                case measure => simp [intOf]
              · have c0 : wr.cell? ⟨w.heap.size, 5, none⟩ = some (V32 s.f) := by rw [cell_of_row _ _ _ _ _ _ hq.out.1]; rfl
                have fz : wr.frozen? ⟨w.heap.size, 5, none⟩ = false := frozen_blk hq.out.1 _
                have nx : (wr.setCell ⟨w.heap.size, 5, none⟩ (V32 (s.f + u.f))).heap[w.heap.size]? = some (.cells (mixC32 s u (5 + 1)).toArray 102 (0, 0)) := by
                  rw [heap_setCell_same _ _ 5 _ _ _ hq.out.1]; rfl
                have HN := Lib.hid (⟨nx, (hq.out.2.1).setCell (p := ⟨w.heap.size, 5, none⟩) (Nat.le_refl _) _, by rw [Below.heap_setCell _ _ _ _ (by simp)]; exact hq.out.2.2.1, by rw [Below.heap_setCell _ _ _ _ (by show D ≠ w.heap.size; have := Hs2.out; omega)]; exact hq.out.2.2.2⟩ : (wr.setCell ⟨w.heap.size, 5, none⟩ (V32 (s.f + u.f))).heap[w.heap.size]? = some (.cells (mixC32 s u (5 + 1)).toArray 102 (0, 0)) ∧ Below w.heap.size w (wr.setCell ⟨w.heap.size, 5, none⟩ (V32 (s.f + u.f))) ∧ (wr.setCell ⟨w.heap.size, 5, none⟩ (V32 (s.f + u.f))).heap[w.heap.size + 1]? = some (.cells #[.int .u32 0, .int .u32 0, .int .u32 0, .int .u32 0, .int .u32 0, .int .u32 0, .int .u32 0, .int .u32 0] 102 (0, 0)) ∧ (wr.setCell ⟨w.heap.size, 5, none⟩ (V32 (s.f + u.f))).heap[D]? = some (.deferred (some [])))
                clear nx
                go_wp2
                simp only [run_storeCells_w32]
                go_simp
                go_wp2
                refine ⟨?_, ?measure⟩
                iterate 13 apply Exists.intro
                refine ⟨?rel, rfl⟩
                case rel => exact ⟨6, by omega, rfl, HN⟩
                case measure => simp [intOf]
              · have c0 : wr.cell? ⟨w.heap.size, 6, none⟩ = some (V32 s.g) := by rw [cell_of_row _ _ _ _ _ _ hq.out.1]; rfl
                have fz : wr.frozen? ⟨w.heap.size, 6, none⟩ = false := frozen_blk hq.out.1 _
                have nx : (wr.setCell ⟨w.heap.size, 6, none⟩ (V32 (s.g + u.g))).heap[w.heap.size]? = some (.cells (mixC32 s u (6 + 1)).toArray 102 (0, 0)) := by
                  rw [heap_setCell_same _ _ 6 _ _ _ hq.out.1]; rfl
                have HN := Lib.hid (⟨nx, (hq.out.2.1).setCell (p := ⟨w.heap.size, 6, none⟩) (Nat.le_refl _) _, by rw [Below.heap_setCell _ _ _ _ (by simp)]; exact hq.out.2.2.1, by rw [Below.heap_setCell _ _ _ _ (by show D ≠ w.heap.size; have := Hs2.out; omega)]; exact hq.out.2.2.2⟩ : (wr.setCell ⟨w.heap.size, 6, none⟩ (V32 (s.g + u.g))).heap[w.heap.size]? = some (.cells (mixC32 s u (6 + 1)).toArray 102 (0, 0)) ∧ Below w.heap.size w (wr.setCell ⟨w.heap.size, 6, none⟩ (V32 (s.g + u.g))) ∧ (wr.setCell ⟨w.heap.size, 6, none⟩ (V32 (s.g + u.g))).heap[w.heap.size + 1]? = some (.cells #[.int .u32 0, .int .u32 0, .int .u32 0, .int .u32 0, .int .u32 0, .int .u32 0, .int .u32 0, .int .u32 0] 102 (0, 0)) ∧ (wr.setCell ⟨w.heap.size, 6, none⟩ (V32 (s.g + u.g))).heap[D]? = some (.deferred (some [])))
                clear nx
                go_wp2
                simp only [run_storeCells_w32]
                go_simp
                go_wp2
                refine ⟨?_, ?measure⟩
                iterate 13 apply Exists.intro
                refine ⟨?rel, rfl⟩
                case rel => exact ⟨7, by omega, rfl, HN⟩
                case measure => simp [intOf]
              · have c0 : wr.cell? ⟨w.heap.size, 7, none⟩ = some (V32 s.h) := by rw [cell_of_row _ _ _ _ _ _ hq.out.1]; rfl
                have fz : wr.frozen? ⟨w.heap.size, 7, none⟩ = false := frozen_blk hq.out.1 _
                have nx : (wr.setCell ⟨w.heap.size, 7, none⟩ (V32 (s.h + u.h))).heap[w.heap.size]? = some (.cells (mixC32 s u (7 + 1)).toArray 102 (0, 0)) := by
                  rw [heap_setCell_same _ _ 7 _ _ _ hq.out.1]; rfl
                have HN := Lib.hid (⟨nx, (hq.out.2.1).setCell (p := ⟨w.heap.size, 7, none⟩) (Nat.le_refl _) _, by rw [Below.heap_setCell _ _ _ _ (by simp)]; exact hq.out.2.2.1, by rw [Below.heap_setCell _ _ _ _ (by show D ≠ w.heap.size; have := Hs2.out; omega)]; exact hq.out.2.2.2⟩ : (wr.setCell ⟨w.heap.size, 7, none⟩ (V32 (s.h + u.h))).heap[w.heap.size]? = some (.cells (mixC32 s u (7 + 1)).toArray 102 (0, 0)) ∧ Below w.heap.size w (wr.setCell ⟨w.heap.size, 7, none⟩ (V32 (s.h + u.h))) ∧ (wr.setCell ⟨w.heap.size, 7, none⟩ (V32 (s.h + u.h))).heap[w.heap.size + 1]? = some (.cells #[.int .u32 0, .int .u32 0, .int .u32 0, .int .u32 0, .int .u32 0, .int .u32 0, .int .u32 0, .int .u32 0] 102 (0, 0)) ∧ (wr.setCell ⟨w.heap.size, 7, none⟩ (V32 (s.h + u.h))).heap[D]? = some (.deferred (some [])))
                clear nx
                go_wp2
                simp only [run_storeCells_w32]
                go_simp
                go_wp2
                refine ⟨?_, ?measure⟩
                iterate 13 apply Exists.intro
                refine ⟨?rel, rfl⟩
                case rel => exact ⟨8, by omega, rfl, HN⟩
                case measure => simp [intOf]
              · have e0 : wr.cell? ⟨w.heap.size, 0, none⟩ = some (V32 (s.a + u.a)) := by rw [cell_of_row _ _ _ _ _ _ hq.out.1]; rfl
                have e1 : wr.cell? ⟨w.heap.size, 1, none⟩ = some (V32 (s.b + u.b)) := by rw [cell_of_row _ _ _ _ _ _ hq.out.1]; rfl
                have e2 : wr.cell? ⟨w.heap.size, 2, none⟩ = some (V32 (s.c + u.c)) := by rw [cell_of_row _ _ _ _ _ _ hq.out.1]; rfl
                have e3 : wr.cell? ⟨w.heap.size, 3, none⟩ = some (V32 (s.d + u.d)) := by rw [cell_of_row _ _ _ _ _ _ hq.out.1]; rfl
                have e4 : wr.cell? ⟨w.heap.size, 4, none⟩ = some (V32 (s.e + u.e)) := by rw [cell_of_row _ _ _ _ _ _ hq.out.1]; rfl
                have e5 : wr.cell? ⟨w.heap.size, 5, none⟩ = some (V32 (s.f + u.f)) := by rw [cell_of_row _ _ _ _ _ _ hq.out.1]; rfl
                have e6 : wr.cell? ⟨w.heap.size, 6, none⟩ = some (V32 (s.g + u.g)) := by rw [cell_of_row _ _ _ _ _ _ hq.out.1]; rfl
                have e7 : wr.cell? ⟨w.heap.size, 7, none⟩ = some (V32 (s.h + u.h)) := by rw [cell_of_row _ _ _ _ _ _ hq.out.1]; rfl
                have rr := rangeAt_blk (cs := [.int .u32 0, .int .u32 0, .int .u32 0, .int .u32 0, .int .u32 0, .int .u32 0, .int .u32 0, .int .u32 0]) hq.out.2.2.1
                have th : wr.there (w.heap.size + 1) 0 (cells32 (addSt32 s u)).toArray.size := there_blk32 hq.out.2.2.1 (by simp [cells32])
                clear rr
                go_wp2_with ((with_reducible show wpList _ _ _ (⟨_, Op.store 102 _ _, _, _, _, _⟩ :: _) _ _); refine wpList_store_row rfl _ _ _ rfl (w.heap.size + 1) 0 (cells32 (addSt32 s u)).toArray rfl rfl th (by kernel_rfl) (by simp [cells32]) ?_; intro w8 hg8 hs8 ht8 hth8)
                have k8 : w8.heap[D]? = some (.deferred (some [])) := (hg8.block D (Array.getElem?_eq_some_iff.1 hq.out.2.2.2).1 (fun e => by cases e; have := Hs2.out; omega)).trans hq.out.2.2.2
                have b8 : Below w.heap.size w w8 := hq.out.2.1.grown hg8 hq.out.2.1.size (fun g hg => by cases hg; omega)
                refine ⟨by simp, .inl ⟨_, _, rfl, run_takeDeferred k8, ?_⟩⟩
                refine ⟨_, results_cell rfl _ _ _ (w.heap.size + 1) 0 rfl (cells32 (addSt32 s u)) _ (rangeAt_putObj32 (by simpa using ht8) _ k8 rfl) Try.underlying102 rfl (by kernel_rfl), ?_, below_putObj _ D _ b8 (by have := Hs2.out; omega) b8.size⟩
                rw [Hres.out, ← hu.out]
  case stop =>
    intro D c k W _ _ h _
    exact h.elim
end Go.Proofs.Ytkcmacglomdfcaa
