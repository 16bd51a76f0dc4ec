/-
  WORDS for FrameAll: what stays between two rounds over All.
-/
import Derived.Test.YtdmiiageihbokaaFrBTwo
import Derived.Test.YtdmiiageihbokaaFrI
import Derived.Test.YtdmiiageihbokaaApart
namespace Go.Proofs.Ytdmiiageihbokaa
open Go.RowKit

/-- A truth value in a variable of its own, returned. -/
theorem results_cell_bool {fn : Func} {s : Tmp} {ty : TypeId} (h : fn.results = #[.cell s ty]) (tmps : Array Value) (P : Program) (w : World) (b : Nat) (v : Value) (hp : tmps.getD s undef = .pointer (some ⟨b, 0, none⟩))
    (hc : w.cell? ⟨b, 0, none⟩ = some v) (hu : P.underlying ty = some .bool) : (results fn tmps).run P w = .ok v w := by
  have hp' : tmps[s]?.getD undef = .pointer (some ⟨b, 0, none⟩) := by simpa using hp
  simp only [results, h]
  simp [hp', asAddr, loadVar, isAgg, run_underlying hu, hc, Result.andThen]
/-- A variable of another type than a row's cells is written. -/
theorem own_setBox {w : World} {B : Nat} {e t : TypeId} {s : Nat} {v : Value} {n : Nat} {xs : List Value} (h : w.ownsRow B e s v n xs) {b : Nat} {cs : Array Value} {fr : Nat × Nat} (hb : w.heap[b]? = some (.cells cs t fr)) (ht : t ≠ e) (i : Nat) (u : Value) : (w.setCell ⟨b, i, none⟩ u).ownsRow B e s v n xs := by
  refine ⟨h.1, ?_⟩
  rcases h.2 with h2 | ⟨g, cap, cur, hv, hg, hh, r⟩
  · exact .inl h2
  · refine .inr ⟨g, cap, cur, hv, hg, ?_, r⟩
    rw [Below.heap_setCell _ _ _ _ (fun e' => ?_)]
    · exact hh
    · rw [e', hb] at hh
      simp only [Option.some.injEq, Obj.cells.injEq] at hh
      exact ht hh.2.1
theorem own_notBox {w : World} {B : Nat} {e t : TypeId} {s : Nat} {v : Value} {n : Nat} {xs : List Value} (h : w.ownsRow B e s v n xs) {b : Nat} {cs : Array Value} {fr : Nat × Nat} (hb : w.heap[b]? = some (.cells cs t fr)) (ht : t ≠ e) : v.ownBlock ≠ some b := by
  intro hv
  rcases h.2 with ⟨rfl, _⟩ | ⟨g, cap, cur, rfl, hg, hh, r⟩
  · simp [Value.ownBlock] at hv
  · simp [Value.ownBlock] at hv
    rw [hv, hb] at hh
    simp only [Option.some.injEq, Obj.cells.injEq] at hh
    exact ht hh.2.1
theorem Lot.map {w w' : World} {B : Nat} {o : Nat → Nat} {us : List Value} {ns : Nat → Nat} {xs : Nat → List UInt8} (h : Lot w B o us ns xs) (f : ∀ (u : Value) n ys, w.ownsRow B 5 1 u n ys → w'.ownsRow B 5 1 u n ys) : Lot w' B o us ns xs :=
  ⟨fun i u hu => f u _ _ (h.own i u hu), h.lab⟩

/-- append inside a fence. -/
theorem wpListIn_append_keep {F : Fence} {nF : Nat} {P : Program} {w : World} {ops : Array Oper} {rest : List Oper} {o : Oper} {a : Act} {Q : Exit → Act → World → Prop} (hgd : o.guard = none) (s x : Operand) (t : TypeId)
    (ho : o.op = .call { callee := .builtin .append, args := #[s, x], argTypes := #[t, t] })
    (W : World) (hW : Below W.heap.size W w) {e : TypeId} {z : Value} {size bytes : Nat} (ht : P.underlying t = some (.slice e)) (hinfo : (P.info? e).map (fun i => (i.zero, i.size, i.bytes)) = some (some z, size, bytes))
    (hzs : z.cells.size = size) (hsz : 0 < size)
    (v : Value) (n : Nat) (xs : List Value) (hs : a.eval s = v) (hown : w.ownsRow W.heap.size e size v n xs)
    (A : Option Addr) (m c : Nat) (news : List Value) (hx : a.eval x = .slice A m c) (hr : RC w A news) (hl : news.length = m * size) (h1 : ∀ u ∈ news, u.oneCell' = true)
    (h63 : n + m ≤ maxLen) (hbytes : (n + m) * bytes ≤ 140737488355328)
    (h : ∀ v' w', w'.ownsRow W.heap.size e size v' (n + m) (xs ++ news) → Below W.heap.size W w' → w'.ownsRow W.heap.size e size v n xs → w.grownBy w' v.ownBlock → (v'.ownBlock = v.ownBlock ∨ v'.ownBlock = some w.heap.size) → wpListIn F nF P ops Q rest (a.put o.dst v') w') : wpListIn F nF P ops Q (o :: rest) a w := by
  obtain ⟨i, hi, hz, hsize, hby⟩ := info_parts hinfo
  refine wpListIn_plain hgd fun K hK => ?_
  obtain ⟨v', w', hrun, h2, h3, h4⟩ := run_append_any (P := P) w W.heap.size t o.type e i z size bytes ht hi hz hsize hby hzs hsz v n xs hown A m c news hr hl h1 h63 hbytes hW.size
  have hk := run_append_keep ht hi hz hsize hby hown hr hl hsz h1 h63 hbytes hrun
  unfold Oper.wpIn
  refine ⟨by simp [Oper.about, ho, resolve, Target.leads, Sem.run_pure], ?_⟩
  rw [Oper.semAt_plain F _ _ (by rw [ho]; intro c hc'; cases hc')]
  simp [execOp, ho, resolve, invoke, builtin, hs, hx, hrun, Result.andThen]
  exact hK _ _ (h v' w' h2 (hW.grown h3 hW.size fun k hk => (hown.lt k hk).1) hk h3 h4)
theorem heap_alloc_at (w : World) (o : Obj) (g : Nat) (hg : w.heap.size = g) : (w.alloc o).heap[g]? = some o := by
  subst hg
  exact heap_alloc_new w o

/-- The row itself, and its payloads. -/
def payX (row : List UInt8) : Nat → List UInt8
  | 0 => row
  | i + 1 => ((frames row)[i]?.map (·.2)).getD []
def payN (row : List UInt8) (i : Nat) : Nat := (payX row i).length
theorem payX_at {row : List UInt8} {k : Nat} {x : Nat × List UInt8} (h : (frames row)[k]? = some x) : payX row (k + 1) = x.2 := by simp [payX, h]
theorem payN_le (row : List UInt8) (i : Nat) : payN row i ≤ row.length := by
  cases i with
  | zero => exact Nat.le_refl _
  | succ i =>
    cases h : (frames row)[i]? with
    | none => simp [payN, payX, h]
    | some x =>
      have h1 := (firstOf_len ((frames_spec row).1 i x h).2).1
      simp only [List.length_drop] at h1
      rw [payN, payX_at h]
      omega
/-- Between two rounds of FrameAll's loop. -/
structure AllIn (w W4 : World) (ns : Nat → Nat) (xs : Nat → List UInt8) (G : Value) (us : List Value) (o : Nat → Nat) (k : Nat) (W : World) : Prop where
  below : Below W4.heap.size W4 W
  base : w.heap.size ≤ W4.heap.size
  kbox : W.heap[W4.heap.size]? = some (.cells #[.int .i64 (k : Int)] 3 (0, 0))
  gbox : W.heap[W4.heap.size + 2]? = some (.cells #[G] 30 (0, 0))
  sz : W4.heap.size + 4 ≤ W.heap.size
  len : us.length = k + 1
  own : W.ownsRow W4.heap.size 22 1 G (k + 1) us
  ne : ∀ g, G.ownBlock = some g → g ≠ W4.heap.size + 3
  lot : Lot W w.heap.size o us ns xs
theorem AllIn.stable (w W4 : World) (ns : Nat → Nat) (xs : Nat → List UInt8) (G : Value) (us : List Value) (o : Nat → Nat) : Stable (AllIn w W4 ns xs G us o) := fun _ _ _ h hb =>
  ⟨h.below.trans (hb.mono h.below.size), h.base, heap_below h.kbox hb, heap_below h.gbox hb, Nat.le_trans h.sz hb.size, h.len, ownsRow_below h.own hb, h.ne, h.lot.map fun _ _ _ x => ownsRow_below x hb⟩
theorem AllIn.abides {w W4 : World} {ns : Nat → Nat} {xs : Nat → List UInt8} {G : Value} {us : List Value} {o : Nat → Nat} {D : Nat} (hD : W4.heap.size ≤ D) : Abides D (AllIn w W4 ns xs G us o) := fun k W l ob o' h hl hob hc =>
  ⟨below_putObj W l o' h.below (Nat.le_trans hD hl) h.below.size, h.base, heap_putObj h.kbox o' hob hc, heap_putObj h.gbox o' hob hc, by have := h.sz; simpa [World.putObj] using this, h.len, ownsRow_putObj h.own o' hob hc, h.ne, h.lot.map fun _ _ _ x => ownsRow_putObj x o' hob hc⟩

/-- What a round of FrameAll's loop does to memory: a row is appended to 'got', 'k' is one more. -/
theorem AllIn.step {w W4 W0 W w5 : World} {ns : Nat → Nat} {xs : Nat → List UInt8} {G G' v : Value} {us : List Value} {o : Nat → Nat} {k : Nat} (h0 : AllIn w W4 ns xs G us o k W0) (h : AllIn w W4 ns xs G us o k W)
    (hv : W.ownsRow W0.heap.size 5 1 v (ns (k + 1)) ((xs (k + 1)).map B8)) (hown : w5.ownsRow W4.heap.size 22 1 G' (k + 1 + 1) (us ++ [v])) (hb5 : Below W4.heap.size W4 w5)
    (hgr : (W.alloc (.cells #[v] 22)).grownBy w5 G.ownBlock) (hor : G'.ownBlock = G.ownBlock ∨ G'.ownBlock = some (W.alloc (.cells #[v] 22)).heap.size) :
    w5.heap[W4.heap.size]? = some (.cells #[.int .i64 (k : Int)] 3 (0, 0)) ∧ w5.heap[W4.heap.size + 2]? = some (.cells #[G] 30 (0, 0)) ∧
    AllIn w W4 ns xs G' (us ++ [v]) (relab o W0.heap.size (k + 3)) (k + 1) ((w5.setCell ⟨W4.heap.size + 2, 0, none⟩ G').setCell ⟨W4.heap.size, 0, none⟩ (.int .i64 ((k : Int) + 1))) ∧
    KeepsOthers W ((w5.setCell ⟨W4.heap.size + 2, 0, none⟩ G').setCell ⟨W4.heap.size, 0, none⟩ (.int .i64 ((k : Int) + 1))) ∧
    FrKp W4.heap.size (W4.heap.size + 3) W ((w5.setCell ⟨W4.heap.size + 2, 0, none⟩ G').setCell ⟨W4.heap.size, 0, none⟩ (.int .i64 ((k : Int) + 1))) := by
  have hsz := h.sz
  have hs5 := hgr.size
  simp at hs5
  have hbA : Below W.heap.size W (W.alloc (.cells #[v] 22)) := (Below.refl _ _).alloc (Nat.le_refl _) _
  have ownA : (W.alloc (.cells #[v] 22)).ownsRow W4.heap.size 22 1 G (k + 1) us := h.own.alloc _
  have gA := heap_below h.gbox hbA
  have kA := heap_below h.kbox hbA
  have ng : G.ownBlock ≠ some (W4.heap.size + 2) := own_notBox h.own h.gbox (by decide)
  have nk : G.ownBlock ≠ some W4.heap.size := own_notBox h.own h.kbox (by decide)
  have g5 : w5.heap[W4.heap.size + 2]? = some (.cells #[G] 30 (0, 0)) := (hgr.block _ (by simp; omega) (fun e => ng e.symm)).trans gA
  have k5 : w5.heap[W4.heap.size]? = some (.cells #[.int .i64 (k : Int)] 3 (0, 0)) := (hgr.block _ (by simp; omega) (fun e => nk e.symm)).trans kA
  have k6 : (w5.setCell ⟨W4.heap.size + 2, 0, none⟩ G').heap[W4.heap.size]? = some (.cells #[.int .i64 (k : Int)] 3 (0, 0)) := by
    rw [Below.heap_setCell _ _ _ _ (by simp)]
    exact k5
  have u8 : ∀ (u : Value) n ys, W.ownsRow w.heap.size 5 1 u n ys → ((w5.setCell ⟨W4.heap.size + 2, 0, none⟩ G').setCell ⟨W4.heap.size, 0, none⟩ (.int .i64 ((k : Int) + 1))).ownsRow w.heap.size 5 1 u n ys := by
    intro u n ys hu
    exact own_setBox (own_setBox (own_kept_unlike (hu.alloc _) ownA (by decide) hgr) g5 (by decide) 0 _) k6 (by decide) 0 _
  refine ⟨k5, g5, ⟨?_, h.base, ?_, ?_, ?_, ?_, ?_, ?_, ?_⟩, ?_, ?_, ?_⟩
  · exact (hb5.setCell (p := ⟨W4.heap.size + 2, 0, none⟩) (by simp) _).setCell (p := ⟨W4.heap.size, 0, none⟩) (Nat.le_refl _) _
  · rw [heap_setCell_same _ _ 0 _ _ _ k6]
    simp
  · rw [Below.heap_setCell _ _ _ _ (by simp), heap_setCell_same _ _ 0 _ _ _ g5]
    rfl
  · simp [World.setCell]
    omega
  · simp [h.len]
  · exact own_setBox (own_setBox hown g5 (by decide) 0 _) k6 (by decide) 0 _
  · intro g hg
    rcases hor with e | e
    · rw [e] at hg
      exact h.ne g hg
    · rw [e] at hg
      simp at hg
      omega
  · have l1 : Lot ((w5.setCell ⟨W4.heap.size + 2, 0, none⟩ G').setCell ⟨W4.heap.size, 0, none⟩ (.int .i64 ((k : Int) + 1))) w.heap.size o us ns xs := h.lot.map u8
    have l2 := l1.relabel (o' := relab o W0.heap.size (k + 3)) W0.heap.size (fun i u g hu hg => h0.lot.lt hu hg) (fun x hx => relab_lt hx)
    refine l2.snoc ?_ ?_
    · rw [h.len]
      exact u8 _ _ _ (ownsRow_base hv (Nat.le_trans h.base h0.below.size))
    · intro g hg
      rw [relab_ge (hv.lt g hg).1, h.len]
  · refine (KeepsOthers.alloc W _).trans ((KeepsOthers.of_grownBy hgr ?_).trans ((KeepsOthers.setCell _ _ _).trans (KeepsOthers.setCell _ _ _)))
    intro j ob hj hob
    rcases ownA.2 with ⟨rfl, _⟩ | ⟨g, cap, cur, rfl, _, hh, _⟩
    · simp [Value.ownBlock] at hj
    · simp [Value.ownBlock] at hj
      subst hj
      rw [hh] at hob
      cases hob
      rfl
  · refine ((((Below.refl _ W).alloc h.below.size _).grown hgr ?_ ?_).setCell (p := ⟨W4.heap.size + 2, 0, none⟩) (by simp) _).setCell (p := ⟨W4.heap.size, 0, none⟩) (Nat.le_refl _) _
    · simp; omega
    · intro g hg
      exact (h.own.lt g hg).1
  · rw [World.cell?_setCell_other _ _ _ _ (fun e => by simp at e), World.cell?_setCell_other _ _ _ _ (fun e => by simp at e)]
    refine (World.cell?_of_block (hgr.block _ (by simp; omega) (fun e => ?_))).trans (hbA.cell (by simp; omega))
    exact h.ne _ e.symm rfl
open Classical in
theorem AllIn.apart {w W4 W : World} {ns : Nat → Nat} {xs : Nat → List UInt8} {G : Value} {us : List Value} {o : Nat → Nat} {k : Nat} (h : AllIn w W4 ns xs G us o k W) (hw : Below w.heap.size w W4) (hlen : ∀ i, ns i ≤ 140737488351232) (hk : k + 1 ≤ 100) (wx : World) (hb : Below W.heap.size W wx) :
    Calls Try.prog 28 #[G] wx fun e w' => e = .returned (.bool true) ∧ Below w.heap.size w w' ∧ ∀ (x : Nat) (ob : Obj), W.heap[x]? = some ob → (∀ cs t fr, ob = .cells cs t fr → t ≠ 5) → w'.heap[x]? = some ob := by
  obtain ⟨AG, cG, rfl, hc1, hc2, hrv, had⟩ := own_form h.own
  have hwW : Below w.heap.size w W := hw.trans (h.below.mono hw.size)
  refine (apart_keep wx w (hwW.trans (hb.mono hwW.size)) AG (k + 1) cG hc1 hc2 hk us ns xs (fun x => if ∃ (i : Nat) (u : Value), us[i]? = some u ∧ u.ownBlock = some x then o x else 0) (RV.below hrv hb) ⟨fun i u hu => ownsRow_below (h.lot.own i u hu) hb, fun i u g hu hg => ?_⟩ (fun i _ => hlen i) (fun ad hA => ⟨?_, ?_⟩)).mono ?_
  · rw [if_pos ⟨i, u, hu, hg⟩]
    exact h.lot.lab i u g hu hg
  · refine if_neg ?_
    rintro ⟨i, u, hu, hg⟩
    exact own_unlike (h.lot.own i u hu) h.own (by decide) hg (had ad hA).1
  · exact Nat.lt_of_lt_of_le (h.own.lt _ (had ad hA).1).2 hb.size
  · rintro e w' ⟨h1, h2, h3⟩
    refine ⟨h1, h2, fun x ob hx ht => ?_⟩
    have hxl := (Array.getElem?_eq_some_iff.1 hx).1
    refine ((h3 x (Nat.lt_of_lt_of_le hxl hb.size) (if_neg ?_)).trans (hb.block x hxl)).trans hx
    rintro ⟨i, u, hu, hg⟩
    rcases (h.lot.own i u hu).2 with ⟨rfl, _⟩ | ⟨g, cap, cur, rfl, _, hh, _⟩
    · simp [Value.ownBlock] at hg
    · simp [Value.ownBlock] at hg
      subst hg
      rw [hh] at hx
      cases hx
      exact ht _ _ _ rfl rfl
end Go.Proofs.Ytdmiiageihbokaa
