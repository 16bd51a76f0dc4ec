/-
  GENERIC: what is there of rows, blocks and stores (gathered for the seat of the runs).
-/
import Derived.Test.YtkfpnilbjjkhgaaOpen
import Derived.Test.YtkfpnilbjjkhgaaIterF
import Derived.Test.YtkfpnilbjjkhgaaMoves
import Derived.Test.YtkfpnilbjjkhgaaTail
import Derived.Deep.QuietTactic
import Derived.BigQuiet
import Derived.Deep.RegionHeld3
import Derived.WalkSmall
import Derived.WalkSpells
import Derived.WalkLawsBesides
import Derived.Great.BuildSlice
namespace Go.Proofs.Ytkfpnilbjjkhgaa
open Go.RowKit


/-- Rows of unlike cells lie in unlike blocks. -/
theorem own_unlike {w : World} {B B' : Nat} {e e' : TypeId} {s s' : Nat} {u v : Value} {n m : Nat} {xs ys : List Value} (hu : w.ownsRow B e s u n xs) (hv : w.ownsRow B' e' s' v m ys) (he : e ≠ e') {g : Nat} (hg : u.ownBlock = some g) : v.ownBlock ≠ some g := by
  intro hg'
  rcases hu.2 with ⟨rfl, _⟩ | ⟨g1, cap1, cur1, rfl, _, hh1, _⟩
  · simp [Value.ownBlock] at hg
  · rcases hv.2 with ⟨rfl, _⟩ | ⟨g2, cap2, cur2, rfl, _, hh2, _⟩
    · simp [Value.ownBlock] at hg'
    · simp [Value.ownBlock] at hg hg'
      subst hg hg'
      rw [hh1] at hh2
      simp only [Option.some.injEq, Obj.cells.injEq] at hh2
      exact he hh2.2.1
theorem own_kept_unlike {w w' : World} {B B' : Nat} {e e' : TypeId} {s s' : Nat} {u v : Value} {n m : Nat} {xs ys : List Value} (hu : w.ownsRow B e s u n xs) (hv : w.ownsRow B' e' s' v m ys) (he : e ≠ e') (hg : w.grownBy w' v.ownBlock) : w'.ownsRow B e s u n xs := by
  refine hu.kept hg ?_
  rcases hz' : u.ownBlock with _ | g
  · exact .inl rfl
  · exact .inr fun e => own_unlike hu hv he hz' e.symm
/-- A truth value in a variable of its own, returned. -/
theorem results_cell_bool {fn : Func} {s : Tmp} {ty : TypeId} (h : fn.results = #[.cell s ty]) (tmps : Array Value) (P : Program) (w : World) (b : Nat) (v : Value) (hp : tmps.getD s undef = .pointer (some ⟨b, 0, none⟩))
    (hc : w.cell? ⟨b, 0, none⟩ = some v) (hu : P.underlying ty = some .bool) : (results fn tmps).run P w = .ok v w := by
  have hp' : tmps[s]?.getD undef = .pointer (some ⟨b, 0, none⟩) := by simpa using hp
  simp only [results, h]
  simp [hp', asAddr, loadVar, isAgg, run_underlying hu, hc, Result.andThen]
/-- A variable of another type than a row's cells is written. -/
theorem own_setBox {w : World} {B : Nat} {e t : TypeId} {s : Nat} {v : Value} {n : Nat} {xs : List Value} (h : w.ownsRow B e s v n xs) {b : Nat} {cs : Array Value} {fr : Nat × Nat} (hb : w.heap[b]? = some (.cells cs t fr)) (ht : t ≠ e) (i : Nat) (u : Value) : (w.setCell ⟨b, i, none⟩ u).ownsRow B e s v n xs := by
  refine ⟨h.1, ?_⟩
  rcases h.2 with h2 | ⟨g, cap, cur, hv, hg, hh, r⟩
  · exact .inl h2
  · refine .inr ⟨g, cap, cur, hv, hg, ?_, r⟩
    rw [Below.heap_setCell _ _ _ _ (fun e' => ?_)]
    · exact hh
    · rw [e', hb] at hh
      simp only [Option.some.injEq, Obj.cells.injEq] at hh
      exact ht hh.2.1
theorem own_notBox {w : World} {B : Nat} {e t : TypeId} {s : Nat} {v : Value} {n : Nat} {xs : List Value} (h : w.ownsRow B e s v n xs) {b : Nat} {cs : Array Value} {fr : Nat × Nat} (hb : w.heap[b]? = some (.cells cs t fr)) (ht : t ≠ e) : v.ownBlock ≠ some b := by
  intro hv
  rcases h.2 with ⟨rfl, _⟩ | ⟨g, cap, cur, rfl, hg, hh, r⟩
  · simp [Value.ownBlock] at hv
  · simp [Value.ownBlock] at hv
    rw [hv, hb] at hh
    simp only [Option.some.injEq, Obj.cells.injEq] at hh
    exact ht hh.2.1
/-- append inside a fence. -/
theorem wpListIn_append_keep {F : Fence} {nF : Nat} {P : Program} {w : World} {ops : Array Oper} {rest : List Oper} {o : Oper} {a : Act} {Q : Exit → Act → World → Prop} (hgd : o.guard = none) (s x : Operand) (t : TypeId)
    (ho : o.op = .call { callee := .builtin .append, args := #[s, x], argTypes := #[t, t] })
    (W : World) (hW : Below W.heap.size W w) {e : TypeId} {z : Value} {size bytes : Nat} (ht : P.underlying t = some (.slice e)) (hinfo : (P.info? e).map (fun i => (i.zero, i.size, i.bytes)) = some (some z, size, bytes))
    (hzs : z.cells.size = size) (hsz : 0 < size)
    (v : Value) (n : Nat) (xs : List Value) (hs : a.eval s = v) (hown : w.ownsRow W.heap.size e size v n xs)
    (A : Option Addr) (m c : Nat) (news : List Value) (hx : a.eval x = .slice A m c) (hr : RC w A news) (hl : news.length = m * size) (h1 : ∀ u ∈ news, u.oneCell' = true)
    (h63 : n + m ≤ maxLen) (hbytes : (n + m) * bytes ≤ 140737488355328)
    (h : ∀ v' w', w'.ownsRow W.heap.size e size v' (n + m) (xs ++ news) → Below W.heap.size W w' → w'.ownsRow W.heap.size e size v n xs → w.grownBy w' v.ownBlock → (v'.ownBlock = v.ownBlock ∨ v'.ownBlock = some w.heap.size) → wpListIn F nF P ops Q rest (a.put o.dst v') w') : wpListIn F nF P ops Q (o :: rest) a w := by
  obtain ⟨i, hi, hz, hsize, hby⟩ := info_parts hinfo
  refine wpListIn_plain hgd fun K hK => ?_
  obtain ⟨v', w', hrun, h2, h3, h4⟩ := run_append_any (P := P) w W.heap.size t o.type e i z size bytes ht hi hz hsize hby hzs hsz v n xs hown A m c news hr hl h1 h63 hbytes hW.size
  have hk := run_append_keep ht hi hz hsize hby hown hr hl hsz h1 h63 hbytes hrun
  unfold Oper.wpIn
  refine ⟨by simp [Oper.about, ho, resolve, Target.leads, Sem.run_pure], ?_⟩
  rw [Oper.semAt_plain F _ _ (by rw [ho]; intro c hc'; cases hc')]
  simp [execOp, ho, resolve, invoke, builtin, hs, hx, hrun, Result.andThen]
  exact hK _ _ (h v' w' h2 (hW.grown h3 hW.size fun k hk => (hown.lt k hk).1) hk h3 h4)
theorem heap_alloc_at (w : World) (o : Obj) (g : Nat) (hg : w.heap.size = g) : (w.alloc o).heap[g]? = some o := by
  subst hg
  exact heap_alloc_new w o

theorem ownsRow_putObj {W : World} {B : Nat} {e : TypeId} {s : Nat} {v : Value} {n : Nat} {xs : List Value} {l : Nat} {o : Obj} (h : W.ownsRow B e s v n xs) (o' : Obj) (hl : W.heap[l]? = some o) (ho : o.isCells = false) : (W.putObj l o').ownsRow B e s v n xs := by
  refine ⟨h.1, ?_⟩
  rcases h.2 with h2 | ⟨g, cap, cur, hv, hg, hh, r⟩
  · exact .inl h2
  · exact .inr ⟨g, cap, cur, hv, hg, heap_putObj hh o' hl ho, r⟩
theorem own_form {w : World} {B : Nat} {e : TypeId} {v : Value} {n : Nat} {xs : List Value} (h : w.ownsRow B e 1 v n xs) :
    ∃ A c, v = .slice A n c ∧ n ≤ c ∧ c ≤ maxLen ∧ RV w A n xs ∧ ∀ ad, A = some ad → v.ownBlock = some ad.block ∧ ad = ⟨ad.block, 0, none⟩ := by
  have hl := h.1
  rw [Nat.mul_one] at hl
  rcases h.2 with ⟨rfl, rfl⟩ | ⟨g, cap, cur, rfl, _, hh, hnc, hcm, _, htake⟩
  · exact ⟨none, 0, rfl, Nat.le_refl _, Nat.zero_le _, ⟨hl, fun h0 => absurd h0 (by omega)⟩, fun ad h => by cases h⟩
  · refine ⟨some ⟨g, 0, none⟩, cap, rfl, hnc, hcm, RV.of_rangeAt (fun j u hu => ?_) hl, fun ad h => by cases h; exact ⟨rfl, rfl⟩⟩
    have := h.cells (g := g) rfl j u hu
    rw [Addr.add_mid] at this
    exact this
/-- A whole array is stored, inside a fence. -/
theorem wpListIn_store_row {F : Fence} {nF : Nat} {P : Program} {ops : Array Oper} {rest : List Oper} {op : Oper} {a : Act} {w : World} {Q : Exit → Act → World → Prop} (hgd : op.guard = none) (ty : TypeId) (x y : Operand) (ho : op.op = .store ty x y)
    (b o : Nat) (cells : Array Value) (hx : a.eval x = .pointer (some ⟨b, o, none⟩)) (hy : a.eval y = .agg cells)
    (ht : w.there b o cells.size) (hi : (P.info? ty).map (·.size) = some cells.size) (h1 : cells.all (·.oneCell') = true)
    (h : ∀ w', w.grownBy w' (some b) → Hid (w'.heap.size = w.heap.size) → w'.rangeAt b o cells.toList → w'.there b o cells.size → wpListIn F nF P ops Q rest (a.put op.dst undef) w') : wpListIn F nF P ops Q (op :: rest) a w := by
  refine wpListIn_plain hgd fun K hK => ?_
  have hr := run_storeAt_mid (P := P) w b o ty cells ht hi h1
  have hh := h _ (grownBy_setCells w b _ _ w (grownBy_refl w _)) (heapSize_setCells _ _ _ _) (World.rangeAt_setCells_same w b o _ (by simpa using ht)) (World.there_setCells ht _ _ _)
  unfold Oper.wpIn
  refine ⟨by simp [Oper.about, ho], ?_⟩
  rw [Oper.semAt_plain F _ _ (by rw [ho]; intro c hc'; cases hc')]
  simp [execOp, ho, hx, hy, hr, Result.andThen]
  exact hK _ _ hh
theorem rangeAt_below {w w' : World} {b o : Nat} {vs : List Value} (h : w.rangeAt b o vs) (hb : Below w.heap.size w w') : w'.rangeAt b o vs := fun j v hv => (hb.cell (World.block_lt_of_cell? w _ (h j v hv))).trans (h j v hv)
theorem there_same {w w' : World} {b n : Nat} (h : w.there b 0 n) (hh : w'.heap[b]? = w.heap[b]?) : w'.there b 0 n := fun j hj =>
  ⟨by rw [World.cell?_of_block (w := w) (a := ⟨b, 0 + j, none⟩) hh]; exact (h j hj).1, by rw [World.frozen?_of_block (w := w) (a := ⟨b, 0 + j, none⟩) hh]; exact (h j hj).2⟩
theorem rangeAt_same {w w' : World} {b : Nat} {vs : List Value} (h : w.rangeAt b 0 vs) (hh : w'.heap[b]? = w.heap[b]?) : w'.rangeAt b 0 vs := fun j v hv => (World.cell?_of_block (w := w) (a := ⟨b, 0 + j, none⟩) hh).trans (h j v hv)
theorem there_blk {w : World} {g : Nat} {cs : Array Value} {t : TypeId} (h : w.heap[g]? = some (.cells cs t (0, 0))) {n : Nat} (hn : n ≤ cs.size) : w.there g 0 n := fun j hj =>
  ⟨by rw [cell_of_row _ _ _ cs t (0, 0) h, Nat.zero_add]; simp; omega, frozen_blk h _⟩
theorem rangeAt_below' {w w' : World} {b o : Nat} {vs : List Value} (h : w.rangeAt b o vs) (hb : Below w.heap.size w w') : w'.rangeAt b o vs := fun j v hv =>
  (hb.cell (World.block_lt_of_cell? w _ (h j v hv))).trans (h j v hv)
theorem rangeAt_app {w : World} {b o : Nat} {xs ys : List Value} (h : w.rangeAt b o xs) (h' : w.rangeAt b (o + xs.length) ys) : w.rangeAt b o (xs ++ ys) := fun j v hv => by
  by_cases hj : j < xs.length
  · rw [List.getElem?_append_left hj] at hv
    exact h j v hv
  · rw [List.getElem?_append_right (by omega)] at hv
    have := h' _ v hv
    rwa [show o + xs.length + (j - xs.length) = o + j by omega] at this
theorem own_formK {w : World} {B : Nat} {e : TypeId} {s : Nat} {v : Value} {n : Nat} {xs : List Value} (h : w.ownsRow B e s v n xs) :
    ∃ A c, v = .slice A n c ∧ n ≤ c ∧ c ≤ maxLen ∧ (0 < n → ∃ g, A = some ⟨g, 0, none⟩ ∧ v.ownBlock = some g ∧ w.rangeAt g 0 xs ∧ B ≤ g) := by
  rcases h.2 with ⟨rfl, rfl⟩ | ⟨g, cap, cur, rfl, hB, hh, hnc, hcm, _, htake⟩
  · exact ⟨none, 0, rfl, Nat.le_refl _, Nat.zero_le _, fun h0 => absurd h0 (by omega)⟩
  · refine ⟨some ⟨g, 0, none⟩, cap, rfl, hnc, hcm, fun _ => ⟨g, rfl, rfl, fun j u hu => ?_, hB⟩⟩
    have := h.cells (g := g) rfl j u hu
    rw [Addr.add_mid] at this
    exact this

theorem own_at {w : World} {B : Nat} {e : TypeId} {s g n c k : Nat} {xs : List Value} (h : w.ownsRow B e s (.slice (some ⟨g, 0, none⟩) n c) k xs) : w.rangeAt g 0 xs := fun j u hu => by
  have := h.cells (g := g) rfl j u hu
  rw [Addr.add_mid] at this
  exact this

theorem there_lt {w : World} {b n : Nat} (h : w.there b 0 n) (hn : 0 < n) : b < w.heap.size := by
  have := (h 0 hn).1
  cases hc : w.cell? ⟨b, 0 + 0, none⟩ with
  | none => rw [hc] at this; simp at this
  | some v => exact World.block_lt_of_cell? w _ hc

/-- A whole array's load under a guard that says yes. -/
theorem wpList_load_midW {P : Program} {ops : Array Oper} {rest : List Oper} {op : Oper} {a : Act} {w : World} {Q : Exit → Act → World → Prop} (hwt : Region.wanted op (yielded ops a.tmps) = true) (ty : TypeId) (x : Operand) (ho : op.op = .load ty x)
    (b o : Nat) (hx : a.eval x = .pointer (some ⟨b, o, none⟩)) (cs : List Value) (d : TypeDesc) (hc : w.rangeAt b o cs)
    (hu : P.underlying ty = some d) (hd : d.isRow = true) (hi : (P.info? ty).map (·.size) = some cs.length)
    (h : wpList P ops Q rest (a.put op.dst (.agg cs.toArray)) w) : wpList P ops Q (op :: rest) a w :=
  wpList_step fun _ hK => by
    rw [if_pos hwt]
    exact wp_load_mid ty x ho b o hx cs d hc hu hd hi (hK _ _ h)

/-- A digest in a variable, and what stands beside it, returned. -/
theorem results_cell_tmp {fn : Func} {s s2 : Tmp} {ty : TypeId} (h : fn.results = #[.cell s ty, .tmp s2]) (tmps : Array Value) (P : Program) (w : World) (b o : Nat) (hp : tmps.getD s undef = .pointer (some ⟨b, o, none⟩)) (v : Value) (hv : tmps.getD s2 undef = v)
    (cs : List Value) (d : TypeDesc) (hc : w.rangeAt b o cs) (hu : P.underlying ty = some d) (hd : d.isRow = true) (hi : (P.info? ty).map (·.size) = some cs.length) :
    (results fn tmps).run P w = .ok (.tuple #[.agg cs.toArray, v]) w := by
  have hp' : tmps[s]?.getD undef = .pointer (some ⟨b, o, none⟩) := by simpa using hp
  have hv' : tmps[s2]?.getD undef = v := by simpa using hv
  simp only [results, h]
  simp [hp', hv', asAddr, run_loadVar_mid w b o ty cs d hc hu hd hi]

theorem range_grown {w w' : World} {b o : Nat} {vs : List Value} {row : Option Nat} (h : w.rangeAt b o vs) (hg : w.grownBy w' row) (hne : row ≠ some b) : w'.rangeAt b o vs := fun j v hv => by
  have hlt := World.block_lt_of_cell? w _ (h j v hv)
  exact (World.cell?_of_block (w := w) (a := ⟨b, o + j, none⟩) (hg.block b hlt (fun e => hne e.symm))).trans (h j v hv)

theorem there_grownB {w w' : World} {b n : Nat} {row : Option Nat} (h : w.there b 0 n) (hn : 0 < n) (hg : w.grownBy w' row) (hne : row ≠ some b) : w'.there b 0 n :=
  there_same h (hg.block b (there_lt h hn) (fun e => hne e.symm))

/-- append onto a row that lies from block B on. -/
theorem wpList_append_from {P : Program} {w : World} {ops : Array Oper} {rest : List Oper} {o : Oper} {a : Act} {Q : Exit → Act → World → Prop} (hgd : o.guard = none) (s x : Operand) (t : TypeId)
    (ho : o.op = .call { callee := .builtin .append, args := #[s, x], argTypes := #[t, t] })
    (B : Nat) (hB : B ≤ w.heap.size) {e : TypeId} {z : Value} {size bytes : Nat} (ht : P.underlying t = some (.slice e)) (hinfo : (P.info? e).map (fun i => (i.zero, i.size, i.bytes)) = some (some z, size, bytes))
    (hzs : z.cells.size = size) (hsz : 0 < size)
    (v : Value) (n : Nat) (xs : List Value) (hs : a.eval s = v) (hown : w.ownsRow B e size v n xs)
    (A : Option Addr) (m c : Nat) (news : List Value) (hx : a.eval x = .slice A m c) (hr : RC w A news) (hl : news.length = m * size) (h1 : ∀ u ∈ news, u.oneCell' = true)
    (h63 : n + m ≤ maxLen) (hbytes : (n + m) * bytes ≤ 140737488355328)
    (h : ∀ v' w', w'.ownsRow B e size v' (n + m) (xs ++ news) → w'.ownsRow B e size v n xs → w.grownBy w' v.ownBlock → (v'.ownBlock = v.ownBlock ∨ v'.ownBlock = some w.heap.size) → wpList P ops Q rest (a.put o.dst v') w') : wpList P ops Q (o :: rest) a w := by
  obtain ⟨i, hi, hz, hsize, hby⟩ := info_parts hinfo
  refine wpList_plain hgd fun K hK => ?_
  obtain ⟨v', w', hrun, h2, h3, h4⟩ := run_append_any (P := P) w B t o.type e i z size bytes ht hi hz hsize hby hzs hsz v n xs hown A m c news hr hl h1 h63 hbytes hB
  have hk := run_append_keep ht hi hz hsize hby hown hr hl hsz h1 h63 hbytes hrun
  unfold Oper.wp execOp
  simp only [ho, resolve, invoke, builtin, Sem.run_bind, Sem.run_pure, Result.andThen_ok, List.map_toArray, List.map_cons, List.map_nil, hs, hx, hrun]
  exact hK _ _ (h v' w' h2 hk h3 h4)

/-- append in a region that draws its order: what was appended to stays, too. -/
theorem step_append_keep {P : Program} {w : World} {ops : Array Oper} {o : Oper} {a : Act} {K : Act → World → Prop} {Q : Exit → Act → World → Prop} {E : Prop} (hgd : o.guard = none) (s x : Operand) (t : TypeId)
    (ho : o.op = .call { callee := .builtin .append, args := #[s, x], argTypes := #[t, t] })
    (W : World) (hW : Below W.heap.size W w) {e : TypeId} {z : Value} {size bytes : Nat} (ht : P.underlying t = some (.slice e)) (hinfo : (P.info? e).map (fun i => (i.zero, i.size, i.bytes)) = some (some z, size, bytes))
    (hzs : z.cells.size = size) (hsz : 0 < size)
    (v : Value) (n : Nat) (xs : List Value) (hs : a.eval s = v) (hown : w.ownsRow W.heap.size e size v n xs)
    (A : Option Addr) (m c : Nat) (news : List Value) (hx : a.eval x = .slice A m c) (hr : RC w A news) (hl : news.length = m * size) (h1 : ∀ u ∈ news, u.oneCell' = true)
    (h63 : n + m ≤ maxLen) (hbytes : (n + m) * bytes ≤ 140737488355328)
    (h : ∀ v' w', w'.ownsRow W.heap.size e size v' (n + m) (xs ++ news) → Below W.heap.size W w' → w'.ownsRow W.heap.size e size v n xs → w.grownBy w' v.ownBlock → K (a.put o.dst v') w') :
    if Region.wanted o (yielded ops a.tmps) = true then Oper.wp P o a w K Q else E := by
  obtain ⟨i, hi, hz, hsize, hby⟩ := info_parts hinfo
  rw [if_pos (by simp [Region.wanted, hgd])]
  obtain ⟨v', w', hrun, h2, h3, h4⟩ := run_append_any (P := P) w W.heap.size t o.type e i z size bytes ht hi hz hsize hby hzs hsz v n xs hown A m c news hr hl h1 h63 hbytes hW.size
  have hk := run_append_keep ht hi hz hsize hby hown hr hl hsz h1 h63 hbytes hrun
  unfold Oper.wp execOp
  simp only [ho, resolve, invoke, builtin, Sem.run_bind, Sem.run_pure, Result.andThen_ok, List.map_toArray, List.map_cons, List.map_nil, hs, hx, hrun]
  exact h v' w' h2 (hW.grown h3 hW.size fun k hk => (hown.lt k hk).1) hk h3

theorem own_obj {u : World} {B s n : Nat} {e : TypeId} {v : Value} {xs : List Value} (h : u.ownsRow B e s v n xs) {b : Nat} (hb : v.ownBlock = some b) : ∃ cs, u.heap[b]? = some (.cells cs e (0, 0)) := by
  rcases h.2 with ⟨rfl, _⟩ | ⟨g, cap, cur, rfl, hB, hh, r⟩
  · simp [Value.ownBlock] at hb
  · simp [Value.ownBlock] at hb
    subst hb
    exact ⟨_, hh⟩

theorem own_of_block {u u' : World} {B s n : Nat} {e : TypeId} {v : Value} {xs : List Value} (h : u.ownsRow B e s v n xs) (hb : ∀ b, v.ownBlock = some b → u'.heap[b]? = u.heap[b]?) : u'.ownsRow B e s v n xs := by
  refine ⟨h.1, ?_⟩
  rcases h.2 with ⟨h1, h2⟩ | ⟨g, cap, cur, rfl, hB, hh, r⟩
  · exact .inl ⟨h1, h2⟩
  · exact .inr ⟨g, cap, cur, rfl, hB, (hb g rfl).trans hh, r⟩

theorem heap_setCell_eq {u : World} {g : Nat} {cs : Array Value} {t : TypeId} {fr : Nat × Nat} (h : u.heap[g]? = some (.cells cs t fr)) (o : Nat) (v : Value) : (u.setCell ⟨g, o, none⟩ v).heap[g]? = some (.cells (cs.setIfInBounds o v) t fr) := by
  simp [World.setCell, Array.getElem?_modify, h]

theorem heap_setCell_ne (u : World) {g b : Nat} (o : Nat) (v : Value) (h : b ≠ g) : (u.setCell ⟨g, o, none⟩ v).heap[b]? = u.heap[b]? := Below.heap_setCell u ⟨g, o, none⟩ v b h

theorem size_setCell (u : World) (a : Addr) (v : Value) : (u.setCell a v).heap.size = u.heap.size := by simp [World.setCell]

/-- A slice of one element that is an aggregate. -/
theorem wpList_buildOne {P : Program} {ops : Array Oper} {rest : List Oper} {o : Oper} {a : Act} {w : World} {Q : Exit → Act → World → Prop} (hg : o.guard = none) (t e : TypeId) (x : Operand) (ho : o.op = .buildSlice t 1 #[(0, x)])
    (cells : List Value) (hx : a.eval x = .agg cells.toArray) {z : Value} {size bytes : Nat} (hu : P.underlying t = some (.slice e)) (hinfo : (P.info? e).map (fun i => (i.zero, i.size, i.bytes)) = some (some z, size, bytes))
    (hl : cells.length = size) (hpos : 0 < size) (hsmall : size ≤ 1000)
    (h : wpList P ops Q rest (a.put o.dst (.slice (some ⟨w.heap.size, 0, none⟩) 1 1)) (w.alloc (.cells cells.toArray e))) : wpList P ops Q (o :: rest) a w := by
  obtain ⟨i, hi, hz, hsize, hby⟩ := info_parts hinfo
  subst hsize
  refine wpList_buildSlice hg t e 1 _ ho cells.toArray i z hu hi hz (by have h3 : (1000 : Nat) ≤ 2 ^ 24 := (by decide); rw [Nat.one_mul]; omega) (by omega) ?_ h
  have hf := Great.fill_whole hpos [.agg cells.toArray] ((Array.range (1 * i.size)).map (z.cells[· % z.cells.size]!)) (by intro v hv; simp at hv; subst hv; simpa [Value.cells] using hl) (by simp)
  have e1 : (#[(0, x)].map fun (p : Nat × Operand) => (p.1, a.eval p.2)).toList = (([Value.agg cells.toArray].zipIdx 0).map fun x => (x.2, x.1)) := by simp [hx]
  have e2 : ([Value.agg cells.toArray].flatMap fun v => v.cells.toList).toArray = cells.toArray := by simp [Value.cells]
  rw [e2] at hf
  rw [← hf, ← e1]

theorem RC.below {w w' : World} {A : Option Addr} {vs : List Value} (h : RC w A vs) (hb : Below w.heap.size w w') : RC w' A vs := fun hne => by
  obtain ⟨b, o, e, hr⟩ := h hne
  exact ⟨b, o, e, rangeAt_below' hr hb⟩

theorem own_put {w w' : World} {B : Nat} {e : TypeId} {s : Nat} {v : Value} {n : Nat} {xs : List Value} (h : w.ownsRow B e s v n xs) {b : Nat} (hb : b < B) (hg : w.grownBy w' (some b)) : w'.ownsRow B e s v n xs := by
  refine h.kept hg ?_
  rcases hz : v.ownBlock with _ | g
  · exact .inl rfl
  · exact .inr fun e => by have := (h.lt g hz).1; cases e; omega

/-- The block of a slice. -/
def blk : Option Addr → List Nat
  | some a => [a.block]
  | none => []

theorem own_setCell_eq {u : World} {B vb m cV k : Nat} {e : TypeId} {us : List Value} {x : Value} (h : u.ownsRow B e 1 (.slice (some ⟨vb, 0, none⟩) m cV) m us) : (u.setCell ⟨vb, k, none⟩ x).ownsRow B e 1 (.slice (some ⟨vb, 0, none⟩) m cV) m (us.set k x) := by
  refine ⟨by rw [List.length_set]; exact h.1, ?_⟩
  rcases h.2 with ⟨h1, _⟩ | ⟨g, cap, cur, h1, hB, hh, hnc, hcm, hsz, htake⟩
  · cases h1
  · injection h1 with e1 _ e3
    injection e1 with e1
    injection e1 with e1
    subst e1
    subst e3
    refine .inr ⟨vb, cV, cur.setIfInBounds k x, rfl, hB, heap_setCell_eq hh k x, hnc, hcm, by simpa using hsz, ?_⟩
    rw [Array.toList_setIfInBounds, List.take_set, htake]

theorem below_res {w w' w8 : World} {cs : Array Value} {t : TypeId} (h : w'.heap[w.heap.size]? = some (.cells cs t (0, 0))) (hb : Below w.heap.size w w') (hg : w'.grownBy w8 (some w.heap.size)) : Below w.heap.size w w8 :=
  hb.grown hg (Nat.le_of_lt (Array.getElem?_eq_some_iff.1 h).1) (by intro k hk; cases hk; exact Nat.le_refl _)

end Go.Proofs.Ytkfpnilbjjkhgaa
