/-
  THE WALKS of the document's Length and Come.
-/
import Derived.Test.YtkcmacglomdfcaaTxB
import Derived.Test.YtkcmacglomdfcaaPfF
import Derived.Test.YtkcmacglomdfcaaMoves
namespace Go.Proofs.Ytkcmacglomdfcaa
open Go.RowKit

theorem reflength_any : ∀ (f n : Nat), n ≤ f → ∀ (w : World) (i : Nat), i < n → n ≤ 1048576 →
    Calls Try.prog 56 #[.int .i64 (i : Int), .int .i64 (n : Int)] w fun e w' => e = .returned (.int .i64 ((turns i n).length : Int)) ∧ w = w' := by
  intro f
  induction f with
  | zero => intro n hf w i hi; omega
  | succ f ih =>
    intro n hf w i hi hn
    by_cases h1 : n = 1
    · have hT : turns i n = [] := turns_one (by omega)
      rw [hT]
      subst h1
      clear ih hT hf
      go_enter Try.func56, Try.ntmps56
      go_wp2
      go_ret
      exact ⟨rfl, rfl⟩
    · have hk1 := cutN_lt (n := n) (by omega)
      have hk2 := cutN_pos (n := n) (by omega)
      obtain ⟨k, hk⟩ : ∃ k, k = cutN n := ⟨_, rfl⟩
      have hcutc := fun w => refcut_any w (n : Int) (by omega) (by omega)
      rw [Int.toNat_natCast, ← hk] at hcutc
      rw [← hk] at hk1 hk2
      have Hcut := Lib.hid hcutc
      have d1 : ((n : Int) == 1) = false := by simp; omega
      by_cases hik : i < k
      · have dk : decide (i < k) = true := decide_eq_true hik
        have hT : (turns i n).length = (turns i k).length + 1 := by rw [turns_left (by omega) (by rw [← hk]; exact hik), ← hk]; rfl
        have hl := turns_len k i
        obtain ⟨L, hL⟩ : ∃ L, L = (turns i k).length := ⟨_, rfl⟩
        have hI := fun w => ih k (by omega) w i hik (by omega)
        rw [← hL] at hT hl hI
        rw [hT]
        have HI := Lib.hid hI
        clear ih hcutc hk hT hI hL
        go_enter Try.func56, Try.ntmps56
        go_wp2_with (first
          | (go_at_call 37; refine (Hcut.out _).mono ?_; rintro e w' ⟨rfl, rfl⟩)
          | (go_at_call 56; refine (HI.out _).mono ?_; rintro e w' ⟨rfl, rfl⟩))
        go_ret
        exact ⟨by show Ending.returned (.int .i64 (1 + (L : Int))) = _; rw [show ((L + 1 : Nat) : Int) = 1 + (L : Int) by omega], rfl⟩
      · have dk : decide (i < k) = false := decide_eq_false hik
        obtain ⟨i2, hi2⟩ : ∃ i2, i2 = i - k := ⟨_, rfl⟩
        obtain ⟨n2, hn2⟩ : ∃ n2, n2 = n - k := ⟨_, rfl⟩
        have hT : (turns i n).length = (turns i2 n2).length + 1 := by rw [turns_right (by omega) (by rw [← hk]; exact hik), hi2, hn2, hk]; rfl
        have hl := turns_len n2 i2
        obtain ⟨L, hL⟩ : ∃ L, L = (turns i2 n2).length := ⟨_, rfl⟩
        have hI := fun w => ih n2 (by omega) w i2 (by omega) (by omega)
        rw [← hL] at hT hl hI
        rw [hT]
        have HI := Lib.hid hI
        have e1 : (i : Int) - (k : Int) = (i2 : Int) := by omega
        have e2 : (n : Int) - (k : Int) = (n2 : Int) := by omega
        have g1 : (k : Int) ≤ (i : Int) := by omega
        have g2 : (k : Int) ≤ (n : Int) := by omega
        have b2 : n2 ≤ 1048576 := by omega
        clear ih hcutc hk hT hI hL hi2 hn2
        go_enter Try.func56, Try.ntmps56
        go_wp2_with (first
          | (go_at_call 37; refine (Hcut.out _).mono ?_; rintro e w' ⟨rfl, rfl⟩)
          | (go_at_call 56; refine (HI.out _).mono ?_; rintro e w' ⟨rfl, rfl⟩))
        go_ret
        exact ⟨by show Ending.returned (.int .i64 (1 + (L : Int))) = _; rw [show ((L + 1 : Nat) : Int) = 1 + (L : Int) by omega], rfl⟩
/-- What the document's Come answers. -/
def ComePost (w : World) (D : Dg) (T : List Dg) (e : Ending) (w' : World) : Prop := ∃ A c us, e = .returned (.tuple #[SumV D, .slice A T.length c]) ∧ w'.ownsRow w.heap.size 22 1 (.slice A T.length c) T.length us ∧ Elts w' w.heap.size us T ∧ Below w.heap.size w w'
theorem own_setCells {w : World} {B : Nat} {e : TypeId} {s : Nat} {v : Value} {n : Nat} {xs : List Value} (h : w.ownsRow B e s v n xs) {b : Nat} (hb : b < B) (o : Nat) (vs : List Value) : (w.setCells b o vs).ownsRow B e s v n xs := by
  refine h.kept (grownBy_setCells w b _ _ w (grownBy_refl w _)) ?_
  rcases hz : v.ownBlock with _ | g
  · exact .inl rfl
  · exact .inr fun e => by have := (h.lt g hz).1; cases e; omega
theorem Elts.setCells {w : World} {B : Nat} {us : List Value} {T : List Dg} (h : Elts w B us T) {b : Nat} (hb : b < B) (o : Nat) (vs : List Value) : Elts (w.setCells b o vs) B us T := ⟨h.1, fun k u x hu hx => by
  obtain ⟨n, c, A, rfl, ho⟩ := h.2 k u x hu hx
  exact ⟨n, c, A, rfl, own_setCells ho hb _ _⟩⟩
theorem rangeAt_grown {w w' : World} {b o : Nat} {vs : List Value} {row : Option Nat} (h : w.rangeAt b o vs) (hg : w.grownBy w' row) (hne : row ≠ some b) : w'.rangeAt b o vs := fun j v hv => by
  have hlt := World.block_lt_of_cell? w _ (h j v hv)
  exact (World.cell?_of_block (w := w) (a := ⟨b, o + j, none⟩) (hg.block b hlt (fun e => hne e.symm))).trans (h j v hv)
theorem there_grown {w w' : World} {b n : Nat} {row : Option Nat} (h : w.there b 0 n) (hn : 0 < n) (hg : w.grownBy w' row) (hne : row ≠ some b) : w'.there b 0 n :=
  there_same h (hg.block b (there_lt h hn) (fun e => hne e.symm))
/-- In the document's Come: two digests in variables, the result's block, the texts so far. -/
structure RcS (w : World) (b1 b2 : Nat) (d1 d2 : Dg) (V : Value) (m : Nat) (us : List Value) (T : List Dg) (u : World) : Prop where
  below : Below w.heap.size w u
  sz : w.heap.size + 2 ≤ u.heap.size
  r1 : u.rangeAt b1 0 (d1.map B8)
  r2 : u.rangeAt b2 0 (d2.map B8)
  th : u.there (w.heap.size + 1) 0 32
  own : u.ownsRow (w.heap.size + 2) 22 1 V m us
  elts : Elts u (w.heap.size + 2) us T
  ne1 : V.ownBlock ≠ some b1
  ne2 : V.ownBlock ≠ some b2
  b1 : b1 ≠ w.heap.size + 1
  b2 : b2 ≠ w.heap.size + 1
section
variable {w : World} {b1 b2 : Nat} {d1 d2 : Dg} {V : Value} {m : Nat} {us : List Value} {T : List Dg} {u u' : World}
theorem RcS.stable (h : RcS w b1 b2 d1 d2 V m us T u) (hb : Below u.heap.size u u') : RcS w b1 b2 d1 d2 V m us T u' :=
  ⟨h.below.trans (hb.mono h.below.size), Nat.le_trans h.sz hb.size, rangeAt_below' h.r1 hb, rangeAt_below' h.r2 hb, there_same h.th (hb.block _ (there_lt h.th (by decide))), ownsRow_below h.own hb, h.elts.below hb, h.ne1, h.ne2, h.b1, h.b2⟩
theorem RcS.stored (h : RcS w b1 b2 d1 d2 V m us T u) (vs : List Value) : RcS w b1 b2 d1 d2 V m us T (u.setCells (w.heap.size + 1) 0 vs) :=
  ⟨below_setCells (by omega) _ _ _ h.below, by rw [heapSize_setCells]; exact h.sz, World.rangeAt_setCells_apart h.r1 _ _ _ (.inl h.b1), World.rangeAt_setCells_apart h.r2 _ _ _ (.inl h.b2), World.there_setCells h.th _ _ _, own_setCells h.own (by omega) _ _, h.elts.setCells (by omega) _ _, h.ne1, h.ne2, h.b1, h.b2⟩
theorem RcS.grown (h : RcS w b1 b2 d1 d2 V m us T u) (hg : u.grownBy u' V.ownBlock) (hk : u'.ownsRow (w.heap.size + 2) 22 1 V m us) : RcS w b1 b2 d1 d2 V m us T u' :=
  ⟨h.below.grown hg h.below.size (fun k e => by have := (h.own.lt k e).1; omega), Nat.le_trans h.sz hg.size, rangeAt_grown h.r1 hg h.ne1, rangeAt_grown h.r2 hg h.ne2, there_grown h.th (by decide) hg (fun e => by have := (h.own.lt _ e).1; omega), hk, h.elts.kept h.own (by decide) hg, h.ne1, h.ne2, h.b1, h.b2⟩
end
theorem RcS.all {w : World} {b1 b2 : Nat} {d1 d2 : Dg} {V : Value} {m : Nat} {us : List Value} {T : List Dg} {u : World} (h : RcS w b1 b2 d1 d2 V m us T u) : u.rangeAt b1 0 (d1.map B8) ∧ u.rangeAt b2 0 (d2.map B8) ∧ u.there (w.heap.size + 1) 0 32 ∧ RcS w b1 b2 d1 d2 V m us T u := ⟨h.r1, h.r2, h.th, h⟩
/-- .. behind the last digest's variable. -/
structure Rc8 (w : World) (d p : Dg) (u : World) : Prop where
  below : Below w.heap.size w u
  r0 : u.rangeAt w.heap.size 0 (d.map B8)
  th : u.there (w.heap.size + 1) 0 32
  r2 : u.rangeAt (w.heap.size + 1 + 1) 0 (p.map B8)
  sz : w.heap.size + 2 < u.heap.size
theorem rc8 {w w8 : World} {d p : Dg} {b o : Nat} {z : Array Value} {y : Obj}
    (hX : ∀ (cl : List Value), cl = d.map B8 → ∀ (z : Array Value) W, W = (w.alloc (.cells cl.toArray 26)).alloc (.cells z 26) → z.size = 32 →
            Below w.heap.size w W ∧ W.rangeAt w.heap.size 0 (d.map B8) ∧ W.there (w.heap.size + 1) 0 32 ∧ W.heap.size = w.heap.size + 2 ∧ W.rangeAt b o (p.map B8))
    (hg : (((w.alloc (.cells (d.map B8).toArray 26)).alloc (.cells z 26)).alloc y).grownBy w8 (some (w.heap.size + 1 + 1))) (hz : z.size = 32) (hs : w8.heap.size = (((w.alloc (.cells (d.map B8).toArray 26)).alloc (.cells z 26)).alloc y).heap.size) (ht : w8.rangeAt (w.heap.size + 1 + 1) 0 (p.map B8)) : Hid (Rc8 w d p w8) := by
  obtain ⟨h1, h2, h3, h4, -⟩ := hX _ rfl z _ rfl hz
  generalize (w.alloc (.cells (d.map B8).toArray 26)).alloc (.cells z 26) = W at *
  have ha : Below W.heap.size W (W.alloc y) := (Below.refl _ _).alloc (Nat.le_refl _) _
  have hb : Below W.heap.size W w8 := ha.grown hg (by simp) (by intro k hk; cases hk; omega)
  exact Lib.hid ⟨h1.trans (hb.mono h1.size), rangeAt_below' h2 hb, there_same h3 (hb.block _ (by omega)), ht, by rw [hs]; simp; omega⟩
theorem Rc8.rc9 {w w8 w9 : World} {d p : Dg} {V : Value} {m : Nat} {us : List Value} {T : List Dg} (h : Rc8 w d p w8) (hb : Below w8.heap.size w8 w9) (ho : w9.ownsRow w8.heap.size 22 1 V m us) (hE : Elts w9 w8.heap.size us T) :
    Rc8 w d p w9 ∧ w9.ownsRow w8.heap.size 22 1 V m us ∧ Elts w9 w8.heap.size us T ∧ w8.heap.size ≤ w9.heap.size ∧ w.heap.size + 2 < w8.heap.size :=
  ⟨⟨h.below.trans (hb.mono h.below.size), rangeAt_below' h.r0 hb, there_same h.th (hb.block _ (by have := h.sz; omega)), rangeAt_below' h.r2 hb, Nat.lt_of_lt_of_le h.sz hb.size⟩, ho, hE, hb.size, h.sz⟩
theorem rc10 {w w8 w9 w10 : World} {d p d' : Dg} {V : Value} {m : Nat} {us : List Value} {T : List Dg} {y : Obj} (h : Rc8 w d p w9 ∧ w9.ownsRow w8.heap.size 22 1 V m us ∧ Elts w9 w8.heap.size us T ∧ w8.heap.size ≤ w9.heap.size ∧ w.heap.size + 2 < w8.heap.size)
    (hg : (w9.alloc y).grownBy w10 (some w9.heap.size)) (ht : w10.rangeAt w9.heap.size 0 (d'.map B8)) : Hid (RcS w (w.heap.size + 1 + 1) w9.heap.size p d' V m us T w10) := by
  obtain ⟨h1, h2, h3, h4, h5⟩ := h
  have hb : Below w9.heap.size w9 w10 := ((Below.refl _ _).alloc (Nat.le_refl _) _).grown hg (by simp) (by intro k hk; cases hk; exact Nat.le_refl _)
  refine Lib.hid ⟨h1.below.trans (hb.mono h1.below.size), by have := h1.sz; have := hb.size; omega, rangeAt_below' h1.r2 hb, ht, there_same h1.th (hb.block _ (by have := h1.sz; omega)), ownsRow_below (ownsRow_base h2 (by omega)) hb, (h3.base (by omega)).below hb, fun e => ?_, fun e => ?_, by omega, by omega⟩
  · have := (h2.lt _ e).1
    omega
  · have := (h2.lt _ e).2
    omega
theorem RC.below {w w' : World} {A : Option Addr} {vs : List Value} (h : RC w A vs) (hb : Below w.heap.size w w') : RC w' A vs := fun hne => by
  obtain ⟨b, o, e, hr⟩ := h hne
  exact ⟨b, o, e, rangeAt_below' hr hb⟩
theorem own_put {w w' : World} {B : Nat} {e : TypeId} {s : Nat} {v : Value} {n : Nat} {xs : List Value} (h : w.ownsRow B e s v n xs) {b : Nat} (hb : b < B) (hg : w.grownBy w' (some b)) : w'.ownsRow B e s v n xs := by
  refine h.kept hg ?_
  rcases hz : v.ownBlock with _ | g
  · exact .inl rfl
  · exact .inr fun e => by have := (h.lt g hz).1; cases e; omega
theorem Elts.put {w w' : World} {B : Nat} {us : List Value} {T : List Dg} (h : Elts w B us T) {b : Nat} (hb : b < B) (hg : w.grownBy w' (some b)) : Elts w' B us T := ⟨h.1, fun k u x hu hx => by
  obtain ⟨n, c, A, rfl, ho⟩ := h.2 k u x hu hx
  exact ⟨n, c, A, rfl, own_put ho hb hg⟩⟩
section
variable {w : World} {b1 b2 : Nat} {d1 d2 : Dg} {V : Value} {m : Nat} {us : List Value} {T : List Dg} {u u' : World}
theorem RcS.put (h : RcS w b1 b2 d1 d2 V m us T u) (hg : u.grownBy u' (some (w.heap.size + 1))) (ht : u'.there (w.heap.size + 1) 0 32) : RcS w b1 b2 d1 d2 V m us T u' :=
  ⟨h.below.grown hg h.below.size (by intro k hk; cases hk; omega), Nat.le_trans h.sz hg.size, rangeAt_grown h.r1 hg (fun e => h.b1 (by cases e; rfl)), rangeAt_grown h.r2 hg (fun e => h.b2 (by cases e; rfl)), ht, own_put h.own (by omega) hg, h.elts.put (by omega) hg, h.ne1, h.ne2, h.b1, h.b2⟩
theorem rc12 {w12 : World} {v : Value} {At : Option Addr} {ct n : Nat} {x : Dg} (h : RcS w b1 b2 d1 d2 V m us T u) (ho : u.ownsRow (w.heap.size + 2) 5 1 (.slice At n ct) n (x.map B8)) (hn : w12.ownsRow (w.heap.size + 2) 22 1 v (m + 1) (us ++ [.slice At n ct])) (hk : w12.ownsRow (w.heap.size + 2) 22 1 V m us) (hg : u.grownBy w12 V.ownBlock) :
    RcS w b1 b2 d1 d2 V m us T w12 ∧ w12.ownsRow (w.heap.size + 2) 22 1 v (m + 1) (us ++ [.slice At n ct]) ∧ Elts w12 (w.heap.size + 2) (us ++ [.slice At n ct]) (T ++ [x]) :=
  ⟨h.grown hg hk, hn, (h.elts.app (Elts.one rfl ho)).kept h.own (by decide) hg⟩
theorem rc13 {w13 : World} {V' : Value} {m2 : Nat} {us2 : List Value} {T2 : List Dg} {D : Dg} (h : RcS w b1 b2 d1 d2 V m us T u ∧ u.ownsRow (w.heap.size + 2) 22 1 V' m2 us2 ∧ Elts u (w.heap.size + 2) us2 T2) (hg : u.grownBy w13 (some (w.heap.size + 1))) (ht : w13.there (w.heap.size + 1) 0 32) (hr : w13.rangeAt (w.heap.size + 1) 0 (D.map B8)) :
    RcS w b1 b2 d1 d2 V m us T w13 ∧ w13.ownsRow (w.heap.size + 2) 22 1 V' m2 us2 ∧ Elts w13 (w.heap.size + 2) us2 T2 ∧ w13.rangeAt (w.heap.size + 1) 0 (D.map B8) :=
  ⟨h.1.put hg ht, own_put h.2.1 (by omega) hg, h.2.2.put (by omega) hg, hr⟩
end
/-- append onto a row that lies from block B on. -/
theorem wpList_append_from {P : Program} {w : World} {ops : Array Oper} {rest : List Oper} {o : Oper} {a : Act} {Q : Exit → Act → World → Prop} (hgd : o.guard = none) (s x : Operand) (t : TypeId)
    (ho : o.op = .call { callee := .builtin .append, args := #[s, x], argTypes := #[t, t] })
    (B : Nat) (hB : B ≤ w.heap.size) {e : TypeId} {z : Value} {size bytes : Nat} (ht : P.underlying t = some (.slice e)) (hinfo : (P.info? e).map (fun i => (i.zero, i.size, i.bytes)) = some (some z, size, bytes))
    (hzs : z.cells.size = size) (hsz : 0 < size)
    (v : Value) (n : Nat) (xs : List Value) (hs : a.eval s = v) (hown : w.ownsRow B e size v n xs)
    (A : Option Addr) (m c : Nat) (news : List Value) (hx : a.eval x = .slice A m c) (hr : RC w A news) (hl : news.length = m * size) (h1 : ∀ u ∈ news, u.oneCell' = true)
    (h63 : n + m ≤ maxLen) (hbytes : (n + m) * bytes ≤ 140737488355328)
    (h : ∀ v' w', w'.ownsRow B e size v' (n + m) (xs ++ news) → w'.ownsRow B e size v n xs → w.grownBy w' v.ownBlock → (v'.ownBlock = v.ownBlock ∨ v'.ownBlock = some w.heap.size) → wpList P ops Q rest (a.put o.dst v') w') : wpList P ops Q (o :: rest) a w := by
  obtain ⟨i, hi, hz, hsize, hby⟩ := info_parts hinfo
  refine wpList_plain hgd fun K hK => ?_
  obtain ⟨v', w', hrun, h2, h3, h4⟩ := run_append_any (P := P) w B t o.type e i z size bytes ht hi hz hsize hby hzs hsz v n xs hown A m c news hr hl h1 h63 hbytes hB
  have hk := run_append_keep ht hi hz hsize hby hown hr hl hsz h1 h63 hbytes hrun
  unfold Oper.wp execOp
  simp only [ho, resolve, invoke, builtin, Sem.run_bind, Sem.run_pure, Result.andThen_ok, List.map_toArray, List.map_cons, List.map_nil, hs, hx, hrun]
  exact hK _ _ (h v' w' h2 hk h3 h4)
section
variable {F : List UInt8 → List UInt8} (HF : Dig F)
include HF
set_option maxRecDepth 100000 in
set_option maxHeartbeats 8000000 in
theorem refcome_any : ∀ (f n : Nat), n ≤ f → ∀ (w : World) (d : Dg) (i : Nat) (A : Option Addr) (m c : Nat) (ps : List Dg), d.length = 32 → i < n → n ≤ 1048576 → RS w A m ps → m ≤ c → c ≤ maxLen → m = (turns i n).length →
    Calls Try.prog 57 #[SumV d, .int .i64 (i : Int), .int .i64 (n : Int), .slice A m c] w (ComePost w (comeF F d (turns i n).reverse ps) (comeT F d (turns i n).reverse ps)) := by
  intro f
  induction f with
  | zero => intro n hf w d i A m c ps hd hi; omega
  | succ f ih =>
    intro n hf w d i A m c ps hd hi hn hr hmc hcm hm
    have hcm' := hcm
    unfold maxLen at hcm
    have hid := info_of d hd
    by_cases h1 : n = 1
    · have hT : turns i n = [] := turns_one (by omega)
      rw [hT]
      have e1 : comeF F d [].reverse ps = d := by cases ps <;> rfl
      have e2 : comeT F d [].reverse ps = [] := by cases ps <;> rfl
      rw [e1, e2]
      have hX : Hid (∀ (cl : List Value), cl = d.map B8 → ∀ (z : Array Value) W, W = (w.alloc (.cells cl.toArray 26)).alloc (.cells z 26) → z.size = 32 →
          Below w.heap.size w W ∧ W.rangeAt w.heap.size 0 (d.map B8) ∧ W.there (w.heap.size + 1) 0 32 ∧ W.heap.size = w.heap.size + 2) := Lib.hid (by
        rintro cl rfl z W rfl hz
        exact ⟨((Below.refl _ _).alloc (Nat.le_refl _) _).alloc (by simp) _, World.rangeAt_alloc (rangeAt_at _ _ _ _ _ rfl) _, there_blk (heap_alloc_at _ _ _ (by simp)) (by omega), by simp⟩)
      have hid' := info_of' d hd
      have Hd := Lib.hid hd
      subst h1
      clear hr ih hT e1 e2 hf hm hd
      unfold SumV
      go_enter Try.func57, Try.ntmps57
      go_wp2_with (first
        | ((with_reducible show wpList _ _ _ (⟨_, Op.load 26 (.tmp 4), _, _, _, _⟩ :: _) _ _); refine wpList_load_mid rfl _ _ rfl w.heap.size 0 rfl (d.map B8) _ (hX.out _ rfl _ _ rfl (by rfl)).2.1 Try.underlying26 rfl hid ?_; simp only [Act.put, List.setIfInBounds_toArray, List.set_cons_zero, List.set_cons_succ])
        | ((with_reducible show wpList _ _ _ (⟨_, Op.store 26 (.tmp 8) _, _, _, _, _⟩ :: _) _ _); refine wpList_store_row rfl _ _ _ rfl (w.heap.size + 1) 0 (d.map B8).toArray rfl rfl (there_blk (heap_alloc_at _ _ _ (by simp)) (by simp [Hd.out])) hid' (b8_all d) ?_; intro w10 hg10 hs10 ht10 hth10; rw [List.toList_toArray] at ht10))
      refine bodyPost_ret (v := .tuple #[.agg (d.map B8).toArray, .slice none 0 0]) ?_ rfl ?_
      · exact results_cell_tmp (s := 8) (s2 := 9) rfl _ _ _ (w.heap.size + 1) 0 rfl _ rfl (d.map B8) _ ht10 Try.underlying26 rfl hid
      · obtain ⟨hb, -, -, hsz⟩ := hX.out _ rfl #[.int .u8 0, .int .u8 0, .int .u8 0, .int .u8 0, .int .u8 0, .int .u8 0, .int .u8 0, .int .u8 0, .int .u8 0, .int .u8 0, .int .u8 0, .int .u8 0, .int .u8 0, .int .u8 0, .int .u8 0, .int .u8 0, .int .u8 0, .int .u8 0, .int .u8 0, .int .u8 0, .int .u8 0, .int .u8 0, .int .u8 0, .int .u8 0, .int .u8 0, .int .u8 0, .int .u8 0, .int .u8 0, .int .u8 0, .int .u8 0, .int .u8 0, .int .u8 0] _ rfl rfl
        exact ⟨none, 0, [], rfl, World.ownsRow_nil _ _ _ _, Elts.nil _ _, hb.grown hg10 (by omega) (by intro k hk; cases hk; omega)⟩
    · have hk1 := cutN_lt (n := n) (by omega)
      have hk2 := cutN_pos (n := n) (by omega)
      obtain ⟨k, hk⟩ : ∃ k, k = cutN n := ⟨_, rfl⟩
      have hcutc := fun w => refcut_any w (n : Int) (by omega) (by omega)
      rw [Int.toNat_natCast, ← hk] at hcutc
      rw [← hk] at hk1 hk2
      have Hcut := Lib.hid hcutc
      have dn : ((n : Int) == 1) = false := by simp; omega
      by_cases hik : i < k
      · have dk : decide (i < k) = true := decide_eq_true hik
        have hT : turns i n = true :: turns i k := by rw [turns_left (by omega) (by rw [← hk]; exact hik), ← hk]
        rw [hT, List.length_cons] at hm
        obtain ⟨m', hm'⟩ : ∃ m', m' = (turns i k).length := ⟨_, rfl⟩
        rw [← hm'] at hm
        obtain ⟨rs, p, hps, hrl⟩ := snoc_of_len (n := m') (l := ps) (by have := hr.len; omega)
        have hp32 : p.length = 32 := hr.2.1 p (by rw [hps]; simp)
        obtain ⟨b, o, hA, hcells⟩ := hr.2.2 (by omega)
        subst hA
        have hrp : w.rangeAt b (o + m' * 32) (p.map B8) := hcells m' p (by rw [hps, List.getElem?_append_right (by omega), hrl, Nat.sub_self]; rfl)
        have hrr : RS w (some ⟨b, o, none⟩) m' rs := by
          have h := hr.take (k := m') (by omega)
          rw [hps, List.take_append_of_le_length (by omega), List.take_of_length_le (by omega)] at h
          exact h
        have hrl' : (turns i k).reverse.length = rs.length := by rw [List.length_reverse, hrl, hm']
        rw [hT, List.reverse_cons, hps, comeF_snoc _ _ _ _ _ hrl', comeT_snoc _ _ _ _ _ hrl']
        simp only [if_true]
        obtain ⟨d', hd'⟩ : ∃ d', d' = comeF F d (turns i k).reverse rs := ⟨_, rfl⟩
        obtain ⟨T, hTT⟩ : ∃ T, T = comeT F d (turns i k).reverse rs := ⟨_, rfl⟩
        have hd'32 : d'.length = 32 := by rw [hd']; exact comeF_32 HF.len _ _ _ hd
        have hTl : T.length = m' := by rw [hTT, comeT_len _ _ _ hrl', List.length_reverse, hm']
        have hml := turns_len k i
        rw [← hm'] at hml
        obtain ⟨D, hD⟩ : ∃ D, D = nodeF F d' p := ⟨_, rfl⟩
        have hD32 : D.length = 32 := by rw [hD]; exact HF.len _
        rw [← hd', ← hTT, ← hD]
        have HIH : Hid (∀ u, Below w.heap.size w u → Calls Try.prog 57 #[.agg (d.map B8).toArray, .int .i64 (i : Int), .int .i64 (k : Int), .slice (some ⟨b, o, none⟩) m' c] u fun e w' => ∃ A c us, e = .returned (.tuple #[.agg (d'.map B8).toArray, .slice A m' c]) ∧ w'.ownsRow u.heap.size 22 1 (.slice A m' c) m' us ∧ Elts w' u.heap.size us T ∧ Below u.heap.size u w') := Lib.hid fun u hu => by
          have h := ih k (by omega) u d i (some ⟨b, o, none⟩) m' c rs hd hik (by omega) (hrr.below hu) (by omega) hcm' hm'
          rw [← hd', ← hTT] at h
          unfold ComePost SumV at h
          rw [hTl] at h
          exact h
        have HNd : Hid (∀ u, Calls Try.prog 34 #[.agg (d'.map B8).toArray, .agg (p.map B8).toArray] u fun e w' => e = .returned (.agg (D.map B8).toArray) ∧ Below u.heap.size u w') := Lib.hid fun u => by rw [hD]; exact refnode_any HF u d' p hd'32 hp32
        have HTx : Hid (∀ u, Calls Try.prog 84 #[.agg (d'.map B8).toArray, .agg (p.map B8).toArray] u fun e w' => ∃ A c, e = .returned (.slice A 65 c) ∧ w'.ownsRow u.heap.size 5 1 (.slice A 65 c) 65 ((1 :: (d' ++ p)).map B8) ∧ Below u.heap.size u w') := Lib.hid fun u => reftext_own u d' p hd'32 hp32
        have hip := info_of p hp32
        have hip' := info_of' p hp32
        have hid2 := info_of d' hd'32
        have hid2' := info_of' d' hd'32
        have hiD := info_of D hD32
        have hiD' := info_of' D hD32
        have H32 := Lib.hid (And.intro hd (And.intro hp32 (And.intro hd'32 (And.intro hD32 hTl))))
        have Hrp := Lib.hid hrp
        have em : (m : Int) - 1 = (m' : Int) := by omega
        have b1 : (0 : Int) ≤ (m' : Int) := by omega
        have b2 : (m' : Int) < (m : Int) := by omega
        have b3 : (m' : Int) ≤ (c : Int) := by omega
        have b4 : m' < m := by omega
        have hmm : m = m' + 1 := hm
        have Hmm := Lib.hid hmm
        have hX : Hid (∀ (cl : List Value), cl = d.map B8 → ∀ (z : Array Value) W, W = (w.alloc (.cells cl.toArray 26)).alloc (.cells z 26) → z.size = 32 →
            Below w.heap.size w W ∧ W.rangeAt w.heap.size 0 (d.map B8) ∧ W.there (w.heap.size + 1) 0 32 ∧ W.heap.size = w.heap.size + 2 ∧ W.rangeAt b (o + m' * 32) (p.map B8)) := Lib.hid (by
          rintro cl rfl z W rfl hz
          exact ⟨((Below.refl _ _).alloc (Nat.le_refl _) _).alloc (by simp) _, World.rangeAt_alloc (rangeAt_at _ _ _ _ _ rfl) _, there_blk (heap_alloc_at _ _ _ (by simp)) (by omega), by simp, World.rangeAt_alloc (World.rangeAt_alloc Hrp.out _) _⟩)
        clear hr ih hT hf hm hd hps hrl hp32 hcells hrp hrr hrl' hd' hTT hd'32 hTl hD hD32 hm' hcutc hk hmm
        go_enter Try.func57, Try.ntmps57
        go_wp2_with (first
          | (go_at_call 37; refine (Hcut.out _).mono ?_; rintro e w' ⟨rfl, rfl⟩)
          | ((with_reducible show wpList _ _ _ (⟨_, Op.load 26 (.tmp 26), _, _, _, _⟩ :: _) _ _); refine wpList_load_mid rfl _ _ rfl b (o + m' * 32) rfl (p.map B8) _ (hX.out _ rfl _ _ rfl (by rfl)).2.2.2.2 Try.underlying26 rfl hip ?_; simp only [Act.put, List.setIfInBounds_toArray, List.set_cons_zero, List.set_cons_succ])
          | ((with_reducible show wpList _ _ _ (⟨_, Op.store 26 (.tmp 11) _, _, _, _, _⟩ :: _) _ _); refine wpList_store_row rfl _ _ _ rfl (w.heap.size + 1 + 1) 0 (p.map B8).toArray rfl rfl (there_blk (heap_alloc_at _ _ _ (by simp)) (by simp [H32.out.2.1])) hip' (b8_all p) ?_; intro w8 hg8 hs8 ht8 hth8; rw [List.toList_toArray] at ht8; have H8 := rc8 hX.out hg8 rfl hs8.out ht8; clear hg8 hs8 ht8 hth8)
          | ((with_reducible show wpList _ _ _ (⟨_, Op.load 26 (.tmp 4), _, _, _, _⟩ :: _) _ _); refine wpList_load_mid rfl _ _ rfl w.heap.size 0 rfl (d.map B8) _ H8.out.r0 Try.underlying26 rfl hid ?_; simp only [Act.put, List.setIfInBounds_toArray, List.set_cons_zero, List.set_cons_succ]))
        refine (HIH.out _ H8.out.below).mono ?_
        rintro e w9 ⟨A9, c9, us, rfl, hown9, hE9, hb9⟩
        have H9 := Lib.hid (H8.out.rc9 hb9 hown9 hE9)
        clear hown9 hE9 hb9
        go_wp2_with ((with_reducible show wpList _ _ _ (⟨_, Op.store 26 (.tmp 13) _, _, _, _, _⟩ :: _) _ _); refine wpList_store_row rfl _ _ _ rfl w9.heap.size 0 (d'.map B8).toArray rfl rfl (there_new' _ _ _ (by simp [H32.out.2.2.1])) hid2' (b8_all d') ?_; intro w10 hg10 hs10 ht10 hth10; rw [List.toList_toArray] at ht10; have H10 := rc10 H9.out hg10 ht10; clear hg10 hs10 ht10 hth10)
        obtain ⟨bx, hbx⟩ : ∃ bx, bx = w9.heap.size := ⟨_, rfl⟩
        rw [← hbx] at H10 ⊢
        have hrc := H10.out
        have hsd := hrc.stable (below_drewN (Below.refl _ _) 1)
        have eg1 := enters_of Try.func34 (by kernel_rfl) rfl
        clear hbx hrc
        refine wp_region_noPanic ?_
        refine wp_region_moves 6 (fun u => RcS w (w.heap.size + 1 + 1) bx p d' (.slice A9 m' c9) m' us T u) (fun u u' => Below u.heap.size u u') (fun u => Below.refl _ _) (fun h k => h.trans (k.mono h.size)) (by kernel_rfl) (by kernel_rfl) hsd (fun _ _ _ _ _ h => h) ?_
        simp only [List.take_succ_cons, List.take_zero, List.drop_succ_cons, List.drop_zero]
        refine wpMH_load (fun u => Below.refl _ _) rfl _ _ rfl bx 0 rfl (d'.map B8) _ (fun u h => h.r2) Try.underlying26 rfl hid2 ?_
        simp only [Act.put, List.setIfInBounds_toArray, List.set_cons_zero, List.set_cons_succ]
        refine wpMH_load (fun u => Below.refl _ _) rfl _ _ rfl (w.heap.size + 1 + 1) 0 rfl (p.map B8) _ (fun u h => h.r1) Try.underlying26 rfl hip ?_
        simp only [Act.put, List.setIfInBounds_toArray, List.set_cons_zero, List.set_cons_succ]
        refine wpMH_call rfl 34 _ _ rfl eg1 [.agg (d'.map B8).toArray, .agg (p.map B8).toArray] rfl (.agg (D.map B8).toArray) (fun u h => (HNd.out u).mono fun e w' ⟨h1, h2⟩ => ⟨h1, h.stable h2, h2⟩) ?_
        simp only [Act.put, List.setIfInBounds_toArray, List.set_cons_zero, List.set_cons_succ]
        refine wpMH_move (fun u => Below.refl _ _) rfl _ rfl _ rfl ?_
        simp only [Act.put, List.setIfInBounds_toArray, List.set_cons_zero, List.set_cons_succ]
        refine wpMH_load (fun u => Below.refl _ _) rfl _ _ rfl bx 0 rfl (d'.map B8) _ (fun u h => h.r2) Try.underlying26 rfl hid2 ?_
        simp only [Act.put, List.setIfInBounds_toArray, List.set_cons_zero, List.set_cons_succ]
        refine wpMH_load (fun u => Below.refl _ _) rfl _ _ rfl (w.heap.size + 1 + 1) 0 rfl (p.map B8) _ (fun u h => h.r1) Try.underlying26 rfl hip ?_
        simp only [Act.put, List.setIfInBounds_toArray, List.set_cons_zero, List.set_cons_succ]
        refine wpMH_nil ?_
        refine wpMT_cons ?_
        intro u1 hS1 hM1
        clear hsd H10 H9 H8 hM1
        go_wp2_with fail
        refine (HTx.out _).mono ?_
        rintro e wt ⟨At, ct, rfl, hownt, hbt⟩
        have hS1t := hS1.stable hbt
        have HX1 := Lib.hid (And.intro hS1t (And.intro hS1.sz hownt))
        clear hS1 hownt hbt hS1t
        go_wp2_with fail
        refine ⟨HX1.out.1, ?_⟩
        have hownt' := ownsRow_base (base' := w.heap.size + 2) HX1.out.2.2 HX1.out.2.1
        refine wpMT_cons ?_
        intro u2 hS2 hM2
        have ho2 := ownsRow_below hownt' hM2
        clear hownt' hM2
        go_wp2_with fail
        have hal2 : Below u2.heap.size u2 (u2.alloc (.cells #[.slice At 65 ct] 22)) := (Below.refl _ _).alloc (Nat.le_refl _) _
        refine ⟨hS2.stable hal2, ?_⟩
        have hrc2 := rc_new u2 [.slice At 65 ct] 22 (0, 0)
        have ho2a := ho2.alloc (.cells #[.slice At 65 ct] 22)
        obtain ⟨ua, hua⟩ : ∃ ua, ua = u2.alloc (.cells #[.slice At 65 ct] 22) := ⟨_, rfl⟩
        obtain ⟨ub, hub⟩ : ∃ ub, ub = u2.heap.size := ⟨_, rfl⟩
        rw [← hua, ← hub] at hrc2
        rw [← hua] at ho2a
        rw [← hua, ← hub]
        clear hua hub hal2 hS2 ho2
        refine wpMT_cons ?_
        intro u3 hS3 hM3
        have hrc3 := RC.below hrc2 hM3
        have ho3 := ownsRow_below ho2a hM3
        clear hrc2 ho2a hM3
        go_wp2_with (at_builtin; refine wpList_append_from rfl (.tmp 47) (.tmp 51) 35 rfl (w.heap.size + 2) hS3.sz Try.underlying35 info_row3 rfl (by decide) (.slice A9 m' c9) m' us rfl hS3.own (some ⟨ub, 0, none⟩) 1 1 [.slice At 65 ct] rfl hrc3 rfl (by intro u hu; simp at hu; subst hu; rfl) (by unfold maxLen; omega) (by omega) ?_; intro v12 w12 hown12 hk12 hg12 _; obtain ⟨A12, c12, rfl, -, -, -, -⟩ := own_form hown12; have H12 := Lib.hid (rc12 hS3 ho3 hown12 hk12 hg12); clear hown12 hk12 hg12)
        clear hS3 hrc3 ho3
        refine ⟨H12.out.1, ?_⟩
        refine wpMT_cons ?_
        intro u4 hS4 hM4
        have hth4 : u4.there (w.heap.size + 1) 0 (D.map B8).toArray.size := by simpa [H32.out.2.2.2.1] using hS4.th
        have H4 := Lib.hid (And.intro hS4 (And.intro (ownsRow_below H12.out.2.1 hM4) (H12.out.2.2.below hM4)))
        clear hS4 hM4
        go_wp2_with ((with_reducible show wpList _ _ _ (⟨_, Op.store 26 _ _, _, _, _, _⟩ :: _) _ _); refine wpList_store_row rfl _ _ _ rfl (w.heap.size + 1) 0 (D.map B8).toArray rfl rfl hth4 hiD' (b8_all D) ?_; intro w13 hg13 hs13 ht13 hth13; rw [List.toList_toArray] at ht13; have H13 := Lib.hid (rc13 H4.out hg13 (by simpa [H32.out.2.2.2.1] using hth13) ht13); clear hg13 hs13 ht13 hth13)
        refine ⟨H13.out.1, ?_⟩
        refine wpMT_cons ?_
        intro u5 hS5 hM5
        have H5 := Lib.hid (And.intro hS5 (And.intro (ownsRow_below H13.out.2.1 hM5) (And.intro (H13.out.2.2.1.below hM5) (rangeAt_below' H13.out.2.2.2 hM5))))
        clear hS5 hM5 hth4
        go_wp2_with fail
        refine ⟨H5.out.1, ?_⟩
        refine wpMT_nil ?_
        intro u6 hS6 hM6
        have H6 := Lib.hid (And.intro hS6 (And.intro (ownsRow_below H5.out.2.1 hM6) (H5.out.2.2.1.below hM6)))
        have hr6 := rangeAt_below' H5.out.2.2.2 hM6
        clear hS6 hM6
        refine NoPanic.normal ?_
        go_wp2_with fail
        have hl : (T ++ [1 :: (d' ++ p)]).length = m' + 1 := by rw [List.length_append, H32.out.2.2.2.2]; rfl
        refine bodyPost_ret (v := .tuple #[.agg (D.map B8).toArray, .slice A12 (m' + 1) c12]) ?_ rfl ?_
        · exact results_cell_tmp (s := 8) (s2 := 9) rfl _ _ _ (w.heap.size + 1) 0 rfl _ rfl (D.map B8) _ hr6 Try.underlying26 rfl hiD
        · exact ⟨A12, c12, us ++ [.slice At 65 ct], by rw [hl]; rfl, by rw [hl]; exact ownsRow_base H6.out.2.1 (by omega), H6.out.2.2.base (by omega), H6.out.1.below⟩
      · have dk : decide (i < k) = false := decide_eq_false hik
        obtain ⟨i2, hi2⟩ : ∃ i2, i2 = i - k := ⟨_, rfl⟩
        obtain ⟨n2, hn2⟩ : ∃ n2, n2 = n - k := ⟨_, rfl⟩
        have e1 : (i : Int) - (k : Int) = (i2 : Int) := by omega
        have e2 : (n : Int) - (k : Int) = (n2 : Int) := by omega
        have g1 : (k : Int) ≤ (i : Int) := by omega
        have g2 : (k : Int) ≤ (n : Int) := by omega
        have f1 : i2 < n2 := by omega
        have f2 : n2 ≤ f := by omega
        have f3 : n2 ≤ 1048576 := by omega
        have hT : turns i n = false :: turns i2 n2 := by rw [turns_right (by omega) (by rw [← hk]; exact hik), hi2, hn2, hk]
        rw [hT, List.length_cons] at hm
        obtain ⟨m', hm'⟩ : ∃ m', m' = (turns i2 n2).length := ⟨_, rfl⟩
        rw [← hm'] at hm
        obtain ⟨rs, p, hps, hrl⟩ := snoc_of_len (n := m') (l := ps) (by have := hr.len; omega)
        have hp32 : p.length = 32 := hr.2.1 p (by rw [hps]; simp)
        obtain ⟨b, o, hA, hcells⟩ := hr.2.2 (by omega)
        subst hA
        have hrp : w.rangeAt b (o + m' * 32) (p.map B8) := hcells m' p (by rw [hps, List.getElem?_append_right (by omega), hrl, Nat.sub_self]; rfl)
        have hrr : RS w (some ⟨b, o, none⟩) m' rs := by
          have h := hr.take (k := m') (by omega)
          rw [hps, List.take_append_of_le_length (by omega), List.take_of_length_le (by omega)] at h
          exact h
        have hrl' : (turns i2 n2).reverse.length = rs.length := by rw [List.length_reverse, hrl, hm']
        rw [hT, List.reverse_cons, hps, comeF_snoc _ _ _ _ _ hrl', comeT_snoc _ _ _ _ _ hrl']
        simp only [Bool.false_eq_true, if_false]
        obtain ⟨d', hd'⟩ : ∃ d', d' = comeF F d (turns i2 n2).reverse rs := ⟨_, rfl⟩
        obtain ⟨T, hTT⟩ : ∃ T, T = comeT F d (turns i2 n2).reverse rs := ⟨_, rfl⟩
        have hd'32 : d'.length = 32 := by rw [hd']; exact comeF_32 HF.len _ _ _ hd
        have hTl : T.length = m' := by rw [hTT, comeT_len _ _ _ hrl', List.length_reverse, hm']
        have hml := turns_len n2 i2
        rw [← hm'] at hml
        obtain ⟨D, hD⟩ : ∃ D, D = nodeF F p d' := ⟨_, rfl⟩
        have hD32 : D.length = 32 := by rw [hD]; exact HF.len _
        rw [← hd', ← hTT, ← hD]
        have HIH : Hid (∀ u, Below w.heap.size w u → Calls Try.prog 57 #[.agg (d.map B8).toArray, .int .i64 (i2 : Int), .int .i64 (n2 : Int), .slice (some ⟨b, o, none⟩) m' c] u fun e w' => ∃ A c us, e = .returned (.tuple #[.agg (d'.map B8).toArray, .slice A m' c]) ∧ w'.ownsRow u.heap.size 22 1 (.slice A m' c) m' us ∧ Elts w' u.heap.size us T ∧ Below u.heap.size u w') := Lib.hid fun u hu => by
          have h := ih n2 f2 u d i2 (some ⟨b, o, none⟩) m' c rs hd f1 f3 (hrr.below hu) (by omega) hcm' hm'
          rw [← hd', ← hTT] at h
          unfold ComePost SumV at h
          rw [hTl] at h
          exact h
        have HNd : Hid (∀ u, Calls Try.prog 34 #[.agg (p.map B8).toArray, .agg (d'.map B8).toArray] u fun e w' => e = .returned (.agg (D.map B8).toArray) ∧ Below u.heap.size u w') := Lib.hid fun u => by rw [hD]; exact refnode_any HF u p d' hp32 hd'32
        have HTx : Hid (∀ u, Calls Try.prog 84 #[.agg (p.map B8).toArray, .agg (d'.map B8).toArray] u fun e w' => ∃ A c, e = .returned (.slice A 65 c) ∧ w'.ownsRow u.heap.size 5 1 (.slice A 65 c) 65 ((1 :: (p ++ d')).map B8) ∧ Below u.heap.size u w') := Lib.hid fun u => reftext_own u p d' hp32 hd'32
        have hip := info_of p hp32
        have hip' := info_of' p hp32
        have hid2 := info_of d' hd'32
        have hid2' := info_of' d' hd'32
        have hiD := info_of D hD32
        have hiD' := info_of' D hD32
        have H32 := Lib.hid (And.intro hd (And.intro hp32 (And.intro hd'32 (And.intro hD32 hTl))))
        have Hrp := Lib.hid hrp
        have em : (m : Int) - 1 = (m' : Int) := by omega
        have b1 : (0 : Int) ≤ (m' : Int) := by omega
        have b2 : (m' : Int) < (m : Int) := by omega
        have b3 : (m' : Int) ≤ (c : Int) := by omega
        have b4 : m' < m := by omega
        have hmm : m = m' + 1 := hm
        have Hmm := Lib.hid hmm
        have hX : Hid (∀ (cl : List Value), cl = d.map B8 → ∀ (z : Array Value) W, W = (w.alloc (.cells cl.toArray 26)).alloc (.cells z 26) → z.size = 32 →
            Below w.heap.size w W ∧ W.rangeAt w.heap.size 0 (d.map B8) ∧ W.there (w.heap.size + 1) 0 32 ∧ W.heap.size = w.heap.size + 2 ∧ W.rangeAt b (o + m' * 32) (p.map B8)) := Lib.hid (by
          rintro cl rfl z W rfl hz
          exact ⟨((Below.refl _ _).alloc (Nat.le_refl _) _).alloc (by simp) _, World.rangeAt_alloc (rangeAt_at _ _ _ _ _ rfl) _, there_blk (heap_alloc_at _ _ _ (by simp)) (by omega), by simp, World.rangeAt_alloc (World.rangeAt_alloc Hrp.out _) _⟩)
        clear hr ih hT hf hm hd hps hrl hp32 hcells hrp hrr hrl' hd' hTT hd'32 hTl hD hD32 hm' hcutc hk hmm hi2 hn2
        go_enter Try.func57, Try.ntmps57
        go_wp2_with (first
          | (go_at_call 37; refine (Hcut.out _).mono ?_; rintro e w' ⟨rfl, rfl⟩)
          | ((with_reducible show wpList _ _ _ (⟨_, Op.load 26 (.tmp 26), _, _, _, _⟩ :: _) _ _); refine wpList_load_mid rfl _ _ rfl b (o + m' * 32) rfl (p.map B8) _ (hX.out _ rfl _ _ rfl (by rfl)).2.2.2.2 Try.underlying26 rfl hip ?_; simp only [Act.put, List.setIfInBounds_toArray, List.set_cons_zero, List.set_cons_succ])
          | ((with_reducible show wpList _ _ _ (⟨_, Op.store 26 (.tmp 11) _, _, _, _, _⟩ :: _) _ _); refine wpList_store_row rfl _ _ _ rfl (w.heap.size + 1 + 1) 0 (p.map B8).toArray rfl rfl (there_blk (heap_alloc_at _ _ _ (by simp)) (by simp [H32.out.2.1])) hip' (b8_all p) ?_; intro w8 hg8 hs8 ht8 hth8; rw [List.toList_toArray] at ht8; have H8 := rc8 hX.out hg8 rfl hs8.out ht8; clear hg8 hs8 ht8 hth8)
          | ((with_reducible show wpList _ _ _ (⟨_, Op.load 26 (.tmp 4), _, _, _, _⟩ :: _) _ _); refine wpList_load_mid rfl _ _ rfl w.heap.size 0 rfl (d.map B8) _ H8.out.r0 Try.underlying26 rfl hid ?_; simp only [Act.put, List.setIfInBounds_toArray, List.set_cons_zero, List.set_cons_succ]))
        refine (HIH.out _ H8.out.below).mono ?_
        rintro e w9 ⟨A9, c9, us, rfl, hown9, hE9, hb9⟩
        have H9 := Lib.hid (H8.out.rc9 hb9 hown9 hE9)
        clear hown9 hE9 hb9
        go_wp2_with ((with_reducible show wpList _ _ _ (⟨_, Op.store 26 (.tmp 15) _, _, _, _, _⟩ :: _) _ _); refine wpList_store_row rfl _ _ _ rfl w9.heap.size 0 (d'.map B8).toArray rfl rfl (there_new' _ _ _ (by simp [H32.out.2.2.1])) hid2' (b8_all d') ?_; intro w10 hg10 hs10 ht10 hth10; rw [List.toList_toArray] at ht10; have H10 := rc10 H9.out hg10 ht10; clear hg10 hs10 ht10 hth10)
        obtain ⟨bx, hbx⟩ : ∃ bx, bx = w9.heap.size := ⟨_, rfl⟩
        rw [← hbx] at H10 ⊢
        have hrc := H10.out
        have hsd := hrc.stable (below_drewN (Below.refl _ _) 1)
        have eg1 := enters_of Try.func34 (by kernel_rfl) rfl
        clear hbx hrc
        refine wp_region_noPanic ?_
        refine wp_region_moves 6 (fun u => RcS w (w.heap.size + 1 + 1) bx p d' (.slice A9 m' c9) m' us T u) (fun u u' => Below u.heap.size u u') (fun u => Below.refl _ _) (fun h k => h.trans (k.mono h.size)) (by kernel_rfl) (by kernel_rfl) hsd (fun _ _ _ _ _ h => h) ?_
        simp only [List.take_succ_cons, List.take_zero, List.drop_succ_cons, List.drop_zero]
        refine wpMH_load (fun u => Below.refl _ _) rfl _ _ rfl (w.heap.size + 1 + 1) 0 rfl (p.map B8) _ (fun u h => h.r1) Try.underlying26 rfl hip ?_
        simp only [Act.put, List.setIfInBounds_toArray, List.set_cons_zero, List.set_cons_succ]
        refine wpMH_load (fun u => Below.refl _ _) rfl _ _ rfl bx 0 rfl (d'.map B8) _ (fun u h => h.r2) Try.underlying26 rfl hid2 ?_
        simp only [Act.put, List.setIfInBounds_toArray, List.set_cons_zero, List.set_cons_succ]
        refine wpMH_call rfl 34 _ _ rfl eg1 [.agg (p.map B8).toArray, .agg (d'.map B8).toArray] rfl (.agg (D.map B8).toArray) (fun u h => (HNd.out u).mono fun e w' ⟨h1, h2⟩ => ⟨h1, h.stable h2, h2⟩) ?_
        simp only [Act.put, List.setIfInBounds_toArray, List.set_cons_zero, List.set_cons_succ]
        refine wpMH_move (fun u => Below.refl _ _) rfl _ rfl _ rfl ?_
        simp only [Act.put, List.setIfInBounds_toArray, List.set_cons_zero, List.set_cons_succ]
        refine wpMH_load (fun u => Below.refl _ _) rfl _ _ rfl (w.heap.size + 1 + 1) 0 rfl (p.map B8) _ (fun u h => h.r1) Try.underlying26 rfl hip ?_
        simp only [Act.put, List.setIfInBounds_toArray, List.set_cons_zero, List.set_cons_succ]
        refine wpMH_load (fun u => Below.refl _ _) rfl _ _ rfl bx 0 rfl (d'.map B8) _ (fun u h => h.r2) Try.underlying26 rfl hid2 ?_
        simp only [Act.put, List.setIfInBounds_toArray, List.set_cons_zero, List.set_cons_succ]
        refine wpMH_nil ?_
        refine wpMT_cons ?_
        intro u1 hS1 hM1
        clear hsd H10 H9 H8 hM1
        go_wp2_with fail
        refine (HTx.out _).mono ?_
        rintro e wt ⟨At, ct, rfl, hownt, hbt⟩
        have hS1t := hS1.stable hbt
        have HX1 := Lib.hid (And.intro hS1t (And.intro hS1.sz hownt))
        clear hS1 hownt hbt hS1t
        go_wp2_with fail
        refine ⟨HX1.out.1, ?_⟩
        have hownt' := ownsRow_base (base' := w.heap.size + 2) HX1.out.2.2 HX1.out.2.1
        refine wpMT_cons ?_
        intro u2 hS2 hM2
        have ho2 := ownsRow_below hownt' hM2
        clear hownt' hM2
        go_wp2_with fail
        have hal2 : Below u2.heap.size u2 (u2.alloc (.cells #[.slice At 65 ct] 22)) := (Below.refl _ _).alloc (Nat.le_refl _) _
        refine ⟨hS2.stable hal2, ?_⟩
        have hrc2 := rc_new u2 [.slice At 65 ct] 22 (0, 0)
        have ho2a := ho2.alloc (.cells #[.slice At 65 ct] 22)
        obtain ⟨ua, hua⟩ : ∃ ua, ua = u2.alloc (.cells #[.slice At 65 ct] 22) := ⟨_, rfl⟩
        obtain ⟨ub, hub⟩ : ∃ ub, ub = u2.heap.size := ⟨_, rfl⟩
        rw [← hua, ← hub] at hrc2
        rw [← hua] at ho2a
        rw [← hua, ← hub]
        clear hua hub hal2 hS2 ho2
        refine wpMT_cons ?_
        intro u3 hS3 hM3
        have hrc3 := RC.below hrc2 hM3
        have ho3 := ownsRow_below ho2a hM3
        clear hrc2 ho2a hM3
        go_wp2_with (at_builtin; refine wpList_append_from rfl (.tmp 68) (.tmp 72) 35 rfl (w.heap.size + 2) hS3.sz Try.underlying35 info_row3 rfl (by decide) (.slice A9 m' c9) m' us rfl hS3.own (some ⟨ub, 0, none⟩) 1 1 [.slice At 65 ct] rfl hrc3 rfl (by intro u hu; simp at hu; subst hu; rfl) (by unfold maxLen; omega) (by omega) ?_; intro v12 w12 hown12 hk12 hg12 _; obtain ⟨A12, c12, rfl, -, -, -, -⟩ := own_form hown12; have H12 := Lib.hid (rc12 hS3 ho3 hown12 hk12 hg12); clear hown12 hk12 hg12)
        clear hS3 hrc3 ho3
        refine ⟨H12.out.1, ?_⟩
        refine wpMT_cons ?_
        intro u4 hS4 hM4
        have hth4 : u4.there (w.heap.size + 1) 0 (D.map B8).toArray.size := by simpa [H32.out.2.2.2.1] using hS4.th
        have H4 := Lib.hid (And.intro hS4 (And.intro (ownsRow_below H12.out.2.1 hM4) (H12.out.2.2.below hM4)))
        clear hS4 hM4
        go_wp2_with ((with_reducible show wpList _ _ _ (⟨_, Op.store 26 _ _, _, _, _, _⟩ :: _) _ _); refine wpList_store_row rfl _ _ _ rfl (w.heap.size + 1) 0 (D.map B8).toArray rfl rfl hth4 hiD' (b8_all D) ?_; intro w13 hg13 hs13 ht13 hth13; rw [List.toList_toArray] at ht13; have H13 := Lib.hid (rc13 H4.out hg13 (by simpa [H32.out.2.2.2.1] using hth13) ht13); clear hg13 hs13 ht13 hth13)
        refine ⟨H13.out.1, ?_⟩
        refine wpMT_cons ?_
        intro u5 hS5 hM5
        have H5 := Lib.hid (And.intro hS5 (And.intro (ownsRow_below H13.out.2.1 hM5) (And.intro (H13.out.2.2.1.below hM5) (rangeAt_below' H13.out.2.2.2 hM5))))
        clear hS5 hM5 hth4
        go_wp2_with fail
        refine ⟨H5.out.1, ?_⟩
        refine wpMT_nil ?_
        intro u6 hS6 hM6
        have H6 := Lib.hid (And.intro hS6 (And.intro (ownsRow_below H5.out.2.1 hM6) (H5.out.2.2.1.below hM6)))
        have hr6 := rangeAt_below' H5.out.2.2.2 hM6
        clear hS6 hM6
        refine NoPanic.normal ?_
        go_wp2_with fail
        have hl : (T ++ [1 :: (p ++ d')]).length = m' + 1 := by rw [List.length_append, H32.out.2.2.2.2]; rfl
        refine bodyPost_ret (v := .tuple #[.agg (D.map B8).toArray, .slice A12 (m' + 1) c12]) ?_ rfl ?_
        · exact results_cell_tmp (s := 8) (s2 := 9) rfl _ _ _ (w.heap.size + 1) 0 rfl _ rfl (D.map B8) _ hr6 Try.underlying26 rfl hiD
        · exact ⟨A12, c12, us ++ [.slice At 65 ct], by rw [hl]; rfl, by rw [hl]; exact ownsRow_base H6.out.2.1 (by omega), H6.out.2.2.base (by omega), H6.out.1.below⟩
end
end Go.Proofs.Ytkcmacglomdfcaa
