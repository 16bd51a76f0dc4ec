/-
  THE WALK of proof.Extends.
-/
import Derived.Test.YtkcmacglomdfcaaPfH
import Derived.Test.YtkcmacglomdfcaaPfF
import Derived.Test.YtkcmacglomdfcaaMoves
namespace Go.Proofs.Ytkcmacglomdfcaa
open Go.RowKit

theorem there_sz {w : World} {b : Nat} {d : Dg} (hd : d.length = 32) (h : w.there b 0 (d.map B8).toArray.size) : w.there b 0 32 := by rwa [List.size_toArray, List.length_map, hd] at h
theorem sz_there {w : World} {b : Nat} {d : Dg} (hd : d.length = 32) (h : w.there b 0 32) : w.there b 0 (d.map B8).toArray.size := by rwa [List.size_toArray, List.length_map, hd]
/-- Two digests in variables made last. -/
structure ExI (W : World) (b0 b1 : Nat) (was now : Dg) (u : World) : Prop where
  below : Below W.heap.size W u
  ge0 : W.heap.size ≤ b0
  ge1 : W.heap.size ≤ b1
  ne : b0 ≠ b1
  w32 : was.length = 32
  n32 : now.length = 32
  r0 : u.rangeAt b0 0 (was.map B8)
  r1 : u.rangeAt b1 0 (now.map B8)
  t0 : u.there b0 0 32
  t1 : u.there b1 0 32
theorem ExI.stable {W u u' : World} {b0 b1 : Nat} {was now : Dg} (h : ExI W b0 b1 was now u) (hb : Below u.heap.size u u') : ExI W b0 b1 was now u' :=
  ⟨h.below.trans (hb.mono h.below.size), h.ge0, h.ge1, h.ne, h.w32, h.n32, rangeAt_below' h.r0 hb, rangeAt_below' h.r1 hb, there_same h.t0 (hb.block _ (there_lt h.t0 (by decide))), there_same h.t1 (hb.block _ (there_lt h.t1 (by decide)))⟩
theorem range_grown {w w' : World} {b o : Nat} {vs : List Value} {row : Option Nat} (h : w.rangeAt b o vs) (hg : w.grownBy w' row) (hne : row ≠ some b) : w'.rangeAt b o vs := fun j v hv => by
  have hlt := World.block_lt_of_cell? w _ (h j v hv)
  exact (World.cell?_of_block (w := w) (a := ⟨b, o + j, none⟩) (hg.block b hlt (fun e => hne e.symm))).trans (h j v hv)
theorem there_grownB {w w' : World} {b n : Nat} {row : Option Nat} (h : w.there b 0 n) (hn : 0 < n) (hg : w.grownBy w' row) (hne : row ≠ some b) : w'.there b 0 n :=
  there_same h (hg.block b (there_lt h hn) (fun e => hne e.symm))
theorem ExI.put0 {W u u' : World} {b0 b1 : Nat} {was now d : Dg} (h : ExI W b0 b1 was now u) (hg : u.grownBy u' (some b0)) (hr : u'.rangeAt b0 0 (d.map B8)) (ht : u'.there b0 0 32) (hd : d.length = 32) : ExI W b0 b1 d now u' :=
  ⟨h.below.grown hg h.below.size (by intro k hk; cases hk; exact h.ge0), h.ge0, h.ge1, h.ne, hd, h.n32, hr, range_grown h.r1 hg (fun e => h.ne (by cases e; rfl)), ht, there_grownB h.t1 (by decide) hg (fun e => h.ne (by cases e; rfl))⟩
theorem ExI.put1 {W u u' : World} {b0 b1 : Nat} {was now d : Dg} (h : ExI W b0 b1 was now u) (hg : u.grownBy u' (some b1)) (hr : u'.rangeAt b1 0 (d.map B8)) (ht : u'.there b1 0 32) (hd : d.length = 32) : ExI W b0 b1 was d u' :=
  ⟨h.below.grown hg h.below.size (by intro k hk; cases hk; exact h.ge1), h.ge0, h.ge1, h.ne, h.w32, hd, range_grown h.r0 hg (fun e => h.ne (by cases e; rfl)), hr, there_grownB h.t0 (by decide) hg (fun e => h.ne (by cases e; rfl)), ht⟩
theorem two_made (W : World) : Hid (∀ (z : Array Value), z.size = 32 → ∀ u, u = (W.alloc (.cells z 26)).alloc (.cells z 26) → Below W.heap.size W u ∧ u.there W.heap.size 0 32 ∧ u.there (W.heap.size + 1) 0 32) := Lib.hid (by
  rintro z hz u rfl
  refine ⟨((Below.refl _ _).alloc (Nat.le_refl _) _).alloc (by simp) _, ?_, there_blk (heap_alloc_at _ _ _ (by simp)) (by omega)⟩
  exact there_blk ((Below.heap_alloc _ _ _ (by simp)).trans (heap_alloc_new _ _)) (by omega))
/-- The parameters in variables. -/
structure ExF (w : World) (o r : Dg) (u : World) : Prop where
  below : Below w.heap.size w u
  r0 : u.rangeAt w.heap.size 0 (o.map B8)
  r1 : u.rangeAt (w.heap.size + 1) 0 (r.map B8)
  sz : w.heap.size + 2 ≤ u.heap.size
theorem ExF.stable {w u u' : World} {o r : Dg} (h : ExF w o r u) (hb : Below u.heap.size u u') : ExF w o r u' := ⟨h.below.trans (hb.mono h.below.size), rangeAt_below' h.r0 hb, rangeAt_below' h.r1 hb, Nat.le_trans h.sz hb.size⟩
theorem two_boxesE (w : World) (d r : Dg) : Hid (∀ (cl cr : List Value), cl = d.map B8 → cr = r.map B8 → ∀ W, W = (w.alloc (.cells cl.toArray 26)).alloc (.cells cr.toArray 26) → ExF w d r W) := Lib.hid (by
  rintro cl cr rfl rfl W rfl
  exact ⟨((Below.refl _ _).alloc (Nat.le_refl _) _).alloc (by simp) _, World.rangeAt_alloc (rangeAt_at _ _ _ _ _ rfl) _, rangeAt_at _ _ _ _ _ (by simp), by simp⟩)
/-- .. and the first digest, and the turns. -/
structure ExM (w : World) (o r : Dg) (b : Nat) (f : Dg) (V : Value) (t : Nat) (T : List Bool) (u : World) : Prop where
  fr : ExF w o r u
  own : u.ownsRow (w.heap.size + 2) 140 1 V t (T.map Value.bool)
  f0 : u.rangeAt b 0 (f.map B8)
  th : u.there b 0 32
  ne : V.ownBlock ≠ some b
  ge : w.heap.size + 2 ≤ b
theorem ExM.stable {w u u' : World} {o r f : Dg} {b t : Nat} {V : Value} {T : List Bool} (h : ExM w o r b f V t T u) (hb : Below u.heap.size u u') : ExM w o r b f V t T u' :=
  ⟨h.fr.stable hb, ownsRow_below h.own hb, rangeAt_below' h.f0 hb, there_same h.th (hb.block _ (there_lt h.th (by decide))), h.ne, h.ge⟩
theorem ExM.mk4 {w w3 w4 : World} {o r f : Dg} {t : Nat} {V : Value} {T : List Bool} {y : Obj} (h : ExF w o r w3 ∧ w3.ownsRow (w.heap.size + 2) 140 1 V t (T.map Value.bool)) (hg : (w3.alloc y).grownBy w4 (some w3.heap.size)) (hr : w4.rangeAt w3.heap.size 0 (f.map B8)) (ht : w4.there w3.heap.size 0 32) : ExM w o r w3.heap.size f V t T w4 := by
  have hb : Below w3.heap.size w3 w4 := ((Below.refl _ _).alloc (Nat.le_refl _) _).grown hg (by simp) (by intro k hk; cases hk; exact Nat.le_refl _)
  refine ⟨h.1.stable hb, ownsRow_below h.2 hb, hr, ht, fun e => ?_, h.1.sz⟩
  have := (h.2.lt _ e).2
  omega
theorem ExM.put {w u u' : World} {o r f d : Dg} {b t : Nat} {V : Value} {T : List Bool} (h : ExM w o r b f V t T u) (hg : u.grownBy u' (some b)) (hr : u'.rangeAt b 0 (d.map B8)) (ht : u'.there b 0 32) : ExM w o r b d V t T u' := by
  have hge := h.ge
  refine ⟨⟨h.fr.below.grown hg h.fr.below.size (by intro k hk; cases hk; omega), range_grown h.fr.r0 hg (by simp; omega), range_grown h.fr.r1 hg (by simp; omega), Nat.le_trans h.fr.sz hg.size⟩, h.own.kept hg ?_, hr, ht, h.ne, h.ge⟩
  rcases hz : V.ownBlock with _ | g
  · exact .inl rfl
  · exact .inr fun e => h.ne (hz.trans e)
set_option maxRecDepth 100000 in
set_option maxHeartbeats 1000000 in
theorem extends_bad (w : World) (m n : Int) (h : ¬ (1 ≤ n ∧ n ≤ 1048576 ∧ 1 ≤ m ∧ m ≤ n)) (old root : Dg) (V : Value) :
    Calls Try.prog 66 #[.int .i64 m, .int .i64 n, SumV old, SumV root, V] w fun e w' => e = .returned (.bool false) ∧ Below w.heap.size w w' := by
  have HX := two_boxesE w old root
  have Hh := Lib.hid h
  clear h
  unfold SumV
  by_cases q1 : n < 1
  · have d1 : decide (n < 1) = true := decide_eq_true q1
    go_enter Try.func66, Try.ntmps66
    go_wp2
    go_ret
    exact ⟨rfl, (HX.out _ _ rfl rfl _ rfl).below⟩
  · have d1 : decide (n < 1) = false := decide_eq_false q1
    by_cases q2 : 1048576 < n
    · have d2 : decide (1048576 < n) = true := decide_eq_true q2
      go_enter Try.func66, Try.ntmps66
      go_wp2
      go_ret
      exact ⟨rfl, (HX.out _ _ rfl rfl _ rfl).below⟩
    · have d2 : decide (1048576 < n) = false := decide_eq_false q2
      by_cases q3 : m < 1
      · have d3 : decide (m < 1) = true := decide_eq_true q3
        go_enter Try.func66, Try.ntmps66
        go_wp2
        go_ret
        exact ⟨rfl, (HX.out _ _ rfl rfl _ rfl).below⟩
      · have d3 : decide (m < 1) = false := decide_eq_false q3
        have d4 : decide (n < m) = true := decide_eq_true (by have := Hh.out; omega)
        go_enter Try.func66, Try.ntmps66
        go_wp2
        go_ret
        exact ⟨rfl, (HX.out _ _ rfl rfl _ rfl).below⟩

theorem foldE_next {F : Dg → Dg} {T : List Bool} {rest : List Dg} {f x : Dg} {y : Dg × Dg} {k : Nat} {b : Bool} (hl : T.length = rest.length) (hT : T[k]? = some b) (hr : rest[k]? = some x) (hy : y = foldE F (f, f) (T.take k) (rest.take k)) :
    foldE F (f, f) (T.take (k + 1)) (rest.take (k + 1)) = if b then (y.1, nodeF F y.2 x) else (nodeF F x y.1, nodeF F x y.2) := by
  rw [take_snoc hT, take_snoc hr, foldE_snoc _ _ _ _ _ (by rw [List.length_take, List.length_take, hl]), ← hy]
set_option maxRecDepth 100000 in
set_option maxHeartbeats 4000000 in
theorem extends_len (w : World) (m n : Nat) (h0 : 1 ≤ m) (hm : m ≤ n) (hn : n ≤ 1048576) (old root : Dg) (ho : old.length = 32) (B : Option Addr) (k c : Nat) (ps : List Dg) (hs : RS w B k ps) (hkc : k ≤ c) (hcm : c ≤ maxLen) (hk : k ≠ needsF m n true) :
    Calls Try.prog 66 #[.int .i64 (m : Int), .int .i64 (n : Int), SumV old, SumV root, .slice B k c] w fun e w' => e = .returned (.bool false) ∧ Below w.heap.size w w' := by
  unfold maxLen at hcm
  cases hal : (stepsF m n).all id with
  | true =>
    have HX := two_boxesE w old root
    have d1 : decide ((n : Int) < 1) = false := decide_eq_false (by omega)
    have d2 : decide ((1048576 : Int) < (n : Int)) = false := decide_eq_false (by omega)
    have d3 : decide ((m : Int) < 1) = false := decide_eq_false (by omega)
    have d4 : decide ((n : Int) < (m : Int)) = false := decide_eq_false (by omega)
    have d4' : decide (n < m) = false := decide_eq_false (by omega)
    obtain ⟨T, hT⟩ : ∃ T, T = (stepsF m n).reverse := ⟨_, rfl⟩
    obtain ⟨t, htl⟩ : ∃ t, t = T.length := ⟨_, rfl⟩
    have htn : t ≤ n := by rw [htl, hT, List.length_reverse]; exact stepsF_len n m h0
    have hst := fun w => steps_any w m n h0 hm hn
    have hall : (stepsF m n).all id = true := hal
    have hneed : needsF m n true = t + 0 := by rw [needsF, hall, htl, hT, List.length_reverse]; rfl
    rw [← hT, hall] at hst
    have HST : Hid (∀ u, Calls Try.prog 94 #[.int .i64 (m : Int), .int .i64 (n : Int)] u fun e w' => ∃ A c, e = .returned (.tuple #[.slice A t c, .bool true]) ∧ w'.ownsRow u.heap.size 140 1 (.slice A t c) t (T.map Value.bool) ∧ Below u.heap.size u w') := Lib.hid fun u => by
      have h := hst u
      unfold StepsPost at h
      rw [← htl] at h
      exact h
    have Hs := Lib.hid (And.intro ho (And.intro hs (And.intro hT (And.intro htl hneed))))
    have hio := info_of old ho
    have hio' := info_of' old ho
    have HO := Lib.hid ho
    have dne : ((k : Int) != (t : Int)) = true := by simp; omega
    clear hs hT htl hneed hst hall hal ho Hs
    unfold SumV
    go_enter Try.func66, Try.ntmps66
    go_wp2_with fail
    refine (HST.out _).mono ?_
    rintro e w3 ⟨At, ct, rfl, hown, hb3⟩
    have hx0 := HX.out _ _ rfl rfl _ rfl
    have H3 := Lib.hid (And.intro (hx0.stable hb3) (ownsRow_base (base' := w.heap.size + 2) hown hx0.sz))
    clear hown hb3 hx0
    go_wp2_with (first
      | ((with_reducible show wpList _ _ _ (⟨_, Op.load 26 (.tmp 7), _, _, _, _⟩ :: _) _ _); refine wpList_load_mid rfl _ _ rfl w.heap.size 0 rfl (old.map B8) _ H3.out.1.r0 Try.underlying26 rfl hio ?_; simp only [Act.put, List.setIfInBounds_toArray, List.set_cons_zero, List.set_cons_succ])
      | ((with_reducible show wpList _ _ _ (⟨_, Op.store 26 (.tmp 13) _, _, _, _, _⟩ :: _) _ _); refine wpList_store_row rfl _ _ _ rfl w3.heap.size 0 (old.map B8).toArray rfl rfl (there_new' _ _ _ (by simp [HO.out])) hio' (b8_all old) ?_; intro w4 hg4 hs4 ht4 hth4; rw [List.toList_toArray] at ht4; have H4 := Lib.hid (ExM.mk4 H3.out hg4 ht4 (by simpa [HO.out] using hth4)); clear hg4 hs4 hth4 ht4))
    go_ret
    exact ⟨rfl, H4.out.fr.below⟩
  | false =>
    by_cases hk0 : k = 0
    · subst hk0
      have dk0 : (((0 : Nat) : Int) == 0) = true := by rfl
      have HX := two_boxesE w old root
      have d1 : decide ((n : Int) < 1) = false := decide_eq_false (by omega)
      have d2 : decide ((1048576 : Int) < (n : Int)) = false := decide_eq_false (by omega)
      have d3 : decide ((m : Int) < 1) = false := decide_eq_false (by omega)
      have d4 : decide ((n : Int) < (m : Int)) = false := decide_eq_false (by omega)
      have d4' : decide (n < m) = false := decide_eq_false (by omega)
      obtain ⟨T, hT⟩ : ∃ T, T = (stepsF m n).reverse := ⟨_, rfl⟩
      obtain ⟨t, htl⟩ : ∃ t, t = T.length := ⟨_, rfl⟩
      have htn : t ≤ n := by rw [htl, hT, List.length_reverse]; exact stepsF_len n m h0
      have hst := fun w => steps_any w m n h0 hm hn
      have hall : (stepsF m n).all id = false := hal
      have hneed : needsF m n true = t + 1 := by rw [needsF, hall, htl, hT, List.length_reverse]; rfl
      rw [← hT, hall] at hst
      have HST : Hid (∀ u, Calls Try.prog 94 #[.int .i64 (m : Int), .int .i64 (n : Int)] u fun e w' => ∃ A c, e = .returned (.tuple #[.slice A t c, .bool false]) ∧ w'.ownsRow u.heap.size 140 1 (.slice A t c) t (T.map Value.bool) ∧ Below u.heap.size u w') := Lib.hid fun u => by
        have h := hst u
        unfold StepsPost at h
        rw [← htl] at h
        exact h
      have Hs := Lib.hid (And.intro ho (And.intro hs (And.intro hT (And.intro htl hneed))))
      have hio := info_of old ho
      have hio' := info_of' old ho
      have HO := Lib.hid ho
      clear hs hT htl hneed hst hall hal ho Hs
      unfold SumV
      go_enter Try.func66, Try.ntmps66
      go_wp2_with fail
      refine (HST.out _).mono ?_
      rintro e w3 ⟨At, ct, rfl, hown, hb3⟩
      have hx0 := HX.out _ _ rfl rfl _ rfl
      have H3 := Lib.hid (And.intro (hx0.stable hb3) (ownsRow_base (base' := w.heap.size + 2) hown hx0.sz))
      clear hown hb3 hx0
      go_wp2_with (first
        | ((with_reducible show wpList _ _ _ (⟨_, Op.load 26 (.tmp 7), _, _, _, _⟩ :: _) _ _); refine wpList_load_mid rfl _ _ rfl w.heap.size 0 rfl (old.map B8) _ H3.out.1.r0 Try.underlying26 rfl hio ?_; simp only [Act.put, List.setIfInBounds_toArray, List.set_cons_zero, List.set_cons_succ])
        | ((with_reducible show wpList _ _ _ (⟨_, Op.store 26 (.tmp 13) _, _, _, _, _⟩ :: _) _ _); refine wpList_store_row rfl _ _ _ rfl w3.heap.size 0 (old.map B8).toArray rfl rfl (there_new' _ _ _ (by simp [HO.out])) hio' (b8_all old) ?_; intro w4 hg4 hs4 ht4 hth4; rw [List.toList_toArray] at ht4; have H4 := Lib.hid (ExM.mk4 H3.out hg4 ht4 (by simpa [HO.out] using hth4)); clear hg4 hs4 hth4 ht4))
      go_ret
      exact ⟨rfl, H4.out.fr.below⟩
    · skip
      have HX := two_boxesE w old root
      have d1 : decide ((n : Int) < 1) = false := decide_eq_false (by omega)
      have d2 : decide ((1048576 : Int) < (n : Int)) = false := decide_eq_false (by omega)
      have d3 : decide ((m : Int) < 1) = false := decide_eq_false (by omega)
      have d4 : decide ((n : Int) < (m : Int)) = false := decide_eq_false (by omega)
      have d4' : decide (n < m) = false := decide_eq_false (by omega)
      obtain ⟨T, hT⟩ : ∃ T, T = (stepsF m n).reverse := ⟨_, rfl⟩
      obtain ⟨t, htl⟩ : ∃ t, t = T.length := ⟨_, rfl⟩
      have htn : t ≤ n := by rw [htl, hT, List.length_reverse]; exact stepsF_len n m h0
      have hst := fun w => steps_any w m n h0 hm hn
      have hall : (stepsF m n).all id = false := hal
      have hneed : needsF m n true = t + 1 := by rw [needsF, hall, htl, hT, List.length_reverse]; rfl
      rw [← hT, hall] at hst
      have HST : Hid (∀ u, Calls Try.prog 94 #[.int .i64 (m : Int), .int .i64 (n : Int)] u fun e w' => ∃ A c, e = .returned (.tuple #[.slice A t c, .bool false]) ∧ w'.ownsRow u.heap.size 140 1 (.slice A t c) t (T.map Value.bool) ∧ Below u.heap.size u w') := Lib.hid fun u => by
        have h := hst u
        unfold StepsPost at h
        rw [← htl] at h
        exact h
      have Hs := Lib.hid (And.intro ho (And.intro hs (And.intro hT (And.intro htl hneed))))
      have hio := info_of old ho
      have hio' := info_of' old ho
      have HO := Lib.hid ho
      obtain ⟨k2, hk2⟩ : ∃ k2, k2 = k - 1 := ⟨_, rfl⟩
      obtain ⟨p, rest, hps⟩ : ∃ p rest, ps = p :: rest := by
        cases ps with
        | nil => have := hs.len; simp at this; omega
        | cons p rest => exact ⟨p, rest, rfl⟩
      have hp32 : p.length = 32 := hs.2.1 p (by rw [hps]; simp)
      obtain ⟨b, o, hB, hcells⟩ := hs.2.2 (by omega)
      subst hB
      have hrp0 : w.rangeAt b o (p.map B8) := by simpa using hcells 0 p (by rw [hps]; rfl)
      have Hrp : Hid (∀ u, Below w.heap.size w u → u.rangeAt b o (p.map B8)) := Lib.hid fun u hu => rangeAt_below' hrp0 hu
      obtain ⟨Bq, hBq⟩ : ∃ Bq, Bq = if c = 1 then (some ⟨b, o, none⟩ : Option Addr) else some ⟨b, o + 32, none⟩ := ⟨_, rfl⟩
      have hrs1 : RS w Bq k2 rest := by
        have h := hs.cut (k := 1) (cap := c) (by omega) hkc
        rw [hps, List.drop_one, List.tail_cons, ← hk2, Option.map_some, Addr.add_mid, Nat.one_mul, ← hBq] at h
        exact h
      have HBq := Lib.hid hBq
      have HPl := Lib.hid hp32
      have hip := info_of p hp32
      have hip' := info_of' p hp32
      have hk1 : k = k2 + 1 := by omega
      have ek : (k : Int) - 1 = (k2 : Int) := by omega
      have ec : (c : Int) - 1 = ((c - 1 : Nat) : Int) := by omega
      have dk0 : ((k : Int) == 0) = false := by simp; omega
      have g1 : (0 : Int) < (k : Int) := by omega
      have g2 : (1 : Int) ≤ (k : Int) := by omega
      have g3 : (k : Int) ≤ (c : Int) := by omega
      have HPs := Lib.hid hps
      have dne : ((k2 : Int) != (t : Int)) = true := by simp; omega
      clear hs hT htl hneed hst hall hal ho Hs hps hcells hrp0 hp32 hBq hrs1 hk1 hk
      unfold SumV
      go_enter Try.func66, Try.ntmps66
      go_wp2_with fail
      refine (HST.out _).mono ?_
      rintro e w3 ⟨At, ct, rfl, hown, hb3⟩
      have hx0 := HX.out _ _ rfl rfl _ rfl
      have H3 := Lib.hid (And.intro (hx0.stable hb3) (ownsRow_base (base' := w.heap.size + 2) hown hx0.sz))
      clear hown hb3 hx0
      go_wp2_with (first
        | ((with_reducible show wpList _ _ _ (⟨_, Op.load 26 (.tmp 7), _, _, _, _⟩ :: _) _ _); refine wpList_load_mid rfl _ _ rfl w.heap.size 0 rfl (old.map B8) _ H3.out.1.r0 Try.underlying26 rfl hio ?_; simp only [Act.put, List.setIfInBounds_toArray, List.set_cons_zero, List.set_cons_succ])
        | ((with_reducible show wpList _ _ _ (⟨_, Op.store 26 (.tmp 13) _, _, _, _, _⟩ :: _) _ _); refine wpList_store_row rfl _ _ _ rfl w3.heap.size 0 (old.map B8).toArray rfl rfl (there_new' _ _ _ (by simp [HO.out])) hio' (b8_all old) ?_; intro w4 hg4 hs4 ht4 hth4; rw [List.toList_toArray] at ht4; have H4 := Lib.hid (ExM.mk4 H3.out hg4 ht4 (by simpa [HO.out] using hth4)); clear hg4 hs4 hth4 ht4))
      obtain ⟨w3s, hw3s⟩ : ∃ x, x = w3.heap.size := ⟨_, rfl⟩
      have HMd : Hid (ExM w old root w3.heap.size old (.slice At t ct) t T w4.drew) := Lib.hid (H4.out.stable (below_drewN (Below.refl _ _) 1))
      refine wp_region_noPanic ?_
      refine wp_region_moves 5 (fun u => ∃ f, ExM w old root w3.heap.size f (.slice At t ct) t T u) (fun u u' => u = u') (fun u => rfl) (fun h k => h.trans k) (by kernel_rfl) (by kernel_rfl) ⟨_, HMd.out⟩ (fun _ _ _ _ _ h => h) ?_
      simp only [List.take_succ_cons, List.take_zero, List.drop_succ_cons, List.drop_zero]
      refine wpMH_moveW (fun u => rfl) (by rfl) _ rfl _ rfl ?_
      simp only [Act.put, List.setIfInBounds_toArray, List.set_cons_zero, List.set_cons_succ]
      refine wpMH_pureW (fun u => rfl) (by rfl) (.pointer (some ⟨b, o, none⟩)) (fun u hu => by go_simp) ?_
      simp only [Act.put, List.setIfInBounds_toArray, List.set_cons_zero, List.set_cons_succ]
      refine wpMH_loadW (fun u => rfl) (by rfl) _ _ rfl b o rfl (p.map B8) _ (fun u ⟨_, hu⟩ => Hrp.out u hu.fr.below) Try.underlying26 rfl hip ?_
      simp only [Act.put, List.setIfInBounds_toArray, List.set_cons_zero, List.set_cons_succ]
      refine wpMH_moveW (fun u => rfl) (by rfl) _ rfl _ rfl ?_
      simp only [Act.put, List.setIfInBounds_toArray, List.set_cons_zero, List.set_cons_succ]
      refine wpMH_pureW (fun u => rfl) (by rfl) (.slice Bq k2 (c - 1)) (fun u hu => by go_simp; rw [HBq.out]; first | done | exact ⟨rfl, Hk2.out.symm⟩) ?_
      simp only [Act.put, List.setIfInBounds_toArray, List.set_cons_zero, List.set_cons_succ]
      refine wpMH_nil ?_
      refine wpMT_cons ?_
      rintro u1 - rfl
      have hth0 : w4.drew.there w3.heap.size 0 (p.map B8).toArray.size := by rw [show (p.map B8).toArray.size = 32 by simp [HPl.out]]; exact HMd.out.th
      go_wp2_with ((with_reducible show wpList _ _ _ (⟨_, Op.store 26 _ _, _, _, _, _⟩ :: _) _ _); refine wpList_store_row rfl _ _ _ rfl w3.heap.size 0 (p.map B8).toArray rfl rfl hth0 hip' (b8_all p) ?_; intro w5 hg5 hs5 ht5 hth5; rw [List.toList_toArray] at ht5; have H5 := Lib.hid (HMd.out.put hg5 ht5 (by simpa [HPl.out] using hth5)); clear hg5 hs5 ht5 hth5)
      refine ⟨⟨_, H5.out⟩, ?_⟩
      refine wpMT_cons ?_
      rintro u2 - rfl
      go_wp2_with fail
      refine ⟨⟨_, H5.out⟩, ?_⟩
      refine wpMT_nil ?_
      rintro u3 - rfl
      refine NoPanic.normal ?_
      go_wp2_with fail
      go_ret
      exact ⟨rfl, H5.out.fr.below⟩
end Go.Proofs.Ytkcmacglomdfcaa
