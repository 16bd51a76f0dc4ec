/-
  THE WALK of the law FrameFinds.
-/
import Derived.Test.YtdmiiageihbokaaFrE
import Derived.Test.YtdmiiageihbokaaOpen
namespace Go.Proofs.Ytdmiiageihbokaa
open Go.RowKit Go.ChangeShapes Go.WideShapes Go.ChangeAt

theorem ownsRow_other {w w' : World} {base g : Nat} {e : TypeId} {size : Nat} {v : Value} {n : Nat} {xs : List Value} (h : w.ownsRow base e size v n xs) (hgr : w.grownBy w' (some g)) (hg : g < base) : w'.ownsRow base e size v n xs := by
  refine ⟨h.1, ?_⟩
  rcases h.2 with h2 | ⟨b, cap, cur, hv, hb, hh, r⟩
  · exact .inl h2
  · exact .inr ⟨b, cap, cur, hv, hb, (hgr.block b (Array.getElem?_eq_some_iff.1 hh).1 (by simp; omega)).trans hh, r⟩

theorem recOf_set (p : List UInt8) (k : Nat) (d by_ : UInt8) (hd : p[k]? = some d) :
    (recOf p).set (8 + k) (d ^^^ by_) = wordBytes (lenW p) ++ wordBytes (crcSum (wordBytes (lenW p) ++ p)) ++ (p.take k ++ (d ^^^ by_) :: p.drop (k + 1)) := by
  have hk : k < p.length := (List.getElem?_eq_some_iff.1 hd).1
  rw [recOf, List.set_append_right _ _ (by simp [wordBytes]), show 8 + k - (wordBytes (lenW p) ++ wordBytes (crcSum (wordBytes (lenW p) ++ p))).length = k by simp [wordBytes]]
  rw [List.set_eq_take_append_cons_drop, if_pos hk]
theorem recOf_get (p : List UInt8) (k : Nat) : (recOf p)[8 + k]? = p[k]? := by
  rw [recOf, List.getElem?_append_right (by simp [wordBytes])]
  congr 1
  simp [wordBytes]
theorem whole_spoilt (a p z : List UInt8) (k : Nat) (d by_ : UInt8) (ha : a.length ≤ 65536) (hp : p.length ≤ 65536) (hd : p[k]? = some d) (hb : by_ ≠ 0) :
    wholeOf (recOf a ++ (recOf p).set (8 + k) (d ^^^ by_) ++ z) = 8 + a.length := by
  have h := (frames_join [a] ((recOf p).set (8 + k) (d ^^^ by_) ++ z) (by intro q hq; simp at hq; subst hq; exact ha)).2
  rw [show recs [a] = recOf a by simp [recs], ← List.append_assoc] at h
  rw [h]
  have hpd : p = p.take k ++ d :: p.drop (k + 1) := by
    have hk : k < p.length := (List.getElem?_eq_some_iff.1 hd).1
    rw [(List.getElem?_eq_some_iff.1 hd).2.symm, ← List.drop_eq_getElem_cons hk, List.take_append_drop]
  have hn : firstOf ((recOf p).set (8 + k) (d ^^^ by_) ++ z) = none := by
    rw [recOf_set p k d by_ hd]
    exact first_spoilt p _ _ z d by_ hb hpd hp
  have h0 : wholeOf ((recOf p).set (8 + k) (d ^^^ by_) ++ z) = 0 := by
    have : frames ((recOf p).set (8 + k) (d ^^^ by_) ++ z) = [] := by
      rw [frames]
      cases ((recOf p).set (8 + k) (d ^^^ by_) ++ z).length with
      | zero => rfl
      | succ f => rw [framesF, hn]
    rw [wholeOf, this]
    rfl
  rw [h0]
  simp [recsLen]
theorem spoilt_out (w : World) (A B C : Option Addr) (na nb nc ca cb cc : Nat) (ha : na ≤ maxLen) (hb : nb ≤ maxLen) (hc : nc ≤ maxLen) (at_ : Int) (y : UInt8) (h : 300 < na ∨ 300 < nb ∨ 300 < nc ∨ nb = 0 ∨ y = 0) :
    Calls Try.prog 34 #[.slice A na ca, .slice B nb cb, .slice C nc cc, .int .i64 at_, .int .u8 (y.toNat : Int)] w fun e w' => e = .returned (.bool true) ∧ Below w.heap.size w w' := by
  unfold maxLen at ha hb hc
  by_cases h1 : 300 < na
  · clear h
    go_enter Try.func34, Try.ntmps34
    go_wp2_with (go_at_call 23; refine (alive7_any _).mono ?_; rintro e w1 ⟨rfl, hb1⟩)
    all_goals go_ret; exact ⟨rfl, hb1⟩
  by_cases h2 : 300 < nb
  · clear h
    go_enter Try.func34, Try.ntmps34
    go_wp2_with (go_at_call 23; refine (alive7_any _).mono ?_; rintro e w1 ⟨rfl, hb1⟩)
    all_goals go_ret; exact ⟨rfl, hb1⟩
  by_cases h3 : 300 < nc
  · clear h
    go_enter Try.func34, Try.ntmps34
    go_wp2_with (go_at_call 23; refine (alive7_any _).mono ?_; rintro e w1 ⟨rfl, hb1⟩)
    all_goals go_ret; exact ⟨rfl, hb1⟩
  by_cases h4 : nb = 0
  · subst h4
    clear h
    go_enter Try.func34, Try.ntmps34
    go_wp2_with (go_at_call 23; refine (alive7_any _).mono ?_; rintro e w1 ⟨rfl, hb1⟩)
    all_goals go_ret; exact ⟨rfl, hb1⟩
  have h5 : y = 0 := by
    rcases h with h | h | h | h | h
    · exact absurd h h1
    · exact absurd h h2
    · exact absurd h h3
    · exact absurd h h4
    · exact h
  subst h5
  have h0 : (((0 : UInt8).toNat : Int) == 0) = true := rfl
  have h4' : ((nb : Int) == 0) = false := by rw [beq_eq_false_iff_ne]; omega
  go_enter Try.func34, Try.ntmps34
  go_wp2_with (go_at_call 23; refine (alive7_any _).mono ?_; rintro e w1 ⟨rfl, hb1⟩)
  all_goals go_ret; exact ⟨rfl, hb1⟩

set_option maxRecDepth 100000 in
theorem spoilt_in (w : World) (A B C : Option Addr) (na nb nc ca cb cc : Nat) (a b c : List UInt8) (ha : RB w A na a) (hb : RB w B nb b) (hc : RB w C nc c) (ha2 : na ≤ ca) (ha3 : ca ≤ maxLen) (hb2 : nb ≤ cb) (hb3 : cb ≤ maxLen) (hc2 : nc ≤ cc) (hc3 : cc ≤ maxLen)
    (h1 : na ≤ 300) (h2 : nb ≤ 300) (h3 : nc ≤ 300) (h4 : 0 < nb) (at_ : Int) (y : UInt8) (hy : y ≠ 0) :
    Calls Try.prog 34 #[.slice A na ca, .slice B nb cb, .slice C nc cc, .int .i64 at_, .int .u8 (y.toNat : Int)] w fun e w' => e = .returned (.bool true) ∧ Below w.heap.size w w' := by
  have hy0 : ((y.toNat : Int) == 0) = false := by
    rw [beq_eq_false_iff_ne]
    intro e
    exact hy (UInt8.toNat_inj.1 (by simpa using e))
  have h4' : ((nb : Int) == 0) = false := by rw [beq_eq_false_iff_ne]; omega
  have hla := ha.len
  have hlb := hb.len
  have hlc := hc.len
  obtain ⟨k, hk, hkn⟩ : ∃ k : Nat, (IntKind.u64.wrap at_).tmod (nb : Int) = (k : Int) ∧ k < nb := by
    have h0 : 0 ≤ IntKind.u64.wrap at_ := wrap_u64_nonneg at_
    rw [Int.tmod_eq_emod_of_nonneg h0]
    have h3 := Int.emod_nonneg (IntKind.u64.wrap at_) (b := (nb : Int)) (by omega)
    have h4 := Int.emod_lt_of_pos (IntKind.u64.wrap at_) (b := (nb : Int)) (by omega)
    exact ⟨(IntKind.u64.wrap at_ % (nb : Int)).toNat, by omega, by omega⟩
  obtain ⟨d, hd⟩ : ∃ d, b[k]? = some d := ⟨_, List.getElem?_eq_getElem (by omega)⟩
  have hwh := whole_spoilt a b (recOf c) k d y (by omega) (by omega) hd hy
  rw [hla] at hwh
  have hget := recOf_get b k
  rw [hd] at hget
  have hra := recOf_len a
  have hrb := recOf_len b
  have hrc := recOf_len c
  rw [hla] at hra
  rw [hlb] at hrb
  rw [hlc] at hrc
  have Hwh := Lib.hid hwh
  have Hget := Lib.hid hget
  have Hk := Lib.hid hk
  clear hk hwh hget hd
  have sa : SB w (.slice A na ca) a := ⟨A, na, ca, rfl, ha2, ha3, ha⟩
  have sb : SB w (.slice B nb cb) b := ⟨B, nb, cb, rfl, hb2, hb3, hb⟩
  have sc : SB w (.slice C nc cc) c := ⟨C, nc, cc, rfl, hc2, hc3, hc⟩
  clear ha hb hc ha2 ha3 hb2 hb3 hc2 hc3
  go_enter Try.func34, Try.ntmps34
  go_wp2_with fail
  refine (alive7_any w).mono ?_
  rintro e w1 ⟨rfl, hb1⟩
  go_wp2_with fail
  refine (refPut_sb w1 _ a (sa.below hb1) (by omega)).mono ?_
  rintro e w2 ⟨v2, rfl, hown2, hb2⟩
  have hb02 := hb1.trans (hb2.mono hb1.size)
  go_wp2_with fail
  refine (refPut_sb w2 _ b (sb.below hb02) (by omega)).mono ?_
  rintro e w3 ⟨v3, rfl, hown3, hb3⟩
  have hb03 := hb02.trans (hb3.mono hb02.size)
  have hX3 := ownsRow_below hown2 hb3
  go_wp2_with fail
  refine (refPut_sb w3 _ c (sc.below hb03) (by omega)).mono ?_
  rintro e w4 ⟨v4, rfl, hown4, hb4⟩
  have hb04 := hb03.trans (hb4.mono hb03.size)
  rw [hrb] at hown3
  have hY4 := ownsRow_below hown3 hb4
  obtain ⟨g, cap, rfl, hg2, hg3⟩ := hown3.form (by omega)
  have hcell : w4.cell? ⟨g, 8 + k, none⟩ = some (.int .u8 (d.toNat : Int)) := by
    rw [hY4.cellAt (8 + k) (by omega), List.getElem?_map, Hget.out]; rfl
  have hfr := hY4.frozenAt (8 + k)
  have hd8 := d.toNat_lt
  have hv : bits .xor .u8 (d.toNat : Int) (y.toNat : Int) = ((d ^^^ y).toNat : Int) := by rw [u8_xor_nat _ _ d.toNat_lt y.toNat_lt, UInt8.toNat_xor]
  have hst := hY4.stored (8 + k) (.int .u8 ((d ^^^ y).toNat : Int))
  have hset : ((recOf b).map B8).set (8 + k) (.int .u8 ((d ^^^ y).toNat : Int)) = ((recOf b).set (8 + k) (d ^^^ y)).map B8 := by
    rw [List.map_set]; rfl
  rw [hset] at hst
  obtain ⟨hY5, hgr⟩ := hst
  have hb24 : Below w2.heap.size w2 w4 := hb3.trans (hb4.mono hb3.size)
  have hb25 := hb24.grown hgr hb24.size (by intro q hq; cases hq; exact hg2)
  have hb05 := hb02.trans (hb25.mono hb02.size)
  have hZ5 := ownsRow_other hown4 hgr hg3
  have hX5 := (SB.of_own hown2).below hb25
  rw [← hv] at hY5 hX5 hZ5 hb25 hb05
  have Hfr := Lib.hid hfr
  obtain ⟨w5, hw5⟩ : ∃ w5, w5 = w4.setCell ⟨g, 8 + k, none⟩ (.int .u8 (bits .xor .u8 (d.toNat : Int) (y.toNat : Int))) := ⟨_, rfl⟩
  have hs5 : w5.heap.size = w4.heap.size := by rw [hw5]; simp [World.setCell]
  rw [← hw5] at hY5 hX5 hZ5 hb25 hb05
  obtain ⟨AX, nX, cX, rfl, x1, x2, x3⟩ := hX5
  obtain ⟨AZ, nZ, cZ, rfl, z1, z2, z3⟩ := SB.of_own hZ5
  obtain ⟨AY, nY, cY, ey, y1, y2, y3⟩ := SB.of_own hY5
  injection ey with ey1 ey2 ey3
  subst ey1 ey2 ey3
  have lX := x3.len
  have lZ := z3.len
  have lY := y3.len
  rw [hra] at lX
  rw [hrc] at lZ
  have mX : ((recOf a).map B8).length = nX := by rw [List.length_map, hra, lX]
  have mZ : ((recOf c).map B8).length = nZ := by rw [List.length_map, hrc, lZ]
  have mY : (((recOf b).set (8 + k) (d ^^^ y)).map B8).length = 8 + nb := by rw [List.length_map, lY]
  have MX := Lib.hid mX
  have MY := Lib.hid mY
  have MZ := Lib.hid mZ
  have Hw5 := Lib.hid hw5
  have HY := Lib.hid hY4
  unfold maxLen at x2 z2 y2
  clear hb24 hset hgr hown2 hown3 hown4 hY4 hY5 hX3 hZ5 hv lY hw5 hfr mX mY mZ
  have hfr := Hfr.out
  have hk := Hk.out
  have hownE := ownsRow_empty w5 (base := w5.heap.size) 5 1 (Nat.le_refl _)
  rw [hs5] at hownE
  have hbE : Below w5.heap.size w5 (w5.alloc (.cells #[] 5)) := (Below.refl _ _).alloc (Nat.le_refl _) _
  go_wp2_with (first
    | (at_builtin; rw [← Hw5.out]; refine wpList_append_row rfl (.tmp 70) (.tmp 71) 22 rfl w5 hbE Try.underlying22 info_u8 rfl (by decide) _ 0 [] rfl (by rw [hs5]; exact hownE) AX nX cX ((recOf a).map B8) rfl ((x3.below hbE).rc) (by rw [MX.out]; omega) (b8_oneCell _) (by unfold maxLen; omega) (by omega) ?_; intro v6 w6 hown6 hb6)
    | (at_builtin; refine wpList_append_row rfl (.tmp 72) (.tmp 73) 22 rfl w5 hb6 Try.underlying22 info_u8 rfl (by decide) _ _ _ rfl hown6 (some ⟨g, 0, none⟩) (8 + nb) cap _ rfl ((y3.below hb6).rc) (by rw [MY.out]; omega) (b8_oneCell _) (by unfold maxLen; omega) (by omega) ?_; intro v7 w7 hown7 hb7)
    | (at_builtin; refine wpList_append_row rfl (.tmp 74) (.tmp 75) 22 rfl w5 hb7 Try.underlying22 info_u8 rfl (by decide) _ _ _ rfl hown7 AZ nZ cZ _ rfl ((z3.below hb7).rc) (by rw [MZ.out]; omega) (b8_oneCell _) (by unfold maxLen; omega) (by omega) ?_; intro v8 w8 hown8 hb8))
  have hS8 : SB w8 v8 (recOf a ++ (recOf b).set (8 + k) (d ^^^ y) ++ recOf c) := SB.of_own (base := w5.heap.size) (e := 5) (k := 0 + nX + (8 + nb) + nZ) (by simpa only [List.nil_append, List.map_append] using hown8)
  refine (whole_sb _ _ _ hS8 (by rw [List.length_append, List.length_append, List.length_set, hra, hrb, hrc]; omega)).mono ?_
  rintro e w9 ⟨rfl, hb9⟩
  rw [Hwh.out, lX]
  have hb08 := hb05.trans (hb8.mono hb05.size)
  go_wp2_with fail
  go_ret
  exact ⟨rfl, hb08.trans (hb9.mono hb08.size)⟩
theorem spoilt_any (w : World) (v0 v1 v2 : Value) (a b c : List UInt8) (ha : SB w v0 a) (hb : SB w v1 b) (hc : SB w v2 c) (at_ by_ : Int) (hby : (Lit.int .u8 by_).wf = true) :
    Calls Try.prog 34 #[v0, v1, v2, .int .i64 at_, .int .u8 by_] w fun e w' => e = .returned (.bool true) ∧ Below w.heap.size w w' := by
  obtain ⟨A, na, ca, rfl, ha2, ha3, ha⟩ := ha
  obtain ⟨B, nb, cb, rfl, hb2, hb3, hb⟩ := hb
  obtain ⟨C, nc, cc, rfl, hc2, hc3, hc⟩ := hc
  obtain ⟨y, rfl⟩ : ∃ y : UInt8, by_ = (y.toNat : Int) := by
    have := bounds_u8 hby
    exact ⟨UInt8.ofNat by_.toNat, by rw [UInt8.toNat_ofNat']; omega⟩
  by_cases h : 300 < na ∨ 300 < nb ∨ 300 < nc ∨ nb = 0 ∨ y = 0
  · exact spoilt_out w A B C na nb nc ca cb cc (by omega) (by omega) (by omega) at_ y h
  · exact spoilt_in w A B C na nb nc ca cb cc a b c ha hb hc ha2 ha3 hb2 hb3 hc2 hc3 (Nat.le_of_not_lt fun e => h (.inl e)) (Nat.le_of_not_lt fun e => h (.inr (.inl e))) (Nat.le_of_not_lt fun e => h (.inr (.inr (.inl e)))) (Nat.pos_of_ne_zero fun e => h (.inr (.inr (.inr (.inl e))))) at_ y (fun e => h (.inr (.inr (.inr (.inr e)))))
theorem frameFinds_law (w : World) (v0 v1 v2 : Value) (a b c : List UInt8) (ha : SB w v0 a) (hb : SB w v1 b) (hc : SB w v2 c) (at_ by_ : Int) (hby : (Lit.int .u8 by_).wf = true) :
    Calls Try.prog 11 #[.agg #[v0, v1, v2, .int .i64 at_, .int .u8 by_]] w fun e w' => e = .returned (.bool true) ∧ Below w.heap.size w w' := by
  have hra := rangeAt_at w w.heap.size [v0, v1, v2, .int .i64 at_, .int .u8 by_] 60 (0, 0) rfl
  have c0 := hra 0 _ rfl
  have c1 := hra 1 _ rfl
  have c2 := hra 2 _ rfl
  have c3 := hra 3 _ rfl
  have c4 := hra 4 _ rfl
  clear hra
  go_enter Try.func11, Try.ntmps11
  go_wp2_with fail
  have hbA : Below w.heap.size w (w.alloc (.cells #[v0, v1, v2, .int .i64 at_, .int .u8 by_] 60)) := (Below.refl _ _).alloc (Nat.le_refl _) _
  refine (spoilt_any _ v0 v1 v2 a b c (ha.below hbA) (hb.below hbA) (hc.below hbA) at_ by_ hby).mono ?_
  rintro e w1 ⟨rfl, hb1⟩
  go_wp2_with fail
  go_ret
  exact ⟨rfl, hbA.trans (hb1.mono (by simp))⟩
end Go.Proofs.Ytdmiiageihbokaa
