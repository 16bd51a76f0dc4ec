/-
  ROWS OF TEXTS of a call's own; the document's Texts.
-/
import Derived.Test.YtkcmacglomdfcaaPfB
import Derived.Test.YtkcmacglomdfcaaPlain
import Derived.Test.YtkcmacglomdfcaaLfG
import Derived.Test.YtkcmacglomdfcaaKeep
namespace Go.Proofs.Ytkcmacglomdfcaa
open Go.RowKit

set_option maxRecDepth 100000 in
theorem reftext_own (w : World) (l r : List UInt8) (hl : l.length = 32) (hr : r.length = 32) :
    Calls Try.prog 84 #[SumV l, SumV r] w fun e w' => ∃ A c, e = .returned (.slice A 65 c) ∧ w'.ownsRow w.heap.size 5 1 (.slice A 65 c) 65 ((1 :: (l ++ r)).map B8) ∧ Below w.heap.size w w' := by
  unfold SumV
  have hll : (l.map B8).length = 32 := by rw [List.length_map, hl]
  have hrl : (r.map B8).length = 32 := by rw [List.length_map, hr]
  have HS : Hid (∀ (cl cr : List Value), cl = l.map B8 → cr = r.map B8 → ∀ W, W = (w.alloc (.cells cl.toArray 26)).alloc (.cells cr.toArray 26) →
      Below w.heap.size w W ∧ W.rangeAt w.heap.size 0 (l.map B8) ∧ W.rangeAt (w.heap.size + 1) 0 (r.map B8)) := Lib.hid (by
    rintro cl cr rfl rfl W rfl
    exact ⟨((Below.refl _ _).alloc (Nat.le_refl _) _).alloc (by simp) _, World.rangeAt_alloc (rangeAt_at _ _ _ _ _ rfl) _, rangeAt_at _ _ _ _ _ (by simp)⟩)
  go_enter Try.func84, Try.ntmps84
  go_wp2_with fail
  obtain ⟨W2, hW2⟩ : ∃ W2, W2 = (w.alloc (.cells (l.map B8).toArray 26)).alloc (.cells (r.map B8).toArray 26) := ⟨_, rfl⟩
  rw [← hW2]
  obtain ⟨hb2, hlb, hrb⟩ := HS.out _ _ rfl rfl W2 hW2
  have Hb2 := Lib.hid hb2
  have Hlb := Lib.hid (fun u (hb : Below W2.heap.size W2 u) => RV.rc (RV.of_rangeAt (rangeAt_below' hlb hb) hll))
  have Hrb := Lib.hid (fun u (hb : Below W2.heap.size W2 u) => RV.rc (RV.of_rangeAt (rangeAt_below' hrb hb) hrl))
  have HD : Hid (Below W2.heap.size W2 W2.drew) := Lib.hid (below_drewN (Below.refl _ _) 1)
  have HA : Hid (∀ o, Below W2.heap.size W2 (W2.alloc o).drew) := Lib.hid (fun o => below_drewN ((Below.refl _ _).alloc (Nat.le_refl _) _) 1)
  have HO : Hid ((W2.alloc (.cells #[.int .u8 1] 5)).drew.ownsRow W2.heap.size 5 1 (.slice (some ⟨W2.heap.size, 0, none⟩) 1 1) 1 [B8 1]) := Lib.hid ((own_one (Nat.le_refl _) _ _ _ rfl).drew)
  clear hb2 hlb hrb HS hW2
  go_region_held3 (fun w' => Below W2.heap.size W2 w')
    (first | exact HD.out | exact HA.out _ | assumption)
    (first
      | (refine step_append_row rfl (.tmp 5) (.tmp 6) 22 rfl W2 (HA.out _) Try.underlying22 info_u8 rfl (by decide) (.slice (some ⟨W2.heap.size, 0, none⟩) 1 1) 1 [B8 1] rfl HO.out (some ⟨w.heap.size, 0, none⟩) 32 32 (l.map B8) rfl (Hlb.out _ (HA.out _)) (by rw [hll]) (b8_oneCell l) (by unfold maxLen; omega) (by omega) ?_; intro v3 w3 hown3 hb3)
      | (refine step_append_row rfl (.tmp 7) (.tmp 8) 22 rfl W2 hb3 Try.underlying22 info_u8 rfl (by decide) v3 (1 + 32) _ rfl hown3 (some ⟨w.heap.size + 1, 0, none⟩) 32 32 (r.map B8) rfl (Hrb.out _ hb3) (by rw [hrl]) (b8_oneCell r) (by unfold maxLen; omega) (by omega) ?_; intro v4 w4 hown4 hb4))
  go_wp2_with fail
  obtain ⟨A4, c4, rfl, -, -, -, -⟩ := own_form hown4
  go_ret
  refine ⟨A4, c4, rfl, ?_, Hb2.out.trans (hb4.mono Hb2.out.size)⟩
  rw [show (1 :: (l ++ r)).map B8 = [B8 1] ++ l.map B8 ++ r.map B8 by simp]
  exact ownsRow_base hown4 Hb2.out.size

/-- What the rows of a row read as: each a row of bytes of the call's own. -/
def Elts (w : World) (B : Nat) (us : List Value) (T : List Dg) : Prop := us.length = T.length ∧ ∀ (k : Nat) u x, us[k]? = some u → T[k]? = some x → ∃ n c A, u = .slice A n c ∧ w.ownsRow B 5 1 u n (x.map B8)
section
variable {w w' : World} {B : Nat} {us us' : List Value} {T T' : List Dg}
theorem Elts.below (h : Elts w B us T) (hb : Below w.heap.size w w') : Elts w' B us T := ⟨h.1, fun k u x hu hx => by
  obtain ⟨n, c, A, rfl, ho⟩ := h.2 k u x hu hx
  exact ⟨n, c, A, rfl, ownsRow_below ho hb⟩⟩
theorem Elts.base {B' : Nat} (h : Elts w B us T) (hB : B' ≤ B) : Elts w B' us T := ⟨h.1, fun k u x hu hx => by
  obtain ⟨n, c, A, rfl, ho⟩ := h.2 k u x hu hx
  exact ⟨n, c, A, rfl, ownsRow_base ho hB⟩⟩
theorem Elts.nil (w : World) (B : Nat) : Elts w B [] [] := ⟨rfl, fun k u x hu => by simp at hu⟩
theorem Elts.one {u : Value} {x : Dg} {A : Option Addr} {n c : Nat} (hu : u = .slice A n c) (h : w.ownsRow B 5 1 u n (x.map B8)) : Elts w B [u] [x] := ⟨rfl, fun k v y hv hy => by
  cases k with
  | zero =>
    simp at hv hy
    subst hv hy
    exact ⟨n, c, A, hu, h⟩
  | succ k => simp at hv⟩
theorem Elts.app (h : Elts w B us T) (h' : Elts w B us' T') : Elts w B (us ++ us') (T ++ T') := ⟨by simp [h.1, h'.1], fun k u x hu hx => by
  by_cases hk : k < us.length
  · rw [List.getElem?_append_left hk] at hu
    rw [List.getElem?_append_left (by rw [← h.1]; exact hk)] at hx
    exact h.2 k u x hu hx
  · rw [List.getElem?_append_right (by omega)] at hu
    rw [List.getElem?_append_right (by rw [← h.1]; omega), ← h.1] at hx
    exact h'.2 _ u x hu hx⟩
/-- A row of another type grows. -/
theorem Elts.kept {B' s n : Nat} {e : TypeId} {v : Value} {xs : List Value} (h : Elts w B us T) (hv : w.ownsRow B' e s v n xs) (he : (5 : TypeId) ≠ e) (hg : w.grownBy w' v.ownBlock) : Elts w' B us T := ⟨h.1, fun k u x hu hx => by
  obtain ⟨n, c, A, rfl, ho⟩ := h.2 k u x hu hx
  exact ⟨n, c, A, rfl, own_kept_unlike ho hv he hg⟩⟩
theorem Elts.sb (h : Elts w B us T) (k : Nat) (u : Value) (x : Dg) (hu : us[k]? = some u) (hx : T[k]? = some x) : SB w u x := by
  obtain ⟨n, c, A, rfl, ho⟩ := h.2 k u x hu hx
  exact SB.of_own ho
end
/-- What answers texts says. -/
def TxtPost (w : World) (T : List Dg) (e : Ending) (w' : World) : Prop := ∃ A c us, e = .returned (.slice A T.length c) ∧ w'.ownsRow w.heap.size 22 1 (.slice A T.length c) T.length us ∧ Elts w' w.heap.size us T ∧ Below w.heap.size w w'
theorem info_row3 : (Try.prog.info? 22).map (fun i => (i.zero, i.size, i.bytes)) = some (some (.slice none 0 0), 1, 24) := by kernel_rfl
theorem elts_one {w : World} {B : Nat} {us : List Value} {T : List Dg} (h : Elts w B us T) : ∀ u ∈ us, u.oneCell' = true := fun u hu => by
  obtain ⟨k, hk⟩ := List.getElem?_of_mem hu
  have hl : k < T.length := by rw [← h.1]; exact (List.getElem?_eq_some_iff.1 hk).1
  obtain ⟨n, c, A, rfl, _⟩ := h.2 k u T[k] hk (List.getElem?_eq_getElem hl)
  rfl
theorem own_rc {w : World} {B : Nat} {e : TypeId} {A : Option Addr} {n c : Nat} {xs : List Value} (h : w.ownsRow B e 1 (.slice A n c) n xs) : RC w A xs := by
  obtain ⟨A', c', e', _, _, hr, _⟩ := own_form h
  cases e'
  exact hr.rc
section
variable {F : List UInt8 → List UInt8} (HF : Dig F)
include HF
set_option maxRecDepth 100000 in
set_option maxHeartbeats 4000000 in
theorem reftexts_any : ∀ (f n : Nat), n ≤ f → ∀ (w : World) (A : Option Addr) (c : Nat) (ls : List Dg), RS w A n ls → n ≤ c → c ≤ maxLen → n ≤ 1000000 →
    Calls Try.prog 41 #[.slice A n c] w (TxtPost w (textsF F ls)) := by
  intro f
  induction f with
  | zero =>
    intro n hf w A c ls hr hc hm hn
    have hT : textsF F ls = [] := textsF_small (by have := hr.len; omega)
    rw [hT]
    obtain rfl : n = 0 := by omega
    clear hr hT hf
    go_enter Try.func41, Try.ntmps41
    go_wp2
    go_ret
    exact ⟨none, 0, [], rfl, World.ownsRow_nil _ _ _ _, Elts.nil _ _, Below.refl _ _⟩
  | succ f ih =>
    intro n hf w A c ls hr hc hm hn
    have hlen := hr.len
    have hm' := hm
    unfold maxLen at hm
    by_cases h1 : n < 2
    · have hT : textsF F ls = [] := textsF_small (by omega)
      rw [hT]
      have d1 : decide ((n : Int) < 2) = true := decide_eq_true (by omega)
      clear hr ih hT hlen hf
      go_enter Try.func41, Try.ntmps41
      go_wp2
      go_ret
      exact ⟨none, 0, [], rfl, World.ownsRow_nil _ _ _ _, Elts.nil _ _, Below.refl _ _⟩
    · have h2 : 2 ≤ ls.length := by omega
      have hk1 := cutN_lt h2
      have hk2 := cutN_pos h2
      obtain ⟨k, hk⟩ : ∃ k, k = cutN ls.length := ⟨_, rfl⟩
      have hcut : cutN n = k := by rw [hk, hlen]
      rw [← hk] at hk1 hk2
      obtain ⟨b, o, hA, -⟩ := hr.2.2 (by omega)
      subst hA
      have hcutc := fun w => refcut_any w (n : Int) (by omega) (by omega)
      rw [Int.toNat_natCast, hcut] at hcutc
      have Hcut := Lib.hid hcutc
      have hlt := take_cut_len h2
      have hld : (ls.drop k).length = n - k := by rw [List.length_drop, hlen]
      rw [← hk] at hlt
      have b1 : k < n := by omega
      have b3 : (0 : Int) ≤ (k : Int) := by omega
      have b4 : (k : Int) ≤ (n : Int) := by omega
      have b5 : (n : Int) ≤ (c : Int) := by omega
      have b6 : (k : Int) ≤ (c : Int) := by omega
      have b7 : ¬ c = k := by omega
      have d1 : decide ((n : Int) < 2) = false := decide_eq_false (by omega)
      have hcut2 : ∀ u, Below w.heap.size w u → RS u (some ⟨b, o + k * 32, none⟩) (n - k) (ls.drop k) := fun u hu => by
        have hcut := (hr.below hu).cut (k := k) (cap := c) (by omega) hc
        rw [if_neg (by omega), Option.map_some, Addr.add_mid] at hcut
        exact hcut
      have hcut1 : ∀ u, Below w.heap.size w u → RS u (some ⟨b, o, none⟩) k (ls.take k) := fun u hu => (hr.below hu).take (by omega)
      have HC1 := Lib.hid hcut1
      have HC2 := Lib.hid hcut2
      have h32t : ∀ x ∈ ls.take k, x.length = 32 := fun x hx => hr.2.1 x (List.mem_of_mem_take hx)
      have h32d : ∀ x ∈ ls.drop k, x.length = 32 := fun x hx => hr.2.1 x (List.mem_of_mem_drop hx)
      have hTT := textsF_two (F := F) h2
      rw [← hk] at hTT
      have q1 := textsF_len (F := F) _ (ls.take k) hlt
      have q2 := textsF_len (F := F) _ (ls.drop k) hld
      obtain ⟨T1, hT1⟩ : ∃ T, T = textsF F (ls.take k) := ⟨_, rfl⟩
      obtain ⟨T2, hT2⟩ : ∃ T, T = textsF F (ls.drop k) := ⟨_, rfl⟩
      obtain ⟨d1', hd1⟩ : ∃ d, d = rootF F (ls.take k) := ⟨_, rfl⟩
      obtain ⟨d2', hd2⟩ : ∃ d, d = rootF F (ls.drop k) := ⟨_, rfl⟩
      have hd1l : d1'.length = 32 := by rw [hd1]; exact rootF_len HF.len _ _ rfl h32t
      have hd2l : d2'.length = 32 := by rw [hd2]; exact rootF_len HF.len _ _ rfl h32d
      obtain ⟨m1, hm1⟩ : ∃ m, m = T1.length := ⟨_, rfl⟩
      obtain ⟨m2, hm2⟩ : ∃ m, m = T2.length := ⟨_, rfl⟩
      rw [← hT1, ← hm1] at q1
      rw [← hT2, ← hm2] at q2
      rw [← hT1, ← hT2, ← hd1, ← hd2] at hTT
      have HP1 : Hid (∀ u, Below w.heap.size w u → Calls Try.prog 41 #[.slice (some ⟨b, o, none⟩) k c] u fun e w' => ∃ A c us, e = .returned (.slice A m1 c) ∧ (w'.ownsRow w.heap.size 22 1 (.slice A m1 c) m1 us ∧ Elts w' w.heap.size us T1) ∧ Below w.heap.size w w' ∧ Below u.heap.size u w') := Lib.hid fun u hu => by
        refine (ih k (by omega) u (some ⟨b, o, none⟩) c (ls.take k) (hcut1 u hu) (by omega) hm' (by omega)).mono ?_
        rintro e w' ⟨A, c, us, he, ho, hE, hb⟩
        rw [← hT1, ← hm1] at he ho
        rw [← hT1] at hE
        exact ⟨A, c, us, he, ⟨ownsRow_base ho hu.size, hE.base hu.size⟩, hu.trans (hb.mono hu.size), hb⟩
      have HP2 : Hid (∀ u, Below w.heap.size w u → Calls Try.prog 41 #[.slice (some ⟨b, o + k * 32, none⟩) (n - k) (c - k)] u fun e w' => ∃ A c us, e = .returned (.slice A m2 c) ∧ (w'.ownsRow w.heap.size 22 1 (.slice A m2 c) m2 us ∧ Elts w' w.heap.size us T2) ∧ Below w.heap.size w w' ∧ Below u.heap.size u w') := Lib.hid fun u hu => by
        refine (ih (n - k) (by omega) u (some ⟨b, o + k * 32, none⟩) (c - k) (ls.drop k) (hcut2 u hu) (by omega) (by omega) (by omega)).mono ?_
        rintro e w' ⟨A, c, us, he, ho, hE, hb⟩
        rw [← hT2, ← hm2] at he ho
        rw [← hT2] at hE
        exact ⟨A, c, us, he, ⟨ownsRow_base ho hu.size, hE.base hu.size⟩, hu.trans (hb.mono hu.size), hb⟩
      have hroot := refroot_any HF
      have HR1 : ∀ u, Below w.heap.size w u → Calls Try.prog 39 #[.slice (some ⟨b, o, none⟩) k c] u fun e w' => e = .returned (.agg (d1'.map B8).toArray) ∧ Below u.heap.size u w' := fun u hu => by
        have h := hroot k k (Nat.le_refl _) u (some ⟨b, o, none⟩) c (ls.take k) (hcut1 u hu) (by omega) hm' (by omega)
        rw [← hd1] at h
        exact h
      have HR2 : ∀ u, Below w.heap.size w u → Calls Try.prog 39 #[.slice (some ⟨b, o + k * 32, none⟩) (n - k) (c - k)] u fun e w' => e = .returned (.agg (d2'.map B8).toArray) ∧ Below u.heap.size u w' := fun u hu => by
        have h := hroot (n - k) (n - k) (Nat.le_refl _) u (some ⟨b, o + k * 32, none⟩) (c - k) (ls.drop k) (hcut2 u hu) (by omega) (by omega) (by omega)
        rw [← hd2] at h
        exact h
      have HR := Lib.hid (And.intro HR1 HR2)
      have HSd : Hid (Below w.heap.size w w.drew) := Lib.hid (below_drewN (Below.refl _ _) 1)
      have HTT := Lib.hid hTT
      have HL := Lib.hid (And.intro hm1 hm2)
      have htx := fun w => reftext_own w d1' d2' hd1l hd2l
      unfold SumV at htx
      have Htx := Lib.hid htx
      clear hr ih hroot hlen hcutc hk hcut hcut1 hcut2 h32t h32d hTT hT1 hT2 hd1 hd2 hm1 hm2 hlt hld h2 hk1 h1 HR1 HR2 htx
      go_enter Try.func41, Try.ntmps41
      go_wp2_with (go_at_call 37; refine (Hcut.out _).mono ?_; rintro e w' ⟨rfl, rfl⟩)
      go_region_held3 (fun w' => Below w.heap.size w w')
        (first | exact HSd.out | assumption)
        (first
          | (go_at_call 41; (with_reducible refine (HP1.out _ (by assumption)).mono ?_); rintro e w1 ⟨A1, c1, us1, rfl, hT1, hb1, hbb1⟩)
          | (go_at_call 41; (with_reducible refine (HP2.out _ (by assumption)).mono ?_); rintro e w2 ⟨A2, c2, us2, rfl, hT2, hb2, hbb2⟩)
          | (refine step_append_keep rfl (.tmp 14) (.tmp 18) 35 rfl w (by assumption) Try.underlying35 info_row3 rfl (by decide) (.slice A1 m1 c1) m1 us1 rfl (by first | exact hT1.1 | exact ownsRow_below hT1.1 hbb2) A2 m2 c2 us2 rfl (by first | exact own_rc hT2.1 | exact own_rc (ownsRow_below hT2.1 hbb1)) (by rw [hT2.2.1, HL.out.2, Nat.mul_one]) (elts_one hT2.2) (by unfold maxLen; omega) (by omega) ?_; intro v8 w8 hown8 hb8 hk8 hg8; have H8 : Hid (w8.ownsRow w.heap.size 22 1 v8 (m1 + m2) (us1 ++ us2) ∧ Elts w8 w.heap.size (us1 ++ us2) (T1 ++ T2) ∧ Below w.heap.size w w8) := Lib.hid ⟨hown8, (by first | exact (hT1.2.kept hT1.1 (by decide) hg8).app ((hT2.2.below hbb1).kept hT1.1 (by decide) hg8) | exact ((hT1.2.below hbb2).kept (ownsRow_below hT1.1 hbb2) (by decide) hg8).app (hT2.2.kept (ownsRow_below hT1.1 hbb2) (by decide) hg8)), hb8⟩; obtain ⟨A8, c8, rfl, -, -, -, -⟩ := own_form hown8; clear hown8 hk8 hg8 hT1 hT2 hb1 hb2 hbb1 hbb2))
      all_goals
        obtain ⟨us, hus⟩ : ∃ us, us = us1 ++ us2 := ⟨_, rfl⟩
        rw [← hus] at H8
        have HB8 := Lib.hid hb8
        have HR8 : Hid ((∀ u, Below w8.heap.size w8 u → Calls Try.prog 39 #[.slice (some ⟨b, o, none⟩) k c] u fun e w' => e = .returned (.agg (d1'.map B8).toArray) ∧ Below w8.heap.size w8 w') ∧
            ∀ u, Below w8.heap.size w8 u → Calls Try.prog 39 #[.slice (some ⟨b, o + k * 32, none⟩) (n - k) (c - k)] u fun e w' => e = .returned (.agg (d2'.map B8).toArray) ∧ Below w8.heap.size w8 w') := Lib.hid
          ⟨fun u hu => (HR.out.1 u (HB8.out.trans (hu.mono HB8.out.size))).mono fun e w' ⟨h1, h2⟩ => ⟨h1, hu.trans (h2.mono hu.size)⟩,
           fun u hu => (HR.out.2 u (HB8.out.trans (hu.mono HB8.out.size))).mono fun e w' ⟨h1, h2⟩ => ⟨h1, hu.trans (h2.mono hu.size)⟩⟩
        have HT8 : Hid (∀ u, Below w8.heap.size w8 u → Calls Try.prog 84 #[.agg (d1'.map B8).toArray, .agg (d2'.map B8).toArray] u fun e w' => ∃ A c, e = .returned (.slice A 65 c) ∧ w'.ownsRow w8.heap.size 5 1 (.slice A 65 c) 65 ((1 :: (d1' ++ d2')).map B8) ∧ Below w8.heap.size w8 w') := Lib.hid
          (fun u hu => (Htx.out u).mono fun e w' ⟨A, c, h1, h2, h3⟩ => ⟨A, c, h1, ownsRow_base h2 hu.size, hu.trans (h3.mono hu.size)⟩)
        have HS8 : Hid (Below w8.heap.size w8 w8.drew) := Lib.hid (below_drewN (Below.refl _ _) 1)
        clear hus hb8
        go_wp2_with fail
        go_region_held3 (fun w' => Below w8.heap.size w8 w' ∨ Below w.heap.size w w')
          (first | exact .inl HS8.out | exact .inl (by assumption) | exact .inl (Below.alloc (by assumption) (Below.size (by assumption)) _) | exact .inr (by assumption))
          (first
            | (go_at_call 39; (with_reducible refine (HR8.out.1 _ (by first | assumption | exact HS8.out)).mono ?_); rintro e w1 ⟨rfl, hb1⟩)
            | (go_at_call 39; (with_reducible refine (HR8.out.2 _ (by first | assumption | exact HS8.out)).mono ?_); rintro e w2 ⟨rfl, hb2⟩)
            | (go_at_call 84; (with_reducible refine (HT8.out _ (by assumption)).mono ?_); rintro e w9 ⟨A9, c9, rfl, hown9, hb9⟩)
            | (refine step_append_keep rfl (.tmp 20) (.tmp 30) 35 rfl w ((HB8.out.trans (hb9.mono HB8.out.size)).alloc (Nat.le_trans HB8.out.size hb9.size) _) Try.underlying35 info_row3 rfl (by decide) (.slice A8 (m1 + m2) c8) (m1 + m2) us rfl ((ownsRow_below H8.out.1 hb9).alloc _) (some ⟨w9.heap.size, 0, none⟩) 1 1 [.slice A9 65 c9] rfl (rc_new w9 _ _ _) rfl (by intro u hu; simp at hu; subst hu; rfl) (by unfold maxLen; omega) (by omega) ?_; intro v10 w10 hown10 hb10 hk10 hg10))
        obtain ⟨A10, c10, rfl, -, -, -, -⟩ := own_form hown10
        have hE : Elts w10 w.heap.size (us ++ [.slice A9 65 c9]) ((T1 ++ T2) ++ [1 :: (d1' ++ d2')]) :=
          ((((H8.out.2.1.below hb9).app (Elts.one rfl (ownsRow_base hown9 HB8.out.size))).below ((Below.refl _ _).alloc (Nat.le_refl _) _)).kept ((ownsRow_below H8.out.1 hb9).alloc _) (by decide) hg10)
        have H10 := Lib.hid (And.intro hown10 (And.intro hE hb10))
        clear hown10 hE hb10 hk10 hg10 hb1 hb2 hb9 hown9
        go_wp2_with fail
        go_ret
        have hl : m1 + m2 + 1 = (textsF F ls).length := by rw [HTT.out, List.length_append, List.length_append, ← HL.out.1, ← HL.out.2]; rfl
        refine ⟨A10, c10, us ++ [.slice A9 65 c9], ?_, by rw [← hl]; exact H10.out.1, by rw [HTT.out]; exact H10.out.2.1, H10.out.2.2⟩
        rw [← hl]
        rfl
end
end Go.Proofs.Ytkcmacglomdfcaa
