/-
  THE WALK of proof.Path.
-/
import Derived.Test.YtkcmacglomdfcaaRevS
import Derived.Test.YtkcmacglomdfcaaPlain
import Derived.Test.YtkcmacglomdfcaaLfF
namespace Go.Proofs.Ytkcmacglomdfcaa
open Go.RowKit

/-- append in a region that draws its order: what was appended to stays, too. -/
theorem step_append_keep {P : Program} {w : World} {ops : Array Oper} {o : Oper} {a : Act} {K : Act → World → Prop} {Q : Exit → Act → World → Prop} {E : Prop} (hgd : o.guard = none) (s x : Operand) (t : TypeId)
    (ho : o.op = .call { callee := .builtin .append, args := #[s, x], argTypes := #[t, t] })
    (W : World) (hW : Below W.heap.size W w) {e : TypeId} {z : Value} {size bytes : Nat} (ht : P.underlying t = some (.slice e)) (hinfo : (P.info? e).map (fun i => (i.zero, i.size, i.bytes)) = some (some z, size, bytes))
    (hzs : z.cells.size = size) (hsz : 0 < size)
    (v : Value) (n : Nat) (xs : List Value) (hs : a.eval s = v) (hown : w.ownsRow W.heap.size e size v n xs)
    (A : Option Addr) (m c : Nat) (news : List Value) (hx : a.eval x = .slice A m c) (hr : RC w A news) (hl : news.length = m * size) (h1 : ∀ u ∈ news, u.oneCell' = true)
    (h63 : n + m ≤ maxLen) (hbytes : (n + m) * bytes ≤ 140737488355328)
    (h : ∀ v' w', w'.ownsRow W.heap.size e size v' (n + m) (xs ++ news) → Below W.heap.size W w' → w'.ownsRow W.heap.size e size v n xs → w.grownBy w' v.ownBlock → K (a.put o.dst v') w') :
    if Region.wanted o (yielded ops a.tmps) = true then Oper.wp P o a w K Q else E := by
  obtain ⟨i, hi, hz, hsize, hby⟩ := info_parts hinfo
  rw [if_pos (by simp [Region.wanted, hgd])]
  obtain ⟨v', w', hrun, h2, h3, h4⟩ := run_append_any (P := P) w W.heap.size t o.type e i z size bytes ht hi hz hsize hby hzs hsz v n xs hown A m c news hr hl h1 h63 hbytes hW.size
  have hk := run_append_keep ht hi hz hsize hby hown hr hl hsz h1 h63 hbytes hrun
  unfold Oper.wp execOp
  simp only [ho, resolve, invoke, builtin, Sem.run_bind, Sem.run_pure, Result.andThen_ok, List.map_toArray, List.map_cons, List.map_nil, hs, hx, hrun]
  exact h v' w' h2 (hW.grown h3 hW.size fun k hk => (hown.lt k hk).1) hk h3
/-- A digest's cells, filled in. -/
theorem fold_set0 (xs : List Value) (z : Array Value) (hz : z.size = 32) (hx : xs.length = 32) :
    List.foldl (fun (cs : Array Value) (x : Value × Nat) => cs.setIfInBounds x.snd x.fst) z xs.zipIdx = xs.toArray := by
  have h : ∀ (xs : List Value) (k : Nat) (z : Array Value), (List.foldl (fun (cs : Array Value) (x : Value × Nat) => cs.setIfInBounds x.snd x.fst) z (xs.zipIdx k)).size = z.size ∧
      ∀ j, (List.foldl (fun (cs : Array Value) (x : Value × Nat) => cs.setIfInBounds x.snd x.fst) z (xs.zipIdx k))[j]? = if k ≤ j ∧ j < k + xs.length ∧ j < z.size then xs[j - k]? else z[j]? := by
    intro xs
    induction xs with
    | nil => intro k z; exact ⟨rfl, fun j => by rw [if_neg (by simp; omega)]; rfl⟩
    | cons x r ih =>
      intro k z
      rw [List.zipIdx_cons, List.foldl_cons]
      obtain ⟨h1, h2⟩ := ih (k + 1) (z.setIfInBounds k x)
      refine ⟨by rw [h1, Array.size_setIfInBounds], fun j => ?_⟩
      rw [h2, Array.size_setIfInBounds]
      by_cases hj : k + 1 ≤ j ∧ j < k + 1 + r.length ∧ j < z.size
      · rw [if_pos hj, if_pos (by simp; omega)]
        rw [show j - k = (j - (k + 1)) + 1 by omega, List.getElem?_cons_succ]
      · rw [if_neg hj, Array.getElem?_setIfInBounds]
        by_cases hk : k = j
        · subst hk
          rw [if_pos rfl]
          by_cases hz : k < z.size
          · rw [if_pos hz, if_pos (by simp; omega), Nat.sub_self]
            rfl
          · rw [if_neg hz, if_neg (by omega), Array.getElem?_eq_none (by omega)]
        · rw [if_neg hk, if_neg (by simp; omega)]
  obtain ⟨h1, h2⟩ := h xs 0 z
  apply Array.ext_getElem?
  intro j
  rw [h2]
  by_cases hj : j < 32
  · rw [if_pos (by omega)]
    simp
  · rw [if_neg (by omega), Array.getElem?_eq_none (by omega)]
    simp
    omega
@[go_sem high] theorem build_sum (xs : List Value) (hx : xs.length = 32) :
    List.foldl (fun (cs : Array Value) (x : Value × Nat) => cs.setIfInBounds x.snd x.fst) #[.int .u8 0, .int .u8 0, .int .u8 0, .int .u8 0, .int .u8 0, .int .u8 0, .int .u8 0, .int .u8 0, .int .u8 0, .int .u8 0, .int .u8 0, .int .u8 0, .int .u8 0, .int .u8 0, .int .u8 0, .int .u8 0, .int .u8 0, .int .u8 0, .int .u8 0, .int .u8 0, .int .u8 0, .int .u8 0, .int .u8 0, .int .u8 0, .int .u8 0, .int .u8 0, .int .u8 0, .int .u8 0, .int .u8 0, .int .u8 0, .int .u8 0, .int .u8 0] xs.zipIdx = xs.toArray := fold_set0 xs _ rfl hx
def lenW : Value → Nat
  | .slice _ n _ => n
  | _ => 0
/-- What Path answers. -/
def PathPost (w : World) (ps : List Dg) (e : Ending) (w' : World) : Prop := ∃ A c, e = .returned (.tuple #[.slice A ps.length c, .nilIface]) ∧ ps.length ≤ c ∧ RS w' A ps.length ps ∧ Below w.heap.size w w'
theorem path_bad (w : World) (A : Option Addr) (n c : Nat) (i : Int) (h : i < 0 ∨ n ≤ i) (hn : n ≤ 1048576) :
    Calls Try.prog 59 #[.slice A n c, .int .i64 i] w fun e w' => e = .returned (.tuple #[.slice none 0 0, .iface 58 (.int .i64 2)]) ∧ w = w' := by
  rcases h with h | h
  · have d1 : decide (i < 0) = true := decide_eq_true h
    go_enter Try.func59, Try.ntmps59
    go_wp2
    go_ret2
    exact ⟨rfl, rfl⟩
  · have d1 : decide (i < 0) = false := decide_eq_false (by omega)
    have d2 : decide ((n : Int) ≤ i) = true := decide_eq_true h
    go_enter Try.func59, Try.ntmps59
    go_wp2
    go_ret2
    exact ⟨rfl, rfl⟩
section
variable {F : List UInt8 → List UInt8} (HF : Dig F)
include HF
set_option maxRecDepth 100000 in
set_option maxHeartbeats 2000000 in
theorem path_any (w : World) (A : Option Addr) (n c : Nat) (ls : List Dg) (hr : RS w A n ls) (hnc : n ≤ c) (hcm : c ≤ maxLen) (hn : n ≤ 1048576) (i : Nat) (hi : i < n) :
    Calls Try.prog 59 #[.slice A n c, .int .i64 (i : Int)] w (PathPost w (pathF F ls i)) := by
  have hP := root_any HF
  have hFl := fun l => rootF_len HF.len _ l rfl
  have h32 := pathF_32 HF.len _ ls i rfl hr.2.1
  unfold maxLen at hcm
  obtain ⟨b, o, hA, -⟩ := hr.2.2 (by omega)
  subst hA
  have HP := Lib.hid hP
  have HFl := Lib.hid hFl
  have H32 := Lib.hid h32
  have d1 : decide ((i : Int) < 0) = false := decide_eq_false (by omega)
  have d2 : decide (n ≤ i) = false := decide_eq_false (by omega)
  clear hP hFl h32
  go_enter Try.func59, Try.ntmps59
  go_wp2_with fail
  go_loopw [0, 1, 6] (fun s0 s1 s6 wr => ∃ (o' n' c' i' m : Nat) (l' outl : List Dg) (Av : Option Addr) (cv : Nat), s0 = .slice (some ⟨b, o', none⟩) n' c' ∧ s1 = .int .i64 (i' : Int) ∧ s6 = .slice Av m cv ∧ i' < n' ∧ n' ≤ c' ∧ c' ≤ c ∧ m + n' ≤ n ∧
      Hid (RS w (some ⟨b, o', none⟩) n' l' ∧ pathF F ls i = pathF F l' i' ++ outl.reverse ∧ outl.length = m ∧ (∀ x ∈ outl, x.length = 32) ∧ wr.ownsRow w.heap.size 26 32 (.slice Av m cv) m (outl.flatten.map B8) ∧ Below w.heap.size w wr)) (fun s0 _ _ _ => lenW s0)
  case atStart => exact ⟨o, n, c, i, 0, ls, [], none, 0, rfl, rfl, rfl, hi, hnc, Nat.le_refl _, by omega, Lib.hid ⟨hr, by simp, rfl, fun x hx => by simp at hx, World.ownsRow_nil _ _ _ _, Below.refl _ _⟩⟩
  case round =>
    obtain ⟨o', n', c', i', m, l', outl, Av, cv, rfl, rfl, rfl, hi', hnc', hcc, hmn, hq⟩ := hrel
    by_cases h1 : n' = 1
    · subst h1
      obtain ⟨q1, q2, q3, q4, q5, q6⟩ := hq.out
      have e0 : pathF F l' i' = [] := pathF_one (by have := q1.len; omega)
      rw [e0, List.nil_append] at q2
      have Hq2 := Lib.hid q2
      clear hq e0 q2
      by_cases hm0 : m = 0
      · subst hm0
        have hol : outl = [] := List.eq_nil_of_length_eq_zero q3
        have HB := Lib.hid q6
        have hps : pathF F ls i = [] := by rw [Hq2.out, hol]; rfl
        have Hps := Lib.hid hps
        have hrv := fun w => rev_none w Av cv
        clear q1 q3 q4 q5 q6 hol hps
        go_wp2_with (go_at_call 89; refine (hrv _).mono ?_; rintro e w' ⟨rfl, rfl⟩)
        go_ret2
        exact ⟨Av, cv, by rw [Hps.out]; rfl, by rw [Hps.out]; exact Nat.zero_le _, by rw [Hps.out]; exact RS.nil _ _, HB.out⟩
      · obtain ⟨A0, c0, e0, hmc, -, hg0⟩ := own_formK q5
        cases e0
        obtain ⟨g, rfl, -, -, -⟩ := hg0 (by omega)
        have hrv := rev_sum wr w.heap.size g m cv outl q5 q4 q3 (by omega)
        have Hrv := Lib.hid (And.intro hrv q6)
        have hpl : (pathF F ls i).length = m := by rw [Hq2.out]; simp [q3]
        have Hpl := Lib.hid hpl
        clear q1 q3 q4 q5 q6 hrv hpl hg0
        go_wp2_with fail
        refine (Hrv.out.1).mono ?_
        rintro e w9 ⟨rfl, hr9, hb9⟩
        have hb09 := hb9 _ Hrv.out.2
        rw [← Hq2.out] at hr9
        have H9 := Lib.hid (And.intro hr9 hb09)
        clear hr9 hb9 hb09
        go_wp2_with fail
        go_ret2
        exact ⟨some ⟨g, 0, none⟩, cv, by rw [Hpl.out]; rfl, by rw [Hpl.out]; exact hmc, by rw [Hpl.out]; exact H9.out.1, H9.out.2⟩
    · have h2 : 2 ≤ l'.length := by have := hq.out.1.len; omega
      have hl' := hq.out.1.len
      have hk1 := cutN_lt h2
      have hk2 := cutN_pos h2
      obtain ⟨k, hk⟩ : ∃ k, k = cutN l'.length := ⟨_, rfl⟩
      have hcut : cutN n' = k := by rw [hk, hl']
      rw [← hk] at hk1 hk2
      have hcutc := fun w => cut_any w (n' : Int) (by omega) (by omega)
      rw [Int.toNat_natCast, hcut] at hcutc
      have Hcut := Lib.hid hcutc
      have Hk := Lib.hid hk
      have Hl' := Lib.hid hl'
      have b1 : k < n' := by omega
      have b2 : k ≤ c' := by omega
      have dn : decide (1 < (n' : Int)) = true := decide_eq_true (by omega)
      have b3 : (0 : Int) ≤ (k : Int) := by omega
      have b4 : (k : Int) ≤ (n' : Int) := by omega
      have b5 : (n' : Int) ≤ (c' : Int) := by omega
      have b6 : (k : Int) ≤ (c' : Int) := by omega
      have b7 : ¬ c' = k := by omega
      clear hcutc hk hl' hcut hk1 h2
      by_cases hik : i' < k
      · have dk : decide ((i' : Int) < (k : Int)) = true := decide_eq_true (by omega)
        obtain ⟨d, hd⟩ : ∃ d, d = rootF F (l'.drop k) := ⟨_, rfl⟩
        have hd32 : d.length = 32 := by rw [hd]; exact HFl.out _ (fun x hx => hq.out.1.2.1 x (List.mem_of_mem_drop hx))
        have hml : (d.map B8).length = 32 := by rw [List.length_map, hd32]
        obtain ⟨xs, hxs⟩ : ∃ xs, xs = outl.flatten.map B8 := ⟨_, rfl⟩
        obtain ⟨-, -, hol, ho32, hown, hbw⟩ := hq.out
        rw [← hxs] at hown
        have HC : Hid (∀ u : World, Below w.heap.size w u ∧ u.ownsRow w.heap.size 26 32 (.slice Av m cv) m xs → Calls Try.prog 38 #[.slice (some ⟨b, o' + k * 32, none⟩) (n' - k) (c' - k)] u fun e w' =>
            e = .returned (.agg (d.map B8).toArray) ∧ Below w.heap.size w w' ∧ w'.ownsRow w.heap.size 26 32 (.slice Av m cv) m xs) := Lib.hid fun u hu => by
          have hcut := (hq.out.1.below hu.1).cut (k := k) (cap := c') (by omega) hnc'
          rw [if_neg (by omega), Option.map_some, Addr.add_mid] at hcut
          have h := HP.out u (some ⟨b, o' + k * 32, none⟩) (n' - k) (c' - k) (l'.drop k) hcut (by omega)
          rw [← hd] at h
          exact h.mono fun e w' ⟨h1, h2⟩ => ⟨h1, hu.1.trans (h2.mono hu.1.size), ownsRow_below hu.2 h2⟩
        have HS0 := Lib.hid (And.intro hbw hown)
        have HSd : Hid (Below w.heap.size w wr.drew ∧ wr.drew.ownsRow w.heap.size 26 32 (.slice Av m cv) m xs) := Lib.hid ⟨below_drewN hbw 1, hown.drew⟩
        have HSa : Hid (∀ (u : World) (o : Obj), Below w.heap.size w u ∧ u.ownsRow w.heap.size 26 32 (.slice Av m cv) m xs → Below w.heap.size w (u.alloc o) ∧ (u.alloc o).ownsRow w.heap.size 26 32 (.slice Av m cv) m xs) := Lib.hid fun u o h => ⟨h.1.alloc h.1.size _, h.2.alloc _⟩
        have Hd := Lib.hid hd
        have Hxs := Lib.hid hxs
        clear hol ho32 hown hbw hd hxs
        go_wp2_with (go_at_call 36; refine (Hcut.out _).mono ?_; rintro e w' ⟨rfl, rfl⟩)
        go_region_held3 (fun w' => Below w.heap.size w w' ∧ w'.ownsRow w.heap.size 26 32 (.slice Av m cv) m xs)
          (first | exact HSd.out | assumption | exact HSa.out _ _ (by assumption))
          (first
            | (go_at_call 38; refine (HC.out _ (by assumption)).mono ?_; rintro e w1 ⟨rfl, hs⟩)
            | (refine step_append_keep rfl (.tmp 26) (.tmp 31) 42 rfl w (And.left (by assumption)) Try.underlying42 info_sum3 rfl (by decide) (.slice Av m cv) m xs rfl (And.right (by assumption)) (some ⟨w1.heap.size, 0, none⟩) 1 1 (d.map B8) rfl (rc_new w1 _ _ _) (by rw [hml]) (b8_oneCell d) (by unfold maxLen; omega) (by omega) ?_; intro v8 w8 hown8 hb8 hk8 hg8; have hs8 := And.intro hb8 hk8))
        obtain ⟨A8, c8, rfl, -, -, -⟩ := own_formK hown8
        have hN : RS w (some ⟨b, o', none⟩) k (l'.take k) ∧ pathF F ls i = pathF F (l'.take k) i' ++ (outl ++ [d]).reverse ∧ (outl ++ [d]).length = m + 1 ∧ (∀ x ∈ outl ++ [d], x.length = 32) ∧ w8.ownsRow w.heap.size 26 32 (.slice A8 (m + 1) c8) (m + 1) ((outl ++ [d]).flatten.map B8) ∧ Below w.heap.size w w8 := by
          obtain ⟨q1, q2, q3, q4, -, -⟩ := hq.out
          have e := pathF_left (F := F) (l := l') (i := i') (by have := Hl'.out; omega) (by rw [← Hk.out]; exact hik)
          rw [← Hk.out, ← Hd.out] at e
          refine ⟨q1.take (by omega), by rw [q2, e]; simp, by simp [q3], fun x hx => ?_, ?_, hb8⟩
          · rcases List.mem_append.1 hx with hx | hx
            · exact q4 x hx
            · simp at hx; subst hx; exact hd32
          · rw [List.flatten_append, List.map_append, ← Hxs.out]
            simpa using hown8
        have HNn := Lib.hid hN
        have bm : m + 1 + k ≤ n := by omega
        clear hN hown8 hb8 hk8 hg8 hs8 hs hq
        go_wp2_with fail
        go_roundw
        case rel => exact ⟨o', k, c', i', m + 1, l'.take k, outl ++ [d], A8, c8, rfl, rfl, rfl, hik, b2, hcc, bm, HNn⟩
        case measure => show k < n'; exact b1
      · have dk : decide ((i' : Int) < (k : Int)) = false := decide_eq_false (by omega)
        have bi : (k : Int) ≤ (i' : Int) := by omega
        obtain ⟨i2, hi2⟩ : ∃ i2, i2 = i' - k := ⟨_, rfl⟩
        have ei : (i' : Int) - (k : Int) = (i2 : Int) := by omega
        have hi2n : i2 < n' - k := by omega
        have Hi2 := Lib.hid hi2
        clear hi2
        obtain ⟨d, hd⟩ : ∃ d, d = rootF F (l'.take k) := ⟨_, rfl⟩
        have hd32 : d.length = 32 := by rw [hd]; exact HFl.out _ (fun x hx => hq.out.1.2.1 x (List.mem_of_mem_take hx))
        have hml : (d.map B8).length = 32 := by rw [List.length_map, hd32]
        obtain ⟨xs, hxs⟩ : ∃ xs, xs = outl.flatten.map B8 := ⟨_, rfl⟩
        obtain ⟨-, -, hol, ho32, hown, hbw⟩ := hq.out
        rw [← hxs] at hown
        have HC : Hid (∀ u : World, Below w.heap.size w u ∧ u.ownsRow w.heap.size 26 32 (.slice Av m cv) m xs → Calls Try.prog 38 #[.slice (some ⟨b, o', none⟩) k c'] u fun e w' =>
            e = .returned (.agg (d.map B8).toArray) ∧ Below w.heap.size w w' ∧ w'.ownsRow w.heap.size 26 32 (.slice Av m cv) m xs) := Lib.hid fun u hu => by
          have h := HP.out u (some ⟨b, o', none⟩) k c' (l'.take k) ((hq.out.1.below hu.1).take (by omega)) (by omega)
          rw [← hd] at h
          exact h.mono fun e w' ⟨h1, h2⟩ => ⟨h1, hu.1.trans (h2.mono hu.1.size), ownsRow_below hu.2 h2⟩
        have HS0 := Lib.hid (And.intro hbw hown)
        have HSd : Hid (Below w.heap.size w wr.drew ∧ wr.drew.ownsRow w.heap.size 26 32 (.slice Av m cv) m xs) := Lib.hid ⟨below_drewN hbw 1, hown.drew⟩
        have HSa : Hid (∀ (u : World) (o : Obj), Below w.heap.size w u ∧ u.ownsRow w.heap.size 26 32 (.slice Av m cv) m xs → Below w.heap.size w (u.alloc o) ∧ (u.alloc o).ownsRow w.heap.size 26 32 (.slice Av m cv) m xs) := Lib.hid fun u o h => ⟨h.1.alloc h.1.size _, h.2.alloc _⟩
        have Hd := Lib.hid hd
        have Hxs := Lib.hid hxs
        clear hol ho32 hown hbw hd hxs
        go_wp2_with (go_at_call 36; refine (Hcut.out _).mono ?_; rintro e w' ⟨rfl, rfl⟩)
        go_region_held3 (fun w' => Below w.heap.size w w' ∧ w'.ownsRow w.heap.size 26 32 (.slice Av m cv) m xs)
          (first | exact HSd.out | assumption | exact HSa.out _ _ (by assumption))
          (first
            | (go_at_call 38; refine (HC.out _ (by assumption)).mono ?_; rintro e w1 ⟨rfl, hs⟩)
            | (refine step_append_keep rfl (.tmp 36) (.tmp 41) 42 rfl w (And.left (by assumption)) Try.underlying42 info_sum3 rfl (by decide) (.slice Av m cv) m xs rfl (And.right (by assumption)) (some ⟨w1.heap.size, 0, none⟩) 1 1 (d.map B8) rfl (rc_new w1 _ _ _) (by rw [hml]) (b8_oneCell d) (by unfold maxLen; omega) (by omega) ?_; intro v8 w8 hown8 hb8 hk8 hg8; have hs8 := And.intro hb8 hk8))
        obtain ⟨A8, c8, rfl, -, -, -⟩ := own_formK hown8
        have hN : RS w (some ⟨b, o' + k * 32, none⟩) (n' - k) (l'.drop k) ∧ pathF F ls i = pathF F (l'.drop k) i2 ++ (outl ++ [d]).reverse ∧ (outl ++ [d]).length = m + 1 ∧ (∀ x ∈ outl ++ [d], x.length = 32) ∧ w8.ownsRow w.heap.size 26 32 (.slice A8 (m + 1) c8) (m + 1) ((outl ++ [d]).flatten.map B8) ∧ Below w.heap.size w w8 := by
          obtain ⟨q1, q2, q3, q4, -, -⟩ := hq.out
          have e := pathF_right (F := F) (l := l') (i := i') (by have := Hl'.out; omega) (by rw [← Hk.out]; exact hik)
          rw [← Hk.out, ← Hd.out, ← Hi2.out] at e
          have hcut := q1.cut (k := k) (cap := c') (by omega) hnc'
          rw [if_neg (by omega), Option.map_some, Addr.add_mid] at hcut
          refine ⟨hcut, by rw [q2, e]; simp, by simp [q3], fun x hx => ?_, ?_, hb8⟩
          · rcases List.mem_append.1 hx with hx | hx
            · exact q4 x hx
            · simp at hx; subst hx; exact hd32
          · rw [List.flatten_append, List.map_append, ← Hxs.out]
            simpa using hown8
        have HNn := Lib.hid hN
        have bm : m + 1 + (n' - k) ≤ n := by omega
        have bc : n' - k ≤ c' - k := by omega
        have bc2 : c' - k ≤ c := by omega
        clear hN hown8 hb8 hk8 hg8 hs8 hs hq
        go_wp2_with fail
        go_roundw
        case rel => exact ⟨o' + k * 32, n' - k, c' - k, i2, m + 1, l'.drop k, outl ++ [d], A8, c8, rfl, by rw [IntWalk.i64_in _ ⟨by omega, by omega⟩], rfl, hi2n, bc, bc2, bm, HNn⟩
        case measure => show n' - k < n'; omega
end
end Go.Proofs.Ytkcmacglomdfcaa
